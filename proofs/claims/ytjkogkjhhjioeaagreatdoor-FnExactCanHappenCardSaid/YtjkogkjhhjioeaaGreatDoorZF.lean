import Derived.Test.YtjkogkjhhjioeaaGreatDoorZE
set_option maxHeartbeats 8000000
set_option linter.unusedVariables false
set_option linter.unusedSimpArgs false
section
set_option maxRecDepth 100000
namespace Ai
open Go Go.Proofs
def jJ (k : Int) (n : Nat) : List Int := (List.range n).map fun (j : Nat) => k + (j : Int)
theorem kU (k : Int) (n : Nat) : (jJ k n).length = n := by simp [jJ]
theorem marks_get {k : Int} {n j : Nat} (h : j < n) : (jJ k n)[j]? = some (k + (j : Int)) := by simp [jJ,h]
def vQ (xs : List Int) (k : Int) (n : Nat) : List Int := jJ k n ++ xs.drop n
theorem pE {xs : List Int} {k : Int} {n : Nat} (h : n < xs.length) : (vQ xs k n).set n (k + (n : Int)) = vQ xs k (n + 1) := by
 unfold vQ
 rw [List.drop_eq_getElem_cons h,List.set_append_right _ _ (by rw [kU]; omega),kU,Nat.sub_self,List.set_cons_zero]
 unfold jJ
 rw [List.range_succ,List.map_append]
 simp
theorem sP (xs : List Int) (k : Int) : vQ xs k xs.length = jJ k xs.length := by simp [vQ]
theorem d9 (κ : Key) (hκ : κ = .n 77 ∨ κ = .l 77) (xs : List Int) (k : Int) (hx : xs.length ≤ 1048576) (h0 : 0 ≤ k) (h1 : k ≤ 1073741824) (H0 : Key → Option Ob) (hH : H0 κ = some (.ds 3 1 (xs.map encInt))) :
  IOCall EE 23 [.ref κ 0 xs.length,i64 k] H0 (fun r H1 => r = i64 (k + xs.length) ∧ H1 κ = some (.ds 3 1 ((jJ k xs.length).map encInt)) ∧ ∀ κ',isK κ κ' = false → H1 κ' = none) := by
 rcases hκ with rfl | rfl
 ·refine io_of_AW (fn := Tryz.f23) (c := Tryz.f23.body.getD .skip) Tryz.func23 rfl (by kernel_rfl) rfl ?_
  have hat : At [(0,.ref (.n 77) 0 xs.length),(1,i64 k)] [(.n 77,.ds 3 1 (xs.map encInt))] [] ⟨fun i => [AV.ref (.n 77) 0 xs.length,i64 k].getD i .junk,H0⟩ := ⟨⟨rfl,rfl,trivial⟩,⟨hH,trivial⟩,trivial⟩
  obtain ⟨τ,H,hf⟩ := hat.form
  rw [hf]
  conv => whnf
  refine yR (fun n : Nat => [(0,.ref (.n 77) 0 xs.length),(1,i64 (k + (n : Int))),(5,i64 n)]) (fun n => [(.n 77,.ds 3 1 ((vQ xs k n).map encInt))]) (fun n => xs.length - n) (fun n => n ≤ xs.length) 0
   Weak.refl ⟨rfl,?_,rfl,trivial⟩ ⟨?_,trivial⟩ (Nat.zero_le _) ?_
  ·show i64 k = i64 (k + ((0 : Nat) : Int))
   rw [show k + ((0 : Nat) : Int) = k by omega]
  ·show some (Ob.ds 3 1 (xs.map encInt)) = some (Ob.ds 3 1 ((vQ xs k 0).map encInt))
   simp [vQ,jJ]
  intro n τ H hn
  have hn : n ≤ xs.length := hn
  conv => whnf
  refine kbi (fun h => ?_) (fun h => ?_)
  ·have hlt : n < xs.length := by simpa using h
   conv => whnf
   refine ⟨⟨by omega,by omega⟩,?_⟩
   conv => whnf
   refine ⟨n + 1,by show n + 1 ≤ xs.length; omega,by show xs.length - (n + 1) < xs.length - n; omega,⟨rfl,?_,?_,trivial⟩,⟨?_,trivial⟩⟩
   ·show AV.d (.int .i64 (IntKind.i64.wrap ((k + (n : Int)) + 1))) = i64 (k + ((n + 1 : Nat) : Int))
    rw [zE (by omega) (by omega)]
    exact congrArg i64 (by omega)
   ·show AV.d (.int .i64 (IntKind.i64.wrap ((n : Int) + 1))) = i64 ((n + 1 : Nat) : Int)
    rw [zE (by omega) (by omega)]
    rfl
   ·show some (Ob.ds 3 1 (wJ ((vQ xs k n).map encInt) 1 (0 + (n : Int).toNat) 0 [di (k + (n : Int))])) = _
    rw [aK,pE hlt]
  ·have hkk : n = xs.length := by
    have : ¬ n < xs.length := by simpa using h
    omega
   subst hkk
   conv => whnf
   refine ⟨_,Weak.refl,?_⟩
   conv => whnf
   refine ⟨isK (.n 77),rfl,?_,fun κ hκ => ?_⟩
   ·show some (Ob.ds 3 1 ((vQ xs k xs.length).map encInt)) = _
    rw [sP]
   ·unfold yI
    rw [hκ]; rfl
 ·refine io_of_AW (fn := Tryz.f23) (c := Tryz.f23.body.getD .skip) Tryz.func23 rfl (by kernel_rfl) rfl ?_
  have hat : At [(0,.ref (.l 77) 0 xs.length),(1,i64 k)] [(.l 77,.ds 3 1 (xs.map encInt))] [] ⟨fun i => [AV.ref (.l 77) 0 xs.length,i64 k].getD i .junk,H0⟩ := ⟨⟨rfl,rfl,trivial⟩,⟨hH,trivial⟩,trivial⟩
  obtain ⟨τ,H,hf⟩ := hat.form
  rw [hf]
  conv => whnf
  refine yR (fun n : Nat => [(0,.ref (.l 77) 0 xs.length),(1,i64 (k + (n : Int))),(5,i64 n)]) (fun n => [(.l 77,.ds 3 1 ((vQ xs k n).map encInt))]) (fun n => xs.length - n) (fun n => n ≤ xs.length) 0
   Weak.refl ⟨rfl,?_,rfl,trivial⟩ ⟨?_,trivial⟩ (Nat.zero_le _) ?_
  ·show i64 k = i64 (k + ((0 : Nat) : Int))
   rw [show k + ((0 : Nat) : Int) = k by omega]
  ·show some (Ob.ds 3 1 (xs.map encInt)) = some (Ob.ds 3 1 ((vQ xs k 0).map encInt))
   simp [vQ,jJ]
  intro n τ H hn
  have hn : n ≤ xs.length := hn
  conv => whnf
  refine kbi (fun h => ?_) (fun h => ?_)
  ·have hlt : n < xs.length := by simpa using h
   conv => whnf
   refine ⟨⟨by omega,by omega⟩,?_⟩
   conv => whnf
   refine ⟨n + 1,by show n + 1 ≤ xs.length; omega,by show xs.length - (n + 1) < xs.length - n; omega,⟨rfl,?_,?_,trivial⟩,⟨?_,trivial⟩⟩
   ·show AV.d (.int .i64 (IntKind.i64.wrap ((k + (n : Int)) + 1))) = i64 (k + ((n + 1 : Nat) : Int))
    rw [zE (by omega) (by omega)]
    exact congrArg i64 (by omega)
   ·show AV.d (.int .i64 (IntKind.i64.wrap ((n : Int) + 1))) = i64 ((n + 1 : Nat) : Int)
    rw [zE (by omega) (by omega)]
    rfl
   ·show some (Ob.ds 3 1 (wJ ((vQ xs k n).map encInt) 1 (0 + (n : Int).toNat) 0 [di (k + (n : Int))])) = _
    rw [aK,pE hlt]
  ·have hkk : n = xs.length := by
    have : ¬ n < xs.length := by simpa using h
    omega
   subst hkk
   conv => whnf
   refine ⟨_,Weak.refl,?_⟩
   conv => whnf
   refine ⟨isK (.l 77),rfl,?_,fun κ hκ => ?_⟩
   ·show some (Ob.ds 3 1 ((vQ xs k xs.length).map encInt)) = _
    rw [sP]
   ·unfold yI
    rw [hκ]; rfl
theorem n5 (k : Int) (n : Nat) (hx : n ≤ 1048576) (h0 : 0 ≤ k) (h1 : k ≤ 1073741824) : CallsTo EE 24 [sl ((jJ k n).map encInt),i64 k] (· = i64 (k + n)) := by
 have hml := kU k n
 refine callsTo_of_AW (fn := Tryz.f24) Tryz.func24 rfl (by kernel_rfl) rfl ?_
 conv => whnf
 refine yR (fun j : Nat => [(0,sl ((jJ k n).map encInt)),(1,i64 (k + (j : Int))),(5,i64 j)]) (fun j => []) (fun j => n - j) (fun j => j ≤ n) 0
  Weak.refl ⟨rfl,?_,rfl,trivial⟩ trivial (Nat.zero_le _) ?_
 ·show i64 k = i64 (k + ((0 : Nat) : Int))
  rw [show k + ((0 : Nat) : Int) = k by omega]
 intro j τ H hj
 have hj : j ≤ n := hj
 conv => whnf
 refine kbi (fun h => ?_) (fun h => ?_)
 ·have hlt := xM h
  rw [hml] at hlt
  conv => whnf
  refine ⟨encInt (k + (j : Int)),⟨by omega,?_,rfl⟩,?_⟩
  ·rw [List.getElem?_map,Int.toNat_natCast,marks_get hlt]; rfl
  conv => whnf
  refine kbi (fun h => absurd h (by simp)) (fun _ => ?_)
  conv => whnf
  refine ⟨j + 1,by show j + 1 ≤ n; omega,by show n - (j + 1) < n - j; omega,⟨rfl,?_,?_,trivial⟩,trivial⟩
  ·show AV.d (.int .i64 (IntKind.i64.wrap ((k + (j : Int)) + 1))) = i64 (k + ((j + 1 : Nat) : Int))
   rw [zE (by omega) (by omega)]
   exact congrArg i64 (by omega)
  ·show AV.d (.int .i64 (IntKind.i64.wrap ((j : Int) + 1))) = i64 ((j + 1 : Nat) : Int)
   rw [zE (by omega) (by omega)]
   rfl
 ·have hkk : j = n := by
   have : ¬ j < n := by simpa [hml] using h
   omega
  subst hkk
  conv => whnf
  try rfl
end Ai
end
section
set_option maxRecDepth 100000
namespace Ai
open Go Go.Proofs
theorem bM (els : List (List D)) (sz k off : Nat) (xs : List D) : (wJ els sz k off xs).length = els.length := by
 unfold wJ
 cases Nat.beq off 0 && Nat.beq xs.length sz <;> simp
theorem rW {x : D} : ∀ (c : List D) (off : Nat),off < c.length → (zU c off [x]).length = c.length
 | [],off,h => by simp at h
 |c :: cs,0,h => by simp [zU]
 |c :: cs,off + 1,h => by
  have := rW (x := x) cs off (by simpa using h)
  simp [zU,this]
theorem rG {els : List (List D)} {k off : Nat} {x : D} (h : ∀ c ∈ els,c.length = 4) (ho : off < 4) : ∀ c ∈ wJ els 4 k off [x],c.length = 4 := by
 intro c hc
 unfold wJ at hc
 rw [show Nat.beq ([x] : List D).length 4 = false from rfl,Bool.and_false] at hc
 obtain ⟨i,hi,rfl⟩ := List.mem_iff_getElem.1 hc
 have hil : i < els.length := by simpa using hi
 have h4 := h _ (List.getElem_mem hil)
 simp only [cond_false,List.getElem_modify]
 split
 ·rw [rW _ _ (by omega)]; exact h4
 ·exact h4
theorem markOpS_ok (els : List (List D)) (k : Int) (n : Nat) (hn : n = els.length) (hx : n ≤ 1048576) (h4 : ∀ c ∈ els,c.length = 4) (h0 : 0 ≤ k) (h1 : k ≤ 1073741824) (H0 : Key → Option Ob) (hH : H0 (.n 50) = some (.ds 107 4 els)) :
  IOCall EE 85 [.ref (.n 50) 0 n,i64 k] H0 (fun r H1 => r = i64 (k + 4 * n) ∧ ∀ κ,H1 κ = none) := by
 refine io_of_AW (fn := Tryz.f85) (c := Tryz.f85.body.getD .skip) Tryz.func85 rfl (by kernel_rfl) rfl ?_
 have hat : At [(0,.ref (.n 50) 0 n),(1,i64 k)] [(.n 50,.ds 107 4 els)] [] ⟨fun i => [AV.ref (.n 50) 0 n,i64 k].getD i .junk,H0⟩ := ⟨⟨rfl,rfl,trivial⟩,⟨hH,trivial⟩,trivial⟩
 obtain ⟨τ,H,hf⟩ := hat.form
 rw [hf]
 conv => whnf
 refine yR (fun x : Nat × List (List D) => [(0,.ref (.n 50) 0 n),(1,i64 (k + 4 * (x.1 : Int))),(5,i64 x.1)]) (fun x => [(.n 50,.ds 107 4 x.2)]) (fun x => n - x.1) (fun x => x.1 ≤ n ∧ x.2.length = n ∧ ∀ c ∈ x.2,c.length = 4) (0,els)
  Weak.refl ⟨rfl,?_,rfl,trivial⟩ ⟨rfl,trivial⟩ ⟨Nat.zero_le _,hn.symm,h4⟩ ?_
 ·show i64 k = i64 (k + 4 * ((0 : Nat) : Int))
  rw [show k + 4 * ((0 : Nat) : Int) = k by omega]
 rintro ⟨i,E⟩ τ H ⟨hi,hE,hE4⟩
 have hi : i ≤ n := hi
 have hE : E.length = n := hE
 have hE4 : ∀ c ∈ E,c.length = 4 := hE4
 conv => whnf
 refine kbi (fun h => ?_) (fun h => ?_)
 ·have hlt : i < n := by simpa using h
  conv => whnf
  refine ⟨⟨by show 0 ≤ (i : Int); omega,by show (i : Int) < n; omega⟩,?_⟩
  conv => whnf
  refine ⟨⟨by show 0 ≤ (i : Int); omega,by show (i : Int) < n; omega⟩,?_⟩
  conv => whnf
  refine ⟨⟨by show 0 ≤ (i : Int); omega,by show (i : Int) < n; omega⟩,?_⟩
  conv => whnf
  refine ⟨⟨by show 0 ≤ (i : Int); omega,by show (i : Int) < n; omega⟩,?_⟩
  conv => whnf
  refine ⟨(i + 1,wJ (wJ (wJ (wJ E 4 (0 + (i : Int).toNat) (0 + 0) [.int .i64 (k + 4 * (i : Int))]) 4 (0 + (i : Int).toNat) (0 + 1) [.int .i64 (IntKind.i64.wrap (k + 4 * (i : Int) + 1))]) 4 (0 + (i : Int).toNat) (0 + 2) [.int .i64 (IntKind.i64.wrap (IntKind.i64.wrap (k + 4 * (i : Int) + 1) + 1))]) 4 (0 + (i : Int).toNat) (0 + 3) [.flt (FloatKind.f64.nearest (IntKind.i64.wrap (IntKind.i64.wrap (IntKind.i64.wrap (k + 4 * (i : Int) + 1) + 1) + 1)))]),⟨by show i + 1 ≤ n; omega,?_,?_⟩,by show n - (i + 1) < n - i; omega,⟨rfl,?_,?_,trivial⟩,⟨rfl,trivial⟩⟩
  ·dsimp only
   rw [bM,bM,bM,bM,hE]
  ·dsimp only
   refine rG (rG (rG (rG hE4 ?_) ?_) ?_) ?_ <;> omega
  ·show AV.d (.int .i64 (IntKind.i64.wrap (IntKind.i64.wrap (IntKind.i64.wrap (IntKind.i64.wrap ((k + 4 * (i : Int)) + 1) + 1) + 1) + 1))) = i64 (k + 4 * ((i + 1 : Nat) : Int))
   rw [zE (n := k + 4 * (i : Int) + 1) (by omega) (by omega),zE (n := k + 4 * (i : Int) + 1 + 1) (by omega) (by omega),zE (n := k + 4 * (i : Int) + 1 + 1 + 1) (by omega) (by omega),zE (n := k + 4 * (i : Int) + 1 + 1 + 1 + 1) (by omega) (by omega)]
   exact congrArg i64 (by omega)
  ·show AV.d (.int .i64 (IntKind.i64.wrap ((i : Int) + 1))) = i64 ((i + 1 : Nat) : Int)
   rw [zE (by omega) (by omega)]
   rfl
 ·conv => whnf
  have hkk : i = n := by
   have : ¬ i < n := by simpa using h
   omega
  subst hkk
  refine ⟨_,Weak.refl,?_⟩
  conv => whnf
  exact ⟨fun _ => false,rfl,fun κ => rfl⟩
end Ai
end
section
set_option maxRecDepth 100000
namespace Ai
open Go Go.Proofs
theorem io_congr {g : FuncId} {xs ys : List AV} {H0 : Key → Option Ob} {Post : AV → (Key → Option Ob) → Prop} (h : IOCall EE g xs H0 Post) (e : ys = xs) : IOCall EE g ys H0 Post := by rw [e]; exact h
def pZ (subs : List (List (List D))) (i j : Nat) : List AV := if j < i then [.junk] else [.ref (.s 903 j) 0 (subs.getD j []).length]
def wI (subs : List (List (List D))) (i : Nat) : List (List AV) := (List.range subs.length).map (pZ subs i)
def uW (subs : List (List (List D))) (i j : Nat) : Option Ob := if j < i then none else (subs[j]?).map (.ds 107 4)
theorem aN {subs : List (List (List D))} {i j : Nat} (h : j < subs.length) : (wI subs i)[j]? = some (pZ subs i j) := by simp [wI,h]
theorem mS {subs : List (List (List D))} {i i' : Nat} (f : List AV → List AV) (h : ∀ j,f (pZ subs i j) = pZ subs i' j) : (wI subs i).map f = wI subs i' := by
 unfold wI
 rw [List.map_map]
 exact List.map_congr_left fun j _ => h j
theorem jP (f : Key → Key) (subs : List (List (List D))) (i j : Nat) : (uW subs i j).map (renO f) = uW subs i j := by
 unfold uW
 split
 ·rfl
 ·cases subs[j]? <;> rfl
theorem jO (p : Key → Bool) (subs : List (List (List D))) (i j : Nat) : (uW subs i j).map (scrPO p) = uW subs i j := by
 unfold uW
 split
 ·rfl
 ·cases subs[j]? <;> rfl
def tot (subs : List (List (List D))) (i : Nat) : Nat := ((subs.take i).map List.length).sum
theorem tot_succ {subs : List (List (List D))} {i : Nat} (h : i < subs.length) : tot subs (i + 1) = tot subs i + subs[i].length := by
 unfold tot
 rw [List.take_succ_eq_append_getElem h,List.map_append,List.sum_append]
 simp
theorem tot_le (subs : List (List (List D))) (i : Nat) : tot subs i ≤ tot subs subs.length := by
 unfold tot
 rw [List.take_length]
 have : ∀ (l : List Nat) (i : Nat),(l.take i).sum ≤ l.sum := by
  intro l
  induction l with
  |nil => simp
  |cons x xs ih =>
   intro i
   cases i with
   |zero => simp
   |succ i => simp only [List.take_succ_cons,List.sum_cons]; have := ih i; omega
 rw [List.map_take]
 exact this _ i
theorem d8 (subs : List (List (List D))) (k : Int) (hx : subs.length ≤ 1048576) (hs : ∀ q ∈ subs,∀ c ∈ q,c.length = 4) (ht : tot subs subs.length ≤ 1048576) (h0 : 0 ≤ k) (h1 : k ≤ 1048576) (H0 : Key → Option Ob)
  (hH : H0 (.n 903) = some (.rs 104 1 (wI subs 0))) (hF : ∀ j,H0 (.s 903 j) = uW subs 0 j) :
  IOCall EE 51 [.dref (.n 903) subs.length,i64 k] H0 (fun r H1 => r = i64 (k + 4 * tot subs subs.length) ∧ ∀ κ,H1 κ = none) := by
 refine io_of_AW (fn := Tryz.f51) (c := Tryz.f51.body.getD .skip) Tryz.func51 rfl (by kernel_rfl) rfl ?_
 have hat : At [(0,.dref (.n 903) subs.length),(1,i64 k)] [(.n 903,.rs 104 1 (wI subs 0))] [(903,uW subs 0)] ⟨fun i => [AV.dref (.n 903) subs.length,i64 k].getD i .junk,H0⟩ := ⟨⟨rfl,rfl,trivial⟩,⟨hH,trivial⟩,⟨hF,trivial⟩⟩
 obtain ⟨τ,H,hf⟩ := hat.form
 rw [hf]
 conv => whnf
 refine aloopF (fun i : Nat => [(0,.dref (.n 903) subs.length),(1,i64 (k + 4 * (tot subs i : Int))),(5,i64 i)]) (fun i => [(.n 903,.rs 104 1 (wI subs i))]) (fun i => [(903,uW subs i)]) (fun i => subs.length - i) (fun i => i ≤ subs.length) 0
  Weak.refl ⟨rfl,?_,rfl,trivial⟩ ⟨rfl,trivial⟩ ⟨fun j => ?_,trivial⟩ (Nat.zero_le _) ?_
 ·show i64 k = i64 (k + 4 * ((tot subs 0 : Nat) : Int))
  rw [show k + 4 * ((tot subs 0 : Nat) : Int) = k by simp [tot]]
 ·rfl
 intro i τ H hi
 have hi : i ≤ subs.length := hi
 have hti := tot_le subs i
 conv => whnf
 refine kbi (fun h => ?_) (fun h => ?_)
 ·have hlt : i < subs.length := by simpa using h
  conv => whnf
  refine ⟨⟨by omega,by omega⟩,?_⟩
  conv => whnf
  have hgi : subs.getD i [] = subs[i] := by simp [List.getD_eq_getElem?_getD,hlt]
  have hrow : pZ subs i i = [.ref (.s 903 i) 0 subs[i].length] := by unfold pZ; rw [if_neg (by omega),hgi]
  have hfi : uW subs i i = some (.ds 107 4 subs[i]) := by unfold uW; rw [if_neg (by omega),List.getElem?_eq_getElem hlt]; rfl
  refine ⟨[.ref (.s 903 i) 0 subs[i].length],⟨?_,Nat.le_refl _⟩,?_⟩
  ·rw [Int.toNat_natCast,aN hlt,hrow]
  conv => whnf
  have hsw : swp (.n 50) (.s 903 i) (.s 903 i) = .n 50 := by simp [swp,Key.beq]
  have hts := tot_succ hlt
  have hti2 := tot_le subs (i + 1)
  split
  case' h_1 => conv => whnf
  case' h_1 => refine .inr (.inr (.inr (.inl ?_)))
  case' h_2 => refine .inr (.inr (.inl ?_))
  all_goals
   refine ⟨_,85,[],jD 50 903 i,rfl,999,0,isK (.n 50),(fun r H1 => r = i64 ((k + 4 * (tot subs i : Int)) + 4 * (subs[i].length : Nat)) ∧ ∀ κ,H1 κ = none),?_,rfl,?_⟩
   ·refine io_congr (markOpS_ok subs[i] (k + 4 * (tot subs i : Int)) subs[i].length rfl (by omega) (hs _ (List.getElem_mem hlt)) (by omega) (by omega) _ ?_) ?_
    ·show Option.map _ (Option.map _ (Option.map _ (uW subs i i))) = _
     rw [hfi]
     rfl
    ·show [scrP _ (.ref (swp (.n 999) (.l 0) (swp (.n 50) (.s 903 i) (.s 903 i))) 0 subs[i].length),_] = _
     rw [hsw]
     rfl
   ·rintro r H1 ⟨rfl,q⟩
    refine ⟨fun κ _ => q κ,fun n hn => (by cases hn),?_⟩
    conv => whnf
    have hne : ∀ j,j ≠ i → swp (.n 50) (.s 903 i) (.s 903 j) = .s 903 j := fun j hj => by simp [swp,Key.beq,nbeq_ne hj]
    refine ⟨i + 1,_,jD 50 903 i,by show i + 1 ≤ subs.length; omega,by show subs.length - (i + 1) < subs.length - i; omega,⟨rfl,?_,?_,trivial⟩,⟨?_,trivial⟩,⟨fun j => ?_,trivial⟩⟩
    ·show i64 (k + 4 * ((tot subs i : Nat) : Int) + 4 * ((subs[i].length : Nat) : Int)) = i64 (k + 4 * ((tot subs (i + 1) : Nat) : Int))
     rw [hts]
     exact congrArg i64 (by omega)
    ·show AV.d (.int .i64 (IntKind.i64.wrap ((i : Int) + 1))) = i64 ((i + 1 : Nat) : Int)
     rw [zE (by omega) (by omega)]
     rfl
    ·show some (Ob.rs 104 1 ((((((wI subs i).map (renL (swp (.n 50) (.s 903 i)))).map (renL (swp (.n 999) (.l 0)))).map (scrPL (qJ (isK (.n 50))))).map (renL (swp (.n 999) (.l 0)))).map (renL (swp (.n 50) (.s 903 i))))) = _
     rw [List.map_map,List.map_map,List.map_map,List.map_map]
     refine congrArg (fun x => some (Ob.rs 104 1 x)) (mS _ fun j => ?_)
     by_cases hj : j = i
     ·subst hj
      rw [hrow]
      unfold pZ
      rw [if_pos (by omega)]
      show renL _ (renL _ (scrPL _ (renL _ [AV.ref (swp (.n 50) (.s 903 j) (.s 903 j)) 0 _]))) = _
      rw [hsw]
      rfl
     ·unfold pZ
      by_cases hji : j < i
      ·rw [if_pos hji,if_pos (by omega)]
       rfl
      ·rw [if_neg hji,if_neg (by omega)]
       show renL _ (renL _ (scrPL _ (renL _ [AV.ref (swp (.n 50) (.s 903 i) (.s 903 j)) 0 _]))) = _
       rw [hne j hj]
       show [AV.ref (swp (.n 50) (.s 903 i) (.s 903 j)) 0 _] = _
       rw [hne j hj]
    ·show (St.H _ (swp (.n 50) (.s 903 i) (.s 903 j))).map _ = _
     by_cases hj : j = i
     ·subst hj
      rw [hsw]
      show Option.map _ (Option.map _ (H1 (.n 50))) = _
      rw [q]
      unfold uW
      rw [if_pos (by omega)]
      rfl
     ·rw [hne j hj]
      show Option.map _ (Option.map _ (Option.map _ (Option.map _ (Option.map _ (St.H _ (swp (.n 50) (.s 903 i) (.s 903 j))))))) = _
      rw [hne j hj]
      show Option.map _ (Option.map _ (Option.map _ (Option.map _ (Option.map _ (uW subs i j))))) = _
      rw [jP,jP,jO,jP,jP]
      unfold uW
      by_cases hji : j < i
      ·rw [if_pos hji,if_pos (by omega)]
      ·rw [if_neg hji,if_neg (by omega)]
 ·conv => whnf
  have hkk : i = subs.length := by
   have : ¬ i < subs.length := by simpa using h
   omega
  subst hkk
  refine ⟨_,Weak.refl,?_⟩
  conv => whnf
  exact ⟨fun _ => false,rfl,fun κ => rfl⟩
end Ai
end
section
set_option maxRecDepth 100000
namespace Ai
open Go Go.Proofs Cyc
def keepS (p : ProgL) (s : StL) (u : Nat) (e : Ev) : Prop := ¬ hangE (stepL p s u).2 e
theorem args3 {T T' K K' O O' : List (List D)} {x : AV} {a b c d : D} (h1 : T = T') (h2 : K = K') (h3 : O = O') : [x,AV.agg [i64 0,sl T,sl K,.d a,.d b,.d c,.d d],sl O] = [x,AV.agg [i64 0,sl T',sl K',.d a,.d b,.d c,.d d],sl O'] := by rw [h1,h2,h3]
noncomputable def wkO (p : ProgL) (b : Int) (sl : Bool) (xs : List RunT) (many : Bool) : List (Key × Ob) := [(.l 0,.vs 92 (wkC p b sl xs.length many)),(.n 901,.ds 25 1 (xs.map rowPk)),(.n 902,.ds 72 1 (xs.map rowTr)),(.n 903,.ds 9 1 (xs.map (rowSg p)))]
noncomputable def wkO2 (p : ProgL) (b : Int) (sl : Bool) (r : RunT) (X : XS) : List (Key × Ob) := [(.l 0,.vs 92 (wkC p b sl X.acc.length (!X.ok))),(.n 901,.ds 25 1 (X.acc.map rowPk)),(.n 902,.ds 72 1 (X.acc.map rowTr)),(.n 903,.ds 9 1 (X.acc.map (rowSg p))),(.n 4,.vs 78 ((encRun 0 r.tr r.tk r.s).map .d)),(.n 61,.ds 3 1 (X.tried.map encN))]
noncomputable def wkO3 (p : ProgL) (b : Int) (sl : Bool) (r : RunT) (X : XS) (st : StL × Ev) (on L : List Nat) : List (Key × Ob) := [(.l 0,.vs 92 (wkC p b sl X.acc.length (!X.ok))),(.n 901,.ds 25 1 (X.acc.map rowPk)),(.n 902,.ds 72 1 (X.acc.map rowTr)),(.n 903,.ds 9 1 (X.acc.map (rowSg p))),(.n 4,.vs 78 ((encRun 0 r.tr r.tk r.s).map .d)),(.n 61,.ds 3 1 (X.tried.map encN)),
 (.n 9,.vs 76 ((encSt st.1).map .d)),(.n 10,.vs 120 ((encEv st.2).map .d)),(.n 62,.ds 3 1 (on.map encN)),(.n 127,.ds 3 1 (L.map encN))]
theorem go1_ok (p : ProgL) (hp : p.wf) (hg : p.goodS) (hv : p.flt) (b : Int) (hb : InR b 0 1000) (slp : Bool) : ∀ (n : Nat) (r : RunT) (c0 : Int) (sleep : List Nat) (xs : List RunT), XR p b r → b.toNat + 1 - r.tr.length = n → xs.length ≤ 400 → sleep.length ≤ 5 * r.tr.length → (∀ u ∈ sleep, u < r.s.ths.length) →
    ∀ H0, AtW p b slp xs false H0 → IOCall EE 109 [.ptr (.l 0) 0, agg (encRun c0 r.tr r.tk r.s), sl (sleep.map encN)] H0 (fun q H1 => q = .tup [] ∧ H1 = wkH p b slp (xgo p b slp (keepS p) n r sleep xs).1 (!(xgo p b slp (keepS p) n r sleep xs).2))
  | 0, r, c0, sleep, xs, hr, hn, hx, hs, hu, H0, hH => by
    have := hr.le
    omega
  | n + 1, r, c0, sleep, xs, hr, hn, hx, hs, hu, H0, hH => by
    have hok := runOK hg
    have hsm := hok.small r.s hr.inv.si
    have hcode : CallsTo EE 92 [agg (encProg p), agg (encSt r.s), i64 ((r.tr.map encEv).length : Nat), i64 b] (· = i64 (codeL p r.s r.tr.length b)) := by
      rw [List.length_map]; exact l4Code_ok toIndexS idxRange p r.s r.tr.length b hp hsm.1 (hok.seen r.s hr.inv.si)
    have hen := l3Enabled_ok toIndexS idxRange p r.s hp hsm.1 (hok.seen r.s hr.inv.si)
    have hle := hr.le
    have hlen := hr.len
    have hb2 := hb.2
    rw [xgo]
    refine io_of_AW (fn := Tryz.f109) (c := Tryz.f109.body.getD .skip) Tryz.func109 rfl (by kernel_rfl) rfl ?_
    have hat : At [(0, .ptr (.l 0) 0), (1, agg (encRun c0 r.tr r.tk r.s)), (2, sl (sleep.map encN))] (wkO p b slp xs false) [] ⟨fun i => [AV.ptr (.l 0) 0, agg (encRun c0 r.tr r.tk r.s), sl (sleep.map encN)].getD i .junk, H0⟩ :=
      ⟨⟨rfl, rfl, rfl, trivial⟩, ⟨hH.1, hH.2.1, hH.2.2.1, hH.2.2.2, trivial⟩, trivial⟩
    obtain ⟨τ, H, hf⟩ := hat.form
    rw [hf]
    clear hat hf hH
    conv => whnf
    refine .inr (.inl ⟨14, [], ?_⟩)
    conv => whnf
    refine ⟨_, hcode, ?_⟩
    conv => whnf
    refine ⟨by kernel_rfl, ?_⟩
    conv => whnf
    refine kbi (fun hc => ?_) (fun hc => ?_)
    · have hc : 0 < codeL p r.s r.tr.length b := by simpa using hc
      rw [if_pos hc]
      have hX := hr.leaf hc
      have hsg := l4Sign_ok p hp hg hv b _ hX.fin (by omega)
      have hown : CallsTo EE 83 [sl (r.tk.map encInt)] (· = .uq 3 1 (r.tk.map encInt)) := l1Own_ok r.tk (by omega)
      conv => whnf
      refine .inr (.inr (.inr ⟨[0], by kernel_rfl, 9, [], ?_⟩))
      conv => whnf
      refine ⟨_, hown, ?_⟩
      refine .inl ?_
      conv => whnf
      refine ⟨by kernel_rfl, ?_⟩
      conv => whnf
      refine ⟨⟨rfl, by show (xs.length + 1) * 24 ≤ _; omega, by show xs.length + 1 ≤ _; omega⟩, ?_⟩
      conv => whnf
      refine .inr (.inr (.inr ⟨[0], by kernel_rfl, 10, [], ?_⟩))
      conv => whnf
      refine ⟨⟨by simp [encEv], by simp; omega, by simp; omega⟩, ?_⟩
      conv => whnf
      refine ⟨by kernel_rfl, ?_⟩
      conv => whnf
      refine ⟨_, (weak_frz (isK (.n 49))).trans (weak_cvt (.n 53) (e := 72) (sz := 1) (els := [[.sl (r.tr.map encEv)]]) ?_), ?_⟩
      · show some (Ob.rs 72 1 [[AV.d (.sl (((([] : List (List D)).take 0 ++ r.tr.map encEv).drop 0).take (0 + (r.tr.map encEv).length)))]]) = _
        simp [List.take_of_length_le]
      conv => whnf
      refine ⟨⟨rfl, by show (xs.length + 1) * 24 ≤ _; omega, by show xs.length + 1 ≤ _; omega⟩, ?_⟩
      conv => whnf
      refine .inr (.inr (.inr ⟨[0], by kernel_rfl, 12, [], ?_⟩))
      conv => whnf
      refine ⟨_, hsg, ?_⟩
      conv => whnf
      refine ⟨by kernel_rfl, ?_⟩
      conv => whnf
      refine ⟨⟨rfl, by show (xs.length + 1) * 16 ≤ _; omega, by show xs.length + 1 ≤ _; omega⟩, ?_⟩
      conv => whnf
      have fin : ∀ (S : Key → Option Ob) (w : Bool), w = !decide (xs.length + 1 ≤ 400) → S (.l 0) = some (.vs 92 (wkC p b slp (xs.length + 1) w)) → S (.n 901) = some (.ds 25 1 ((xs.map rowPk).take xs.length ++ [[.sl (r.tk.map encInt)]])) →
          S (.n 902) = some (.ds 72 1 ((xs.map rowTr).take xs.length ++ [[.sl (r.tr.map encEv)]])) → S (.n 903) = some (.ds 9 1 ((xs.map (rowSg p)).take xs.length ++ [rowSg p (leaf p b (codeL p r.s r.tr.length b) r)])) → AtW p b slp (xs ++ [leaf p b (codeL p r.s r.tr.length b) r]) (!decide (xs.length + 1 ≤ 400)) S := by
        intro S w hw h0 h1 h2 h3
        rw [List.take_of_length_le (by simp)] at h1 h2 h3
        refine ⟨by rw [h0, List.length_append, hw]; rfl, by rw [h1, List.map_append]; rfl, by rw [h2, List.map_append]; rfl, by rw [h3, List.map_append]; rfl⟩
      refine kbi (fun h4 => ?_) (fun h4 => ?_)
      · have h4 : ((xs.length + 1 : Nat) : Int) > 400 := of_decide_eq_true h4
        conv => whnf
        refine ⟨_, Weak.refl, ?_⟩
        conv => whnf
        refine ⟨lendW, rfl, lend_wk (fin _ true (by rw [decide_eq_false (by omega)]; rfl) rfl rfl rfl rfl)⟩
      · have h4 : ¬ ((xs.length + 1 : Nat) : Int) > 400 := fun e => h4 (decide_eq_true e)
        conv => whnf
        refine ⟨_, Weak.refl, ?_⟩
        conv => whnf
        refine ⟨lendW, rfl, lend_wk (fin _ false (by rw [decide_eq_true (by omega)]; rfl) rfl rfl rfl rfl)⟩
    · have hc : ¬ 0 < codeL p r.s r.tr.length b := by simpa using hc
      rw [if_neg hc]
      have h5 : (enabledL p r.s).length ≤ 5 := Nat.le_trans (enabledTo_le) hr.inv.si.len
      have hcc : codeL p r.s r.tr.length b = 0 := by have := codeL_nn p r.s r.tr.length b; omega
      have hlb := (en_ne hc).2
      conv => whnf
      refine .inr (.inl ⟨9, [], ?_⟩)
      conv => whnf
      refine ⟨_, hen, ?_⟩
      refine .inl ?_
      conv => whnf
      refine ⟨by kernel_rfl, ?_⟩
      conv => whnf
      refine aloopF (fun x : Nat × XS => [(0, .ptr (.l 0) 0), (2, sl (sleep.map encN)), (4, .ptr (.n 4) 0), (6, .ref (.n 61) 0 x.2.tried.length), (93, sl ((enabledL p r.s).map encN)), (94, i64 ((enabledL p r.s).map encN).length), (95, i64 x.1)])
        (fun x => wkO2 p b slp r x.2)
        (fun _ => []) (fun x => (enabledL p r.s).length - x.1) (fun x => x.1 ≤ (enabledL p r.s).length ∧ xloop p slp (keepS p) (xgo p b slp (keepS p) n) r sleep xs x.1 = x.2) (0, ⟨xs, [], true⟩) (weak_nil 6 (.n 61) 3 1 rfl) ⟨rfl, rfl, rfl, rfl, rfl, rfl, rfl, trivial⟩ ⟨rfl, rfl, rfl, rfl, ?_, rfl, trivial⟩ trivial ⟨Nat.zero_le _, rfl⟩ ?_
      · show some (Ob.vs 78 [i64 (codeL p r.s r.tr.length b), _, _, _, _, _, _]) = some (Ob.vs 78 [i64 0, _, _, _, _, _, _])
        rw [hcc]; rfl
      rintro ⟨k, ⟨acc, tried, okk⟩⟩ τ H ⟨hk, hXe⟩
      have hk : k ≤ (enabledL p r.s).length := hk
      have hXe : xloop p slp (keepS p) (xgo p b slp (keepS p) n) r sleep xs k = ⟨acc, tried, okk⟩ := hXe
      conv => whnf
      refine kbi (fun h => ?_) (fun h => ?_)
      · have hlt : k < (enabledL p r.s).length := by simpa using h
        have hXl := xloop_len (p := p) (b := b) (sl := slp) (K := keepS p) (n := n) (r := r) (sleep := sleep) hx k
        have hXt := xloop_tried (p := p) (sl := slp) (K := keepS p) (f := xgo p b slp (keepS p) n) (r := r) (sleep := sleep) (acc := xs) k hk
        rw [hXe] at hXl hXt
        have hnx := xloop.eq_2 p slp (keepS p) (xgo p b slp (keepS p) n) r sleep xs k
        rw [hXe] at hnx
        have hm := XR.mem (b := b) hlt
        have hwl := en_lt hm
        have hst := l3Step_ok toIndexS p r.s (enAt p r k) hp hwl hsm.2 hsm.1 (inv_ready hg hr.inv.si hwl)
        have hnext := hr.step hg hv hc hlt
        have hown : CallsTo EE 83 [sl (sleep.map encN)] (· = .uq 3 1 (sleep.map encN)) := by
          rw [natI_enc]; exact l1Own_ok (natI sleep) (by simp [natI]; omega)
        have hhas : CallsTo EE 112 [sl (sleep.map encN), i64 (enAt p r k : Nat)] (· = bp (((enAt p r k : Nat) : Int) ∈ natI sleep)) := by
          rw [natI_enc]; exact l1Has_ok (natI sleep) _ (by simp [natI]; omega)
        have hmem : ((enAt p r k : Nat) : Int) ∈ natI sleep ↔ enAt p r k ∈ sleep := by
          simp only [natI, List.mem_map]
          exact ⟨fun ⟨a, ha, e⟩ => by have : a = enAt p r k := by omega
                                      subst this; exact ha, fun h => ⟨_, h, rfl⟩⟩
        have hownT : CallsTo EE 83 [sl (r.tk.map encInt)] (· = .uq 3 1 (r.tk.map encInt)) := l1Own_ok r.tk (by omega)
        have hL : ((sleep.map encN).take (sleep.map encN).length ++ ((tried.map encN).drop 0).take tried.length) = (sleep ++ tried).map encN := by
          rw [List.take_length, List.drop_zero, List.take_of_length_le (by simp), List.map_append]
        have hLl : (sleep.map encN).length + (((tried.map encN).drop 0).take tried.length).length = (sleep ++ tried).length := by simp
        have hLu : ∀ u ∈ sleep ++ tried, u < r.s.ths.length := fun u hu' => (List.mem_append.1 hu').elim (hu u) fun h => en_lt (hXt.2 u h)
        have hLb : (sleep ++ tried).length ≤ 5 * r.tr.length + 5 := by have : tried.length ≤ k := hXt.1; simp; omega
        conv => whnf
        refine ⟨encN (enAt p r k), ⟨by omega, en_get hlt, rfl⟩, ?_⟩
        cases okk with
        | false =>
          rw [if_pos (.inl rfl)] at hnx
          conv => whnf
          refine ⟨(k + 1, ⟨acc, tried, false⟩), _, Weak.refl, ⟨hlt, hnx⟩, by show (enabledL p r.s).length - (k + 1) < (enabledL p r.s).length - k; omega, ⟨rfl, rfl, rfl, rfl, rfl, rfl, next_i64 hlt (by omega), trivial⟩, ⟨rfl, rfl, rfl, rfl, rfl, rfl, trivial⟩, trivial⟩
        | true =>
          have ha4 : acc.length ≤ 400 := hXl rfl
          clear hXl
          obtain ⟨sq, hsq⟩ : ∃ sq : Bool, sq = slp := ⟨slp, rfl⟩
          cases slp
          case' true =>
            conv => whnf
            refine ocase hhas (fun hin => ?_) (fun hin => ?_)
          case true.refine_1 =>
            rw [if_pos (.inr ⟨rfl, hmem.1 hin⟩)] at hnx
            conv => whnf
            refine ⟨(k + 1, ⟨acc, tried, true⟩), _, Weak.refl, ⟨hlt, hnx⟩, by show (enabledL p r.s).length - (k + 1) < (enabledL p r.s).length - k; omega, ⟨rfl, rfl, rfl, rfl, rfl, rfl, next_i64 hlt (by omega), trivial⟩, ⟨rfl, rfl, rfl, rfl, rfl, rfl, trivial⟩, trivial⟩
          case' true.refine_2 => rw [if_neg (by rintro (e | ⟨_, e⟩); exact absurd e (by simp); exact hin (hmem.2 e))] at hnx
          case' false => rw [if_neg (by rintro (e | ⟨e, _⟩); exact absurd e (by simp); exact absurd e (by simp))] at hnx
          all_goals
            conv => whnf
            refine .inr (.inl ⟨15, [], ?_⟩)
            conv => whnf
            refine ⟨_, hst, ?_⟩
            conv => whnf
            refine ⟨by kernel_rfl, ?_⟩
            conv => whnf
            refine ⟨_, hown, ?_⟩
            rintro q rfl
            refine .inr ⟨_, rfl, ?_⟩
            conv => whnf
            refine ⟨⟨by rw [List.all_eq_true]; intro c hc'; obtain ⟨y, _, rfl⟩ := List.mem_map.1 (List.mem_of_mem_drop (List.mem_of_mem_take hc')); rfl, by show _ * 8 ≤ _; rw [hLl]; omega, by rw [hLl]; omega⟩, ?_⟩
            conv => whnf
            generalize hLe : sleep ++ tried = L at *
            refine aloopF (fun j : Nat => [(0, .ptr (.l 0) 0), (2, sl (sleep.map encN)), (4, .ptr (.n 4) 0), (6, .ref (.n 61) 0 tried.length), (7, i64 k), (8, i64 (enAt p r k : Nat)), (9, .ptr (.n 9) 0), (10, .ptr (.n 10) 0), (11, .ref (.n 62) 0 (keptBy (keepS p) r.s (L.take j) (stepL p r.s (enAt p r k)).2).length), (93, sl ((enabledL p r.s).map encN)), (94, i64 ((enabledL p r.s).map encN).length), (95, i64 k), (129, .ref (.n 127) 0 L.length), (130, i64 L.length), (131, i64 j)])
              (fun j => wkO3 p b sq r ⟨acc, tried, true⟩ (stepL p r.s (enAt p r k)) (keptBy (keepS p) r.s (L.take j) (stepL p r.s (enAt p r k)).2) L)
              (fun _ => []) (fun j => L.length - j) (fun j => j ≤ L.length) 0 (weak_nil 11 (.n 62) 3 1 rfl) ⟨rfl, rfl, rfl, rfl, rfl, rfl, rfl, rfl, rfl, rfl, rfl, rfl, ?_, ?_, rfl, trivial⟩ ⟨by rw [hsq]; rfl, rfl, rfl, rfl, rfl, rfl, rfl, rfl, rfl, ?_, trivial⟩ trivial (Nat.zero_le _) ?_
            · exact congrArg (AV.ref (.n 127) 0) hLl
            · exact congrArg (fun x : Nat => i64 (x : Int)) hLl
            · exact congrArg (fun x => some (Ob.ds 3 1 x)) hL
            intro j τ H hj
            have hj : j ≤ L.length := hj
            conv => whnf
            refine kbi (fun h => ?_) (fun h => ?_)
            · have hjl : j < L.length := by have := of_decide_eq_true h; omega
              have hhg := hangS_ok (stepL p r.s L[j]).2 (stepL p r.s (enAt p r k)).2
              have hjt : L.take (j + 1) = L.take j ++ [L[j]] := List.take_succ_eq_append_getElem hjl
              have hkj : keptBy (keepS p) r.s (L.take (j + 1)) (stepL p r.s (enAt p r k)).2 = keptBy (keepS p) r.s (L.take j) (stepL p r.s (enAt p r k)).2 ++ keptBy (keepS p) r.s [L[j]] (stepL p r.s (enAt p r k)).2 := by
                rw [hjt]; unfold keptBy; rw [List.filter_append]
              have hkl : (keptBy (keepS p) r.s (L.take j) (stepL p r.s (enAt p r k)).2).length ≤ j := Nat.le_trans (List.length_filter_le _ _) (by simp; omega)
              have hev := event_ok p hp hg r.s hr.inv L[j] (hLu _ (List.getElem_mem hjl)) b sq
              conv => whnf
              refine ⟨⟨by omega, by omega⟩, ?_⟩
              conv => whnf
              refine ⟨encN L[j], ⟨by simp [hjl], Nat.le_refl _⟩, ?_⟩
              conv => whnf
              refine ⟨by kernel_rfl, ?_⟩
              conv => whnf
              refine ⟨_, hev _ _ _ _, fun c hc' => ?_, ?_⟩
              · obtain ⟨y, hy, rfl⟩ := List.mem_map.1 hc'
                simp only [encEv, List.mem_cons, List.not_mem_nil, or_false] at hy
                rcases hy with rfl | rfl | rfl | rfl | rfl <;> exact ⟨_, rfl, rfl⟩
              conv => whnf
              refine qcase hhg (fun hh => ?_) (fun hh => ?_)
              · have hkn : keptBy (keepS p) r.s [L[j]] (stepL p r.s (enAt p r k)).2 = [] := by simp [keptBy, keepS, hh]
                rw [hkn, List.append_nil] at hkj
                conv => whnf
                refine ⟨j + 1, _, Weak.refl, hjl, by show L.length - (j + 1) < L.length - j; omega, ⟨rfl, rfl, rfl, rfl, rfl, rfl, rfl, rfl, ?_, rfl, rfl, rfl, rfl, rfl, next_i64 hjl (by omega), trivial⟩, ⟨rfl, rfl, rfl, rfl, rfl, rfl, rfl, rfl, ?_, rfl, trivial⟩, trivial⟩
                · show AV.ref (.n 62) 0 (keptBy (keepS p) r.s (L.take j) _).length = .ref (.n 62) 0 (keptBy (keepS p) r.s (L.take (j + 1)) _).length
                  rw [hkj]
                · show some (Ob.ds 3 1 ((keptBy (keepS p) r.s (L.take j) _).map encN)) = some (Ob.ds 3 1 ((keptBy (keepS p) r.s (L.take (j + 1)) _).map encN))
                  rw [hkj]
              · have hkn : keptBy (keepS p) r.s [L[j]] (stepL p r.s (enAt p r k)).2 = [L[j]] := by simp [keptBy, keepS, hh]
                rw [hkn] at hkj
                conv => whnf
                refine ⟨⟨rfl, by show (_ + 1) * 8 ≤ _; omega, by show _ + 1 ≤ _; omega⟩, ?_⟩
                conv => whnf
                refine ⟨j + 1, _, Weak.refl, hjl, by show L.length - (j + 1) < L.length - j; omega, ⟨rfl, rfl, rfl, rfl, rfl, rfl, rfl, rfl, ?_, rfl, rfl, rfl, rfl, rfl, next_i64 hjl (by omega), trivial⟩, ⟨rfl, rfl, rfl, rfl, rfl, rfl, rfl, rfl, ?_, rfl, trivial⟩, trivial⟩
                · show AV.ref (.n 62) 0 ((keptBy (keepS p) r.s (L.take j) (stepL p r.s (enAt p r k)).2).length + 1) = .ref (.n 62) 0 (keptBy (keepS p) r.s (L.take (j + 1)) _).length
                  rw [hkj, List.length_append]; rfl
                · show some (Ob.ds 3 1 (((keptBy (keepS p) r.s (L.take j) (stepL p r.s (enAt p r k)).2).map encN).take _ ++ [encN L[j]])) = some (Ob.ds 3 1 ((keptBy (keepS p) r.s (L.take (j + 1)) _).map encN))
                  rw [hkj, List.take_of_length_le (by simp), List.map_append]; rfl
            · have hge : j = L.length := by
                have : ¬ (j : Int) < L.length := fun e => h (decide_eq_true e)
                omega
              subst hge
              have hon : keptBy (keepS p) r.s (L.take L.length) (stepL p r.s (enAt p r k)).2 = keptBy (keepS p) r.s L (stepL p r.s (enAt p r k)).2 := by rw [List.take_length]
              conv => whnf
              refine .inr (.inl ⟨17, [], ?_⟩)
              conv => whnf
              refine ⟨⟨by simp [encEv], by simp; omega, by simp; omega⟩, ?_⟩
              conv => whnf
              refine ⟨⟨rfl, by simp; omega, by simp; omega⟩, ?_⟩
              conv => whnf
              refine ⟨_, hownT, ?_⟩
              refine .inr ⟨_, rfl, ?_⟩
              conv => whnf
              refine ⟨⟨rfl, by simp; omega, by simp; omega⟩, ?_⟩
              conv => whnf
              refine ⟨by kernel_rfl, ?_⟩
              conv => whnf
              subst hsq
              have hkk : (keptBy (keepS p) r.s L (stepL p r.s (enAt p r k)).2).length ≤ 5 * (runBy p r k).tr.length := by
                have : (keptBy (keepS p) r.s L (stepL p r.s (enAt p r k)).2).length ≤ L.length := List.length_filter_le _ _
                have e : (runBy p r k).tr.length = r.tr.length + 1 := by simp [runBy]
                omega
              have hku : ∀ u ∈ keptBy (keepS p) r.s L (stepL p r.s (enAt p r k)).2, u < (runBy p r k).s.ths.length := fun u hu' => Nat.lt_of_lt_of_le (hLu u (List.mem_filter.1 hu').1) (step_len p r.s _)
              have hfu : b.toNat + 1 - (runBy p r k).tr.length = n := by
                have e : (runBy p r k).tr.length = r.tr.length + 1 := by simp [runBy]
                omega
              refine .inr (.inr (.inr (.inl ⟨_, 109, [], weak_frz (fun κ => isK (.n 153) κ || isK (.n 159) κ || isK (.n 62) κ), rfl, 999, 99, lendW, _, io_congr (go1_ok p hp hg hv b hb _ n (runBy p r k) 0 (keptBy (keepS p) r.s L (stepL p r.s (enAt p r k)).2) acc hnext hfu ha4 hkk hku _ ⟨rfl, rfl, rfl, rfl⟩) ?_, rfl, ?_⟩)))
              · show [AV.ptr (.l 0) 0, AV.agg [i64 0, sl _, sl _, _, _, _, _], sl _] = _
                refine args3 ?_ ?_ ?_
                · simp [List.take_of_length_le, runBy]; rfl
                · simp [List.take_of_length_le, runBy]; rfl
                · simp [List.take_of_length_le]
              rintro q H1 ⟨rfl, rfl⟩
              refine ⟨wkH_none, fun n hn => ?_, ?_⟩
              · have : n = 0 := Nat.eq_of_beq_eq_true hn
                subst this
                exact ⟨92, _, _, rfl, rfl⟩
              conv => whnf
              refine ⟨⟨rfl, by show (tried.length + 1) * 8 ≤ _; have : tried.length ≤ k := hXt.1; omega, by show tried.length + 1 ≤ _; have : tried.length ≤ k := hXt.1; omega⟩, ?_⟩
              conv => whnf
              refine ⟨(k + 1, ⟨_, tried ++ [enAt p r k], _⟩), _, Weak.refl, ⟨hlt, hnx⟩, by show (enabledL p r.s).length - (k + 1) < (enabledL p r.s).length - k; omega, ⟨rfl, rfl, rfl, ?_, rfl, rfl, next_i64 hlt (by omega), trivial⟩, ⟨rfl, rfl, rfl, rfl, ?_, ?_, trivial⟩, trivial⟩
              · show AV.ref (.n 61) 0 (tried.length + 1) = .ref (.n 61) 0 (tried ++ [enAt p r k]).length
                rw [List.length_append]; rfl
              · rfl
              · show some (Ob.ds 3 1 ((tried.map encN).take tried.length ++ [encN (enAt p r k)])) = some (Ob.ds 3 1 ((tried ++ [enAt p r k]).map encN))
                rw [List.take_of_length_le (by simp), List.map_append]; rfl
      · have hge : k = (enabledL p r.s).length := by
          have : ¬ (k : Int) < ((enabledL p r.s).map encN).length := fun e => h (decide_eq_true e)
          simp at this; omega
        rw [← hge, hXe]
        conv => whnf
        refine ⟨_, Weak.refl, ?_⟩
        conv => whnf
        exact ⟨lendW, rfl, lend_wk ⟨rfl, rfl, rfl, rfl⟩⟩
end Ai
end
section
set_option maxRecDepth 100000
namespace Ai
open Go Go.Proofs Cyc
def OkX (p : ProgL) (b : Int) : Prop := p.goodS ∧ InR b 0 14
theorem sub_agg {w : World} {ok : Nat → Prop} {m : Own} {H : Key → Option Ob} {c x y z u t : D} {v : Value} (h : VRel w ok m H (.agg [.d c,.d .nil,.d .nil,.d x,.d y,.d z,.d u]) v) : VRel w ok m H (.agg [.d c,sl [],sl [],.d x,.d y,.d z,.d u]) v := by
 cases h with
 |agg _ us hl h =>
  refine .agg _ us hl fun i c' u' hc hu => ?_
  match i,hc with
  | 0,hc => exact h 0 _ _ hc hu
  | 1,hc =>
   have e : sl [] = c' := by simpa using hc
   subst e
   have := h 1 (.d .nil) u' rfl hu
   cases this with
   |d _ _ hd => cases hd; exact .d _ _ (.sl0 none 0)
  | 2,hc =>
   have e : sl [] = c' := by simpa using hc
   subst e
   have := h 2 (.d .nil) u' rfl hu
   cases this with
   |d _ _ hd => cases hd; exact .d _ _ (.sl0 none 0)
  | 3,hc => exact h 3 _ _ hc hu
  | 4,hc => exact h 4 _ _ hc hu
  | 5,hc => exact h 5 _ _ hc hu
  | 6,hc => exact h 6 _ _ hc hu
  |i + 7,hc => simp at hc
theorem io_nilR {E : Env} {g : FuncId} {H0 : Key → Option Ob} {Post : AV → (Key → Option Ob) → Prop} {x y : AV} {c a b d e : D} (h : IOCall E g [x,.agg [.d c,sl [],sl [],.d a,.d b,.d d,.d e],y] H0 Post) : IOCall E g [x,.agg [.d c,.d .nil,.d .nil,.d a,.d b,.d d,.d e],y] H0 Post := by
 intro w0 A m w vs hH hl hr
 refine h w0 A m w vs hH hl fun i av v ha hv => ?_
 match i,ha with
 | 0,ha => exact hr 0 av v ha hv
 | 1,ha =>
  have ha : AV.agg [.d c,sl [],sl [],.d a,.d b,.d d,.d e] = av := by simpa using ha
  subst ha
  exact sub_agg (t := c) (hr 1 _ v rfl hv)
 | 2,ha => exact hr 2 av v ha hv
 |i + 3,ha => simp at ha
noncomputable def wkN (p : ProgL) (b : Int) (sl : Bool) (xs : List RunT) (many : Bool) : Key → Option Ob
 | .n j => bif Nat.beq j 905 then some (.vs 92 (wkC p b sl xs.length many)) else bif Nat.beq j 901 then some (.ds 25 1 (xs.map rowPk)) else bif Nat.beq j 902 then some (.ds 72 1 (xs.map rowTr)) else bif Nat.beq j 903 then some (.ds 9 1 (xs.map (rowSg p))) else none
 | _ => none
def pL : Key → Bool
 | .n j => Nat.beq j 905 || Nat.beq j 901 || Nat.beq j 902 || Nat.beq j 903
 | _ => false
def AtN (p : ProgL) (b : Int) (sl : Bool) (xs : List RunT) (many : Bool) (H : Key → Option Ob) : Prop :=
 H (.n 905) = some (.vs 92 (wkC p b sl xs.length many)) ∧ H (.n 901) = some (.ds 25 1 (xs.map rowPk)) ∧ H (.n 902) = some (.ds 72 1 (xs.map rowTr)) ∧ H (.n 903) = some (.ds 9 1 (xs.map (rowSg p)))
theorem w7 {p : ProgL} {b : Int} {sl : Bool} {xs : List RunT} {many : Bool} : ∀ κ,pL κ = false → wkN p b sl xs many κ = none
 | .l j,h => rfl
 | .n j,h => by
  have h : (Nat.beq j 905 || Nat.beq j 901 || Nat.beq j 902 || Nat.beq j 903) = false := h
  simp only [Bool.or_eq_false_iff] at h
  simp [wkN,h.1.1.1,h.1.1.2,h.1.2,h.2]
 | .s o j,h => rfl
theorem lend_wkN {p : ProgL} {b : Int} {sl : Bool} {xs : List RunT} {many : Bool} {H : Key → Option Ob} (h : AtN p b sl xs many H) : yI pL H = wkN p b sl xs many := by
 obtain ⟨h0,h1,h2,h3⟩ := h
 funext κ
 cases hk : pL κ with
 |false => rw [w7 κ hk,bU hk]
 |true =>
  rw [wW hk]
  cases κ with
  |l j => cases hk
  |n j =>
   have hk : (Nat.beq j 905 || Nat.beq j 901 || Nat.beq j 902 || Nat.beq j 903) = true := hk
   simp only [Bool.or_eq_true] at hk
   rcases hk with ((hk | hk) | hk) | hk
   ·have := Nat.eq_of_beq_eq_true hk
    subst this; rw [h0]; rfl
   ·have := Nat.eq_of_beq_eq_true hk
    subst this; rw [h1]; rfl
   ·have := Nat.eq_of_beq_eq_true hk
    subst this; rw [h2]; rfl
   ·have := Nat.eq_of_beq_eq_true hk
    subst this; rw [h3]; rfl
  |s o j => cases hk
noncomputable def allX (p : ProgL) (b : Int) (sl : Bool) : List RunT × Bool := xgo p b sl (keepS p) (b.toNat + 1) ⟨0,[],[],wY p⟩ [] []
def AllPost (p : ProgL) (b : Int) (sl : Bool) (q : AV) (H1 : Key → Option Ob) : Prop :=
 (OkX p b ∧ q = .tup [.ptr (.n 905) 0,bv (allX p b sl).2] ∧ H1 = wkN p b sl (allX p b sl).1 (!(allX p b sl).2)) ∨ (¬ OkX p b ∧ q = .tup [.junk,bv false] ∧ H1 = fun _ => none)
theorem l10All_ok (p : ProgL) (hp : p.wf) (hs : p.rs.length ≤ 1048576 ∧ ∀ x ∈ p.rs,x.length ≤ 1048576) (hv : p.flt) (b : Int) (slp : Bool) : IOCall EE 64 [agg (encProg p),i64 b,bv slp] (fun _ => none) (AllPost p b slp) := by
 refine io_of_AW (fn := Tryz.f64) (c := Tryz.f64.body.getD .skip) Tryz.func64 rfl (by kernel_rfl) rfl ?_
 conv => whnf
 refine ocase (mK p hs hv) (fun hg => ?_) (fun hg => ?_)
 rotate_left 1
 ·conv => whnf
  refine ⟨_,Weak.refl,?_⟩
  conv => whnf
  refine ⟨fun _ => false,.inr ⟨fun e => hg e.1,rfl,rfl⟩⟩
 conv => whnf
 refine ocase (qF b 0 14) (fun hk => ?_) (fun hk => ?_)
 rotate_left 1
 ·conv => whnf
  refine ⟨_,Weak.refl,?_⟩
  conv => whnf
  refine ⟨fun _ => false,.inr ⟨fun e => hk e.2,rfl,rfl⟩⟩
 obtain ⟨b1,b2,b3,b4⟩ := hg.1
 conv => whnf
 refine ⟨_,l3New_ok p ⟨b1.1,by have := b1.2; omega⟩ ⟨b2.1,by have := b2.2; omega⟩,?_⟩
 rintro r rfl
 have hr0 : XR p b ⟨0,[],[],wY p⟩ := XR.new hg hk.1
 conv => whnf
 refine .inr (.inr (.inr (.inl ⟨_,109,[],(uP (.n 13) (.n 901) 92 25 1 6 [i64 p.cells,i64 p.locks,i64 p.conds,.d (.sl (p.rs.map zO)),i64 b,bv slp,.d .nil,.d .nil,.d .nil,bv false] (by intro n h; cases h) (by intro h; cases h) rfl rfl).trans ((uP (.n 13) (.n 902) 92 72 1 7 [i64 p.cells,i64 p.locks,i64 p.conds,.d (.sl (p.rs.map zO)),i64 b,bv slp,.dref (.n 901) 0,.d .nil,.d .nil,bv false] (by intro n h; cases h) (by intro h; cases h) rfl rfl).trans
  ((uP (.n 13) (.n 903) 92 9 1 8 [i64 p.cells,i64 p.locks,i64 p.conds,.d (.sl (p.rs.map zO)),i64 b,bv slp,.dref (.n 901) 0,.dref (.n 902) 0,.d .nil,bv false] (by intro n h; cases h) (by intro h; cases h) rfl rfl).trans ((weak_cvt (.n 901) (e := 25) (sz := 1) (els := []) rfl).trans ((weak_cvt (.n 902) (e := 72) (sz := 1) (els := []) rfl).trans (weak_cvt (.n 903) (e := 9) (sz := 1) (els := []) rfl))))),rfl,13,0,lendW,_,io_nilR (io_nil (go1_ok p hp hg hv b ⟨hk.1,by have := hk.2; omega⟩ slp (b.toNat + 1) ⟨0,[],[],wY p⟩ 0 [] [] hr0 (by simp) (by simp) (by simp) (fun u hu => by cases hu) _ ?_)),rfl,?_⟩)))
 ·exact ⟨rfl,rfl,rfl,rfl⟩
 rintro q H1 ⟨rfl,rfl⟩
 refine ⟨wkH_none,fun n hn => ?_,?_⟩
 ·have : n = 0 := Nat.eq_of_beq_eq_true hn
  subst this
  exact ⟨92,_,_,rfl,rfl⟩
 conv => whnf
 refine .inr (.inl ⟨8,[],?_⟩)
 conv => whnf
 refine ⟨by kernel_rfl,?_⟩
 conv => whnf
 have hX : allX p b slp = xgo p b slp (keepS p) (b.toNat + 1) ⟨0,[],[],wY p⟩ [] [] := rfl
 generalize xgo p b slp (keepS p) (b.toNat + 1) ⟨0,[],[],wY p⟩ [] [] = X at *
 refine ⟨_,vD 13 905,?_⟩
 conv => whnf
 refine ⟨pL,.inl ⟨⟨hg,hk⟩,?_,?_⟩⟩
 ·rw [hX]
  cases X.2 <;> rfl
 ·rw [hX]
  exact lend_wkN ⟨rfl,rfl,rfl,rfl⟩
end Ai
end
section
set_option maxRecDepth 100000
namespace Ai
open Go Go.Proofs Cyc
theorem d6 {n : Int} (hn : 0 ≤ n) {l : List Nat} : n ∈ natI l ↔ n.toNat ∈ l := by
 simp only [natI,List.mem_map]
 constructor
 ·rintro ⟨a,ha,e⟩
  have : a = n.toNat := by omega
  subst this; exact ha
 ·exact fun h => ⟨_,h,by omega⟩
end Ai
end
section
set_option maxRecDepth 100000
namespace Ai
open Go Go.Proofs Cyc
theorem lend_none {H : Key → Option Ob} (h0 : H (.n 905) = none) (h1 : H (.n 901) = none) (h2 : H (.n 902) = none) (h3 : H (.n 903) = none) : yI pL H = fun _ => none := by
 funext κ
 cases hk : pL κ with
 |false => exact bU hk
 |true =>
  rw [wW hk]
  cases κ with
  |l j => cases hk
  |n j =>
   have hk : (Nat.beq j 905 || Nat.beq j 901 || Nat.beq j 902 || Nat.beq j 903) = true := hk
   simp only [Bool.or_eq_true] at hk
   rcases hk with ((hk | hk) | hk) | hk
   all_goals (have := Nat.eq_of_beq_eq_true hk; subst this; first | (rw [h0]; rfl) | (rw [h1]; rfl) | (rw [h2]; rfl) | (rw [h3]; rfl))
  |s o j => cases hk
theorem l10All_at (p : ProgL) (hp : p.wf) (hs : p.rs.length ≤ 1048576 ∧ ∀ x ∈ p.rs,x.length ≤ 1048576) (hv : p.flt) (b : Int) (slp : Bool) {H : Key → Option Ob} (h0 : H (.n 905) = none) (h1 : H (.n 901) = none) (h2 : H (.n 902) = none) (h3 : H (.n 903) = none) :
  IOCall EE 64 [agg (encProg p),i64 b,bv slp] (yI pL H) (AllPost p b slp) := by
 rw [lend_none h0 h1 h2 h3]; exact l10All_ok p hp hs hv b slp
theorem allX_eq (p : ProgL) (b : Int) : allX p b false = gD p b := allR_of p b _ _
def OkA (p : ProgL) (b : Int) : Prop := OkX p b ∧ (gD p b).2 = true
open Classical in
/-- what CanHappen finds -/
noncomputable def uO (p : ProgL) (b : Int) (sign : List UInt8) : List Int × Bool :=
 if OkA p b then (match (gD p b).1.find? (fun x => decide (wR p x = sign)) with | some x => (x.tk,true) | none => ([],false)) else ([],false)
theorem nI {α : Type} {f : α → Bool} {l : List α} (h : ∀ x ∈ l,f x = false) : l.find? f = none := List.find?_eq_none.2 fun x hx => by simp [h x hx]
theorem find_at {α : Type} {f : α → Bool} {l : List α} {k : Nat} (hk : k < l.length) (h : ∀ x ∈ l.take k,f x = false) (h2 : f l[k] = true) : l.find? f = some l[k] := by
 have e : l = l.take k ++ l[k] :: l.drop (k + 1) := by rw [List.getElem_cons_drop,List.take_append_drop]
 have e2 : l.find? f = (l.take k ++ l[k] :: l.drop (k + 1)).find? f := congrArg (List.find? f) e
 rw [e2,List.find?_append,nI h,List.find?_cons_of_pos h2]
 rfl
theorem CanS_ok (p : ProgL) (hp : p.wf) (hs : p.rs.length ≤ 1048576 ∧ ∀ x ∈ p.rs,x.length ≤ 1048576) (hv : p.flt) (b : Int) (sign : List UInt8) :
  CallsTo EE 29 [agg (encProg p),i64 b,sv sign] (· = .tup [sl ((uO p b sign).1.map encInt),bv (uO p b sign).2]) := by
 classical
 refine callsTo_of_AW (fn := Tryz.f29) Tryz.func29 rfl (by kernel_rfl) rfl ?_
 conv => whnf
 refine ⟨_,64,[],Weak.refl,rfl,999,99,pL,_,l10All_at p hp hs hv b false rfl rfl rfl rfl,rfl,?_⟩
 rintro q H1 (⟨hok,rfl,rfl⟩ | ⟨hn,rfl,rfl⟩)
 ·rw [allX_eq]
  refine ⟨w7,fun n hn => ?_,?_⟩
  ·cases hn
  have hA : OkA p b ↔ (gD p b).2 = true := ⟨fun e => e.2,fun e => ⟨hok,e⟩⟩
  have hC : uO p b sign = if (gD p b).2 = true then (match (gD p b).1.find? (fun x => decide (wR p x = sign)) with | some x => (x.tk,true) | none => ([],false)) else ([],false) := by
   unfold uO
   by_cases h : OkA p b
   ·rw [if_pos h,if_pos (hA.1 h)]
   ·rw [if_neg h,if_neg (fun e => h (hA.2 e))]
  rw [hC]
  have hl := i6 p b
  generalize gD p b = X at *
  obtain ⟨xs,okk⟩ := X
  have hl : xs.length ≤ 401 := hl
  cases okk with
  |false =>
   conv => whnf
   refine .inl ?_
   conv => whnf
   rfl
  |true =>
   conv => whnf
   refine yR (fun k : Nat => [(2,sv sign),(8,.ptr (.n 905) 0),(23,.ref (.n 903) 0 xs.length),(24,i64 xs.length),(25,i64 k)])
    (fun k => [(.n 905,.vs 92 (wkC p b false xs.length false)),(.n 901,.ds 25 1 (xs.map rowPk)),(.n 903,.ds 9 1 (xs.map (rowSg p)))]) (fun k => xs.length - k) (fun k => k ≤ xs.length ∧ ∀ x ∈ xs.take k,decide (wR p x = sign) = false) 0 .refl
    ⟨rfl,rfl,rfl,rfl,rfl,trivial⟩ ⟨rfl,rfl,rfl,trivial⟩ ⟨Nat.zero_le _,qC⟩ ?_
   rintro k τ H ⟨hk,ih⟩
   conv => whnf
   refine kbi (fun h => ?_) (fun h => ?_)
   ·have hlt : k < xs.length := by have := of_decide_eq_true h; omega
    conv => whnf
    refine ⟨⟨by omega,by omega⟩,?_⟩
    conv => whnf
    refine ⟨rowSg p xs[k],⟨by simp [hlt],Nat.le_refl _⟩,?_⟩
    conv => whnf
    refine kbi (fun h1 => ?_) (fun h1 => ?_)
    ·have h1 : wR p xs[k] = sign := by simpa using h1
     have hf := find_at hlt ih (decide_eq_true h1)
     conv => whnf
     refine ⟨⟨by omega,by omega⟩,?_⟩
     conv => whnf
     refine ⟨rowPk xs[k],⟨by simp [hlt],Nat.le_refl _⟩,?_⟩
     conv => whnf
     show _ = AV.tup [sl ((match xs.find? (fun x => decide (wR p x = sign)) with | some x => (x.tk,true) | none => ([],false)).1.map encInt),bv (match xs.find? (fun x => decide (wR p x = sign)) with | some x => (x.tk,true) | none => ([],false)).2]
     rw [hf]
    ·have h1 : ¬ wR p xs[k] = sign := by simpa using h1
     conv => whnf
     refine ⟨k + 1,⟨hlt,fun x hx => ?_⟩,by show xs.length - (k + 1) < xs.length - k; omega,⟨rfl,rfl,rfl,rfl,next_i64 hlt (by omega),trivial⟩,⟨rfl,rfl,rfl,trivial⟩⟩
     rw [List.take_succ_eq_append_getElem hlt] at hx
     rcases List.mem_append.1 hx with e | e
     ·exact ih x e
     ·simp only [List.mem_cons,List.not_mem_nil,or_false] at e
      subst e; exact decide_eq_false h1
   ·have hge : k = xs.length := by
     have : ¬ (k : Int) < xs.length := fun e => h (decide_eq_true e)
     omega
    have hf : xs.find? (fun x => decide (wR p x = sign)) = none := nI (by rw [hge,List.take_length] at ih; exact ih)
    conv => whnf
    refine .inl ?_
    conv => whnf
    show _ = AV.tup [sl ((match xs.find? (fun x => decide (wR p x = sign)) with | some x => (x.tk,true) | none => ([],false)).1.map encInt),bv (match xs.find? (fun x => decide (wR p x = sign)) with | some x => (x.tk,true) | none => ([],false)).2]
    rw [hf]; rfl
 ·refine ⟨fun _ _ => rfl,fun n hn => ?_,?_⟩
  ·cases hn
  have hC : uO p b sign = ([],false) := by unfold uO; rw [if_neg (fun e => hn e.1)]
  rw [hC]
  conv => whnf
  refine .inl ?_
  conv => whnf
  rfl
end Ai
end
section
set_option maxRecDepth 100000
namespace Ai
open Go Go.Proofs
theorem v6 (s : StL) {p : Key → Bool} (h : (p (.n 900) || p (.n 901) || p (.n 902)) = false) : scrPL p ([] ++ stRef s) = [] ++ stRef s := by
 have := xI (E := 0) s h
 simpa [scrPO] using this
theorem spawn_vs0 {s s' : StL} {L : List AV} {v : AV} (hv : v = .dref (.n 900) s'.ths.length) (hL : L = [] ++ stRef s) (hc : s'.cells.length = s.cells.length) (ho : s'.owner.length = s.owner.length) (hf : s'.fault = s.fault) :
  zU (scrPL (isK (.n 900)) L) (0 + 0) [v] = [] ++ stRef s' := by
 subst hv hL
 simp only [stRef,List.cons_append,List.nil_append,scrPL,hc,ho,hf]
 rfl
theorem doI_preB0 (E : TypeId) (g : Nat → Option Ob) (hg : ∀ p j,(g j).map (scrPO p) = g j) (s : StL) (k : Nat) (o : OpL) (e : Ev) (hk : k < s.ths.length) (t : Th) (htk : (zA o.code).1 ≤ t.stack.length) (ht8 : t.stack.length ≤ 1048576) (hpc : InR t.pc 0 1048576)
  (τ : Nat → AV) (H : Key → Option Ob) (Q : AX → St → Prop) (K : St → Prop) (hK : ∀ s',At (doI1 0 k o t) (doIO E [] s k o e t (zC t o)) [(900,g)] s' → K s') :
  sH EE Tryz.f153.ntmps K Q 7 (Tryz.f153.body.getD .skip) (rA [(0,.ptr (.l 0) 0),(1,i64 k),(2,agg (encOp o)),(3,agg (encEv e))] (pY [(.l 0,.vs E ([] ++ stRef s)),(.n 899,.ds 105 1 (stk t)),(.n 900,.rs 123 6 (rowsA s.ths k t)),(.n 901,.ds 105 1 (s.cells.map encF)),(.n 902,.ds 3 1 (s.owner.map encInt))] (fN [(900,g)] ⟨τ,H⟩))) := by
 have ht : 0 ≤ (zA o.code).1 ∧ (zA o.code).1 ≤ 2 ∧ 0 ≤ (zA o.code).2 ∧ (zA o.code).2 ≤ 1 := by
  unfold zA; split
  ·decide
  ·split
   ·decide
   ·split <;> decide
 have e1 : (IntKind.i64.wrap ((t.stack.length : Int) - (zA o.code).1)) = (t.stack.length : Int) - (zA o.code).1 := zE (by omega) (by omega)
 have e2 : ((t.stack.length : Int) - (zA o.code).1).toNat = zP t o := by unfold zP xG; omega
 have allLen : ∀ a b : Nat,(((stk t).drop a).take b).all (fun c => c.length == 1) = true := by
  intro a b
  simp only [List.all_eq_true]
  intro x hx
  have hx := List.mem_of_mem_drop (List.mem_of_mem_take hx)
  obtain ⟨y,_,rfl⟩ := List.mem_map.1 hx
  rfl
 conv => whnf
 refine ⟨⟨by omega,by omega⟩,?_⟩
 conv => whnf
 refine ⟨_,mP o,?_⟩
 rintro r rfl
 conv => whnf
 refine ⟨yC t,⟨?_,by simp [yC]⟩,?_⟩
 ·repeat (first | exact zN hk | refine yX ?_ (zV rfl t))
 conv => whnf
 refine ⟨yC t,⟨?_,by simp [yC]⟩,?_⟩
 ·repeat (first | exact zN hk | refine yX ?_ (zV rfl t))
 conv => whnf
 rw [e1]
 have e3 : ((stk t).drop (0 + ((t.stack.length : Int) - (zA o.code).1).toNat)).take ((t.stack.length : Int).toNat - ((t.stack.length : Int) - (zA o.code).1).toNat) = (t.stack.drop (zP t o)).map encF := by
  rw [e2,Nat.zero_add,List.take_of_length_le (by simp [stk]),stk,List.map_drop]
 have hlen : (t.stack.drop (zP t o)).length ≤ 1048576 := by simp; omega
 rcases Int.lt_or_eq_of_le ht.1 with h0 | h0
 refine .inl ⟨⟨by omega,by omega,by omega,.inr (by omega)⟩,?_⟩
 conv => whnf
 refine .inl ⟨(· = .uq 105 1 ((t.stack.drop (zP t o)).map encF)),Eq.mp (congrArg (fun x => CallsTo EE 174 [sl x] _) e3.symm) (gF (t.stack.drop (zP t o)) hlen),?_⟩
 rintro r rfl
 refine ⟨fun c hc => ?_,.inl ?_⟩
 ·obtain ⟨y,_,rfl⟩ := List.mem_map.1 hc
  rfl
 conv => whnf
 rotate_left 1
 refine .inr ⟨⟨by omega,by omega,by omega⟩,?_⟩
 conv => whnf
 refine ⟨(· = .uq 105 1 ((t.stack.drop (zP t o)).map encF)),Eq.mp (congrArg (fun x => CallsTo EE 174 [sl x] _) (by simp [zP,xG,← h0])) (gF (t.stack.drop (zP t o)) hlen),?_⟩
 rintro r rfl
 refine .inl ?_
 conv => whnf
 all_goals
  refine ⟨yC t,⟨by repeat (first | exact zN hk | refine yX ?_ (zV rfl t)),by simp [yC]⟩,?_⟩
  conv => whnf
  refine .inl ⟨⟨by omega,by omega,by omega,.inl rfl⟩,?_⟩
  conv => whnf
  have e5 : ((t.stack.length : Int) - (zA o.code).1).toNat - (0 : Int).toNat = zP t o := by rw [e2]; rfl
  refine ⟨[i64 t.rt,i64 t.pc,i64 t.st,i64 t.cond,i64 t.lock,.ref (.n 899) 0 (zP t o)],⟨?_,by simp⟩,?_⟩
  ·refine wV (c := yC t) (by repeat (first | exact zN hk | refine yX ?_ (zV rfl t))) ?_
   conv => lhs; whnf
   rw [← e5]
   rfl
  conv => whnf
  refine hK _ ⟨?_,?_,?_⟩
  ·exact ⟨rfl,rfl,rfl,rfl,rfl,rfl,rfl,trivial⟩
  ·refine ⟨?_,rfl,rfl,rfl,rfl,?_,rfl,rfl,trivial⟩
   ·conv => lhs; whnf
    refine congrArg some ?_
    repeat (refine yH ?_ (xI s rfl))
    rfl
   ·conv => lhs; whnf
    refine congrArg (fun x => some (Ob.rs 123 6 x)) ?_
    have hkl : (t.stack.take (zP t o)).length = zP t o := by simp [zP]
    refine bP hk (bP hk (t := t) (t' := { t with stack := t.stack.take (zP t o) }) (by repeat (first | rfl | refine Eq.trans (congrArg (List.map (scrPL _)) ?_) (vV rfl (fun _ => rfl) _ _ _))) ?_) ?_
    ·show [_,_,_,_,_,AV.ref (.n 899) 0 (((t.stack.length : Int) - (zA o.code).1).toNat - (0 : Int).toNat)] = [_,_,_,_,_,AV.ref (.n 899) 0 (t.stack.take (zP t o)).length]
     rw [e5,hkl]
    ·show [_,AV.d (.int .i64 (IntKind.i64.wrap (t.pc + 1))),_,_,_,AV.ref (.n 899) 0 (t.stack.take (zP t o)).length] = [_,i64 (t.pc + 1),_,_,_,AV.ref (.n 899) 0 (t.stack.take (zP t o)).length]
     rw [zE (by have := hpc.1; omega) (by have := hpc.2; omega)]
     rfl
  ·refine ⟨fun j => ?_,trivial⟩
   repeat (first | exact rfl | refine hscrO ?_ (hg _ _) | conv => lhs; whnf)
theorem doI_swB0 (hI : yN) (E : TypeId) (g : Nat → Option Ob) (hg : ∀ p j,(g j).map (scrPO p) = g j) (s : StL) (k : Nat) (o : OpL) (e : Ev) (hk : k < s.ths.length) (h5 : s.ths.length ≤ 5) (hgj : ∀ j,j ≠ k → g j = zR s.ths j)
  (hs : s.small) (ho : o.fits s s.ths[k]) (hpc : InR s.ths[k].pc 0 1048576) (hst3 : s.ths[k].st ≠ 3) (he : e.kind = 1) (hel : e.lock = -1) (hfl : ∀ x ∈ s.ths[k].stack,x < 18446744073709551616) (hjo : o.code = 15 → ∃ j,yP (yK s.ths[k] o 0) s.ths.length = some j ∧ zS s s.ths[k] = some j)
  (Q : AX → St → Prop) (K : St → Prop) (S : St) (hS : At (doI1 0 k o s.ths[k]) (doIO E [] s k o e s.ths[k] (zC s.ths[k] o)) [(900,g)] S) (hK : ∀ S',DoI2 E [] g k (doL s k o e).1 (doL s k o e).2 S' → K S') :
  sH EE Tryz.f153.ntmps K Q 1 (dropC 7 (Tryz.f153.body.getD .skip)) S := by
 have hst := hs.2.1 _ (List.getElem_mem hk)
 have hgd : s.ths.getD k th0 = s.ths[k] := by simp [List.getD_eq_getElem?_getD,hk]
 generalize ht0 : s.ths[k] = t at *
 obtain ⟨τ,H,rfl⟩ := hS.form
 clear hS
 obtain ⟨o1,o2,o3,o4,o5⟩ := ho
 obtain ⟨eth,ekind,eobj,elock,epc⟩ := e
 have he : ekind = 1 := he
 subst he
 have hel : elock = -1 := hel
 subst hel
 have hkn : zP t o ≤ t.stack.length := Nat.sub_le _ _
 have hkl : (t.stack.take (zP t o)).length = zP t o := by simp; omega
 have hpl : (zC t o).stack.length = zP t o := hkl
 conv => whnf
 refine kbi (fun hc => ?_) (fun hc => ?_)
 ·have hc : o.code = 1 := by simpa using hc
  conv => whnf
  refine .inr (.inr (.inr ⟨[0],by kernel_rfl,8,[],?_⟩))
  conv => whnf
  refine ⟨yC (zC t o),⟨by repeat (first | exact zN hk | refine yX ?_ (zV rfl _)),by simp [yC]⟩,?_⟩
  conv => whnf
  refine ⟨by kernel_rfl,?_⟩
  conv => whnf
  refine ⟨⟨rfl,by rw [hpl]; simp; omega,by rw [hpl]; simp; omega⟩,?_⟩
  conv => whnf
  have hd : doL s k o ⟨eth,1,eobj,-1,epc⟩ = (s.put k (zL (zC t o) o.v),⟨eth,1,eobj,-1,epc⟩) := by unfold doL; rw [hgd]; simp [hc]
  rw [hd] at hK
  dsimp only at hK
  refine hK _ (.inl ⟨zL (zC t o) o.v,s.ths,stk (zL (zC t o) o.v),hk,rfl,hgj,qI _,by simp [StL.put],⟨rfl,rfl,trivial⟩,⟨?_,?_,rfl,?_,?_,?_,?_,trivial⟩,⟨fun j => ?_,trivial⟩⟩)
  ·rw [show stRef _ = stRef s by simp [stRef,StL.put]]
   conv => lhs; whnf
   all_goals (
    refine congrArg some ?_
    repeat (refine yH ?_ (xI s rfl))
    all_goals rfl)
  ·rfl
  ·conv => lhs; whnf
   show some (Ob.ds 105 1 _) = some (Ob.ds 105 1 _)
   simp [stk,zL,zC,encF]
  ·conv => lhs; whnf
   all_goals (
    refine congrArg (fun x => some (Ob.rs 123 6 x)) ?_
    apply vI
    ·repeat (first | exact rfl | apply xO hk | apply xN (fun _ => rfl))
    ·show [_,_,_,_,_,AV.ref (.n 899) 0 ((zC t o).stack.length + 1)] = _
     simp [yC,zL]
     exact ⟨rfl,rfl,rfl,rfl,rfl⟩)
  ·rfl
  ·rfl
  ·repeat (first | exact rfl | refine hscrO ?_ (hg _ _) | conv => lhs; whnf)
 have n1 : ¬ o.code = 1 := by simpa using hc
 clear hc
 conv => whnf
 refine kbi (fun hc => ?_) (fun hc => ?_)
 ·have hc : o.code = 2 := by simpa using hc
  have hr := o2 (.inl hc)
  conv => whnf
  refine .inr (.inl ⟨4,[],?_⟩)
  conv => whnf
  refine ⟨by kernel_rfl,?_⟩
  conv => whnf
  refine .inr (.inr (.inr ⟨[0],by kernel_rfl,14,[],?_⟩))
  conv => whnf
  refine ⟨yC (zC t o),⟨by repeat (first | exact zN hk | refine yX ?_ (zV rfl _)),by simp [yC]⟩,?_⟩
  conv => whnf
  refine ⟨⟨by omega,by omega⟩,?_⟩
  conv => whnf
  refine ⟨encF (s.cells.getD o.a.toNat 0),⟨by rw [Nat.zero_add]; exact tT hr,by simp [encF]⟩,?_⟩
  conv => whnf
  refine ⟨by kernel_rfl,?_⟩
  conv => whnf
  refine ⟨⟨rfl,by rw [hpl]; simp; omega,by rw [hpl]; simp; omega⟩,?_⟩
  conv => whnf
  have hd : doL s k o ⟨eth,1,eobj,-1,epc⟩ = (s.put k (zL (zC t o) (s.cells.getD o.a.toNat 0)),⟨eth,2,o.a,(-1),epc⟩) := by unfold doL; rw [hgd]; simp [hc]
  rw [hd] at hK
  dsimp only at hK
  refine hK _ (.inl ⟨zL (zC t o) (s.cells.getD o.a.toNat 0),s.ths,stk (zL (zC t o) (s.cells.getD o.a.toNat 0)),hk,rfl,hgj,qI _,by simp [StL.put],⟨rfl,rfl,trivial⟩,⟨?_,?_,rfl,?_,?_,?_,?_,trivial⟩,⟨fun j => ?_,trivial⟩⟩)
  ·rw [show stRef _ = stRef s by simp [stRef,StL.put]]
   conv => lhs; whnf
   all_goals (
    refine congrArg some ?_
    repeat (refine yH ?_ (xI s rfl))
    all_goals rfl)
  ·rfl
  ·conv => lhs; whnf
   show some (Ob.ds 105 1 _) = some (Ob.ds 105 1 _)
   simp [stk,zL,zC,encF]
  ·conv => lhs; whnf
   all_goals (
    refine congrArg (fun x => some (Ob.rs 123 6 x)) ?_
    apply vI
    ·repeat (first | exact rfl | apply xO hk | apply xN (fun _ => rfl))
    ·show [_,_,_,_,_,AV.ref (.n 899) 0 ((zC t o).stack.length + 1)] = _
     simp [yC,zL]
     exact ⟨rfl,rfl,rfl,rfl,rfl⟩)
  ·rfl
  ·rfl
  ·repeat (first | exact rfl | refine hscrO ?_ (hg _ _) | conv => lhs; whnf)
 have n2 : ¬ o.code = 2 := by simpa using hc
 clear hc
 conv => whnf
 refine kbi (fun hc => ?_) (fun hc => ?_)
 ·have hc : o.code = 3 := by simpa using hc
  have hr := o2 (.inr hc)
  have htk : xG o = 1 := by simp [xG,zA,hc]
  conv => whnf
  refine .inr (.inl ⟨4,[],?_⟩)
  conv => whnf
  refine ⟨by kernel_rfl,?_⟩
  conv => whnf
  refine .inr (.inl ⟨9,[],?_⟩)
  conv => whnf
  refine ⟨encF (yK t o 0),⟨by omega,wL o5 (by omega),by simp [encF]⟩,?_⟩
  conv => whnf
  refine ⟨by kernel_rfl,?_⟩
  conv => whnf
  refine ⟨⟨by omega,by omega⟩,?_⟩
  conv => whnf
  have hd : doL s k o ⟨eth,1,eobj,-1,epc⟩ = ({ s with cells := s.cells.set o.a.toNat (yK t o 0) }.put k (zC t o),⟨eth,3,o.a,(-1),epc⟩) := by unfold doL; rw [hgd]; simp [hc]
  rw [hd] at hK
  dsimp only at hK
  refine hK _ (.inl ⟨zC t o,s.ths,stk t,hk,rfl,hgj,xD t o,by simp [StL.put],⟨rfl,rfl,trivial⟩,⟨?_,?_,rfl,?_,?_,?_,?_,trivial⟩,⟨fun j => ?_,trivial⟩⟩)
  ·rw [show stRef _ = stRef s by simp [stRef,StL.put]]
   conv => lhs; whnf
   all_goals (
    refine congrArg some ?_
    repeat (refine yH ?_ (xI s rfl))
    all_goals rfl)
  ·rfl
  ·rfl
  ·conv => lhs; whnf
   all_goals (
    refine congrArg (fun x => some (Ob.rs 123 6 x)) ?_
    apply vI
    ·repeat (first | exact rfl | apply xO hk | apply xN (fun _ => rfl))
    ·rfl)
  ·conv => lhs; whnf
   show some (Ob.ds 105 1 ((s.cells.map encF).set (0 + o.a.toNat) (encF (yK t o 0)))) = some (Ob.ds 105 1 ((s.cells.set o.a.toNat (yK t o 0)).map encF))
   rw [Nat.zero_add,List.map_set]
  ·rfl
  ·repeat (first | exact rfl | refine hscrO ?_ (hg _ _) | conv => lhs; whnf)
 have n3 : ¬ o.code = 3 := by simpa using hc
 clear hc
 conv => whnf
 refine kbi (fun hc => ?_) (fun hc => ?_)
 ·have hc : o.code = 10 := by simpa using hc
  conv => whnf
  have hd : doL s k o ⟨eth,1,eobj,-1,epc⟩ = (s.put k ({ zC t o with pc := o.a }),⟨eth,1,eobj,-1,epc⟩) := by unfold doL; rw [hgd]; simp [hc]
  rw [hd] at hK
  dsimp only at hK
  refine hK _ (.inl ⟨({ zC t o with pc := o.a }),s.ths,stk t,hk,rfl,hgj,xD t o,by simp [StL.put],⟨rfl,rfl,trivial⟩,⟨?_,?_,rfl,?_,?_,?_,?_,trivial⟩,⟨fun j => ?_,trivial⟩⟩)
  ·rw [show stRef _ = stRef s by simp [stRef,StL.put]]
   conv => lhs; whnf
   all_goals (
    refine congrArg some ?_
    repeat (refine yH ?_ (xI s rfl))
    all_goals rfl)
  ·rfl
  ·rfl
  ·conv => lhs; whnf
   all_goals (
    refine congrArg (fun x => some (Ob.rs 123 6 x)) ?_
    apply vI
    ·repeat (first | exact rfl | apply xO hk | apply xN (fun _ => rfl))
    ·rfl)
  ·rfl
  ·rfl
  ·repeat (first | exact rfl | refine hscrO ?_ (hg _ _) | conv => lhs; whnf)
 have n10 : ¬ o.code = 10 := by simpa using hc
 clear hc
 conv => whnf
 refine kbi (fun hc => ?_) (fun hc => ?_)
 ·have hc : o.code = 11 := by simpa using hc
  have htk : xG o = 1 := by simp [xG,zA,hc]
  conv => whnf
  refine ⟨encF (yK t o 0),⟨by omega,wL o5 (by omega),by simp [encF]⟩,?_⟩
  conv => whnf
  refine ocase (isNo_ok _) (fun hn => ?_) (fun hn => ?_)
  ·conv => whnf
   have hd : doL s k o ⟨eth,1,eobj,-1,epc⟩ = (s.put k ({ zC t o with pc := o.a }),⟨eth,1,eobj,-1,epc⟩) := by unfold doL; rw [hgd]; simp [hc]; rw [if_pos hn]
   rw [hd] at hK
   dsimp only at hK
   refine hK _ (.inl ⟨({ zC t o with pc := o.a }),s.ths,stk t,hk,rfl,hgj,xD t o,by simp [StL.put],⟨rfl,rfl,trivial⟩,⟨?_,?_,rfl,?_,?_,?_,?_,trivial⟩,⟨fun j => ?_,trivial⟩⟩)
   ·rw [show stRef _ = stRef s by simp [stRef,StL.put]]
    conv => lhs; whnf
    all_goals (
     refine congrArg some ?_
     repeat (refine yH ?_ (xI s rfl))
     all_goals rfl)
   ·rfl
   ·rfl
   ·conv => lhs; whnf
    all_goals (
     refine congrArg (fun x => some (Ob.rs 123 6 x)) ?_
     apply vI
     ·repeat (first | exact rfl | apply xO hk | apply xN (fun _ => rfl))
     ·rfl)
   ·rfl
   ·rfl
   ·repeat (first | exact rfl | refine hscrO ?_ (hg _ _) | conv => lhs; whnf)
  ·conv => whnf
   have hd : doL s k o ⟨eth,1,eobj,-1,epc⟩ = (s.put k (zC t o),⟨eth,1,eobj,-1,epc⟩) := by unfold doL; rw [hgd]; simp [hc]; rw [if_neg hn]
   rw [hd] at hK
   dsimp only at hK
   refine hK _ (.inl ⟨zC t o,s.ths,stk t,hk,rfl,hgj,xD t o,by simp [StL.put],⟨rfl,rfl,trivial⟩,⟨?_,?_,rfl,?_,?_,?_,?_,trivial⟩,⟨fun j => ?_,trivial⟩⟩)
   ·rw [show stRef _ = stRef s by simp [stRef,StL.put]]
    conv => lhs; whnf
    all_goals (
     refine congrArg some ?_
     repeat (refine yH ?_ (xI s rfl))
     all_goals rfl)
   ·rfl
   ·rfl
   ·conv => lhs; whnf
    all_goals (
     refine congrArg (fun x => some (Ob.rs 123 6 x)) ?_
     apply vI
     ·repeat (first | exact rfl | apply xO hk | apply xN (fun _ => rfl))
     ·rfl)
   ·rfl
   ·rfl
   ·repeat (first | exact rfl | refine hscrO ?_ (hg _ _) | conv => lhs; whnf)
 have n11 : ¬ o.code = 11 := by simpa using hc
 clear hc
 conv => whnf
 refine kbi (fun hc => ?_) (fun hc => ?_)
 ·have hc : o.code = 12 := by simpa using hc
  have hr := o3 (.inl hc)
  conv => whnf
  refine .inr (.inl ⟨4,[],?_⟩)
  conv => whnf
  refine ⟨by kernel_rfl,?_⟩
  conv => whnf
  refine .inr (.inl ⟨7,[],?_⟩)
  conv => whnf
  refine ⟨by kernel_rfl,?_⟩
  conv => whnf
  refine ⟨⟨by omega,by omega⟩,?_⟩
  conv => whnf
  have hd : doL s k o ⟨eth,1,eobj,-1,epc⟩ = ({ s with owner := s.owner.set o.a.toNat ((k : Nat) : Int) }.put k (zC t o),⟨eth,4,o.a,(-1),epc⟩) := by unfold doL; rw [hgd]; simp [hc]
  rw [hd] at hK
  dsimp only at hK
  refine hK _ (.inl ⟨zC t o,s.ths,stk t,hk,rfl,hgj,xD t o,by simp [StL.put],⟨rfl,rfl,trivial⟩,⟨?_,?_,rfl,?_,?_,?_,?_,trivial⟩,⟨fun j => ?_,trivial⟩⟩)
  ·rw [show stRef _ = stRef s by simp [stRef,StL.put]]
   conv => lhs; whnf
   all_goals (
    refine congrArg some ?_
    repeat (refine yH ?_ (xI s rfl))
    all_goals rfl)
  ·rfl
  ·rfl
  ·conv => lhs; whnf
   all_goals (
    refine congrArg (fun x => some (Ob.rs 123 6 x)) ?_
    apply vI
    ·repeat (first | exact rfl | apply xO hk | apply xN (fun _ => rfl))
    ·rfl)
  ·rfl
  ·conv => lhs; whnf
   show some (Ob.ds 3 1 ((s.owner.map encInt).set (0 + o.a.toNat) (encInt ((k : Nat) : Int)))) = some (Ob.ds 3 1 ((s.owner.set o.a.toNat ((k : Nat) : Int)).map encInt))
   rw [Nat.zero_add,List.map_set]
  ·repeat (first | exact rfl | refine hscrO ?_ (hg _ _) | conv => lhs; whnf)
 have n12 : ¬ o.code = 12 := by simpa using hc
 clear hc
 conv => whnf
 refine kbi (fun hc => ?_) (fun hc => ?_)
 ·have hc : o.code = 13 := by simpa using hc
  have hr := o3 (.inr hc)
  conv => whnf
  refine .inr (.inl ⟨4,[],?_⟩)
  conv => whnf
  refine ⟨by kernel_rfl,?_⟩
  conv => whnf
  refine .inr (.inl ⟨6,[],?_⟩)
  conv => whnf
  refine ⟨by kernel_rfl,?_⟩
  conv => whnf
  refine ⟨⟨by omega,by omega⟩,?_⟩
  conv => whnf
  have hd : doL s k o ⟨eth,1,eobj,-1,epc⟩ = ({ s with owner := s.owner.set o.a.toNat (-1) }.put k (zC t o),⟨eth,5,o.a,(-1),epc⟩) := by unfold doL; rw [hgd]; simp [hc]
  rw [hd] at hK
  dsimp only at hK
  refine hK _ (.inl ⟨zC t o,s.ths,stk t,hk,rfl,hgj,xD t o,by simp [StL.put],⟨rfl,rfl,trivial⟩,⟨?_,?_,rfl,?_,?_,?_,?_,trivial⟩,⟨fun j => ?_,trivial⟩⟩)
  ·rw [show stRef _ = stRef s by simp [stRef,StL.put]]
   conv => lhs; whnf
   all_goals (
    refine congrArg some ?_
    repeat (refine yH ?_ (xI s rfl))
    all_goals rfl)
  ·rfl
  ·rfl
  ·conv => lhs; whnf
   all_goals (
    refine congrArg (fun x => some (Ob.rs 123 6 x)) ?_
    apply vI
    ·repeat (first | exact rfl | apply xO hk | apply xN (fun _ => rfl))
    ·rfl)
  ·rfl
  ·conv => lhs; whnf
   show some (Ob.ds 3 1 ((s.owner.map encInt).set (0 + o.a.toNat) (encInt (-1)))) = some (Ob.ds 3 1 ((s.owner.set o.a.toNat (-1)).map encInt))
   rw [Nat.zero_add,List.map_set]
  ·repeat (first | exact rfl | refine hscrO ?_ (hg _ _) | conv => lhs; whnf)
 have n13 : ¬ o.code = 13 := by simpa using hc
 clear hc
 conv => whnf
 refine kbi (fun hc => ?_) (fun hc => ?_)
 ·have hc : o.code = 14 := by simpa using hc
  conv => whnf
  refine .inr (.inl ⟨7,[],?_⟩)
  conv => whnf
  refine ⟨by kernel_rfl,?_⟩
  conv => whnf
  refine .inr (.inr (.inr ⟨[0],by kernel_rfl,12,[],?_⟩))
  conv => whnf
  refine ⟨yC (zC t o),⟨by repeat (first | exact zN hk | refine yX ?_ (zV rfl _)),by simp [yC]⟩,?_⟩
  conv => whnf
  refine ⟨by kernel_rfl,?_⟩
  conv => whnf
  refine ⟨⟨rfl,by rw [hpl]; simp; omega,by rw [hpl]; simp; omega⟩,?_⟩
  conv => whnf
  refine .inr (.inr (.inr ⟨[0],by kernel_rfl,9,[2715],?_⟩))
  conv => whnf
  refine ⟨_,kG o.a,?_⟩
  conv => whnf
  refine ⟨by kernel_rfl,?_⟩
  conv => whnf
  refine ⟨⟨fun c hc' => ?_,?_,?_⟩,?_⟩
  ·have hc' : c ∈ [[i64 o.a,i64 0,i64 1,i64 (-1),i64 (-1),AV.ref (.n 905) 0 0]] := hc'
   simp only [List.mem_singleton] at hc'
   subst hc'; rfl
  ·show (s.ths.length + 1) * 64 ≤ _
   omega
  ·show s.ths.length + 1 ≤ _
   omega
  conv => whnf
  have hd : doL s k o ⟨eth,1,eobj,-1,epc⟩ = ({ s with ths := s.ths ++ [qS o.a] }.put k (zL (zC t o) (FloatKind.f64.nearest (s.ths.length : Int))),⟨eth,6,s.ths.length,(-1),epc⟩) := by unfold doL; rw [hgd]; simp [hc]
  rw [hd] at hK
  dsimp only at hK
  refine hK _ (.inr ⟨s.ths,zL (zC t o) (FloatKind.f64.nearest (s.ths.length : Int)),o.a,hk,?_,hgj,⟨rfl,rfl,trivial⟩,⟨?_,rfl,rfl,?_,?_,rfl,rfl,rfl,trivial⟩,⟨fun j => ?_,trivial⟩⟩)
  ·simp [StL.put,List.set_append_left _ _ hk]
  ·conv => lhs; whnf
   refine congrArg (fun x => some (Ob.vs E x)) ?_
   refine spawn_vs0 (s := s) ?_ ?_ rfl rfl rfl
   ·conv => lhs; whnf
    all_goals simp [StL.put]
   all_goals (
    repeat (refine hscrL ?_ (v6 s rfl))
    all_goals rfl)
  ·conv => lhs; whnf
   show some (Ob.ds 105 1 _) = some (Ob.ds 105 1 _)
   simp [stk,zL,zC,encF]
  ·conv => lhs; whnf
   refine congrArg (fun x => some (Ob.rs 123 6 x)) ?_
   refine rY rfl ?_ rfl rfl
   apply vI
   ·repeat (first | exact rfl | apply xO hk | apply xN (fun _ => rfl))
   ·show [_,_,_,_,_,AV.ref (.n 899) 0 ((zC t o).stack.length + 1)] = _
    simp [yC,zL]
    exact ⟨rfl,rfl,rfl,rfl,rfl⟩
  ·repeat (first | exact rfl | refine hscrO ?_ (hg _ _) | conv => lhs; whnf)
 have n14 : ¬ o.code = 14 := by simpa using hc
 clear hc
 conv => whnf
 refine kbi (fun hc => ?_) (fun hc => ?_)
 ·have hc : o.code = 15 := by simpa using hc
  have htk : xG o = 1 := by simp [xG,zA,hc]
  obtain ⟨jj,hj1,hj2⟩ := hjo hc
  conv => whnf
  refine .inr (.inl ⟨14,[],?_⟩)
  conv => whnf
  refine ⟨encF (yK t o 0),⟨by omega,wL o5 (by omega),by simp [encF]⟩,?_⟩
  conv => whnf
  refine ⟨_,hI _ _,?_⟩
  conv => whnf
  refine ⟨by kernel_rfl,?_⟩
  conv => whnf
  have hd : doL s k o ⟨eth,1,eobj,-1,epc⟩ = (s.put k (zC t o),⟨eth,7,(zS s t).getD (-1),(-1),epc⟩) := by unfold doL; rw [hgd]; simp [hc]
  rw [hd] at hK
  dsimp only at hK
  refine hK _ (.inl ⟨zC t o,s.ths,stk t,hk,rfl,hgj,xD t o,by simp [StL.put],⟨rfl,rfl,trivial⟩,⟨?_,?_,rfl,?_,?_,?_,?_,trivial⟩,⟨fun j => ?_,trivial⟩⟩)
  ·rw [show stRef _ = stRef s by simp [stRef,StL.put]]
   conv => lhs; whnf
   all_goals (
    refine congrArg some ?_
    repeat (refine yH ?_ (xI s rfl))
    all_goals rfl)
  ·conv => lhs; whnf
   show some (Ob.vs 120 [i64 eth,i64 7,i64 ((yP (yK t o 0) s.ths.length).getD 0),i64 (-1),i64 epc]) = some (Ob.vs 120 [i64 eth,i64 7,i64 ((zS s t).getD (-1)),i64 (-1),i64 epc])
   rw [hj1,hj2]
   rfl
  ·rfl
  ·conv => lhs; whnf
   all_goals (
    refine congrArg (fun x => some (Ob.rs 123 6 x)) ?_
    apply vI
    ·repeat (first | exact rfl | apply xO hk | apply xN (fun _ => rfl))
    ·rfl)
  ·rfl
  ·rfl
  ·repeat (first | exact rfl | refine hscrO ?_ (hg _ _) | conv => lhs; whnf)
 have n15 : ¬ o.code = 15 := by simpa using hc
 clear hc
 conv => whnf
 refine kbi (fun hc => ?_) (fun hc => ?_)
 ·have hc : o.code = 16 := by simpa using hc
  have hr := o4 hc
  conv => whnf
  refine .inr (.inl ⟨8,[],?_⟩)
  conv => whnf
  refine ⟨by kernel_rfl,?_⟩
  conv => whnf
  refine .inr (.inl ⟨6,[],?_⟩)
  conv => whnf
  refine ⟨by kernel_rfl,?_⟩
  conv => whnf
  refine ⟨⟨by omega,by omega⟩,?_⟩
  conv => whnf
  refine ⟨yC (zC t o),⟨by repeat (first | exact zN hk | refine yX ?_ (zV rfl _)),by simp [yC]⟩,?_⟩
  conv => whnf
  refine .inr (.inr (.inr ⟨[0,1,2],by kernel_rfl,by kernel_rfl,by kernel_rfl,13,[],?_⟩))
  conv => whnf
  refine ⟨by kernel_rfl,?_⟩
  conv => whnf
  have hd : doL s k o ⟨eth,1,eobj,-1,epc⟩ = ({ s with owner := s.owner.set o.b.toNat (-1) }.put k ({ zC t o with st := 3,cond := o.a,lock := o.b,pc := (zC t o).pc - 1 }),⟨eth,8,o.a,o.b,epc⟩) := by unfold doL; rw [hgd]; simp [hc]
  rw [hd] at hK
  dsimp only at hK
  refine hK _ (.inl ⟨({ zC t o with st := 3,cond := o.a,lock := o.b,pc := (zC t o).pc - 1 }),s.ths,stk t,hk,rfl,hgj,xD t o,by simp [StL.put],⟨rfl,rfl,trivial⟩,⟨?_,?_,rfl,?_,?_,?_,?_,trivial⟩,⟨fun j => ?_,trivial⟩⟩)
  ·rw [show stRef _ = stRef s by simp [stRef,StL.put]]
   conv => lhs; whnf
   all_goals (
    refine congrArg some ?_
    repeat (refine yH ?_ (xI s rfl))
    all_goals rfl)
  ·rfl
  ·rfl
  ·conv => lhs; whnf
   all_goals (
    refine congrArg (fun x => some (Ob.rs 123 6 x)) ?_
    apply vI
    ·repeat (first | exact rfl | apply xO hk | apply xN (fun _ => rfl))
    ·have ew : IntKind.i64.wrap (t.pc + 1 - 1) = t.pc + 1 - 1 := zE (by have := hpc.1; omega) (by have := hpc.2; omega)
     show [_,AV.d (.int .i64 (IntKind.i64.wrap (t.pc + 1 - 1))),_,_,_,_] = _
     rw [ew]
     rfl)
  ·rfl
  ·conv => lhs; whnf
   show some (Ob.ds 3 1 ((s.owner.map encInt).set (0 + o.b.toNat) (encInt (-1)))) = some (Ob.ds 3 1 ((s.owner.set o.b.toNat (-1)).map encInt))
   rw [Nat.zero_add,List.map_set]
  ·repeat (first | exact rfl | refine hscrO ?_ (hg _ _) | conv => lhs; whnf)
 have n16 : ¬ o.code = 16 := by simpa using hc
 clear hc
 conv => whnf
 refine kbi (fun hc => ?_) (fun hc => ?_)
 ·have hc : o.code = 17 := by simpa using hc
  have hcall : CallsTo EE 184 [sl ((s.ths.set k (zC t o)).map zF),.fn 185 [.fp (encOp o)]] (· = i64 (dX (wH s.ths o.a))) := by
   rw [← rO hk (t' := zC t o) o.a hst3 (by rw [ht0]; exact hst3)]
   exact kI _ (by simp; omega) 185 _ (.inr ⟨_,rfl⟩) (fun t => t.st == 3 && t.cond == o.a) (fun u _ => nZ u o)
  conv => whnf
  refine .inr (.inl ⟨4,[],?_⟩)
  conv => whnf
  refine ⟨by kernel_rfl,?_⟩
  conv => whnf
  refine .inl ⟨[sl ((s.ths.set k (zC t o)).map zF),.fn 185 [.fp (encOp o)]],[],_,⟨_,_,rfl,⟨_,rfl,dJ (l := s.ths) (k := k) (t := zC t o) (els := stk t) hk ?_ ?_ ?_ (xD t o)⟩,_,_,rfl,rfl,rfl⟩,rfl,hcall,?_⟩
  ·conv => lhs; whnf
   refine congrArg (fun x => some (Ob.rs 123 6 x)) ?_
   repeat (first | exact rfl | refine uR ?_ rfl (fun _ => rfl))
  ·intro j hj hjl
   refine Eq.trans (b := g j) ?_ ((hgj j hj).trans (by simp [zR,hjl]))
   repeat (first | exact rfl | refine hscrO ?_ (hg _ _) | conv => lhs; whnf)
  ·rfl
  rintro r rfl
  refine ⟨rfl,?_⟩
  cases hwk : wH s.ths o.a with
  |none =>
   conv => whnf
   refine kbi (fun hw => ?_) (fun hw => ?_)
   ·simp [dX] at hw
   conv => whnf
   have hd : doL s k o ⟨eth,1,eobj,-1,epc⟩ = (s.put k (zC t o),⟨eth,10,o.a,(-1),epc⟩) := by unfold doL; rw [hgd]; simp [hc,hwk]
   rw [hd] at hK
   dsimp only at hK
   refine hK _ (.inl ⟨zC t o,s.ths,stk t,hk,rfl,hgj,xD t o,by simp [StL.put],⟨rfl,rfl,trivial⟩,⟨?_,?_,rfl,?_,?_,?_,?_,trivial⟩,⟨fun j => ?_,trivial⟩⟩)
   ·rw [show stRef _ = stRef s by simp [stRef,StL.put]]
    conv => lhs; whnf
    all_goals (
     refine congrArg some ?_
     repeat (refine yH ?_ (xI s rfl))
     all_goals rfl)
   ·rfl
   ·rfl
   ·conv => lhs; whnf
    all_goals (
     refine congrArg (fun x => some (Ob.rs 123 6 x)) ?_
     apply vI
     ·repeat (first | exact rfl | apply xO hk | apply xN (fun _ => rfl))
     ·rfl)
   ·rfl
   ·rfl
   ·repeat (first | exact rfl | refine hscrO ?_ (hg _ _) | conv => lhs; whnf)
  |some j =>
   obtain ⟨hjl,hj3,hjc⟩ := nW hwk
   have hjk : j ≠ k := by
    rintro rfl
    rw [ht0] at hj3; exact hst3 hj3
   conv => whnf
   refine kbi (fun hw => ?_) (fun hw => ?_)
   rotate_left 1
   ·simp [dX] at hw
   conv => whnf
   refine .inr (.inl ⟨6,[],?_⟩)
   conv => whnf
   have hd : doL s k o ⟨eth,1,eobj,-1,epc⟩ = ({ s with ths := s.ths.modify j fun u => { u with st := 4 } }.put k (zC t o),⟨eth,10,o.a,j,epc⟩) := by unfold doL; rw [hgd]; simp [hc,hwk]
   rw [hd] at hK
   dsimp only at hK
   refine ⟨by kernel_rfl,?_⟩
   conv => whnf
   refine ⟨⟨by show (0 : Int) ≤ (j : Int); omega,by show (j : Int) < s.ths.length; omega⟩,?_⟩
   conv => whnf
   refine hK _ (.inl ⟨zC t o,s.ths.modify j fun u => { u with st := 4 },stk t,by simpa using hk,rfl,fun i hi => (hgj i hi).trans (rS i).symm,xD t o,by simp [StL.put],⟨rfl,rfl,trivial⟩,⟨?_,?_,rfl,?_,?_,?_,?_,trivial⟩,⟨fun j => ?_,trivial⟩⟩)
   ·rw [show stRef _ = stRef s by simp [stRef,StL.put]]
    conv => lhs; whnf
    all_goals (
     refine congrArg some ?_
     repeat (refine yH ?_ (xI s rfl))
     all_goals rfl)
   ·rfl
   ·rfl
   ·conv => lhs; whnf
    all_goals (
     refine congrArg (fun x => some (Ob.rs 123 6 x)) ?_
     refine sD hjl hjk ?_
     repeat (first | exact rfl | refine uR ?_ rfl (fun _ => rfl)))
   ·rfl
   ·rfl
   ·repeat (first | exact rfl | refine hscrO ?_ (hg _ _) | conv => lhs; whnf)
 have n17 : ¬ o.code = 17 := by simpa using hc
 clear hc
 conv => whnf
 have hcode : 4 ≤ o.code ∧ o.code ≤ 9 := by have := o1.1; have := o1.2; omega
 have htk : xG o = 2 := by simp only [xG,zA]; rw [if_neg (by omega),if_neg (by omega),if_pos hcode]; rfl
 refine .inr (.inr (.inr ⟨[0],by kernel_rfl,15,[],?_⟩))
 conv => whnf
 refine ⟨yC (zC t o),⟨by repeat (first | exact zN hk | refine yX ?_ (zV rfl _)),by simp [yC]⟩,?_⟩
 conv => whnf
 refine ⟨encF (yK t o 0),⟨by omega,wL o5 (by omega),by simp [encF]⟩,?_⟩
 conv => whnf
 refine ⟨encF (yK t o 1),⟨by omega,wL o5 (by omega),by simp [encF]⟩,?_⟩
 conv => whnf
 refine ⟨_,aB _ _ _ hcode (lA hfl) (lA hfl),?_⟩
 conv => whnf
 refine ⟨by kernel_rfl,?_⟩
 conv => whnf
 refine ⟨⟨rfl,by rw [hpl]; simp; omega,by rw [hpl]; simp; omega⟩,?_⟩
 conv => whnf
 have hd : doL s k o ⟨eth,1,eobj,-1,epc⟩ = (s.put k (zL (zC t o) (yL o.code (yK t o 0) (yK t o 1))),⟨eth,1,eobj,-1,epc⟩) := by unfold doL; rw [hgd]; simp [n1,n2,n3,n10,n11,n12,n13,n14,n15,n16,n17]
 rw [hd] at hK
 dsimp only at hK
 refine hK _ (.inl ⟨zL (zC t o) (yL o.code (yK t o 0) (yK t o 1)),s.ths,stk (zL (zC t o) (yL o.code (yK t o 0) (yK t o 1))),hk,rfl,hgj,qI _,by simp [StL.put],⟨rfl,rfl,trivial⟩,⟨?_,?_,rfl,?_,?_,?_,?_,trivial⟩,⟨fun j => ?_,trivial⟩⟩)
 ·rw [show stRef _ = stRef s by simp [stRef,StL.put]]
  conv => lhs; whnf
  all_goals (
   refine congrArg some ?_
   repeat (refine yH ?_ (xI s rfl))
   all_goals rfl)
 ·rfl
 ·conv => lhs; whnf
  show some (Ob.ds 105 1 _) = some (Ob.ds 105 1 _)
  simp [stk,zL,zC,encF]
 ·conv => lhs; whnf
  all_goals (
   refine congrArg (fun x => some (Ob.rs 123 6 x)) ?_
   apply vI
   ·repeat (first | exact rfl | apply xO hk | apply xN (fun _ => rfl))
   ·show [_,_,_,_,_,AV.ref (.n 899) 0 ((zC t o).stack.length + 1)] = _
    simp [yC,zL]
    exact ⟨rfl,rfl,rfl,rfl,rfl⟩)
 ·rfl
 ·rfl
 ·repeat (first | exact rfl | refine hscrO ?_ (hg _ _) | conv => lhs; whnf)
theorem doI_okA0 (hI : yN) (E : TypeId) (s : StL) (k : Nat) (o : OpL) (e : Ev) (hk : k < s.ths.length) (h5 : s.ths.length ≤ 5)
  (hs : s.small) (ho : o.fits s s.ths[k]) (hpc : InR s.ths[k].pc 0 1048576) (hst3 : s.ths[k].st ≠ 3) (he : e.kind = 1) (hel : e.lock = -1) (hfl : ∀ x ∈ s.ths[k].stack,x < 18446744073709551616) (hjo : o.code = 15 → ∃ j,yP (yK s.ths[k] o 0) s.ths.length = some j ∧ zS s s.ths[k] = some j)
  (H0 : Key → Option Ob) (h0 : H0 (.l 0) = some (.vs E ([] ++ stRef s))) (h1 : H0 (.n 899) = some (.ds 105 1 (stk s.ths[k]))) (h2 : H0 (.n 900) = some (.rs 123 6 (rowsA s.ths k s.ths[k]))) (h3 : ∀ j,H0 (.s 900 j) = fam0 s.ths k j)
  (h4 : H0 (.n 901) = some (.ds 105 1 (s.cells.map encF))) (h6 : H0 (.n 902) = some (.ds 3 1 (s.owner.map encInt))) :
  IOCall EE 153 [.ptr (.l 0) 0,i64 k,agg (encOp o),agg (encEv e)] H0 (doIPost E [] k (doL s k o e).1 (doL s k o e).2) := by
 refine io_of_AW (fn := Tryz.f153) (c := Tryz.f153.body.getD .skip) Tryz.func153 rfl (by kernel_rfl) rfl ?_
 have hat : At [(0,.ptr (.l 0) 0),(1,i64 k),(2,agg (encOp o)),(3,agg (encEv e))] [(.l 0,.vs E ([] ++ stRef s)),(.n 899,.ds 105 1 (stk s.ths[k])),(.n 900,.rs 123 6 (rowsA s.ths k s.ths[k])),(.n 901,.ds 105 1 (s.cells.map encF)),(.n 902,.ds 3 1 (s.owner.map encInt))] [(900,fam0 s.ths k)]
   ⟨fun i => [AV.ptr (.l 0) 0,i64 k,agg (encOp o),agg (encEv e)].getD i .junk,H0⟩ :=
  ⟨⟨rfl,rfl,rfl,rfl,trivial⟩,⟨h0,h1,h2,h4,h6,trivial⟩,⟨h3,trivial⟩⟩
 obtain ⟨τ,H,hf⟩ := hat.form
 rw [hf]
 have hst := hs.2.1 _ (List.getElem_mem hk)
 have hgk : fam0 s.ths k k = none := by unfold fam0; rw [nbeq_self]; rfl
 refine kJ 7 (At (doI1 0 k o s.ths[k]) (doIO E [] s k o e s.ths[k] (zC s.ths[k] o)) [(900,fam0 s.ths k)]) (fun K hK => doI_preB0 E (fam0 s.ths k) (yV _ _) s k o e hk s.ths[k] ho.2.2.2.2 hst hpc τ H _ K hK) (fun S hS => ?_)
 refine kJ 1 (DoI2 E [] (fam0 s.ths k) k (doL s k o e).1 (doL s k o e).2) (fun K hK => doI_swB0 hI E (fam0 s.ths k) (yV _ _) s k o e hk h5 (fun j hj => by unfold fam0; rw [nbeq_ne hj]; rfl) hs ho hpc hst3 he hel hfl hjo _ K S hS hK) (fun S' hS' => ?_)
 have hp : InertL [] := fun x hx => by cases hx
 rcases hS' with ⟨t',h⟩ | ⟨l',t',r,h⟩
 ·exact doI_fin E _ hp _ k (yV _ _) (r3 _ _ _) hgk _ _ S' t' h
 ·exact s6 E _ hp _ k (yV _ _) (kY _ _) hgk _ _ S' l' t' r h
theorem stepI_A0 (hI : yN) (E : TypeId) (p : ProgL) (s : StL) (k : Nat) (hp : p.wf) (hk : k < s.ths.length) (h5 : s.ths.length ≤ 5)
  (hs : s.small) (hr : s.ths[k].ready p s k) (hst3 : s.ths[k].st ≠ 3) (hfl : ∀ x ∈ s.ths[k].stack,x < 18446744073709551616) (hjo : ∀ o,zZ p s.ths[k] = some o → zT s k o = 0 → o.code = 15 → ∃ j,yP (yK s.ths[k] o 0) s.ths.length = some j ∧ zS s s.ths[k] = some j)
  (H0 : Key → Option Ob) (h0 : H0 (.l 0) = some (.vs E ([] ++ stRef s))) (h1 : H0 (.n 899) = some (.ds 105 1 (stk s.ths[k]))) (h2 : H0 (.n 900) = some (.rs 123 6 (rowsA s.ths k s.ths[k]))) (h3 : ∀ j,H0 (.s 900 j) = fam0 s.ths k j)
  (h4 : H0 (.n 901) = some (.ds 105 1 (s.cells.map encF))) (h6 : H0 (.n 902) = some (.ds 3 1 (s.owner.map encInt))) :
  IOCall EE 115 [.ptr (.l 0) 0,agg (encProg p),i64 k] H0 (doIPost E [] k (stepL p s k).1 (stepL p s k).2) := by
 refine io_of_AW (fn := Tryz.f115) (c := Tryz.f115.body.getD .skip) Tryz.func115 rfl (by kernel_rfl) rfl ?_
 have hat : At [(0,.ptr (.l 0) 0),(1,agg (encProg p)),(2,i64 k)] [(.l 0,.vs E ([] ++ stRef s)),(.n 899,.ds 105 1 (stk s.ths[k])),(.n 900,.rs 123 6 (rowsA s.ths k s.ths[k])),(.n 901,.ds 105 1 (s.cells.map encF)),(.n 902,.ds 3 1 (s.owner.map encInt))] [(900,fam0 s.ths k)]
   ⟨fun i => [AV.ptr (.l 0) 0,agg (encProg p),i64 k].getD i .junk,H0⟩ :=
  ⟨⟨rfl,rfl,rfl,trivial⟩,⟨h0,h1,h2,h4,h6,trivial⟩,⟨h3,trivial⟩⟩
 obtain ⟨τ,H,hf⟩ := hat.form
 rw [hf]
 have hst := hs.2.1 _ (List.getElem_mem hk)
 have hgd : s.ths.getD k th0 = s.ths[k] := by simp [List.getD_eq_getElem?_getD,hk]
 have hp3 : InertL [] := fun x hx => by cases hx
 have hpc := hr.pc
 clear hat hf h0 h1 h2 h3 h4 h6
 generalize ht0 : s.ths[k] = t at *
 conv => whnf
 refine ⟨⟨by omega,by omega⟩,?_⟩
 conv => whnf
 refine ⟨yC t,⟨by repeat (first | exact zN hk | refine yX ?_ (zV rfl t)),by simp [yC]⟩,?_⟩
 conv => whnf
 refine .inr (.inl ⟨10,[],?_⟩)
 conv => whnf
 refine ⟨yC t,⟨by repeat (first | exact zN hk | refine yX ?_ (zV rfl t)),by simp [yC]⟩,?_⟩
 conv => whnf
 refine ⟨_,Eq.mp (congrArg (fun x => CallsTo EE 151 [agg (encProg p),.agg [i64 t.rt,i64 t.pc,i64 t.st,i64 t.cond,i64 t.lock,sl x]] _) (qI t).symm) (sL p t hp hr.inP),?_,?_⟩
 ·intro c hc
  simp only [List.mem_cons,List.not_mem_nil,or_false] at hc
  rcases hc with rfl | rfl
  ·exact .inr ⟨encOp _,rfl,rfl⟩
  ·exact .inl ⟨_,rfl,rfl⟩
 conv => whnf
 refine ⟨by kernel_rfl,?_⟩
 conv => whnf
 refine ⟨yC t,⟨by repeat (first | exact zN hk | refine yX ?_ (zV rfl t)),by simp [yC]⟩,?_⟩
 conv => whnf
 have hp3 : InertL [] := fun x hx => by cases hx
 refine kbi (fun h4 => ?_) (fun h4 => ?_)
 ·have h4 : t.st = 4 := by simpa using h4
  have hlk := hr.lock h4
  have hd : stepL p s k = ({ s with owner := s.owner.set t.lock.toNat ((k : Nat) : Int) }.put k { t with st := 1,cond := -1,lock := -1,pc := if (zZ p t).isSome = true then t.pc + 1 else t.pc },{ ev0 k t with kind := 9,obj := t.cond,lock := t.lock }) := by
   unfold stepL; rw [hgd,if_pos h4]
  conv => whnf
  refine .inr (.inl ⟨12,[],?_⟩)
  conv => whnf
  refine ⟨yC t,⟨by repeat (first | exact zN hk | refine yX ?_ (zV rfl _)),by simp [yC]⟩,?_⟩
  conv => whnf
  refine ⟨yC t,⟨by repeat (first | exact zN hk | refine yX ?_ (zV rfl _)),by simp [yC]⟩,?_⟩
  conv => whnf
  refine ⟨by kernel_rfl,?_⟩
  conv => whnf
  refine .inr (.inl ⟨9,[],?_⟩)
  conv => whnf
  refine ⟨yC t,⟨by repeat (first | exact zN hk | refine yX ?_ (zV rfl _)),by simp [yC]⟩,?_⟩
  conv => whnf
  refine ⟨by kernel_rfl,?_⟩
  conv => whnf
  refine ⟨⟨by omega,by omega⟩,?_⟩
  conv => whnf
  refine .inr (.inl ⟨7,[],?_⟩)
  conv => whnf
  refine ⟨yC { t with st := 1,cond := -1,lock := -1 },⟨yX (sE hk ?_) (zV rfl _),by simp [yC]⟩,?_⟩
  ·apply vI
   ·repeat (first | exact rfl | apply xO hk | apply xN (fun _ => rfl))
   ·rfl
  conv => whnf
  refine ⟨_,uY _,?_⟩
  conv => whnf
  refine ⟨by kernel_rfl,?_⟩
  conv => whnf
  refine ⟨_,Weak.refl,?_⟩
  conv => whnf
  rw [hd]
  refine ⟨xY,by rfl,?_⟩
  refine vX hp3 (l := s.ths) (t' := { t with st := 1,cond := -1,lock := -1,pc := if (zZ p t).isSome = true then t.pc + 1 else t.pc }) hk rfl ?_ ?_ ?_ (fun j => ?_) ?_ ?_
  ·refine Eq.trans ?_ (congrArg (fun x => some (Ob.vs E ([] ++ x))) (show stRef s = stRef _ by simp [stRef,StL.put]))
   conv => lhs; whnf
   all_goals (
    refine congrArg some ?_
    repeat (refine yH ?_ (xI s rfl))
    all_goals rfl)
  ·rfl
  ·conv => lhs; whnf
   all_goals (
    refine congrArg (fun x => some (Ob.rs 123 6 x)) ?_
    apply vI
    ·repeat (first | exact rfl | apply xO hk | apply xN (fun _ => rfl))
    ·have ew : IntKind.i64.wrap (t.pc + (if (zZ p t).isSome = true then 1 else 0)) = (if (zZ p t).isSome = true then t.pc + 1 else t.pc) := by have a := hpc.1; have b := hpc.2; split <;> rw [zE (by omega) (by omega)]; omega
     show [_,AV.d (.int .i64 (IntKind.i64.wrap (t.pc + (if (zZ p t).isSome = true then 1 else 0)))),_,_,_,_] = _
     rw [ew]
     rfl)
  ·repeat (first | exact rfl | refine hscrO ?_ (yV _ _ _ _) | conv => lhs; whnf)
  ·rfl
  ·conv => lhs; whnf
   show some (Ob.ds 3 1 ((s.owner.map encInt).set (0 + t.lock.toNat) (encInt ((k : Nat) : Int)))) = some (Ob.ds 3 1 ((s.owner.set t.lock.toNat ((k : Nat) : Int)).map encInt))
   rw [Nat.zero_add,List.map_set]
 have h4 : ¬ t.st = 4 := by simpa using h4
 cases hn : zZ p t with
 |none =>
  conv => whnf
  have hd : stepL p s k = (s.put k { t with st := 2 },{ ev0 k t with kind := 11 }) := by
   unfold stepL; rw [hgd]; simp [h4,hn]
  refine ⟨_,Weak.refl,?_⟩
  conv => whnf
  rw [hd]
  refine ⟨xY,by rfl,?_⟩
  refine vX hp3 (l := s.ths) (t' := { t with st := 2 }) hk rfl ?_ ?_ ?_ (fun j => ?_) ?_ ?_
  ·refine Eq.trans ?_ (congrArg (fun x => some (Ob.vs E ([] ++ x))) (show stRef s = stRef _ by simp [stRef,StL.put]))
   conv => lhs; whnf
   all_goals (
    refine congrArg some ?_
    repeat (refine yH ?_ (xI s rfl))
    all_goals rfl)
  ·rfl
  ·conv => lhs; whnf
   all_goals (
    refine congrArg (fun x => some (Ob.rs 123 6 x)) ?_
    apply vI
    ·repeat (first | exact rfl | apply xO hk | apply xN (fun _ => rfl))
    ·rfl)
  ·repeat (first | exact rfl | refine hscrO ?_ (yV _ _ _ _) | conv => lhs; whnf)
  ·rfl
  ·rfl
 |some o =>
  obtain ⟨hoS,hoF⟩ := hr.op o hn
  conv => whnf
  refine .inl ⟨[.fp (encSt s),i64 k,agg (encOp o)],[],_,⟨_,_,rfl,FzA_ptr (E := E) (cs := [] ++ stRef s) ?_ (fz_stA (k := k) (t := t) (els := stk t) hk ht0 ?_ (fun j hj hjl => ?_) rfl (by simp [stk,List.take_of_length_le]) ?_ ?_),_,_,rfl,rfl,_,_,rfl,⟨encOp o,rfl,_,_,rfl,rfl,_,_,rfl,rfl,_,_,rfl,rfl,_,_,rfl,rfl,rfl⟩,rfl⟩,rfl,eP hI s k o hk hs hoS,?_⟩
  ·conv => lhs; whnf
   all_goals (
    refine congrArg some ?_
    repeat (refine yH ?_ (xI s rfl))
    all_goals rfl)
  ·conv => lhs; whnf
   all_goals (
    refine congrArg (fun x => some (Ob.rs 123 6 x)) ?_
    repeat (first | exact rfl | refine uR ?_ rfl (fun _ => rfl)))
  ·refine Eq.trans (b := fam0 s.ths k j) ?_ (by simp [fam0,nbeq_ne hj,zR,hjl])
   repeat (first | exact rfl | refine hscrO ?_ (yV _ _ _ _) | conv => lhs; whnf)
  ·rfl
  ·rfl
  rintro r rfl
  refine ⟨rfl,?_⟩
  conv => whnf
  refine kbi (fun h6 => ?_) (fun h6 => ?_)
  ·have h6 : ¬ zT s k o = 0 := by simpa using h6
   have hd : stepL p s k = ({ s with fault := zT s k o },{ ev0 k t with kind := 12,obj := zT s k o }) := by
    unfold stepL; rw [hgd]; simp [h4,hn,h6]
   conv => whnf
   refine ⟨_,Weak.refl,?_⟩
   conv => whnf
   rw [hd]
   refine ⟨xY,by rfl,?_⟩
   refine vX hp3 (l := s.ths) (t' := t) hk (by show s.ths = s.ths.set k t; rw [← ht0,List.set_getElem_self]) ?_ ?_ ?_ (fun j => ?_) ?_ ?_
   ·conv => lhs; whnf
    refine congrArg some ?_
    repeat (refine yH ?_ (xI { s with fault := zT s k o } rfl))
    refine congrArg (Ob.vs E) (p8 (pre := []) ?_)
    repeat (refine hscrL ?_ (v6 s rfl))
    all_goals rfl
   ·rfl
   ·conv => lhs; whnf
    all_goals (
     refine congrArg (fun x => some (Ob.rs 123 6 x)) ?_
     apply vI
     ·repeat (first | exact rfl | apply xO hk | apply xN (fun _ => rfl))
     ·rfl)
   ·repeat (first | exact rfl | refine hscrO ?_ (yV _ _ _ _) | conv => lhs; whnf)
   ·rfl
   ·rfl
  ·have h6 : zT s k o = 0 := by simpa using h6
   have hd : stepL p s k = doL s k o (ev0 k t) := by
    unfold stepL; rw [hgd]; simp [h4,hn,h6]
   conv => whnf
   refine .inr (.inl ⟨999,99,xY,_,doI_okA0 hI E s k o { ev0 k t with kind := 1 } hk h5 hs (by rw [ht0]; exact hoF h6) (by rw [ht0]; exact hpc) (by rw [ht0]; exact hst3) rfl rfl (by rw [ht0]; exact hfl) (by rw [ht0]; exact hjo o hn h6) _ ?_ ?_ ?_ (fun j => ?_) ?_ ?_,rfl,?_⟩)
   ·conv => lhs; whnf
    refine congrArg some ?_
    repeat (first | exact rfl | refine yH ?_ (xI s rfl) | refine pO ?_ (iL hp3 s))
   ·rw [ht0]
    rfl
   ·rw [ht0]
    conv => lhs; whnf
    refine congrArg some ?_
    repeat (first | exact rfl | refine yH ?_ (gH rfl (fun _ => rfl) _ _ _) | refine pO ?_ (gI _ _ _))
   ·repeat (first | exact rfl | refine hscrO ?_ (yV _ _ _ _) | refine eF ?_ (kY _ _ _ _) | conv => lhs; whnf)
   ·rfl
   ·rfl
   rintro r H1 ⟨rfl,hk2,rfl⟩
   refine ⟨aJ,?_,?_⟩
   ·intro n hn
    have : n = 0 := by simpa [xY] using hn
    subst this
    exact ⟨E,_,_,rfl,rfl⟩
   conv => whnf
   refine ⟨_,Weak.refl,?_⟩
   conv => whnf
   rw [hd]
   refine ⟨xY,by rfl,?_⟩
   refine vX hp3 (l := (doL s k o (ev0 k t)).1.ths) (t' := (doL s k o (ev0 k t)).1.ths[k]) hk2 (List.set_getElem_self _).symm ?_ ?_ ?_ (fun j => ?_) ?_ ?_
   ·conv => lhs; whnf
    refine congrArg some ?_
    repeat (first | exact rfl | refine yH ?_ (xI _ rfl) | refine pO ?_ (iL hp3 _))
   ·rfl
   ·conv => lhs; whnf
    refine congrArg some ?_
    repeat (first | exact rfl | refine yH ?_ (gH rfl (fun _ => rfl) _ _ _) | refine pO ?_ (gI _ _ _))
   ·refine Eq.trans (b := fam0 (doL s k o (ev0 k t)).1.ths k j) ?_ rfl
    repeat (first | exact rfl | refine hscrO ?_ (yV _ _ _ _) | refine eF ?_ (kY _ _ _ _) | conv => lhs; whnf)
   ·rfl
   ·rfl
theorem stepI_ok0 (hI : yN) (E : TypeId) (p : ProgL) (s : StL) (k : Nat) (hp : p.wf) (hk : k < s.ths.length) (h5 : s.ths.length ≤ 5)
  (hs : s.small) (hr : s.ths[k].ready p s k) (hst3 : s.ths[k].st ≠ 3) (hfl : ∀ x ∈ s.ths[k].stack,x < 18446744073709551616) (hjo : ∀ o,zZ p s.ths[k] = some o → zT s k o = 0 → o.code = 15 → ∃ j,yP (yK s.ths[k] o 0) s.ths.length = some j ∧ zS s s.ths[k] = some j)
  (H0 : Key → Option Ob) (hH : AtC E [] s H0) :
  IOCall EE 115 [.ptr (.l 0) 0,agg (encProg p),i64 k] H0 (fun r H1 => r = agg (encEv (stepL p s k).2) ∧ H1 = stHC E [] (stepL p s k).1) := by
 have hp3 : InertL [] := fun x hx => by cases hx
 refine io_canon hp3 hk ?_ hH fun H0 a b c d e f => stepI_A0 hI E p s k hp hk h5 hs hr hst3 hfl hjo H0 a b c d e f
 simp only [List.map_cons,List.map_nil,agg_ren]
 rfl
end Ai
end
section
set_option maxRecDepth 100000
namespace Ai
open Go Go.Proofs Cyc
theorem oE (p : ProgL) (hp : p.wf) (hg : p.goodS) (hv : p.flt) (s : StL) (hi : AInv p s) (k : Nat) (hk : k ∈ enabledL p s) (b : Int) (sl : Bool) (d1 : List (List D)) :
  CallsTo EE 149 [.fp (encProg p ++ [di b,.sl d1,.bool sl]),agg (encSt s),i64 k] (· = agg (encEv (stepL p s k).2)) := by
 have hok := runOK hg
 refine callsTo_of_AW (fn := Tryz.f149) Tryz.func149 rfl (by kernel_rfl) rfl ?_
 conv => whnf
 refine ⟨_,eV s (hok.small s hi.si).1,?_⟩
 rintro r rfl
 conv => whnf
 have hri := runI hg hv
 have hin : SInv p s ∧ s.flt := ⟨hi.si,hi.fl⟩
 have hs := hri.small s hin
 have hkl := en_lt hk
 refine .inr (.inl ⟨7,0,lU,_,stepI_ok0 lB 76 p s k hp hkl hs.2 hs.1 (hri.ready s hin k hk hkl) (hri.awake s hin k hk hkl) (hri.flt s hin _ (List.getElem_mem hkl)) (hri.joins s hin k hk hkl) _ ⟨?_,rfl,?_,fun j => ?_,?_,?_⟩,rfl,?_⟩)
 ·show some (Ob.vs 76 [.dref (.n 900) (s.ths.map bA).length,.ref (.n 901) 0 (s.cells.map encF).length,.ref (.n 902) 0 (s.owner.map encInt).length,i64 s.fault]) = some (Ob.vs 76 [.dref (.n 900) s.ths.length,.ref (.n 901) 0 s.cells.length,.ref (.n 902) 0 s.owner.length,i64 s.fault])
  rw [List.length_map,List.length_map,List.length_map]
 ·show some (Ob.rs 123 6 ((((thRows 900 s.ths).map (scrPL (isK (.n 7)))).map (renL (swp (.n 7) (.l 0)))).map (scrPL fun o => !lU o))) = _
  rw [yE (fun _ _ => rfl),qH]
  exact congrArg (fun x => some (Ob.rs 123 6 x)) (yE fun _ _ => rfl)
 ·refine (congrArg (fun x => Option.map (scrPO (fun o => !lU o)) (Option.map (renO (swp (.n 7) (.l 0))) (Option.map (scrPO (isK (.n 7))) x))) (rH s j)).trans ?_
  show Option.map _ (Option.map _ (Option.map _ (zR s.ths j))) = _
  rw [yG,thFam_ren,yG]
 ·rfl
 ·rfl
 rintro q H1 ⟨rfl,rfl⟩
 refine ⟨aI,fun n hn => ?_,?_⟩
 ·have : n = 0 := by simpa [lU] using hn
  subst this
  exact ⟨76,_,_,rfl,rfl⟩
 conv => whnf
 rfl
end Ai
end
section
set_option maxRecDepth 100000
namespace Ai
open Go Go.Proofs Cyc
def wiC (p : ProgL) (b : Int) (sl : Bool) (n : Nat) : List AV := [i64 p.cells,i64 p.locks,i64 p.conds,.d (.sl (p.rs.map zO)),i64 b,.ref (.n 950) 0 n,bv sl]
noncomputable def wiH (p : ProgL) (b : Int) (sl : Bool) (xs : List RunT) : Key → Option Ob
 | .l j => bif Nat.beq j 0 then some (.vs 143 (wiC p b sl xs.length)) else none
 | .n j => bif Nat.beq j 950 then some (.ds 78 7 (xs.map qV)) else none
 | .s _ _ => none
def lT : Key → Bool
 | .l j => Nat.beq j 0
 | .n j => Nat.beq j 950
 | .s _ _ => false
def AtI (p : ProgL) (b : Int) (sl : Bool) (xs : List RunT) (H : Key → Option Ob) : Prop :=
 H (.l 0) = some (.vs 143 (wiC p b sl xs.length)) ∧ H (.n 950) = some (.ds 78 7 (xs.map qV))
theorem rN {p : ProgL} {b : Int} {sl : Bool} {xs : List RunT} : ∀ κ,lT κ = false → wiH p b sl xs κ = none
 | .l j,h => by have h : Nat.beq j 0 = false := h; simp [wiH,h]
 | .n j,h => by have h : Nat.beq j 950 = false := h; simp [wiH,h]
 | .s o j,h => rfl
theorem rJ {p : ProgL} {b : Int} {sl : Bool} {xs : List RunT} {H : Key → Option Ob} (h : AtI p b sl xs H) : yI lT H = wiH p b sl xs := by
 obtain ⟨h0,h1⟩ := h
 funext κ
 cases hk : lT κ with
 |false => rw [rN κ hk,bU hk]
 |true =>
  rw [wW hk]
  cases κ with
  |l j =>
   have := Nat.eq_of_beq_eq_true (show Nat.beq j 0 = true from hk)
   subst this
   rw [h0]; rfl
  |n j =>
   have := Nat.eq_of_beq_eq_true (show Nat.beq j 950 = true from hk)
   subst this; rw [h1]
   rfl
  |s o j => cases hk
theorem args5 {T T' K K' A A' B B' C C' O O' : List (List D)} {x y : AV} {c : AV} (h1 : T = T') (h2 : K = K') (h3 : A = A') (h4 : B = B') (h5 : C = C') (h6 : O = O') : [x,AV.agg [c,sl T,sl K,sl A,sl B,sl C,y],sl O] = [x,AV.agg [c,sl T',sl K',sl A',sl B',sl C',y],sl O'] := by rw [h1,h2,h3,h4,h5,h6]
def isSt (κ : Key) : Bool := match κ with | .s o _ => Nat.beq o 900 | .n k => Nat.beq k 901 || Nat.beq k 902 | .l _ => false
def yU (p : ProgL) (s : StL) (u : Nat) (e : Ev) : Prop := ¬ (u ∈ enabledL p s ∧ hangI (stepL p s u).2 e)
theorem rR {q : Key → Bool} {H : Key → Option Ob} {l : List Th} (hq : ∀ j,q (.s 900 j) = true) (hH : ∀ j,H (.s 900 j) = zR l j) : (thRows 900 l).map (dW q H) = (l.map zF).map (List.map .d) := by
 apply List.ext_getElem?
 intro j
 rw [List.getElem?_map,List.getElem?_map,List.getElem?_map]
 by_cases h : j < l.length
 ·rw [xF h,List.getElem?_eq_getElem h]
  simp [thRow,dW,frz,hq,hH,thFam_self h,i64,zF,stk,List.take_of_length_le]
 ·rw [List.getElem?_eq_none (by simp [thRows,ownRows]; omega),List.getElem?_eq_none (by omega)]
  rfl
def isF9 (κ : Key) : Bool := match κ with | .s o _ => Nat.beq o 900 | _ => false
noncomputable def wiO2 (p : ProgL) (b : Int) (sl : Bool) (r : RunT) (acc : List RunT) (L kept : List Nat) (x : RunT) (e : Ev) : List (Key × Ob) := [(.l 0,.vs 143 (wiC p b sl acc.length)),(.n 950,.ds 78 7 (acc.map qV)),(.n 4,.vs 78 ((encRun 0 r.tr r.tk r.s).map .d)),(.n 57,.ds 3 1 (L.map encN)),
 (.n 11,.vs 78 ([i64 0,.ref (.n 87) 0 x.tr.length,.ref (.n 93) 0 x.tk.length] ++ stRef x.s)),(.n 87,.ds 120 5 (x.tr.map encEv)),(.n 93,.ds 3 1 (x.tk.map encInt)),(.n 900,.rs 123 6 (thRows 900 x.s.ths)),(.n 901,.ds 105 1 (x.s.cells.map encF)),(.n 902,.ds 3 1 (x.s.owner.map encInt)),
 (.n 12,.vs 120 ((encEv e).map .d)),(.n 99,.ds 3 1 (kept.map encN))]
theorem walk_ok (p : ProgL) (hp : p.wf) (hg : p.goodS) (hv : p.flt) (b : Int) (hb : InR b 0 1000) (slp : Bool) : ∀ (n : Nat) (r : RunT) (c0 : Int) (sleep : List Nat) (xs : List RunT),XR p b r → b.toNat + 1 - r.tr.length = n → xs.length ≤ 400 → sleep.length ≤ 5 * r.tr.length →
  ∀ H0,AtI p b slp xs H0 → IOCall EE 110 [.ptr (.l 0) 0,agg (encRun c0 r.tr r.tk r.s),sl (sleep.map encN)] H0 (fun q H1 => q = bv (xgo p b slp (yU p) n r sleep xs).2 ∧ H1 = wiH p b slp (xgo p b slp (yU p) n r sleep xs).1)
 | 0,r,c0,sleep,xs,hr,hn,hx,hs,H0,hH => by
  have := hr.le
  omega
 |n + 1,r,c0,sleep,xs,hr,hn,hx,hs,H0,hH => by
  have hok := runOK hg
  have hri := runI hg hv
  have hin : SInv p r.s ∧ r.s.flt := ⟨hr.inv.si,hr.inv.fl⟩
  have hsm := hok.small r.s hr.inv.si
  have hen := r5 lB p r.s hp hsm.1 (hok.seen r.s hr.inv.si)
  have hcode : CallsTo EE 141 [agg (encProg p),.fp (encSt r.s),sl ((enabledL p r.s).map encN),i64 ((r.tr.map encEv).length : Nat),i64 b] (· = i64 (codeL p r.s r.tr.length b)) := by
   rw [List.length_map]; exact codeOf_ok p r.s r.tr.length b hsm.1
  have h5 : (enabledL p r.s).length ≤ 5 := Nat.le_trans (enabledTo_le) hr.inv.si.len
  have hle := hr.le
  have hlen := hr.len
  have hb2 := hb.2
  rw [xgo]
  refine io_of_AW (fn := Tryz.f110) (c := Tryz.f110.body.getD .skip) Tryz.func110 rfl (by kernel_rfl) rfl ?_
  have hat : At [(0,.ptr (.l 0) 0),(1,agg (encRun c0 r.tr r.tk r.s)),(2,sl (sleep.map encN))] [(.l 0,.vs 143 (wiC p b slp xs.length)),(.n 950,.ds 78 7 (xs.map qV))] [] ⟨fun i => [AV.ptr (.l 0) 0,agg (encRun c0 r.tr r.tk r.s),sl (sleep.map encN)].getD i .junk,H0⟩ :=
   ⟨⟨rfl,rfl,rfl,trivial⟩,⟨hH.1,hH.2,trivial⟩,trivial⟩
  obtain ⟨τ,H,hf⟩ := hat.form
  rw [hf]
  clear hat hf hH
  conv => whnf
  refine .inl ⟨_,hen,?_⟩
  rintro q rfl
  refine ⟨fun c hc => ?_,.inl ?_⟩
  ·obtain ⟨y,_,rfl⟩ := List.mem_map.1 hc
   rfl
  conv => whnf
  refine .inl ⟨14,by kernel_rfl,?_⟩
  conv => whnf
  refine ⟨_,hcode,rfl,?_⟩
  conv => whnf
  refine kbi (fun hc => ?_) (fun hc => ?_)
  ·have hc : codeL p r.s r.tr.length b ≠ 0 := by simpa using hc
   have hc : 0 < codeL p r.s r.tr.length b := by have := codeL_nn p r.s r.tr.length b; omega
   rw [if_pos hc]
   conv => whnf
   refine .inr (.inr (.inr ⟨[0],by kernel_rfl,7,[],?_⟩))
   conv => whnf
   refine ⟨by kernel_rfl,?_⟩
   conv => whnf
   refine ⟨⟨rfl,by show (xs.length + 1) * _ ≤ _; simp only [ti78]; omega,by show xs.length + 1 ≤ _; omega⟩,?_⟩
   conv => whnf
   have fin : ∀ (S : Key → Option Ob),S (.l 0) = some (.vs 143 (wiC p b slp (xs.length + 1))) → S (.n 950) = some (.ds 78 7 ((xs.map qV).take xs.length ++ [qV (leaf p b (codeL p r.s r.tr.length b) r)])) → AtI p b slp (xs ++ [leaf p b (codeL p r.s r.tr.length b) r]) S := by
    intro S h0 h1
    rw [List.take_of_length_le (by simp)] at h1
    exact ⟨by rw [h0,List.length_append]; rfl,by rw [h1,List.map_append]; rfl⟩
   refine kbi (fun h4 => ?_) (fun h4 => ?_)
   ·have h4 : ((xs.length + 1 : Nat) : Int) ≤ 400 := of_decide_eq_true h4
    conv => whnf
    refine ⟨_,Weak.refl,?_⟩
    conv => whnf
    refine ⟨lT,?_,rJ (fin _ rfl rfl)⟩
    show bv true = bv (decide (xs.length + 1 ≤ 400))
    rw [decide_eq_true (by omega)]
   ·have h4 : ¬ ((xs.length + 1 : Nat) : Int) ≤ 400 := fun e => h4 (decide_eq_true e)
    conv => whnf
    refine ⟨_,Weak.refl,?_⟩
    conv => whnf
    refine ⟨lT,?_,rJ (fin _ rfl rfl)⟩
    show bv false = bv (decide (xs.length + 1 ≤ 400))
    rw [decide_eq_false (by omega)]
  ·have hc : ¬ 0 < codeL p r.s r.tr.length b := by simp at hc; omega
   rw [if_neg hc]
   have hcc : codeL p r.s r.tr.length b = 0 := by have := codeL_nn p r.s r.tr.length b; omega
   have hlb := (en_ne hc).2
   have hcl : CallsTo EE 145 [sl (sleep.map encN)] (· = .uq 3 1 (sleep.map encN)) := by
    rw [natI_enc]; exact CloneS_ok (natI sleep) (by simp [natI]; omega)
   conv => whnf
   refine ⟨_,hcl,?_⟩
   rintro q rfl
   refine .inr ⟨_,rfl,?_⟩
   conv => whnf
   refine aloopF (fun x : Nat × XS => [(0,.ptr (.l 0) 0),(2,sl (sleep.map encN)),(4,.ptr (.n 4) 0),(6,bv false),(7,sl ((enabledL p r.s).map encN)),(8,.ref (.n 57) 0 (sleep ++ x.2.tried).length),(58,sl ((enabledL p r.s).map encN)),(59,i64 ((enabledL p r.s).map encN).length),(60,i64 x.1)])
    (fun x => [(.l 0,.vs 143 (wiC p b slp x.2.acc.length)),(.n 950,.ds 78 7 (x.2.acc.map qV)),(.n 4,.vs 78 ((encRun 0 r.tr r.tk r.s).map .d)),(.n 57,.ds 3 1 ((sleep ++ x.2.tried).map encN))])
    (fun _ => [(900,fun _ => none)]) (fun x => (enabledL p r.s).length - x.1) (fun x => x.2.ok = true ∧ x.1 ≤ (enabledL p r.s).length ∧ xloop p slp (yU p) (xgo p b slp (yU p) n) r sleep xs x.1 = x.2) (0,⟨xs,[],true⟩) (weak_frz isF9) ⟨rfl,rfl,rfl,rfl,rfl,?_,rfl,rfl,rfl,trivial⟩ ⟨rfl,rfl,?_,?_,trivial⟩ ⟨fun j => rfl,trivial⟩ ⟨rfl,Nat.zero_le _,rfl⟩ ?_
   ·show AV.ref (.n 57) 0 (sleep.map encN).length = .ref (.n 57) 0 (sleep ++ []).length
    simp
   ·show some (Ob.vs 78 [i64 (codeL p r.s r.tr.length b),_,_,_,_,_,_]) = some (Ob.vs 78 [i64 0,_,_,_,_,_,_])
    rw [hcc]; rfl
   ·show some (Ob.ds 3 1 (sleep.map encN)) = some (Ob.ds 3 1 ((sleep ++ []).map encN))
    simp
   rintro ⟨k,⟨acc,tried,okk⟩⟩ τ H ⟨hk0,hk,hXe⟩
   have hk0 : okk = true := hk0
   subst hk0
   have hk : k ≤ (enabledL p r.s).length := hk
   have hXe : xloop p slp (yU p) (xgo p b slp (yU p) n) r sleep xs k = ⟨acc,tried,true⟩ := hXe
   have hXl := xloop_len (p := p) (b := b) (sl := slp) (K := yU p) (n := n) (r := r) (sleep := sleep) hx k
   have hXt := xloop_tried (p := p) (sl := slp) (K := yU p) (f := xgo p b slp (yU p) n) (r := r) (sleep := sleep) (acc := xs) k hk
   rw [hXe] at hXl hXt
   have ha4 : acc.length ≤ 400 := hXl rfl
   clear hXl
   conv => whnf
   refine kbi (fun h => ?_) (fun h => ?_)
   ·have hlt : k < (enabledL p r.s).length := by simpa using h
    have hnx := xloop.eq_2 p slp (yU p) (xgo p b slp (yU p) n) r sleep xs k
    rw [hXe] at hnx
    have hm := XR.mem (b := b) hlt
    have hwl := en_lt hm
    have hnext := hr.step hg hv hc hlt
    have hst := stepI_ok lB 78 (i64 0) (.d .nil) (.d .nil) (oI _) (oI _) (oI _) p r.s (enAt p r k) hp hwl hsm.2 hsm.1 (hri.ready r.s hin _ hm hwl) (hri.awake r.s hin _ hm hwl) (hri.flt r.s hin _ (List.getElem_mem hwl)) (hri.joins r.s hin _ hm hwl)
    have hhas : CallsTo EE 146 [sl (sleep.map encN),i64 (enAt p r k : Nat)] (· = bp (((enAt p r k : Nat) : Int) ∈ natI sleep)) := by
     rw [natI_enc]; exact ContS_ok (natI sleep) _ (by simp [natI]; omega)
    have hmem : ((enAt p r k : Nat) : Int) ∈ natI sleep ↔ enAt p r k ∈ sleep := (d6 (by omega)).trans (by simp)
    have hcE := CloneE_ok r.tr (by omega)
    have hcT := Clone_ok r.tk (by omega)
    have hLu : ∀ u ∈ tried,u ∈ enabledL p r.s := hXt.2
    have htl : tried.length ≤ k := hXt.1
    have hLb : (sleep ++ tried).length ≤ 5 * r.tr.length + 5 := by simp; omega
    conv => whnf
    refine ⟨encN (enAt p r k),⟨by omega,en_get hlt,rfl⟩,?_⟩
    obtain ⟨sq,hsq⟩ : ∃ sq : Bool,sq = slp := ⟨slp,rfl⟩
    cases slp
    case' true =>
     conv => whnf
     refine ocase hhas (fun hin' => ?_) (fun hin' => ?_)
    case true.refine_1 =>
     rw [if_pos (.inr ⟨rfl,hmem.1 hin'⟩)] at hnx
     conv => whnf
     refine ⟨(k + 1,⟨acc,tried,true⟩),_,Weak.refl,⟨rfl,hlt,hnx⟩,by show (enabledL p r.s).length - (k + 1) < (enabledL p r.s).length - k; omega,⟨rfl,rfl,rfl,rfl,rfl,rfl,rfl,rfl,next_i64 hlt (by omega),trivial⟩,⟨rfl,rfl,rfl,rfl,trivial⟩,⟨fun j => rfl,trivial⟩⟩
    case' true.refine_2 => rw [if_neg (by rintro (e | ⟨_,e⟩); exact absurd e (by simp); exact hin' (hmem.2 e))] at hnx
    case' false => rw [if_neg (by rintro (e | ⟨e,_⟩); exact absurd e (by simp); exact absurd e (by simp))] at hnx
    all_goals
     conv => whnf
     refine ⟨_,eV r.s hsm.1,?_⟩
     rintro q rfl
     conv => whnf
     refine .inr (.inl ⟨11,0,lU,_,hst _ ⟨?_,rfl,?_,fun j => ?_,?_,?_⟩,rfl,?_⟩)
     ·show some (Ob.vs 78 [i64 0,.d .nil,.d .nil,.dref (.n 900) (r.s.ths.map bA).length,.ref (.n 901) 0 (r.s.cells.map encF).length,.ref (.n 902) 0 (r.s.owner.map encInt).length,i64 r.s.fault]) = some (Ob.vs 78 [i64 0,.d .nil,.d .nil,.dref (.n 900) r.s.ths.length,.ref (.n 901) 0 r.s.cells.length,.ref (.n 902) 0 r.s.owner.length,i64 r.s.fault])
      rw [List.length_map,List.length_map,List.length_map]
     ·show some (Ob.rs 123 6 ((((thRows 900 r.s.ths).map (scrPL (isK (.n 11)))).map (renL (swp (.n 11) (.l 0)))).map (scrPL fun o => !lU o))) = _
      rw [yE (fun _ _ => rfl),qH]
      exact congrArg (fun x => some (Ob.rs 123 6 x)) (yE fun _ _ => rfl)
     ·refine (congrArg (fun x => Option.map (scrPO (fun o => !lU o)) (Option.map (renO (swp (.n 11) (.l 0))) (Option.map (scrPO (isK (.n 11))) x))) (rH r.s j)).trans ?_
      show Option.map _ (Option.map _ (Option.map _ (zR r.s.ths j))) = _
      rw [yG,thFam_ren,yG]
     ·rfl
     ·rfl
     rintro q H1 ⟨rfl,rfl⟩
     refine ⟨aI,fun n hn => ?_,?_⟩
     ·have : n = 0 := by simpa [lU] using hn
      subst this
      exact ⟨78,_,_,rfl,rfl⟩
     conv => whnf
     refine .inr (.inl ⟨16,[],?_⟩)
     conv => whnf
     refine ⟨_,hcE,?_⟩
     refine .inr ⟨_,rfl,?_⟩
     conv => whnf
     refine ⟨⟨by simp [encEv],by simp; omega,by simp; omega⟩,?_⟩
     conv => whnf
     refine ⟨_,hcT,?_⟩
     refine .inr ⟨_,rfl,?_⟩
     conv => whnf
     refine ⟨⟨rfl,by simp; omega,by simp; omega⟩,?_⟩
     conv => whnf
     refine ⟨by kernel_rfl,?_⟩
     conv => whnf
     generalize hLe : sleep ++ tried = L at *
     refine aloopF (fun j : Nat => [(0,.ptr (.l 0) 0),(2,sl (sleep.map encN)),(4,.ptr (.n 4) 0),(6,bv false),(7,sl ((enabledL p r.s).map encN)),(8,.ref (.n 57) 0 L.length),(9,i64 k),(10,i64 (enAt p r k : Nat)),(11,.ptr (.n 11) 0),(12,.ptr (.n 12) 0),(13,.ref (.n 99) 0 (keptBy (yU p) r.s (L.take j) (stepL p r.s (enAt p r k)).2).length),(58,sl ((enabledL p r.s).map encN)),(59,i64 ((enabledL p r.s).map encN).length),(60,i64 k),(100,.ref (.n 57) 0 L.length),(101,i64 L.length),(102,i64 j)])
      (fun j => wiO2 p b sq r acc L (keptBy (yU p) r.s (L.take j) (stepL p r.s (enAt p r k)).2) (runBy p r k) (stepL p r.s (enAt p r k)).2)
      (fun _ => [(900,zR (runBy p r k).s.ths)]) (fun j => L.length - j) (fun j => j ≤ L.length) 0 Weak.refl ⟨rfl,rfl,rfl,rfl,rfl,rfl,rfl,rfl,rfl,rfl,rfl,rfl,rfl,rfl,rfl,rfl,rfl,trivial⟩ ⟨by rw [hsq]; rfl,rfl,rfl,rfl,?_,?_,?_,?_,?_,?_,?_,rfl,trivial⟩ ⟨fun j => ?_,trivial⟩ (Nat.zero_le _) ?_
     ·show some (Ob.vs 78 ([i64 0,.ref (.n 87) 0 ((r.tr.map encEv).length + 1),.ref (.n 93) 0 ((r.tk.map encInt).length + 1)] ++ stRef (stepL p r.s (enAt p r k)).1)) = some (Ob.vs 78 ([i64 0,.ref (.n 87) 0 (r.tr ++ [(stepL p r.s (enAt p r k)).2]).length,.ref (.n 93) 0 (r.tk ++ [(k : Int)]).length] ++ stRef (stepL p r.s (enAt p r k)).1))
      simp
     ·show some (Ob.ds 120 5 ((r.tr.map encEv).take (r.tr.map encEv).length ++ [encEv (stepL p r.s (enAt p r k)).2])) = some (Ob.ds 120 5 ((r.tr ++ [(stepL p r.s (enAt p r k)).2]).map encEv))
      rw [List.take_length,List.map_append]; rfl
     ·show some (Ob.ds 3 1 ((r.tk.map encInt).take (r.tk.map encInt).length ++ [[di (k : Int)]])) = some (Ob.ds 3 1 ((r.tk ++ [(k : Int)]).map encInt))
      rw [List.take_length,List.map_append]; rfl
     ·conv => lhs; whnf
      refine congrArg some ?_
      repeat (first | exact rfl | exact congrArg (Ob.rs 123 6) (qH 11 0 900 _) | refine yH ?_ (congrArg (Ob.rs 123 6) (yE fun _ _ => rfl)))
     ·rfl
     ·rfl
     ·rfl
     ·conv => lhs; whnf
      repeat (first | exact rfl | exact thFam_ren _ _ _ | (refine hscrO ?_ (yG _ _ _); conv => lhs; whnf))
     intro j τ H hj
     have hj : j ≤ L.length := hj
     have hkl : (keptBy (yU p) r.s (L.take j) (stepL p r.s (enAt p r k)).2).length ≤ j := Nat.le_trans (List.length_filter_le _ _) (by simp; omega)
     conv => whnf
     refine kbi (fun h => ?_) (fun h => ?_)
     ·have hjl : j < L.length := by have := of_decide_eq_true h; omega
      have hhg := hangI_ok (stepL p r.s L[j]).2 (stepL p r.s (enAt p r k)).2
      have hjt : L.take (j + 1) = L.take j ++ [L[j]] := List.take_succ_eq_append_getElem hjl
      have hkj : keptBy (yU p) r.s (L.take (j + 1)) (stepL p r.s (enAt p r k)).2 = keptBy (yU p) r.s (L.take j) (stepL p r.s (enAt p r k)).2 ++ keptBy (yU p) r.s [L[j]] (stepL p r.s (enAt p r k)).2 := by
       rw [hjt]; unfold keptBy; rw [List.filter_append]
      have hin3 : CallsTo EE 113 [sl ((enabledL p r.s).map encN),i64 (L[j] : Nat)] (· = bp (((L[j] : Nat) : Int) ∈ natI (enabledL p r.s))) := by
       rw [natI_enc]; exact ContA_ok (natI _) _ (by simp [natI]; omega)
      have hme : ((L[j] : Nat) : Int) ∈ natI (enabledL p r.s) ↔ L[j] ∈ enabledL p r.s := (d6 (by omega)).trans (by simp)
      conv => whnf
      refine ⟨⟨by omega,by omega⟩,?_⟩
      conv => whnf
      refine ⟨encN L[j],⟨by simp [hjl],Nat.le_refl _⟩,?_⟩
      conv => whnf
      refine ⟨by kernel_rfl,?_⟩
      conv => whnf
      refine qcase hin3 (fun h3 => ?_) (fun h3 => ?_)
      ·have hev := oE p hp hg hv r.s hr.inv L[j] (hme.1 h3) b sq
       conv => whnf
       refine ⟨_,hev _,fun c hc' => ?_,?_⟩
       ·obtain ⟨y,hy,rfl⟩ := List.mem_map.1 hc'
        simp only [encEv,List.mem_cons,List.not_mem_nil,or_false] at hy
        rcases hy with rfl | rfl | rfl | rfl | rfl <;> exact ⟨_,rfl,rfl⟩
       conv => whnf
       refine qcase hhg (fun hh => ?_) (fun hh => ?_)
       ·have hkn : keptBy (yU p) r.s [L[j]] (stepL p r.s (enAt p r k)).2 = [] := by simp [keptBy,yU,hh,hme.1 h3]
        rw [hkn,List.append_nil] at hkj
        conv => whnf
        refine ⟨j + 1,_,Weak.refl,hjl,by show L.length - (j + 1) < L.length - j; omega,⟨rfl,rfl,rfl,rfl,rfl,rfl,rfl,rfl,rfl,rfl,?_,rfl,rfl,rfl,rfl,rfl,next_i64 hjl (by omega),trivial⟩,⟨rfl,rfl,rfl,rfl,rfl,rfl,rfl,rfl,rfl,rfl,rfl,?_,trivial⟩,⟨fun j' => rfl,trivial⟩⟩
        ·show AV.ref (.n 99) 0 (keptBy (yU p) r.s (L.take j) _).length = .ref (.n 99) 0 (keptBy (yU p) r.s (L.take (j + 1)) _).length
         rw [hkj]
        ·show some (Ob.ds 3 1 ((keptBy (yU p) r.s (L.take j) _).map encN)) = some (Ob.ds 3 1 ((keptBy (yU p) r.s (L.take (j + 1)) _).map encN))
         rw [hkj]
       ·have hkp : yU p r.s L[j] (stepL p r.s (enAt p r k)).2 := fun e => hh e.2
        have hkn : keptBy (yU p) r.s [L[j]] (stepL p r.s (enAt p r k)).2 = [L[j]] := by simp [keptBy,hkp]
        rw [hkn] at hkj
        conv => whnf
        refine ⟨⟨rfl,by show (_ + 1) * 8 ≤ _; omega,by show _ + 1 ≤ _; omega⟩,?_⟩
        conv => whnf
        refine ⟨j + 1,_,Weak.refl,hjl,by show L.length - (j + 1) < L.length - j; omega,⟨rfl,rfl,rfl,rfl,rfl,rfl,rfl,rfl,rfl,rfl,?_,rfl,rfl,rfl,rfl,rfl,next_i64 hjl (by omega),trivial⟩,⟨rfl,rfl,rfl,rfl,rfl,rfl,rfl,?_,rfl,rfl,rfl,?_,trivial⟩,⟨fun j' => ?_,trivial⟩⟩
        ·show AV.ref (.n 99) 0 ((keptBy (yU p) r.s (L.take j) (stepL p r.s (enAt p r k)).2).length + 1) = .ref (.n 99) 0 (keptBy (yU p) r.s (L.take (j + 1)) _).length
         rw [hkj,List.length_append]; rfl
        ·show some (Ob.rs 123 6 (((thRows 900 (runBy p r k).s.ths).map (scrPL (isK (.n 122)))).map (scrPL (isK (.n 99))))) = _
         rw [yE (fun _ _ => rfl)]
         exact congrArg (fun x => some (Ob.rs 123 6 x)) (yE fun _ _ => rfl)
        ·show some (Ob.ds 3 1 (((keptBy (yU p) r.s (L.take j) (stepL p r.s (enAt p r k)).2).map encN).take _ ++ [encN L[j]])) = some (Ob.ds 3 1 ((keptBy (yU p) r.s (L.take (j + 1)) (stepL p r.s (enAt p r k)).2).map encN))
         rw [hkj,List.take_of_length_le (by simp),List.map_append]; rfl
        ·show Option.map (scrPO (isK (.n 99))) (Option.map (scrPO (isK (.n 122))) (zR (runBy p r k).s.ths j')) = zR (runBy p r k).s.ths j'
         rw [yG,yG]
      ·have hkp : yU p r.s L[j] (stepL p r.s (enAt p r k)).2 := fun e => h3 (hme.2 e.1)
       have hkn : keptBy (yU p) r.s [L[j]] (stepL p r.s (enAt p r k)).2 = [L[j]] := by simp [keptBy,hkp]
       rw [hkn] at hkj
       conv => whnf
       refine ⟨⟨rfl,by show (_ + 1) * 8 ≤ _; omega,by show _ + 1 ≤ _; omega⟩,?_⟩
       conv => whnf
       refine ⟨j + 1,_,Weak.refl,hjl,by show L.length - (j + 1) < L.length - j; omega,⟨rfl,rfl,rfl,rfl,rfl,rfl,rfl,rfl,rfl,rfl,?_,rfl,rfl,rfl,rfl,rfl,next_i64 hjl (by omega),trivial⟩,⟨rfl,rfl,rfl,rfl,rfl,rfl,rfl,?_,rfl,rfl,rfl,?_,trivial⟩,⟨fun j' => ?_,trivial⟩⟩
       ·show AV.ref (.n 99) 0 ((keptBy (yU p) r.s (L.take j) (stepL p r.s (enAt p r k)).2).length + 1) = .ref (.n 99) 0 (keptBy (yU p) r.s (L.take (j + 1)) _).length
        rw [hkj,List.length_append]; rfl
       ·show some (Ob.rs 123 6 (((thRows 900 (runBy p r k).s.ths).map (scrPL (isK (.n 122)))).map (scrPL (isK (.n 99))))) = _
        rw [yE (fun _ _ => rfl)]
        exact congrArg (fun x => some (Ob.rs 123 6 x)) (yE fun _ _ => rfl)
       ·show some (Ob.ds 3 1 (((keptBy (yU p) r.s (L.take j) (stepL p r.s (enAt p r k)).2).map encN).take _ ++ [encN L[j]])) = some (Ob.ds 3 1 ((keptBy (yU p) r.s (L.take (j + 1)) (stepL p r.s (enAt p r k)).2).map encN))
        rw [hkj,List.take_of_length_le (by simp),List.map_append]; rfl
       ·show Option.map (scrPO (isK (.n 99))) (Option.map (scrPO (isK (.n 122))) (zR (runBy p r k).s.ths j')) = zR (runBy p r k).s.ths j'
        rw [yG,yG]
     ·have hge : j = L.length := by
       have : ¬ (j : Int) < L.length := fun e => h (decide_eq_true e)
       omega
      subst hge
      have hon : keptBy (yU p) r.s (L.take L.length) (stepL p r.s (enAt p r k)).2 = keptBy (yU p) r.s L (stepL p r.s (enAt p r k)).2 := by rw [List.take_length]
      subst hsq
      have hkk : (keptBy (yU p) r.s L (stepL p r.s (enAt p r k)).2).length ≤ 5 * (runBy p r k).tr.length := by
       have : (keptBy (yU p) r.s L (stepL p r.s (enAt p r k)).2).length ≤ L.length := List.length_filter_le _ _
       have e : (runBy p r k).tr.length = r.tr.length + 1 := by simp [runBy]
       omega
      have hfu : b.toNat + 1 - (runBy p r k).tr.length = n := by
       have e : (runBy p r k).tr.length = r.tr.length + 1 := by simp [runBy]
       omega
      conv => whnf
      refine .inr (.inr (.inl ⟨_,110,[],(weak_frz (fun κ => isSt κ || isK (.n 87) κ || isK (.n 93) κ || isK (.n 99) κ)).trans ((weak_cvt (.n 900) (e := 123) (sz := 6) (els := (runBy p r k).s.ths.map zF) ?_).trans (weak_frz (isK (.n 900)))),rfl,999,99,lT,_,
       io_congr (walk_ok p hp hg hv b hb _ n (runBy p r k) 0 (keptBy (yU p) r.s L (stepL p r.s (enAt p r k)).2) acc hnext hfu ha4 hkk _ ⟨rfl,rfl⟩) ?_,rfl,?_⟩))
      ·exact congrArg (fun x => some (Ob.rs 123 6 x)) (rR (fun _ => rfl) fun j => rfl)
      ·show [AV.ptr (.l 0) 0,AV.agg [i64 0,sl _,sl _,sl _,sl _,sl _,i64 (runBy p r k).s.fault],sl _] = [AV.ptr (.l 0) 0,AV.agg [i64 0,sl _,sl _,sl _,sl _,sl _,i64 (runBy p r k).s.fault],sl _]
       refine args5 ?_ ?_ ?_ ?_ ?_ ?_
       all_goals simp [List.take_of_length_le]
      rintro q H1 ⟨rfl,rfl⟩
      refine ⟨rN,fun n hn => ?_,?_⟩
      ·have : n = 0 := Nat.eq_of_beq_eq_true hn
       subst this
       exact ⟨143,_,_,rfl,rfl⟩
      generalize hX : xgo p b _ (yU p) n (runBy p r k) (keptBy (yU p) r.s L (stepL p r.s (enAt p r k)).2) acc = X at *
      obtain ⟨ys,okk⟩ := X
      cases okk with
      |false =>
       have hfin := (xloop_stay (k := k + 1) (by rw [hnx]) (enabledL p r.s).length (by omega)).trans hnx
       rw [hfin]
       conv => whnf
       refine ⟨_,Weak.refl,?_⟩
       conv => whnf
       exact ⟨lT,rfl,rJ ⟨rfl,rfl⟩⟩
      |true =>
       conv => whnf
       refine ⟨⟨rfl,by show (L.length + 1) * 8 ≤ _; omega,by show L.length + 1 ≤ _; omega⟩,?_⟩
       conv => whnf
       refine ⟨(k + 1,⟨ys,tried ++ [enAt p r k],true⟩),_,Weak.refl,⟨rfl,hlt,hnx⟩,by show (enabledL p r.s).length - (k + 1) < (enabledL p r.s).length - k; omega,⟨rfl,rfl,rfl,rfl,rfl,?_,rfl,rfl,next_i64 hlt (by omega),trivial⟩,⟨rfl,rfl,rfl,?_,trivial⟩,⟨fun j => rfl,trivial⟩⟩
       ·show AV.ref (.n 57) 0 (L.length + 1) = .ref (.n 57) 0 (sleep ++ (tried ++ [enAt p r k])).length
        rw [← List.append_assoc,hLe,List.length_append]; rfl
       ·show some (Ob.ds 3 1 ((L.map encN).take L.length ++ [encN (enAt p r k)])) = some (Ob.ds 3 1 ((sleep ++ (tried ++ [enAt p r k])).map encN))
        rw [List.take_of_length_le (by simp),← List.append_assoc,hLe,List.map_append]; rfl
   ·have hge : k = (enabledL p r.s).length := by
     have : ¬ (k : Int) < ((enabledL p r.s).map encN).length := fun e => h (decide_eq_true e)
     simp at this; omega
    rw [← hge,hXe]
    conv => whnf
    refine ⟨_,Weak.refl,?_⟩
    conv => whnf
    exact ⟨lT,rfl,rJ ⟨rfl,rfl⟩⟩
end Ai
end
section
set_option maxRecDepth 100000
namespace Ai
open Go Go.Proofs Cyc
theorem allI_eq (p : ProgL) (b : Int) : xgo p b false (yU p) (b.toNat + 1) ⟨0,[],[],wY p⟩ [] [] = gD p b := allR_of p b _ _
theorem allI_ok (p : ProgL) (hp : p.wf) (hs : p.rs.length ≤ 1048576 ∧ ∀ x ∈ p.rs,x.length ≤ 1048576) (hv : p.flt) (b : Int) :
  CallsTo EE 65 [agg (encProg p),i64 b] (fun r => (OkX p b ∧ r = .tup [sl ((gD p b).1.map qV),bv (gD p b).2]) ∨ (¬ OkX p b ∧ r = .tup [sl [],bv false])) := by
 refine callsTo_of_AW (fn := Tryz.f65) Tryz.func65 rfl (by kernel_rfl) rfl ?_
 conv => whnf
 refine ocase (x9 p hs) (fun hg => ?_) (fun hg => ?_)
 rotate_left 1
 ·conv => whnf
  refine .inl ?_
  conv => whnf
  exact .inr ⟨fun e => hg ((aR p).1 e.1),rfl⟩
 have hg : p.goodS := (aR p).2 hg
 conv => whnf
 refine ocase (in_ok b 0 14) (fun hk => ?_) (fun hk => ?_)
 rotate_left 1
 ·conv => whnf
  refine .inl ?_
  conv => whnf
  exact .inr ⟨fun e => hk e.2,rfl⟩
 obtain ⟨b1,b2,b3,b4⟩ := hg.1
 have hr0 : XR p b ⟨0,[],[],wY p⟩ := XR.new hg hk.1
 conv => whnf
 refine ⟨_,start_ok p ⟨b1.1,by have := b1.2; omega⟩ ⟨b2.1,by have := b2.2; omega⟩,?_⟩
 rintro r rfl
 conv => whnf
 refine .inr (.inr (.inl ⟨_,110,[],(weak_frz (fun κ => isSt κ || isK (.n 21) κ || isK (.n 22) κ)).trans ((weak_cvt (.n 900) (e := 123) (sz := 6) (els := (wY p).ths.map zF) ?_).trans ((weak_frz (isK (.n 900))).trans
  ((uP (.n 19) (.n 950) 143 78 7 5 [i64 p.cells,i64 p.locks,i64 p.conds,.d (.sl (p.rs.map zO)),i64 b,.d .nil,bv false] (by intro n h; cases h) (by intro h; cases h) ?_ rfl).trans (weak_cvt (.n 950) (e := 78) (sz := 7) (els := []) ?_)))),rfl,19,0,lT,_,
   io_nil (io_congr (walk_ok p hp hg hv b ⟨hk.1,by have := hk.2; omega⟩ false (b.toNat + 1) ⟨0,[],[],wY p⟩ 0 [] [] hr0 (by simp) (by simp) (by simp) _ ?_) ?_),rfl,?_⟩))
 ·exact congrArg (fun x => some (Ob.rs 123 6 x)) (rR (fun _ => rfl) fun j => rH (wY p) j)
 ·rfl
 ·rfl
 ·exact ⟨rfl,rfl⟩
 ·show [AV.ptr (.l 0) 0,AV.agg [i64 0,sl _,sl _,sl _,sl _,sl _,i64 (wY p).fault],sl []] = [AV.ptr (.l 0) 0,AV.agg [i64 0,sl _,sl _,sl _,sl _,sl _,i64 (wY p).fault],sl []]
  refine args5 ?_ ?_ ?_ ?_ ?_ rfl
  all_goals simp [List.take_of_length_le]
 rintro q H1 ⟨rfl,rfl⟩
 refine ⟨rN,fun n hn => ?_,?_⟩
 ·have : n = 0 := Nat.eq_of_beq_eq_true hn
  subst this
  exact ⟨143,_,_,rfl,rfl⟩
 rw [allI_eq]
 conv => whnf
 refine .inl ?_
 conv => whnf
 refine .inl ⟨⟨hg,hk⟩,?_⟩
 show AV.tup [sl ((((gD p b).1.map qV).drop 0).take (gD p b).1.length),bv (gD p b).2] = _
 rw [List.drop_zero,List.take_of_length_le (by simp)]
end Ai
end
section
set_option maxRecDepth 100000
namespace Ai
open Go Go.Proofs Cyc
theorem CanI_ok (p : ProgL) (hp : p.wf) (hs : p.rs.length ≤ 1048576 ∧ ∀ x ∈ p.rs,x.length ≤ 1048576) (hv : p.flt) (b : Int) (sign : List UInt8) :
  CallsTo EE 30 [agg (encProg p),i64 b,sv sign] (· = .ownF 1 [.uq 3 1 ((uO p b sign).1.map encInt),bv (uO p b sign).2]) := by
 classical
 refine callsTo_of_AW (fn := Tryz.f30) Tryz.func30 rfl (by kernel_rfl) rfl ?_
 conv => whnf
 refine ⟨_,allI_ok p hp hs hv b,?_⟩
 rintro r (⟨hok,rfl⟩ | ⟨hn,rfl⟩)
 ·have hall := i7 hok.1 hv hok.2.1
  have hA : OkA p b ↔ (gD p b).2 = true := ⟨fun e => e.2,fun e => ⟨hok,e⟩⟩
  have hC : uO p b sign = if (gD p b).2 = true then (match (gD p b).1.find? (fun x => decide (wR p x = sign)) with | some x => (x.tk,true) | none => ([],false)) else ([],false) := by
   unfold uO
   by_cases h : OkA p b
   ·rw [if_pos h,if_pos (hA.1 h)] <;> rfl
   ·rw [if_neg h,if_neg (fun e => h (hA.2 e))]
  rw [hC]
  clear hC hA
  have hg := hok.1
  have hb := hok.2
  have hl := i6 p b
  generalize gD p b = X at *
  obtain ⟨xs,okk⟩ := X
  have hall : ∀ x ∈ xs,XEnd p b x := hall
  have hl : xs.length ≤ 401 := hl
  cases okk with
  |false =>
   conv => whnf
   refine .inr ⟨1,[.uq 3 1 [],bv false],_,[.ref (.n 900) 0 0,bv false],weak_nil 6 (.n 900) 3 1 rfl,rfl,by simp,rfl,?_,gJ ⟨rfl,trivial,trivial⟩,rfl⟩
   intro v hv
   simp only [List.mem_cons,List.not_mem_nil,or_false] at hv
   rcases hv with rfl | rfl <;> trivial
  |true =>
   conv => whnf
   refine yR (fun k : Nat => [(2,sv sign),(3,.ptr (.n 3) 0),(20,sl (xs.map qV)),(21,i64 (xs.map qV).length),(22,i64 k)])
    (fun k => [(.n 3,.vs 31 ((encProg p).map .d))]) (fun k => xs.length - k) (fun k => k ≤ xs.length ∧ ∀ x ∈ xs.take k,decide (wR p x = sign) = false) 0 .refl
    ⟨rfl,rfl,rfl,rfl,rfl,trivial⟩ ⟨rfl,trivial⟩ ⟨Nat.zero_le _,qC⟩ ?_
   rintro k τ H ⟨hk,ih⟩
   have hk : k ≤ xs.length := hk
   conv => whnf
   refine kbi (fun h => ?_) (fun h => ?_)
   ·have hlt : k < xs.length := by simpa using h
    have hx := hall _ (List.getElem_mem hlt)
    have htl : xs[k].tk.length ≤ 1048576 := by have := hx.fin.le; have := hx.fin.len; have := hb.2; omega
    conv => whnf
    refine ⟨qV xs[k],yB qV hlt rfl,?_⟩
    conv => whnf
    refine ⟨_,signOf_ok p hp hg b _ hx.fin (by have := hb.2; omega),?_⟩
    rintro r rfl
    conv => whnf
    refine kbi (fun h1 => ?_) (fun h1 => ?_)
    ·have h1 : wR p xs[k] = sign := by simpa using h1
     have hf := find_at hlt ih (decide_eq_true h1)
     conv => whnf
     refine ⟨_,Clone_ok xs[k].tk htl,?_⟩
     rintro r rfl
     refine .inr ⟨_,rfl,?_⟩
     conv => whnf
     refine .inr ⟨1,[.uq 3 1 (xs[k].tk.map encInt),bv true],_,[.ref (.n 900) 0 xs[k].tk.length,bv true],vD 33 900,?_,by simp,?_,?_,gJ ⟨rfl,trivial,trivial⟩,?_⟩
     ·show some [AV.ref (.n 900) 0 (xs[k].tk.map encInt).length,bv true] = _
      rw [List.length_map]
     ·show AV.tup [.ref (.n 900) 0 (xs[k].tk.map encInt).length,bv true] = _
      rw [List.length_map]
     ·intro v hv
      simp only [List.mem_cons,List.not_mem_nil,or_false] at hv
      rcases hv with rfl | rfl <;> trivial
     ·show _ = AV.ownF 1 [.uq 3 1 ((match xs.find? (fun x => decide (wR p x = sign)) with | some x => (x.tk,true) | none => ([],false)).1.map encInt),bv (match xs.find? (fun x => decide (wR p x = sign)) with | some x => (x.tk,true) | none => ([],false)).2]
      rw [hf]
    ·have h1 : ¬ wR p xs[k] = sign := fun e => h1 (by simpa using e)
     conv => whnf
     refine ⟨k + 1,⟨hlt,fun x hx => ?_⟩,by show xs.length - (k + 1) < xs.length - k; omega,⟨rfl,rfl,rfl,rfl,next_i64 hlt (by omega),trivial⟩,⟨rfl,trivial⟩⟩
     rw [List.take_succ_eq_append_getElem hlt] at hx
     rcases List.mem_append.1 hx with e | e
     ·exact ih x e
     ·simp only [List.mem_cons,List.not_mem_nil,or_false] at e
      subst e; exact decide_eq_false h1
   ·have hge : k = xs.length := by
     have : ¬ (k : Int) < (xs.map qV).length := fun e => h (decide_eq_true e)
     simp at this; omega
    have hf : xs.find? (fun x => decide (wR p x = sign)) = none := nI (by rw [hge,List.take_length] at ih; exact ih)
    conv => whnf
    refine .inr ⟨1,[.uq 3 1 [],bv false],_,[.ref (.n 900) 0 0,bv false],weak_nil 6 (.n 900) 3 1 rfl,rfl,by simp,rfl,?_,gJ ⟨rfl,trivial,trivial⟩,?_⟩
    ·intro v hv
     simp only [List.mem_cons,List.not_mem_nil,or_false] at hv
     rcases hv with rfl | rfl <;> trivial
    ·show _ = AV.ownF 1 [.uq 3 1 ((match xs.find? (fun x => decide (wR p x = sign)) with | some x => (x.tk,true) | none => ([],false)).1.map encInt),bv (match xs.find? (fun x => decide (wR p x = sign)) with | some x => (x.tk,true) | none => ([],false)).2]
     rw [hf]; rfl
 ·have hC : uO p b sign = ([],false) := by unfold uO; rw [if_neg (fun e => hn e.1)]
  rw [hC]
  conv => whnf
  refine .inr ⟨1,[.uq 3 1 [],bv false],_,[.ref (.n 900) 0 0,bv false],weak_nil 6 (.n 900) 3 1 rfl,rfl,by simp,rfl,?_,gJ ⟨rfl,trivial,trivial⟩,rfl⟩
  intro v hv
  simp only [List.mem_cons,List.not_mem_nil,or_false] at hv
  rcases hv with rfl | rfl <;> trivial
theorem canPk_len {p : ProgL} {b : Int} {sign : List UInt8} (hv : p.flt) : (uO p b sign).1.length ≤ 1048576 := by
 classical
 unfold uO
 split
 ·rename_i hA
  split
  ·rename_i x hx
   have := i7 hA.1.1 hv hA.1.2.1 x (List.mem_of_find?_eq_some hx)
   have h1 := this.fin.le
   have h2 := this.fin.len
   have h3 := hA.1.2.2
   show x.tk.length ≤ _
   omega
  ·exact Nat.zero_le _
 ·exact Nat.zero_le _
end Ai
end
section
namespace Ai
open Go Go.RowKit
theorem s9 {E : Env} {g : FuncId} {xs : List AV} {f : Nat} {cs : List AV} (hok : OwnOK cs) (h : IOCall E g xs (fun _ => none) (fun r H1 => r = ownR f cs ∧ ∀ κ,ownH cs κ ≠ none → H1 κ = ownH cs κ)) : CallsTo E g xs (· = .ownF f cs) := by
 intro w A vs hI hr
 have hH : HRel E ⟨fun b => A b ∨ w.heap.size ≤ b,fun _ => False,fun _ => none,fun _ => none⟩ w (fun _ => none) (fun _ => none) w :=
  ⟨Below.refl _ _,hI,fun o ob ho => (by cases ho),fun o o' p p' ho => absurd rfl ho,fun b hb => .inl (.inr hb),fun b hb => hb.elim,fun n hn => absurd rfl hn⟩
 refine (h w _ _ w vs hH hr.1 fun i a v ha hv => ?_).mono ?_
 ·exact (hr.2 i a v ha hv).lift fun b hb => ⟨hb.1,fun o ho => absurd rfl ho,.inl hb.2⟩
 ·rintro v w' ⟨r,H1,m1,⟨rfl,hq⟩,hH1,hv⟩
  exact ⟨_,rfl,hH1.below,sJ (A := ⟨fun b => A b ∨ w.heap.size ≤ b,fun _ => False,fun _ => none,fun _ => none⟩) hH1.toS (fun b hb => hb) hok hq hv⟩
end Ai
end
section
set_option maxRecDepth 100000
namespace Ai
open Go Go.Proofs
def lendP : Key → Bool
 | .n k => Nat.beq k 903
 | .s o _ => Nat.beq o 903
 | .l _ => false
theorem uQ {p : Key → Bool} (subs : List (List (List D))) (hp : ∀ j,p (.s 903 j) = false) : (wI subs 0).map (scrPL p) = wI subs 0 :=
 mS _ fun j => by
  unfold pZ
  rw [if_neg (by omega)]
  simp [scrPL,scrP,hp j]
theorem dO {f : Key → Key} (subs : List (List (List D))) (hf : ∀ j,f (.s 903 j) = .s 903 j) : (wI subs 0).map (renL f) = wI subs 0 :=
 mS _ fun j => by
  unfold pZ
  rw [if_neg (by omega)]
  simp [renL,ren,hf j]
theorem d7 (c l d : Int) (subs : List (List (List D))) (k : Int) (hx : subs.length ≤ 1048576) (hs : ∀ q ∈ subs,∀ c ∈ q,c.length = 4) (ht : tot subs subs.length ≤ 1048576) (h0 : 0 ≤ k) (h1 : k ≤ 1048576) (H0 : Key → Option Ob)
  (hH : H0 (.n 903) = some (.rs 104 1 (wI subs 0))) (hF : ∀ j,H0 (.s 903 j) = uW subs 0 j) :
  IOCall EE 22 [.agg [i64 c,i64 l,i64 d,.dref (.n 903) subs.length],i64 k] H0 (fun r H1 => r = i64 (k + 4 * tot subs subs.length) ∧ ∀ κ,H1 κ = none) := by
 refine io_of_AW (fn := Tryz.f22) (c := Tryz.f22.body.getD .skip) Tryz.func22 rfl (by kernel_rfl) rfl ?_
 have hat : At [(0,.agg [i64 c,i64 l,i64 d,.dref (.n 903) subs.length]),(1,i64 k)] [(.n 903,.rs 104 1 (wI subs 0))] [(903,uW subs 0)] ⟨fun i => [AV.agg [i64 c,i64 l,i64 d,.dref (.n 903) subs.length],i64 k].getD i .junk,H0⟩ := ⟨⟨rfl,rfl,trivial⟩,⟨hH,trivial⟩,⟨hF,trivial⟩⟩
 obtain ⟨τ,H,hf⟩ := hat.form
 rw [hf]
 conv => whnf
 refine .inr (.inl ⟨999,0,lendP,(fun r H1 => r = i64 (k + 4 * tot subs subs.length) ∧ ∀ κ,H1 κ = none),?_,rfl,?_⟩)
 ·refine io_congr (d8 subs k hx hs ht h0 h1 _ ?_ fun j => ?_) rfl
  ·show some (Ob.rs 104 1 ((((wI subs 0).map (scrPL (isK (.n 2)))).map (renL (swp (.n 999) (.l 0)))).map (scrPL (fun o => !lendP o)))) = _
   rw [uQ subs (fun j => rfl),dO subs (fun j => rfl),uQ subs (fun j => rfl)]
  ·show Option.map _ (Option.map _ (Option.map _ (uW subs 0 j))) = _
   rw [jO,jP,jO]
 ·rintro r H1 ⟨rfl,q⟩
  refine ⟨fun κ _ => q κ,fun n hn => (by cases hn),?_⟩
  conv => whnf
  refine ⟨_,Weak.refl,?_⟩
  conv => whnf
  exact ⟨fun _ => false,rfl,fun κ => rfl⟩
def kR (r : List OpL) : List (List D) := r.map encOp
def zY (p : ProgL) : List (List (List D)) := p.rs.map kR
def cO (subs : List (List (List D))) (i j : Nat) : List AV := if j < i then [.ref (.s 900 j) 0 (subs.getD j []).length] else [.d .nil]
def vL (subs : List (List (List D))) (i : Nat) : List (List AV) := (List.range subs.length).map (cO subs i)
def nK (subs : List (List (List D))) (i j : Nat) : Option Ob := if j < i then (subs[j]?).map (.ds 107 4) else none
theorem rowsT_zero (subs : List (List (List D))) : vL subs 0 = List.replicate subs.length [.d .nil] := by
 apply List.ext_getElem?
 intro j
 simp only [vL,List.getElem?_map,List.getElem?_replicate,List.getElem?_range']
 by_cases h : j < subs.length
 ·rw [if_pos h,List.getElem?_eq_getElem (by simpa using h)]
  simp [cO]
 ·rw [if_neg h,List.getElem?_eq_none (by simpa using h)]
  rfl
theorem rowsT_map {subs : List (List (List D))} {i i' : Nat} (f : List AV → List AV) (h : ∀ j,f (cO subs i j) = cO subs i' j) : (vL subs i).map f = vL subs i' := by
 unfold vL
 rw [List.map_map]
 exact List.map_congr_left fun j _ => h j
theorem aM {p : Key → Bool} (subs : List (List (List D))) (i : Nat) (hp : ∀ j,p (.s 900 j) = false) : (vL subs i).map (scrPL p) = vL subs i :=
 rowsT_map _ fun j => by
  unfold cO
  split
  ·simp [scrPL,scrP,hp j]
  ·rfl
theorem famT_ren (f : Key → Key) (subs : List (List (List D))) (i j : Nat) : (nK subs i j).map (renO f) = nK subs i j := by
 unfold nK
 split
 ·cases subs[j]? <;> rfl
 ·rfl
theorem p9 (p : Key → Bool) (subs : List (List (List D))) (i j : Nat) : (nK subs i j).map (scrPO p) = nK subs i j := by
 unfold nK
 split
 ·cases subs[j]? <;> rfl
 ·rfl
theorem rowsT_put {subs : List (List (List D))} {k : Nat} (h : k < subs.length) : ((xC (vL subs k) 1 k 0 [.ref (.n 20) 0 subs[k].length]).map (renL (swp (.n 20) (.s 900 k)))) = vL subs (k + 1) := by
 have hlen : (vL subs k).length = subs.length := by simp [vL]
 apply List.ext_getElem?
 intro j
 by_cases hj : j = k
 ·subst hj
  rw [List.getElem?_map,wV (c := cO subs j j) (c' := [.ref (.n 20) 0 subs[j].length]) (by simp [vL,h]) rfl]
  simp only [vL,List.getElem?_map,List.getElem?_range h,Option.map_some,Option.some.injEq]
  unfold cO
  rw [if_pos (by omega)]
  have e : swp (.n 20) (.s 900 j) (.n 20) = .s 900 j := by simp [swp,Key.beq]
  simp [renL,ren,e,List.getD_eq_getElem?_getD,h]
 ·by_cases hl : j < subs.length
  ·rw [List.getElem?_map,rF hj (c := cO subs k j) (by simp [vL,hl])]
   simp only [vL,List.getElem?_map,List.getElem?_range hl,Option.map_some,Option.some.injEq]
   have e : swp (.n 20) (.s 900 k) (.s 900 j) = .s 900 j := by simp [swp,Key.beq,nbeq_ne hj]
   unfold cO
   by_cases hjk : j < k
   ·rw [if_pos hjk,if_pos (by omega)]
    simp [renL,ren,e]
   ·rw [if_neg hjk,if_neg (by omega)]
    simp [renL,ren]
  ·rw [List.getElem?_eq_none (by simp [xC]; simp [hlen]; omega),List.getElem?_eq_none (by simp [vL]; omega)]
def lend9 : Key → Bool
 | .n k => Nat.beq k 900
 | .s o _ => Nat.beq o 900
 | .l _ => false
theorem own1_n {x : AV} {q : Nat} (h : q ≠ 900) : ownH [x] (.n q) = none := by
 unfold ownH
 cases hb : Nat.blt q 900 with
 |true => simp only [hb,cond_true]
 |false =>
  have : ¬ q < 900 := by
   intro e
   have : Nat.blt q 900 = true := by simpa [Nat.blt_eq] using e
   rw [this] at hb; cases hb
  have : ([x] : List AV)[q - 900]? = none := List.getElem?_eq_none (by simp; omega)
  simp only [hb,cond_false,this]
theorem own1_s {x : AV} {q j : Nat} (h : q ≠ 900) : ownH [x] (.s q j) = none := by
 unfold ownH
 cases hb : Nat.blt q 900 with
 |true => simp only [hb,cond_true]
 |false =>
  have : ¬ q < 900 := by
   intro e
   have : Nat.blt q 900 = true := by simpa [Nat.blt_eq] using e
   rw [this] at hb; cases hb
  have : ([x] : List AV)[q - 900]? = none := List.getElem?_eq_none (by simp; omega)
  simp only [hb,cond_false,this]
theorem rowsT_own (xs : List (List OpL)) : vL (xs.map kR) xs.length = ownRows 900 0 (xs.map fun _ => [.nil]) (xs.map kR) := by
 unfold ownRows vL
 apply List.ext_getElem?
 intro j
 by_cases h : j < xs.length
 ·have h2 : j < (xs.map kR).length := by simpa using h
  simp only [List.getElem?_map,List.getElem?_range h2,Option.map_some,List.getElem?_mapIdx,List.getElem?_eq_getElem h]
  unfold cO
  rw [if_pos h]
  rfl
 ·rw [List.getElem?_eq_none (by simp; omega),List.getElem?_eq_none (by simp; omega)]
theorem toOpSS_own (xs : List (List OpL)) (hx : xs.length ≤ 1048576) (hx2 : ∀ x ∈ xs,x.length ≤ 1048576) : CallsTo EE 42 [sl (xs.map zO)] (· = .ownF 1 [.uqd 104 1 0 107 4 (xs.map fun _ => [.nil]) (xs.map kR)]) := by
 refine s9 (fun v hv => ?_) ?_
 ·simp only [List.mem_cons,List.not_mem_nil,or_false] at hv
  subst hv
  show (xs.map _).length = (xs.map kR).length
  simp
 refine io_of_AW (fn := Tryz.f42) (c := Tryz.f42.body.getD .skip) Tryz.func42 rfl (by kernel_rfl) rfl ?_
 conv => whnf
 refine ⟨by simp; omega,?_⟩
 conv => whnf
 refine aloopF (fun k : Nat => [(0,sl (xs.map zO)),(3,.dref (.n 900) xs.length),(4,i64 k)]) (fun k => [(.n 900,.rs 104 1 (vL (xs.map kR) k))]) (fun k => [(900,nK (xs.map kR) k)]) (fun k => xs.length - k) (fun k => k ≤ xs.length) 0
  ((w8 (.n 7) rfl).trans (vD 7 900)) ?_ ?_ ?_ (Nat.zero_le _) ?_
 ·exact ⟨rfl,by show AV.dref (.n 900) (((xs.map zO).length : Nat) : Int).toNat = _; simp,rfl,trivial⟩
 ·refine ⟨?_,trivial⟩
  show some (Ob.rs 104 1 (((List.replicate (((xs.map zO).length : Nat) : Int).toNat [D.nil]).map (List.map AV.d)).map (renL (swp (.n 7) (.n 900))))) = _
  rw [rowsT_zero]
  simp [renL,ren]
 ·refine ⟨fun j => ?_,trivial⟩
  unfold nK
  rw [if_neg (by omega)]
  rfl
 intro k τ H hk
 have hk : k ≤ xs.length := hk
 conv => whnf
 refine kbi (fun h => ?_) (fun h => ?_)
 ·have hlt := xM h
  have hlt2 : k < (xs.map kR).length := by simpa using hlt
  have hgk : (xs.map kR)[k] = xs[k].map encOp := by simp [kR]
  conv => whnf
  refine ⟨zO xs[k],yB zO hlt rfl,?_⟩
  conv => whnf
  refine ⟨_,u9 xs[k] (hx2 _ (List.getElem_mem hlt)),?_⟩
  rintro r rfl
  refine .inr ⟨_,rfl,?_⟩
  conv => whnf
  refine ⟨⟨by omega,by omega⟩,?_⟩
  conv => whnf
  refine ⟨k + 1,_,jD 20 900 k,by show k + 1 ≤ xs.length; omega,by show xs.length - (k + 1) < xs.length - k; omega,⟨rfl,rfl,next_i64 hlt (by omega),trivial⟩,⟨?_,trivial⟩,⟨fun j => ?_,trivial⟩⟩
  ·show some (Ob.rs 104 1 ((xC ((vL (xs.map kR) k).map (scrPL (isK (.n 20)))) 1 ((k : Int)).toNat 0 [.ref (.n 20) 0 (xs[k].map encOp).length]).map (renL (swp (.n 20) (.s 900 k))))) = _
   rw [aM _ _ (fun j => rfl),Int.toNat_natCast,← hgk,rowsT_put hlt2]
  ·show (St.H _ (swp (.n 20) (.s 900 k) (.s 900 j))).map _ = _
   by_cases hj : j = k
   ·subst hj
    have e : swp (.n 20) (.s 900 j) (.s 900 j) = .n 20 := by simp [swp,Key.beq]
    rw [e]
    unfold nK
    rw [if_pos (by omega),List.getElem?_eq_getElem hlt2,hgk]
    rfl
   ·have e : swp (.n 20) (.s 900 k) (.s 900 j) = .s 900 j := by simp [swp,Key.beq,nbeq_ne hj]
    rw [e]
    show Option.map _ (Option.map _ (nK (xs.map kR) k j)) = _
    rw [p9,famT_ren]
    unfold nK
    by_cases hjk : j < k
    ·rw [if_pos hjk,if_pos (by omega)]
    ·rw [if_neg hjk,if_neg (by omega)]
 ·have hkk : k = xs.length := by
   have : ¬ k < xs.length := by simpa using h
   omega
  subst hkk
  conv => whnf
  refine ⟨_,Weak.refl,?_⟩
  conv => whnf
  refine ⟨lend9,?_,fun κ hκ => ?_⟩
  ·show AV.dref (.n 900) xs.length = AV.dref (.n 900) (xs.map _).length
   rw [List.length_map]
  ·cases κ with
   |l n => exact absurd rfl hκ
   |n q =>
    by_cases hq : q = 900
    ·subst hq
     show some (Ob.rs 104 1 ((vL (xs.map kR) xs.length).map (scrPL (fun o => !lend9 o)))) = some (Ob.rs 104 1 (ownRows 900 0 (xs.map fun _ => [.nil]) (xs.map kR)))
     rw [aM _ _ (fun j => rfl),rowsT_own]
    ·exact absurd (own1_n hq) hκ
   |s o j =>
    by_cases hq : o = 900
    ·subst hq
     show Option.map _ (nK (xs.map kR) xs.length j) = ((xs.map kR)[j]?).map (Ob.ds 107 4)
     rw [p9]
     unfold nK
     by_cases hj : j < xs.length
     ·rw [if_pos hj]
     ·rw [if_neg hj,List.getElem?_eq_none (by simp; omega)]
      rfl
    ·exact absurd (own1_s hq) hκ
end Ai
end
section
set_option maxRecDepth 100000
namespace Ai
open Go Go.Proofs
def f5 (p : ProgL) : List AV := [i64 p.cells,i64 p.locks,i64 p.conds,.uqd 104 1 0 107 4 (p.rs.map fun _ => [.nil]) (zY p)]
theorem mW (o : Nat) (p : ProgL) : ownRows o 0 (p.rs.map fun _ => [.nil]) (zY p) = (List.range p.rs.length).map fun j => [.ref (.s o j) 0 ((zY p).getD j []).length] := by
 unfold ownRows
 apply List.ext_getElem?
 intro j
 by_cases h : j < p.rs.length
 ·simp [h]
 ·rw [List.getElem?_eq_none (by simp; omega),List.getElem?_eq_none (by simp; omega)]
theorem f4 {o o' : Nat} {p : ProgL} (f : List AV → List AV) (h : ∀ j n,f [.ref (.s o j) 0 n] = [.ref (.s o' j) 0 n]) : (ownRows o 0 (p.rs.map fun _ => [.nil]) (zY p)).map f = ownRows o' 0 (p.rs.map fun _ => [.nil]) (zY p) := by
 rw [mW,mW,List.map_map]
 exact List.map_congr_left fun j _ => h j _
theorem ownRows_M (p : ProgL) : ownRows 903 0 (p.rs.map fun _ => [.nil]) (zY p) = wI (zY p) 0 := by
 rw [mW]
 unfold wI
 rw [show (zY p).length = p.rs.length by simp [zY]]
 refine List.map_congr_left fun j _ => ?_
 unfold pZ
 rw [if_neg (by omega)]
theorem toProg_own (p : ProgL) (h : p.rs.length ≤ 1048576 ∧ ∀ x ∈ p.rs,x.length ≤ 1048576) : CallsTo EE 13 [agg (encProg p)] (· = .own (f5 p)) := by
 refine callsTo_of_AW (fn := Tryz.f13) Tryz.func13 rfl (by kernel_rfl) rfl ?_
 conv => whnf
 refine ⟨_,toOpSS_own _ h.1 h.2,?_⟩
 rintro r rfl
 conv => whnf
 refine .inr (.inr ⟨f5 p,_,weak_re shA,rfl,?_,gJ ⟨trivial,trivial,trivial,⟨?_,fun j q hq => ?_⟩,trivial⟩,rfl⟩)
 ·intro v hv
  simp only [f5,List.mem_cons,List.not_mem_nil,or_false] at hv
  rcases hv with rfl | rfl | rfl | rfl
  ·trivial
  ·trivial
  ·trivial
  ·show (p.rs.map _).length = (zY p).length
   simp [zY]
 ·show some (Ob.rs 104 1 ((ownRows 900 0 (p.rs.map fun _ => [.nil]) (zY p)).map (renL shA.f))) = some (Ob.rs 104 1 (ownRows 903 0 (p.rs.map fun _ => [.nil]) (zY p)))
  exact congrArg (fun x => some (Ob.rs 104 1 x)) (f4 _ fun j n => rfl)
 ·have hq : (zY p)[j]? = some q := hq
  have e : ownH [.uqd 104 1 0 107 4 (p.rs.map fun _ => [.nil]) (zY p)] (.s 900 j) = some (.ds 107 4 q) := by
   show ((zY p)[j]?).map (Ob.ds 107 4) = _
   rw [hq]
   rfl
  show Option.map (renO shA.f) (match ownH [.uqd 104 1 0 107 4 (p.rs.map fun _ => [.nil]) (zY p)] (.s 900 j) with | some ob => some ob | none => _) = _
  rw [e]
  rfl
end Ai
end
section
set_option maxRecDepth 100000
namespace Ai
open Go Go.Proofs Cyc
theorem ownPg_fam {p : ProgL} {j : Nat} : ownH (f5 p) (.s 903 j) = uW (zY p) 0 j := by
 show ((zY p)[j]?).map (Ob.ds 107 4) = _
 unfold uW
 rw [if_neg (by omega)]
theorem fz_own {p : ProgL} {S : St} {n : Nat} (h1 : S.H (.n 903) = some (.rs 104 1 (wI (zY p) 0))) (h2 : ∀ j,S.H (.s 903 j) = uW (zY p) 0 j) (hn : n = p.rs.length) :
  FzC S [i64 p.cells,i64 p.locks,i64 p.conds,.dref (.n 903) n] (encProg p) := by
 subst hn
 refine ⟨di p.cells,_,rfl,rfl,di p.locks,_,rfl,rfl,di p.conds,_,rfl,rfl,.sl (p.rs.map zO),_,rfl,⟨_,rfl,viewR h1 (by simp) (by simp [wI,zY]) ?_⟩,rfl⟩
 intro j row d hr hd
 have hj : j < p.rs.length := by
  have := (List.getElem?_eq_some_iff.1 hd).1
  simpa using this
 have hjs : j < (zY p).length := by simpa [zY] using hj
 rw [aN hjs] at hr
 rw [List.getElem?_map,List.getElem?_eq_getElem hj] at hd
 simp only [Option.map_some,Option.some.injEq] at hr hd
 subst hr hd
 have hg : (zY p)[j] = p.rs[j].map encOp := by simp [zY,kR]
 have h3 := h2 j
 unfold uW at h3
 rw [if_neg (by omega),List.getElem?_eq_getElem hjs,hg] at h3
 unfold pZ
 rw [if_neg (by omega)]
 simp [fz1s,fz1,h3,List.getD_eq_getElem?_getD,hjs,hg,zO,List.take_of_length_le]
theorem rowsM_ren0 (subs : List (List (List D))) (a b : Nat) : (wI subs 0).map (renL (swp (.n a) (.n b))) = wI subs 0 := dO subs fun j => rfl
def lwF (p : ProgL) : List (Nat × (Nat → Option Ob)) := [(903,uW (zY p) 0)]
def lwO3 (p : ProgL) (w : List Int) : List (Key × Ob) := [(.n 3,.vs 24 ((encProg p).map .d)),(.n 43,.ds 3 1 (w.map encInt))]
def lwO4 (p : ProgL) (w : List Int) : List (Key × Ob) := [(.n 3,.vs 24 ((encProg p).map .d)),(.n 43,.ds 3 1 ((jJ 1 w.length).map encInt))]
theorem tot_size {p : ProgL} (h : p.size ≤ 1048576) : tot (zY p) (zY p).length ≤ 1048576 := by
 unfold ProgL.size fM at h
 unfold tot zY
 rw [List.take_length,List.map_map]
 have e : (List.length ∘ kR : List OpL → Nat) = List.length := by funext r; simp [kR]
 rw [e]; omega
theorem ops4 (p : ProgL) : ∀ q ∈ zY p,∀ c ∈ q,c.length = 4 := by
 intro q hq c hc
 obtain ⟨r,_,rfl⟩ := List.mem_map.1 hq
 obtain ⟨y,_,rfl⟩ := List.mem_map.1 hc
 rfl
end Ai
end
section
set_option maxRecDepth 100000
namespace Ai
open Go Go.Proofs Cyc
def cwL (m : Int) (sign : List UInt8) (w : List Int) (b : AV) : List (Nat × AV) := [(1,i64 m),(2,sv sign),(3,.ptr (.n 3) 0),(8,sl (w.map encInt)),(9,b),(10,.ptr (.n 10) 0)]
def cwO (p : ProgL) : List (Key × Ob) := [(.n 3,.vs 24 ((encProg p).map .d)),(.n 10,.vs 31 [i64 p.cells,i64 p.locks,i64 p.conds,.dref (.n 903) p.rs.length]),(.n 903,.rs 104 1 (wI (zY p) 0))]
def cwL2 (m : Int) (sign : List UInt8) (w : List Int) (b : AV) : List (Nat × AV) := [(1,i64 m),(2,sv sign),(3,.ptr (.n 3) 0),(8,sl (w.map encInt)),(9,b),(10,.ptr (.n 10) 0),(11,.ref (.n 900) 0 w.length),(12,b)]
def cwO2 (p : ProgL) (w : List Int) : List (Key × Ob) := [(.n 3,.vs 24 ((encProg p).map .d)),(.n 10,.vs 31 [i64 p.cells,i64 p.locks,i64 p.conds,.dref (.n 903) p.rs.length]),(.n 903,.rs 104 1 (wI (zY p) 0)),(.n 900,.ds 3 1 (w.map encInt))]
def cwL3 (m : Int) (sign : List UInt8) (w : List Int) (b : AV) (k : Int) : List (Nat × AV) := [(1,i64 m),(2,sv sign),(3,.ptr (.n 3) 0),(8,sl (w.map encInt)),(9,b),(11,.ref (.n 43) 0 w.length),(12,b),(13,i64 k)]
def cwL4 (m : Int) (sign : List UInt8) (w : List Int) (b : AV) : List (Nat × AV) := [(1,i64 m),(2,sv sign),(3,.ptr (.n 3) 0),(8,sl (w.map encInt)),(9,b),(11,.ref (.n 43) 0 w.length),(14,i64 (1 + (w.length : Int)))]
structure SmC (p : ProgL) : Prop where
 hs : p.rs.length ≤ 1048576 ∧ ∀ x ∈ p.rs,x.length ≤ 1048576
 hz : p.size ≤ 1048576
theorem lawCan (p : ProgL) (hp : p.wf) (hv : p.flt) (m : Int) (sign : List UInt8) (hsl : sign.length ≤ 9223372036854775807) : CallsTo EE 8 [agg (encProg p),i64 m,sv sign] (· = bv true) := by
 refine callsTo_of_AW (fn := Tryz.f8) Tryz.func8 rfl (by kernel_rfl) rfl ?_
 refine kJ 7 (fun S => SmC p ∧ At (cwL m sign (uO p m sign).1 (bv (uO p m sign).2)) (cwO p) (lwF p) S) (fun K hK => ?_) (fun S hS => ?_)
 ·conv => whnf
  refine kbi (fun _ => ?_) (fun h2 => ?_)
  ·conv => whnf
   try rfl
  conv => whnf
  refine ⟨_,szProg_ok p 1048576 (by omega) (by omega) hp,?_⟩
  rintro r ⟨n,rfl,hn1,hn2,hn3⟩
  conv => whnf
  refine kbi (fun _ => ?_) (fun h => ?_)
  ·conv => whnf
   try rfl
  have hsz : p.size ≤ 1048576 := by
   have := hn3 (by simp at h; omega)
   simp at h
   omega
  have hs := size_le List.length p.rs 1048576 hsz
  have cS := CanS_ok p hp hs hv m sign
  conv => whnf
  refine ⟨_,mN p hs,?_⟩
  rintro r rfl
  conv => whnf
  refine ⟨_,cS,?_⟩
  rintro r rfl
  conv => whnf
  refine ⟨_,toProg_own p hs,?_⟩
  rintro r rfl
  conv => whnf
  refine hK _ ⟨⟨hs,hsz⟩,⟨rfl,rfl,rfl,rfl,rfl,rfl,trivial⟩,⟨rfl,?_,?_,trivial⟩,⟨fun j => ?_,trivial⟩⟩
  ·show some (Ob.vs 31 [i64 p.cells,i64 p.locks,i64 p.conds,.dref (.n 903) (p.rs.map fun _ => [D.nil]).length]) = _
   rw [List.length_map]
  ·show some (Ob.rs 104 1 ((ownRows 903 0 (p.rs.map fun _ => [.nil]) (zY p)).map (scrPL (isK (.n 10))))) = _
   rw [ownRows_M,uQ _ (fun j => rfl)]
  ·show Option.map _ (match ownH (f5 p) (.s 903 j) with | some ob => some ob | none => _) = _
   rw [ownPg_fam]
   cases hq : uW (zY p) 0 j with
   |none => rfl
   |some ob =>
    show Option.map _ (some ob) = some ob
    rw [← hq,jO]
 obtain ⟨⟨hs,hsz⟩,hat⟩ := hS
 have cI := CanI_ok p hp hs hv m sign
 have hR : (uO p m sign).1.length ≤ 1048576 := canPk_len hv
 generalize uO p m sign = X at cI hR hat
 obtain ⟨R,b⟩ := X
 have hR : R.length ≤ 1048576 := hR
 refine kJ 3 (At (cwL2 m sign R (bv b)) (cwO2 p R) (lwF p)) (fun K hK => ?_) (fun S2 hS2 => ?_)
 rotate_left 1
 ·clear hat
  have hsl : (zY p).length = p.rs.length := by simp [zY]
  have ht := tot_size hsz
  refine kJ 2 (fun S => ∃ k : Int,0 ≤ k ∧ At (cwL3 m sign R (bv b) k) (lwO3 p R) [] S) (fun K hK => ?_) (fun S3 hS3 => ?_)
  ·obtain ⟨τ,H,rfl⟩ := hS2.form
   clear hS2
   conv => whnf
   refine .inr (.inr (.inl ⟨_,22,[],vD 900 43,rfl,999,0,lendP,(fun r H1 => r = i64 (1 + 4 * tot (zY p) (zY p).length) ∧ ∀ κ,H1 κ = none),?_,rfl,?_⟩))
   ·refine io_congr (d7 p.cells p.locks p.conds (zY p) 1 (by omega) (ops4 p) ht (by omega) (by omega) _ ?_ fun j => ?_) ?_
    ·show some (Ob.rs 104 1 ((((wI (zY p) 0).map (renL (swp (.n 900) (.n 43)))).map (renL (swp (.n 999) (.l 0)))).map (scrPL (fun o => !lendP o)))) = _
     rw [rowsM_ren0,dO _ (fun j => rfl),uQ _ (fun j => rfl)]
    ·show Option.map _ (Option.map _ (Option.map _ (uW (zY p) 0 j))) = _
     rw [jP,jP,jO]
    ·rw [hsl]; rfl
   rintro r H1 ⟨rfl,q⟩
   refine ⟨fun κ _ => q κ,fun n hn => (by cases hn),?_⟩
   generalize tot (zY p) (zY p).length = T at ht ⊢
   conv => whnf
   refine hK _ ⟨1 + 4 * (T : Int),by omega,⟨rfl,rfl,rfl,rfl,rfl,rfl,rfl,rfl,trivial⟩,⟨rfl,rfl,trivial⟩,trivial⟩
  ·obtain ⟨k,hk,hS3⟩ := hS3
   refine kJ 3 (At (cwL4 m sign R (bv b)) (lwO4 p R) []) (fun K hK => ?_) (fun S4 hS4 => ?_)
   ·obtain ⟨τ,H,rfl⟩ := hS3.form
    clear hS3
    have heq : CallsTo EE 17 [sl (((R.map encInt).drop 0).take R.length),sl (R.map encInt)] (· = bv true) := by
     rw [List.drop_zero,List.take_of_length_le (by simp)]
     exact nL R hR
    conv => whnf
    refine kbi (fun h => absurd h (by simp; omega)) (fun _ => ?_)
    conv => whnf
    refine .inl ⟨_,heq,?_⟩
    rintro r rfl
    refine ⟨rfl,?_⟩
    conv => whnf
    refine kbi (fun h => absurd h (by simp)) (fun _ => ?_)
    conv => whnf
    refine .inr (.inl ⟨43,77,isK (.l 77),_,io_congr (d9 (.l 77) (.inr rfl) R 1 hR (by omega) (by omega) _ rfl) rfl,rfl,?_⟩)
    rintro r H1 ⟨rfl,e1,q2⟩
    refine ⟨q2,fun n hn => ⟨.ds 3 1 (R.map encInt),?_,(jJ 1 R.length).map encInt,?_,by simp [kU]⟩,?_⟩
    ·have : n = 77 := Nat.eq_of_beq_eq_true hn
     subst this; rfl
    ·have : n = 77 := Nat.eq_of_beq_eq_true hn
     subst this; exact e1
    conv => whnf
    refine hK _ ⟨⟨rfl,rfl,rfl,rfl,rfl,rfl,rfl,trivial⟩,⟨rfl,?_,trivial⟩,trivial⟩
    show Option.map _ (H1 (.l 77)) = _
    rw [e1]; rfl
   ·clear hS3
    obtain ⟨τ,H,rfl⟩ := hS4.form
    clear hS4
    have hh : CallsTo EE 24 [sl ((((jJ 1 R.length).map encInt).drop 0).take R.length),i64 1] (· = i64 (1 + (R.length : Int))) := by
     rw [List.drop_zero,List.take_of_length_le (by simp [kU])]
     exact n5 1 R.length hR (by omega) (by omega)
    conv => whnf
    refine .inl ⟨_,hh,?_⟩
    rintro r rfl
    refine ⟨rfl,?_⟩
    conv => whnf
    refine kbi (fun h => absurd h (by simp; omega)) (fun _ => ?_)
    conv => whnf
    refine kbi (fun h => absurd h (by simp)) (fun _ => ?_)
    conv => whnf
    refine ⟨_,mN p hs,?_⟩
    rintro r rfl
    conv => whnf
    refine ⟨_,cI,?_⟩
    rintro r rfl
    have heq : CallsTo EE 17 [sl (((R.map encInt).drop 0).take (R.map encInt).length),sl (R.map encInt)] (· = bv true) := by
     rw [List.drop_zero,List.take_length]
     exact nL R hR
    conv => whnf
    refine .inl ⟨_,heq,?_⟩
    rintro r rfl
    refine ⟨rfl,?_⟩
    conv => whnf
    refine kbi (fun h => absurd h (by simp)) (fun _ => ?_)
    conv => whnf
    refine .inl ⟨_,hh,?_⟩
    rintro r rfl
    refine ⟨rfl,?_⟩
    conv => whnf
    refine kbi (fun h => absurd h (by simp; omega)) (fun _ => ?_)
    conv => whnf
    refine kbi (fun h => absurd h (by simp)) (fun _ => ?_)
    conv => whnf
    try rfl
 obtain ⟨τ,H,rfl⟩ := hat.form
 clear hat
 conv => whnf
 refine .inl ⟨[agg (encProg p),i64 m,sv sign],[],_,⟨_,_,rfl,⟨_,rfl,fz_own rfl (fun j => rfl) rfl⟩,_,_,rfl,rfl,_,_,rfl,rfl,rfl⟩,rfl,cI,?_⟩
 rintro r rfl
 refine ⟨fun c hc => ?_,?_⟩
 ·simp only [List.mem_cons,List.not_mem_nil,or_false] at hc
  rcases hc with rfl | rfl
  ·intro c hc
   obtain ⟨y,_,rfl⟩ := List.mem_map.1 hc; rfl
  ·rfl
 have heq : CallsTo EE 17 [sl (((R.map encInt).drop 0).take (R.map encInt).length),sl (R.map encInt)] (· = bv true) := by
  rw [List.drop_zero,List.take_length]
  exact nL R hR
 conv => whnf
 refine .inl ⟨_,heq,?_⟩
 rintro r rfl
 refine ⟨rfl,?_⟩
 conv => whnf
 refine kbi (fun h => absurd h (by simp)) (fun _ => ?_)
 conv => whnf
 refine ⟨by kernel_rfl,?_⟩
 conv => whnf
 refine ⟨_,mN p hs,?_⟩
 conv => whnf
 refine ⟨[agg (encProg p),agg (encProg p)],[],bv true,⟨_,_,rfl,⟨_,rfl,fz_own ?_ (fun j => ?_) rfl⟩,_,_,rfl,fz_prog p,rfl⟩,rfl,eqProg_ok p hs,rfl,?_⟩
 ·show some (Ob.rs 104 1 ((wI (zY p) 0).map (scrPL _))) = _
  rw [uQ _ fun j => rfl]
 ·show Option.map _ (uW (zY p) 0 j) = _
  exact jO _ _ _ _
 conv => whnf
 refine hK _ ⟨⟨rfl,rfl,rfl,rfl,rfl,rfl,?_,rfl,trivial⟩,⟨rfl,rfl,?_,rfl,trivial⟩,⟨fun j => ?_,trivial⟩⟩
 ·show AV.ref (.n 900) 0 (R.map encInt).length = _
  rw [List.length_map]
 ·show some (Ob.rs 104 1 ((wI (zY p) 0).map (scrPL _))) = _
  rw [uQ _ fun j => rfl]
 ·show Option.map _ (uW (zY p) 0 j) = _
  exact jO _ _ _ _
end Ai
end
