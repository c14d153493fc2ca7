import Derived.Test.YtdnffjbcmimnnaaGreatZD
set_option maxHeartbeats 8000000
set_option linter.unusedVariables false
set_option linter.unusedSimpArgs false
section
set_option maxRecDepth 100000
namespace Ai
open Go Go.Proofs
theorem lF {t : Th} {o : OpL} {i : Nat} (h : ∀ x ∈ t.stack,x < 18446744073709551616) : yM t o i < 18446744073709551616 := by
 unfold yM
 rw [List.getD_eq_getElem?_getD]
 cases hg : (t.stack.drop (zT t o))[i]? with
 |none => decide
 |some x => exact h x (List.mem_of_mem_drop (List.mem_of_getElem? hg))
theorem u7 {x0 x1 x2 : AV} (i0 : Inert x0) (i1 : Inert x1) (i2 : Inert x2) (s : StL) {p : Key → Bool} (h : (p (.n 900) || p (.n 901) || p (.n 902)) = false) : scrPL p ([x0,x1,x2] ++ stRef s) = [x0,x1,x2] ++ stRef s := by
 have := xL (E := 0) i0 i1 i2 s h
 simpa [scrPO] using this
theorem hscrL {L X : List AV} {p : Key → Bool} (h : L = X) (hp : scrPL p X = X) : scrPL p L = X := by rw [h]; exact hp
theorem spawn_vs3 {x0 x1 x2 : AV} (i0 : Inert x0) (i1 : Inert x1) (i2 : Inert x2) {s s' : StL} {L : List AV} {v : AV} (hv : v = .dref (.n 900) s'.ths.length) (hL : L = [x0,x1,x2] ++ stRef s) (hc : s'.cells.length = s.cells.length) (ho : s'.owner.length = s.owner.length) (hf : s'.fault = s.fault) :
  yA (scrPL (isK (.n 900)) L) (3 + 0) [v] = [x0,x1,x2] ++ stRef s' := by
 subst hv hL
 simp only [stRef,List.cons_append,List.nil_append,scrPL,i0.scr,i1.scr,i2.scr,hc,ho,hf]
 rfl
theorem dR {S : St} {l : List Th} {k : Nat} {t : Th} {els : List (List D)} (hk : k < l.length) (h9 : S.H (.n 900) = some (.rs 175 6 (rowsA l k t))) (hfam : ∀ j,j ≠ k → (h : j < l.length) → S.H (.s 900 j) = some (.ds 132 1 (stk l[j])))
  (h8 : S.H (.n 899) = some (.ds 132 1 els)) (he : els.take t.stack.length = stk t) : jI S (.n 900) l.length ((l.set k t).map zE) := by
 unfold jI
 rw [h9]
 refine ⟨by simp,fun j row hj hr => ?_⟩
 by_cases hjk : j = k
 ·subst hjk
  have : (rowsA l j t)[j]? = some (yE t) := zR hk
  rw [this] at hr
  simp only [Option.some.injEq] at hr
  subst hr
  refine ⟨zE t,by simp [hj],?_⟩
  simp [yE,fz1s,fz1,h8,i64,zE,he]
  rfl
 ·have : (rowsA l k t)[j]? = some (thRow 900 j l[j]) := by
   unfold rowsA
   rw [List.getElem?_set_ne (fun e => hjk e.symm)]
   exact xJ hj
  rw [this] at hr
  simp only [Option.some.injEq] at hr
  subst hr
  exact ⟨zE l[j],by rw [List.getElem?_map,List.getElem?_set_ne (fun e => hjk e.symm)]; simp [hj],fz_row (hfam j hjk hj)⟩
theorem pF (t : Th) (o : OpL) : CallsTo EE 223 [agg (zE t),.fp (encOp o)] (· = bv (t.st == 3 && t.cond == o.a)) := by
 refine callsTo_of_AW (fn := Tryz.f223) Tryz.func223 rfl (by kernel_rfl) rfl ?_
 conv => whnf
 refine kbi (fun h1 => ?_) (fun h1 => ?_)
 ·have h1 : t.st = 3 := by simpa using h1
  conv => whnf
  refine kbi (fun h2 => ?_) (fun h2 => ?_)
  ·have h2 : t.cond = o.a := by simpa using h2
   conv => whnf
   rw [h1,h2]; simp
  ·have h2 : ¬ t.cond = o.a := by simpa using h2
   conv => whnf
   rw [h1]; simp [h2]
 ·have h1 : ¬ t.st = 3 := by simpa using h1
  conv => whnf
  simp [h1]
theorem sA {l : List Th} {k : Nat} (hk : k < l.length) {t' : Th} (a : Int) (h1 : t'.st ≠ 3) (h2 : l[k].st ≠ 3) : (l.set k t').findIdx? (fun t => t.st == 3 && t.cond == a) = wK l a := by
 unfold wK
 have : ∀ (m : List Th) (k : Nat) (hk : k < m.length),m[k].st ≠ 3 → (m.set k t').findIdx? (fun t => t.st == 3 && t.cond == a) = m.findIdx? (fun t => t.st == 3 && t.cond == a) := by
  intro m
  induction m with
  |nil => intro k hk; cases hk
  |cons x m ih =>
   intro k hk h2
   cases k with
   |zero => simp [List.findIdx?_cons,h1,show x.st ≠ 3 from h2]
   |succ k => simp [List.findIdx?_cons,ih k (by simpa using hk) (by simpa using h2)]
 exact this l k hk h2
theorem qA {X : List (List AV)} {p : Key → Bool} {l : List Th} {k : Nat} {t : Th} (hX : X = rowsA l k t) (h1 : p (.n 899) = false) (h2 : ∀ j,p (.s 900 j) = false) : X.map (scrPL p) = rowsA l k t := by
 rw [hX]; exact uA h1 h2 l k t
theorem vZ (l : List Th) (i : Nat) : (thRows 900 l)[i]? = (l[i]?).map (thRow 900 i) := by
 by_cases h : i < l.length
 ·rw [xJ h,List.getElem?_eq_getElem h]; rfl
 ·rw [List.getElem?_eq_none (by rw [zU]; omega),List.getElem?_eq_none (by omega)]; rfl
theorem sQ {l : List Th} {k j : Nat} {t : Th} {X : List (List AV)} (hj : j < l.length) (hjk : j ≠ k) (hX : X = rowsA l k t) :
  xG X 6 ((j : Nat) : Int).toNat (0 + 2) [i64 4] = rowsA (l.modify j fun u => { u with st := 4 }) k t := by
 subst hX
 have hf : xG (rowsA l k t) 6 ((j : Nat) : Int).toNat (0 + 2) [i64 4] = (rowsA l k t).modify j fun c => yA c 2 [i64 4] := by
  unfold xG
  rfl
 rw [hf]
 apply List.ext_getElem?
 intro i
 rw [List.getElem?_modify]
 by_cases hik : i = k
 ·subst hik
  have h1 : (rowsA l i t)[i]? = (if i < l.length then some (yE t) else none) := by
   unfold rowsA; rw [List.getElem?_set,zU]; simp
  have h2 : (rowsA (l.modify j fun u => { u with st := 4 }) i t)[i]? = (if i < l.length then some (yE t) else none) := by
   unfold rowsA; rw [List.getElem?_set,zU]; simp
  rw [h1,h2]
  simp [hjk]
 ·have h1 : ∀ (m : List Th),(rowsA m k t)[i]? = (thRows 900 m)[i]? := fun m => by unfold rowsA; rw [List.getElem?_set_ne (fun e => hik e.symm)]
  rw [h1,h1]
  simp only [vZ,List.getElem?_modify]
  by_cases hij : j = i
  ·subst hij
   simp [hj,thRow,yA]
  ·simp [hij]
theorem sI {l : List Th} {j : Nat} (i : Nat) : zV (l.modify j fun u => { u with st := 4 }) i = zV l i := by
 unfold zV
 simp only [List.getElem?_modify]
 cases l[i]? with
 |none => rfl
 |some u => by_cases h : j = i <;> simp [h,stk]
theorem pC {l : List Th} {a : Int} {j : Nat} (h : wK l a = some j) : ∃ h : j < l.length,l[j].st = 3 ∧ l[j].cond = a := by
 unfold wK at h
 rw [List.findIdx?_eq_some_iff_getElem] at h
 obtain ⟨h1,h2,_⟩ := h
 exact ⟨h1,by simpa using h2⟩
theorem xI (t : Th) (o : OpL) : (stk t).take (zC t o).stack.length = stk (zC t o) := by
 simp [stk,zC,List.map_take]
theorem qV (t : Th) : (stk t).take t.stack.length = stk t := by simp [stk,List.take_of_length_le]
def lK (l : List Th) (k : Nat) (r : List AV) : List (List AV) := (thRows 900 l).set k r
theorem xR {l : List Th} {k off : Nat} {X : List (List AV)} {r : List AV} {v : AV} (hk : k < l.length) (hX : X = lK l k r) : xG X 6 ((k : Nat) : Int).toNat off [v] = lK l k (yA r off [v]) := by
 subst hX
 have hf : xG (lK l k r) 6 ((k : Nat) : Int).toNat off [v] = (lK l k r).modify k fun c => yA c off [v] := by
  unfold xG
  rw [show (Nat.beq off 0 && Nat.beq [v].length 6) = false from Bool.and_false _]
  rfl
 rw [hf]
 unfold lK
 apply List.ext_getElem?
 intro j
 rw [List.getElem?_modify]
 by_cases hj : k = j
 ·subst hj
  rw [List.getElem?_set_self (by rw [zU]; exact hk),List.getElem?_set_self (by rw [zU]; exact hk)]; simp
 ·rw [List.getElem?_set_ne hj,List.getElem?_set_ne hj]; simp [hj]
theorem xQ {l : List Th} {k : Nat} {X : List (List AV)} {r : List AV} {p : Key → Bool} (hp : ∀ j,p (.s 900 j) = false) (hX : X = lK l k r) : X.map (scrPL p) = lK l k (scrPL p r) := by
 subst hX
 unfold lK
 rw [List.map_set,yG fun j _ => hp j]
theorem sM {l : List Th} {k n : Nat} {X N : List (List AV)} {t : Th} {row : List AV} (hn : n = l.length) (hX : X = rowsA l k t) (hN : N = [row]) (hq : scrPL (isK (.n 900)) row = row) :
  (X.take n ++ N).map (scrPL (isK (.n 900))) = rowsA l k t ++ [row] := by
 subst hn hX hN
 rw [List.take_of_length_le (by rw [rowsA_len]; exact Nat.le_refl _),List.map_append,uA rfl (fun _ => rfl)]
 simp [hq]
theorem vI {l : List Th} {k : Nat} {X : List (List AV)} {r : List AV} {t : Th} (h1 : X = lK l k r) (h2 : r = yE t) : X = rowsA l k t := by subst h1 h2; rfl
def DoIE (E : TypeId) (pre : List AV) (g : Nat → Option Ob) (k : Nat) (s' : StL) (t' : Th) (e' : Ev) (S : St) : Prop :=
 ∃ (l' : List Th) (els : List (List D)),k < l'.length ∧ s'.ths = l'.set k t' ∧ (∀ j,j ≠ k → g j = zV l' j) ∧ els.take t'.stack.length = stk t' ∧
  ((l'.length = s'.ths.length ∧ At [(7,.ptr (.n 7) 0),(8,.ptr (.n 8) 0)] [(.l 0,.vs E (pre ++ stRef s')),(.n 7,.vs 128 ((encEv e').map .d)),(.n 8,.vs 128 [i64 0,i64 0,i64 0,i64 0,i64 0]),(.n 899,.ds 132 1 els),(.n 900,.rs 175 6 (rowsA l' k t')),(.n 901,.ds 132 1 (s'.cells.map encF)),(.n 902,.ds 3 1 (s'.owner.map encInt))] [(900,g)] S))
def DoIF (E : TypeId) (pre : List AV) (g : Nat → Option Ob) (k : Nat) (s' : StL) (l' : List Th) (t' : Th) (r : Int) (e' : Ev) (S : St) : Prop :=
 k < l'.length ∧ s'.ths = l'.set k t' ++ [jF r] ∧ (∀ j,j ≠ k → g j = zV l' j) ∧
  At [(7,.ptr (.n 7) 0),(8,.ptr (.n 8) 0)] [(.l 0,.vs E (pre ++ stRef s')),(.n 7,.vs 128 ((encEv e').map .d)),(.n 8,.vs 128 [i64 0,i64 0,i64 0,i64 0,i64 0]),(.n 899,.ds 132 1 (stk t')),(.n 900,.rs 175 6 (rowsA l' k t' ++ [[i64 r,i64 0,i64 1,i64 (-1),i64 (-1),.ref (.n 905) 0 0]])),(.n 901,.ds 132 1 (s'.cells.map encF)),(.n 902,.ds 3 1 (s'.owner.map encInt)),(.n 905,.ds 132 1 [])] [(900,g)] S
def DoI2 (E : TypeId) (pre : List AV) (g : Nat → Option Ob) (k : Nat) (s' : StL) (e' : Ev) (S : St) : Prop :=
 (∃ t',DoIE E pre g k s' t' e' S) ∨ ∃ l' t' r,DoIF E pre g k s' l' t' r e' S
theorem doI_swB (hI : yS) (E : TypeId) (x0 x1 x2 : AV) (i0 : Inert x0) (i1 : Inert x1) (i2 : Inert x2) (g : Nat → Option Ob) (hg : ∀ p j,(g j).map (scrPO p) = g j) (s : StL) (k : Nat) (o : OpL) (e : Ev) (hk : k < s.ths.length) (h5 : s.ths.length ≤ 5) (hgj : ∀ j,j ≠ k → g j = zV s.ths j)
  (hs : s.small) (ho : o.fits s s.ths[k]) (hpc : InR s.ths[k].pc 0 1048576) (hst3 : s.ths[k].st ≠ 3) (he : e.kind = 1) (hel : e.lock = -1) (hfl : ∀ x ∈ s.ths[k].stack,x < 18446744073709551616) (hjo : o.code = 15 → ∃ j,yQ (yM s.ths[k] o 0) s.ths.length = some j ∧ zW s s.ths[k] = some j)
  (Q : AX → St → Prop) (K : St → Prop) (S : St) (hS : At (doI1 3 k o s.ths[k]) (doIO E [x0,x1,x2] s k o e s.ths[k] (zC s.ths[k] o)) [(900,g)] S) (hK : ∀ S',DoI2 E [x0,x1,x2] g k (doL s k o e).1 (doL s k o e).2 S' → K S') :
  sU EE Tryz.f172.ntmps K Q 1 (dropC 7 (Tryz.f172.body.getD .skip)) S := by
 have hst := hs.2.1 _ (List.getElem_mem hk)
 have hgd : s.ths.getD k th0 = s.ths[k] := by simp [List.getD_eq_getElem?_getD,hk]
 generalize ht0 : s.ths[k] = t at *
 obtain ⟨τ,H,rfl⟩ := hS.form
 clear hS
 obtain ⟨o1,o2,o3,o4,o5⟩ := ho
 obtain ⟨eth,ekind,eobj,elock,epc⟩ := e
 have he : ekind = 1 := he
 subst he
 have hel : elock = -1 := hel
 subst hel
 have hkn : zT t o ≤ t.stack.length := Nat.sub_le _ _
 have hkl : (t.stack.take (zT t o)).length = zT t o := by simp; omega
 have hpl : (zC t o).stack.length = zT t o := hkl
 conv => whnf
 refine kbi (fun hc => ?_) (fun hc => ?_)
 ·have hc : o.code = 1 := by simpa using hc
  conv => whnf
  refine .inr (.inr (.inr ⟨[0],by kernel_rfl,8,[],?_⟩))
  conv => whnf
  refine ⟨yE (zC t o),⟨by repeat (first | exact zR hk | refine yY ?_ (zY rfl _)),by simp [yE]⟩,?_⟩
  conv => whnf
  refine ⟨by kernel_rfl,?_⟩
  conv => whnf
  refine ⟨⟨rfl,by rw [hpl]; simp; omega,by rw [hpl]; simp; omega⟩,?_⟩
  conv => whnf
  have hd : doL s k o ⟨eth,1,eobj,-1,epc⟩ = (s.put k (zN (zC t o) o.v),⟨eth,1,eobj,-1,epc⟩) := by unfold doL; rw [hgd]; simp [hc]
  rw [hd] at hK
  dsimp only at hK
  refine hK _ (.inl ⟨zN (zC t o) o.v,s.ths,stk (zN (zC t o) o.v),hk,rfl,hgj,qV _,by simp [StL.put],⟨rfl,rfl,trivial⟩,⟨?_,?_,rfl,?_,?_,?_,?_,trivial⟩,⟨fun j => ?_,trivial⟩⟩)
  ·rw [show stRef _ = stRef s by simp [stRef,StL.put]]
   conv => lhs; whnf
   all_goals (
    refine congrArg some ?_
    repeat (refine yK ?_ (xL i0 i1 i2 s rfl))
    all_goals rfl)
  ·rfl
  ·conv => lhs; whnf
   show some (Ob.ds 132 1 _) = some (Ob.ds 132 1 _)
   simp [stk,zN,zC,encF]
  ·conv => lhs; whnf
   all_goals (
    refine congrArg (fun x => some (Ob.rs 175 6 x)) ?_
    apply vI
    ·repeat (first | exact rfl | apply xR hk | apply xQ (fun _ => rfl))
    ·show [_,_,_,_,_,AV.ref (.n 899) 0 ((zC t o).stack.length + 1)] = _
     simp [yE,zN]
     exact ⟨rfl,rfl,rfl,rfl,rfl⟩)
  ·rfl
  ·rfl
  ·repeat (first | exact rfl | refine hscrO ?_ (hg _ _) | conv => lhs; whnf)
 have n1 : ¬ o.code = 1 := by simpa using hc
 clear hc
 conv => whnf
 refine kbi (fun hc => ?_) (fun hc => ?_)
 ·have hc : o.code = 2 := by simpa using hc
  have hr := o2 (.inl hc)
  conv => whnf
  refine .inr (.inl ⟨4,[],?_⟩)
  conv => whnf
  refine ⟨by kernel_rfl,?_⟩
  conv => whnf
  refine .inr (.inr (.inr ⟨[0],by kernel_rfl,14,[],?_⟩))
  conv => whnf
  refine ⟨yE (zC t o),⟨by repeat (first | exact zR hk | refine yY ?_ (zY rfl _)),by simp [yE]⟩,?_⟩
  conv => whnf
  refine ⟨⟨by omega,by omega⟩,?_⟩
  conv => whnf
  refine ⟨encF (s.cells.getD o.a.toNat 0),⟨by rw [Nat.zero_add]; exact cE hr,by simp [encF]⟩,?_⟩
  conv => whnf
  refine ⟨by kernel_rfl,?_⟩
  conv => whnf
  refine ⟨⟨rfl,by rw [hpl]; simp; omega,by rw [hpl]; simp; omega⟩,?_⟩
  conv => whnf
  have hd : doL s k o ⟨eth,1,eobj,-1,epc⟩ = (s.put k (zN (zC t o) (s.cells.getD o.a.toNat 0)),⟨eth,2,o.a,(-1),epc⟩) := by unfold doL; rw [hgd]; simp [hc]
  rw [hd] at hK
  dsimp only at hK
  refine hK _ (.inl ⟨zN (zC t o) (s.cells.getD o.a.toNat 0),s.ths,stk (zN (zC t o) (s.cells.getD o.a.toNat 0)),hk,rfl,hgj,qV _,by simp [StL.put],⟨rfl,rfl,trivial⟩,⟨?_,?_,rfl,?_,?_,?_,?_,trivial⟩,⟨fun j => ?_,trivial⟩⟩)
  ·rw [show stRef _ = stRef s by simp [stRef,StL.put]]
   conv => lhs; whnf
   all_goals (
    refine congrArg some ?_
    repeat (refine yK ?_ (xL i0 i1 i2 s rfl))
    all_goals rfl)
  ·rfl
  ·conv => lhs; whnf
   show some (Ob.ds 132 1 _) = some (Ob.ds 132 1 _)
   simp [stk,zN,zC,encF]
  ·conv => lhs; whnf
   all_goals (
    refine congrArg (fun x => some (Ob.rs 175 6 x)) ?_
    apply vI
    ·repeat (first | exact rfl | apply xR hk | apply xQ (fun _ => rfl))
    ·show [_,_,_,_,_,AV.ref (.n 899) 0 ((zC t o).stack.length + 1)] = _
     simp [yE,zN]
     exact ⟨rfl,rfl,rfl,rfl,rfl⟩)
  ·rfl
  ·rfl
  ·repeat (first | exact rfl | refine hscrO ?_ (hg _ _) | conv => lhs; whnf)
 have n2 : ¬ o.code = 2 := by simpa using hc
 clear hc
 conv => whnf
 refine kbi (fun hc => ?_) (fun hc => ?_)
 ·have hc : o.code = 3 := by simpa using hc
  have hr := o2 (.inr hc)
  have htk : xK o = 1 := by simp [xK,zA,hc]
  conv => whnf
  refine .inr (.inl ⟨4,[],?_⟩)
  conv => whnf
  refine ⟨by kernel_rfl,?_⟩
  conv => whnf
  refine .inr (.inl ⟨9,[],?_⟩)
  conv => whnf
  refine ⟨encF (yM t o 0),⟨by omega,wO o5 (by omega),by simp [encF]⟩,?_⟩
  conv => whnf
  refine ⟨by kernel_rfl,?_⟩
  conv => whnf
  refine ⟨⟨by omega,by omega⟩,?_⟩
  conv => whnf
  have hd : doL s k o ⟨eth,1,eobj,-1,epc⟩ = ({ s with cells := s.cells.set o.a.toNat (yM t o 0) }.put k (zC t o),⟨eth,3,o.a,(-1),epc⟩) := by unfold doL; rw [hgd]; simp [hc]
  rw [hd] at hK
  dsimp only at hK
  refine hK _ (.inl ⟨zC t o,s.ths,stk t,hk,rfl,hgj,xI t o,by simp [StL.put],⟨rfl,rfl,trivial⟩,⟨?_,?_,rfl,?_,?_,?_,?_,trivial⟩,⟨fun j => ?_,trivial⟩⟩)
  ·rw [show stRef _ = stRef s by simp [stRef,StL.put]]
   conv => lhs; whnf
   all_goals (
    refine congrArg some ?_
    repeat (refine yK ?_ (xL i0 i1 i2 s rfl))
    all_goals rfl)
  ·rfl
  ·rfl
  ·conv => lhs; whnf
   all_goals (
    refine congrArg (fun x => some (Ob.rs 175 6 x)) ?_
    apply vI
    ·repeat (first | exact rfl | apply xR hk | apply xQ (fun _ => rfl))
    ·rfl)
  ·conv => lhs; whnf
   show some (Ob.ds 132 1 ((s.cells.map encF).set (0 + o.a.toNat) (encF (yM t o 0)))) = some (Ob.ds 132 1 ((s.cells.set o.a.toNat (yM t o 0)).map encF))
   rw [Nat.zero_add,List.map_set]
  ·rfl
  ·repeat (first | exact rfl | refine hscrO ?_ (hg _ _) | conv => lhs; whnf)
 have n3 : ¬ o.code = 3 := by simpa using hc
 clear hc
 conv => whnf
 refine kbi (fun hc => ?_) (fun hc => ?_)
 ·have hc : o.code = 10 := by simpa using hc
  conv => whnf
  have hd : doL s k o ⟨eth,1,eobj,-1,epc⟩ = (s.put k ({ zC t o with pc := o.a }),⟨eth,1,eobj,-1,epc⟩) := by unfold doL; rw [hgd]; simp [hc]
  rw [hd] at hK
  dsimp only at hK
  refine hK _ (.inl ⟨({ zC t o with pc := o.a }),s.ths,stk t,hk,rfl,hgj,xI t o,by simp [StL.put],⟨rfl,rfl,trivial⟩,⟨?_,?_,rfl,?_,?_,?_,?_,trivial⟩,⟨fun j => ?_,trivial⟩⟩)
  ·rw [show stRef _ = stRef s by simp [stRef,StL.put]]
   conv => lhs; whnf
   all_goals (
    refine congrArg some ?_
    repeat (refine yK ?_ (xL i0 i1 i2 s rfl))
    all_goals rfl)
  ·rfl
  ·rfl
  ·conv => lhs; whnf
   all_goals (
    refine congrArg (fun x => some (Ob.rs 175 6 x)) ?_
    apply vI
    ·repeat (first | exact rfl | apply xR hk | apply xQ (fun _ => rfl))
    ·rfl)
  ·rfl
  ·rfl
  ·repeat (first | exact rfl | refine hscrO ?_ (hg _ _) | conv => lhs; whnf)
 have n10 : ¬ o.code = 10 := by simpa using hc
 clear hc
 conv => whnf
 refine kbi (fun hc => ?_) (fun hc => ?_)
 ·have hc : o.code = 11 := by simpa using hc
  have htk : xK o = 1 := by simp [xK,zA,hc]
  conv => whnf
  refine ⟨encF (yM t o 0),⟨by omega,wO o5 (by omega),by simp [encF]⟩,?_⟩
  conv => whnf
  refine ocase (isNo_ok _) (fun hn => ?_) (fun hn => ?_)
  ·conv => whnf
   have hd : doL s k o ⟨eth,1,eobj,-1,epc⟩ = (s.put k ({ zC t o with pc := o.a }),⟨eth,1,eobj,-1,epc⟩) := by unfold doL; rw [hgd]; simp [hc]; rw [if_pos hn]
   rw [hd] at hK
   dsimp only at hK
   refine hK _ (.inl ⟨({ zC t o with pc := o.a }),s.ths,stk t,hk,rfl,hgj,xI t o,by simp [StL.put],⟨rfl,rfl,trivial⟩,⟨?_,?_,rfl,?_,?_,?_,?_,trivial⟩,⟨fun j => ?_,trivial⟩⟩)
   ·rw [show stRef _ = stRef s by simp [stRef,StL.put]]
    conv => lhs; whnf
    all_goals (
     refine congrArg some ?_
     repeat (refine yK ?_ (xL i0 i1 i2 s rfl))
     all_goals rfl)
   ·rfl
   ·rfl
   ·conv => lhs; whnf
    all_goals (
     refine congrArg (fun x => some (Ob.rs 175 6 x)) ?_
     apply vI
     ·repeat (first | exact rfl | apply xR hk | apply xQ (fun _ => rfl))
     ·rfl)
   ·rfl
   ·rfl
   ·repeat (first | exact rfl | refine hscrO ?_ (hg _ _) | conv => lhs; whnf)
  ·conv => whnf
   have hd : doL s k o ⟨eth,1,eobj,-1,epc⟩ = (s.put k (zC t o),⟨eth,1,eobj,-1,epc⟩) := by unfold doL; rw [hgd]; simp [hc]; rw [if_neg hn]
   rw [hd] at hK
   dsimp only at hK
   refine hK _ (.inl ⟨zC t o,s.ths,stk t,hk,rfl,hgj,xI t o,by simp [StL.put],⟨rfl,rfl,trivial⟩,⟨?_,?_,rfl,?_,?_,?_,?_,trivial⟩,⟨fun j => ?_,trivial⟩⟩)
   ·rw [show stRef _ = stRef s by simp [stRef,StL.put]]
    conv => lhs; whnf
    all_goals (
     refine congrArg some ?_
     repeat (refine yK ?_ (xL i0 i1 i2 s rfl))
     all_goals rfl)
   ·rfl
   ·rfl
   ·conv => lhs; whnf
    all_goals (
     refine congrArg (fun x => some (Ob.rs 175 6 x)) ?_
     apply vI
     ·repeat (first | exact rfl | apply xR hk | apply xQ (fun _ => rfl))
     ·rfl)
   ·rfl
   ·rfl
   ·repeat (first | exact rfl | refine hscrO ?_ (hg _ _) | conv => lhs; whnf)
 have n11 : ¬ o.code = 11 := by simpa using hc
 clear hc
 conv => whnf
 refine kbi (fun hc => ?_) (fun hc => ?_)
 ·have hc : o.code = 12 := by simpa using hc
  have hr := o3 (.inl hc)
  conv => whnf
  refine .inr (.inl ⟨4,[],?_⟩)
  conv => whnf
  refine ⟨by kernel_rfl,?_⟩
  conv => whnf
  refine .inr (.inl ⟨7,[],?_⟩)
  conv => whnf
  refine ⟨by kernel_rfl,?_⟩
  conv => whnf
  refine ⟨⟨by omega,by omega⟩,?_⟩
  conv => whnf
  have hd : doL s k o ⟨eth,1,eobj,-1,epc⟩ = ({ s with owner := s.owner.set o.a.toNat ((k : Nat) : Int) }.put k (zC t o),⟨eth,4,o.a,(-1),epc⟩) := by unfold doL; rw [hgd]; simp [hc]
  rw [hd] at hK
  dsimp only at hK
  refine hK _ (.inl ⟨zC t o,s.ths,stk t,hk,rfl,hgj,xI t o,by simp [StL.put],⟨rfl,rfl,trivial⟩,⟨?_,?_,rfl,?_,?_,?_,?_,trivial⟩,⟨fun j => ?_,trivial⟩⟩)
  ·rw [show stRef _ = stRef s by simp [stRef,StL.put]]
   conv => lhs; whnf
   all_goals (
    refine congrArg some ?_
    repeat (refine yK ?_ (xL i0 i1 i2 s rfl))
    all_goals rfl)
  ·rfl
  ·rfl
  ·conv => lhs; whnf
   all_goals (
    refine congrArg (fun x => some (Ob.rs 175 6 x)) ?_
    apply vI
    ·repeat (first | exact rfl | apply xR hk | apply xQ (fun _ => rfl))
    ·rfl)
  ·rfl
  ·conv => lhs; whnf
   show some (Ob.ds 3 1 ((s.owner.map encInt).set (0 + o.a.toNat) (encInt ((k : Nat) : Int)))) = some (Ob.ds 3 1 ((s.owner.set o.a.toNat ((k : Nat) : Int)).map encInt))
   rw [Nat.zero_add,List.map_set]
  ·repeat (first | exact rfl | refine hscrO ?_ (hg _ _) | conv => lhs; whnf)
 have n12 : ¬ o.code = 12 := by simpa using hc
 clear hc
 conv => whnf
 refine kbi (fun hc => ?_) (fun hc => ?_)
 ·have hc : o.code = 13 := by simpa using hc
  have hr := o3 (.inr hc)
  conv => whnf
  refine .inr (.inl ⟨4,[],?_⟩)
  conv => whnf
  refine ⟨by kernel_rfl,?_⟩
  conv => whnf
  refine .inr (.inl ⟨6,[],?_⟩)
  conv => whnf
  refine ⟨by kernel_rfl,?_⟩
  conv => whnf
  refine ⟨⟨by omega,by omega⟩,?_⟩
  conv => whnf
  have hd : doL s k o ⟨eth,1,eobj,-1,epc⟩ = ({ s with owner := s.owner.set o.a.toNat (-1) }.put k (zC t o),⟨eth,5,o.a,(-1),epc⟩) := by unfold doL; rw [hgd]; simp [hc]
  rw [hd] at hK
  dsimp only at hK
  refine hK _ (.inl ⟨zC t o,s.ths,stk t,hk,rfl,hgj,xI t o,by simp [StL.put],⟨rfl,rfl,trivial⟩,⟨?_,?_,rfl,?_,?_,?_,?_,trivial⟩,⟨fun j => ?_,trivial⟩⟩)
  ·rw [show stRef _ = stRef s by simp [stRef,StL.put]]
   conv => lhs; whnf
   all_goals (
    refine congrArg some ?_
    repeat (refine yK ?_ (xL i0 i1 i2 s rfl))
    all_goals rfl)
  ·rfl
  ·rfl
  ·conv => lhs; whnf
   all_goals (
    refine congrArg (fun x => some (Ob.rs 175 6 x)) ?_
    apply vI
    ·repeat (first | exact rfl | apply xR hk | apply xQ (fun _ => rfl))
    ·rfl)
  ·rfl
  ·conv => lhs; whnf
   show some (Ob.ds 3 1 ((s.owner.map encInt).set (0 + o.a.toNat) (encInt (-1)))) = some (Ob.ds 3 1 ((s.owner.set o.a.toNat (-1)).map encInt))
   rw [Nat.zero_add,List.map_set]
  ·repeat (first | exact rfl | refine hscrO ?_ (hg _ _) | conv => lhs; whnf)
 have n13 : ¬ o.code = 13 := by simpa using hc
 clear hc
 conv => whnf
 refine kbi (fun hc => ?_) (fun hc => ?_)
 ·have hc : o.code = 14 := by simpa using hc
  conv => whnf
  refine .inr (.inl ⟨7,[],?_⟩)
  conv => whnf
  refine ⟨by kernel_rfl,?_⟩
  conv => whnf
  refine .inr (.inr (.inr ⟨[0],by kernel_rfl,12,[],?_⟩))
  conv => whnf
  refine ⟨yE (zC t o),⟨by repeat (first | exact zR hk | refine yY ?_ (zY rfl _)),by simp [yE]⟩,?_⟩
  conv => whnf
  refine ⟨by kernel_rfl,?_⟩
  conv => whnf
  refine ⟨⟨rfl,by rw [hpl]; simp; omega,by rw [hpl]; simp; omega⟩,?_⟩
  conv => whnf
  refine .inr (.inr (.inr ⟨[0],by kernel_rfl,9,[2715],?_⟩))
  conv => whnf
  refine ⟨_,kQ o.a,?_⟩
  conv => whnf
  refine ⟨by kernel_rfl,?_⟩
  conv => whnf
  refine ⟨⟨fun c hc' => ?_,?_,?_⟩,?_⟩
  ·have hc' : c ∈ [[i64 o.a,i64 0,i64 1,i64 (-1),i64 (-1),AV.ref (.n 905) 0 0]] := hc'
   simp only [List.mem_singleton] at hc'
   subst hc'; rfl
  ·show (s.ths.length + 1) * 64 ≤ _
   omega
  ·show s.ths.length + 1 ≤ _
   omega
  conv => whnf
  have hd : doL s k o ⟨eth,1,eobj,-1,epc⟩ = ({ s with ths := s.ths ++ [jF o.a] }.put k (zN (zC t o) (FloatKind.f64.nearest (s.ths.length : Int))),⟨eth,6,s.ths.length,(-1),epc⟩) := by unfold doL; rw [hgd]; simp [hc]
  rw [hd] at hK
  dsimp only at hK
  refine hK _ (.inr ⟨s.ths,zN (zC t o) (FloatKind.f64.nearest (s.ths.length : Int)),o.a,hk,?_,hgj,⟨rfl,rfl,trivial⟩,⟨?_,rfl,rfl,?_,?_,rfl,rfl,rfl,trivial⟩,⟨fun j => ?_,trivial⟩⟩)
  ·simp [StL.put,List.set_append_left _ _ hk]
  ·conv => lhs; whnf
   refine congrArg (fun x => some (Ob.vs E x)) ?_
   refine spawn_vs3 i0 i1 i2 (s := s) ?_ ?_ rfl rfl rfl
   ·conv => lhs; whnf
    all_goals simp [StL.put]
   all_goals (
    repeat (refine hscrL ?_ (u7 i0 i1 i2 s rfl))
    all_goals rfl)
  ·conv => lhs; whnf
   show some (Ob.ds 132 1 _) = some (Ob.ds 132 1 _)
   simp [stk,zN,zC,encF]
  ·conv => lhs; whnf
   refine congrArg (fun x => some (Ob.rs 175 6 x)) ?_
   refine sM rfl ?_ rfl rfl
   apply vI
   ·repeat (first | exact rfl | apply xR hk | apply xQ (fun _ => rfl))
   ·show [_,_,_,_,_,AV.ref (.n 899) 0 ((zC t o).stack.length + 1)] = _
    simp [yE,zN]
    exact ⟨rfl,rfl,rfl,rfl,rfl⟩
  ·repeat (first | exact rfl | refine hscrO ?_ (hg _ _) | conv => lhs; whnf)
 have n14 : ¬ o.code = 14 := by simpa using hc
 clear hc
 conv => whnf
 refine kbi (fun hc => ?_) (fun hc => ?_)
 ·have hc : o.code = 15 := by simpa using hc
  have htk : xK o = 1 := by simp [xK,zA,hc]
  obtain ⟨jj,hj1,hj2⟩ := hjo hc
  conv => whnf
  refine .inr (.inl ⟨14,[],?_⟩)
  conv => whnf
  refine ⟨encF (yM t o 0),⟨by omega,wO o5 (by omega),by simp [encF]⟩,?_⟩
  conv => whnf
  refine ⟨_,hI _ _,?_⟩
  conv => whnf
  refine ⟨by kernel_rfl,?_⟩
  conv => whnf
  have hd : doL s k o ⟨eth,1,eobj,-1,epc⟩ = (s.put k (zC t o),⟨eth,7,(zW s t).getD (-1),(-1),epc⟩) := by unfold doL; rw [hgd]; simp [hc]
  rw [hd] at hK
  dsimp only at hK
  refine hK _ (.inl ⟨zC t o,s.ths,stk t,hk,rfl,hgj,xI t o,by simp [StL.put],⟨rfl,rfl,trivial⟩,⟨?_,?_,rfl,?_,?_,?_,?_,trivial⟩,⟨fun j => ?_,trivial⟩⟩)
  ·rw [show stRef _ = stRef s by simp [stRef,StL.put]]
   conv => lhs; whnf
   all_goals (
    refine congrArg some ?_
    repeat (refine yK ?_ (xL i0 i1 i2 s rfl))
    all_goals rfl)
  ·conv => lhs; whnf
   show some (Ob.vs 128 [i64 eth,i64 7,i64 ((yQ (yM t o 0) s.ths.length).getD 0),i64 (-1),i64 epc]) = some (Ob.vs 128 [i64 eth,i64 7,i64 ((zW s t).getD (-1)),i64 (-1),i64 epc])
   rw [hj1,hj2]
   rfl
  ·rfl
  ·conv => lhs; whnf
   all_goals (
    refine congrArg (fun x => some (Ob.rs 175 6 x)) ?_
    apply vI
    ·repeat (first | exact rfl | apply xR hk | apply xQ (fun _ => rfl))
    ·rfl)
  ·rfl
  ·rfl
  ·repeat (first | exact rfl | refine hscrO ?_ (hg _ _) | conv => lhs; whnf)
 have n15 : ¬ o.code = 15 := by simpa using hc
 clear hc
 conv => whnf
 refine kbi (fun hc => ?_) (fun hc => ?_)
 ·have hc : o.code = 16 := by simpa using hc
  have hr := o4 hc
  conv => whnf
  refine .inr (.inl ⟨8,[],?_⟩)
  conv => whnf
  refine ⟨by kernel_rfl,?_⟩
  conv => whnf
  refine .inr (.inl ⟨6,[],?_⟩)
  conv => whnf
  refine ⟨by kernel_rfl,?_⟩
  conv => whnf
  refine ⟨⟨by omega,by omega⟩,?_⟩
  conv => whnf
  refine ⟨yE (zC t o),⟨by repeat (first | exact zR hk | refine yY ?_ (zY rfl _)),by simp [yE]⟩,?_⟩
  conv => whnf
  refine .inr (.inr (.inr ⟨[0,1,2],by kernel_rfl,by kernel_rfl,by kernel_rfl,13,[],?_⟩))
  conv => whnf
  refine ⟨by kernel_rfl,?_⟩
  conv => whnf
  have hd : doL s k o ⟨eth,1,eobj,-1,epc⟩ = ({ s with owner := s.owner.set o.b.toNat (-1) }.put k ({ zC t o with st := 3,cond := o.a,lock := o.b,pc := (zC t o).pc - 1 }),⟨eth,8,o.a,o.b,epc⟩) := by unfold doL; rw [hgd]; simp [hc]
  rw [hd] at hK
  dsimp only at hK
  refine hK _ (.inl ⟨({ zC t o with st := 3,cond := o.a,lock := o.b,pc := (zC t o).pc - 1 }),s.ths,stk t,hk,rfl,hgj,xI t o,by simp [StL.put],⟨rfl,rfl,trivial⟩,⟨?_,?_,rfl,?_,?_,?_,?_,trivial⟩,⟨fun j => ?_,trivial⟩⟩)
  ·rw [show stRef _ = stRef s by simp [stRef,StL.put]]
   conv => lhs; whnf
   all_goals (
    refine congrArg some ?_
    repeat (refine yK ?_ (xL i0 i1 i2 s rfl))
    all_goals rfl)
  ·rfl
  ·rfl
  ·conv => lhs; whnf
   all_goals (
    refine congrArg (fun x => some (Ob.rs 175 6 x)) ?_
    apply vI
    ·repeat (first | exact rfl | apply xR hk | apply xQ (fun _ => rfl))
    ·have ew : IntKind.i64.wrap (t.pc + 1 - 1) = t.pc + 1 - 1 := zH (by have := hpc.1; omega) (by have := hpc.2; omega)
     show [_,AV.d (.int .i64 (IntKind.i64.wrap (t.pc + 1 - 1))),_,_,_,_] = _
     rw [ew]
     rfl)
  ·rfl
  ·conv => lhs; whnf
   show some (Ob.ds 3 1 ((s.owner.map encInt).set (0 + o.b.toNat) (encInt (-1)))) = some (Ob.ds 3 1 ((s.owner.set o.b.toNat (-1)).map encInt))
   rw [Nat.zero_add,List.map_set]
  ·repeat (first | exact rfl | refine hscrO ?_ (hg _ _) | conv => lhs; whnf)
 have n16 : ¬ o.code = 16 := by simpa using hc
 clear hc
 conv => whnf
 refine kbi (fun hc => ?_) (fun hc => ?_)
 ·have hc : o.code = 17 := by simpa using hc
  have hcall : CallsTo EE 222 [sl ((s.ths.set k (zC t o)).map zE),.fn 223 [.fp (encOp o)]] (· = i64 (lA (wK s.ths o.a))) := by
   rw [← sA hk (t' := zC t o) o.a hst3 (by rw [ht0]; exact hst3)]
   exact kS _ (by simp; omega) 223 _ (.inr ⟨_,rfl⟩) (fun t => t.st == 3 && t.cond == o.a) (fun u _ => pF u o)
  conv => whnf
  refine .inr (.inl ⟨4,[],?_⟩)
  conv => whnf
  refine ⟨by kernel_rfl,?_⟩
  conv => whnf
  refine .inl ⟨[sl ((s.ths.set k (zC t o)).map zE),.fn 223 [.fp (encOp o)]],[],_,⟨_,_,rfl,⟨_,rfl,dR (l := s.ths) (k := k) (t := zC t o) (els := stk t) hk ?_ ?_ ?_ (xI t o)⟩,_,_,rfl,rfl,rfl⟩,rfl,hcall,?_⟩
  ·conv => lhs; whnf
   refine congrArg (fun x => some (Ob.rs 175 6 x)) ?_
   repeat (first | exact rfl | refine qA ?_ rfl (fun _ => rfl))
  ·intro j hj hjl
   refine Eq.trans (b := g j) ?_ ((hgj j hj).trans (by simp [zV,hjl]))
   repeat (first | exact rfl | refine hscrO ?_ (hg _ _) | conv => lhs; whnf)
  ·rfl
  rintro r rfl
  refine ⟨rfl,?_⟩
  cases hwk : wK s.ths o.a with
  |none =>
   conv => whnf
   refine kbi (fun hw => ?_) (fun hw => ?_)
   ·simp [lA] at hw
   conv => whnf
   have hd : doL s k o ⟨eth,1,eobj,-1,epc⟩ = (s.put k (zC t o),⟨eth,10,o.a,(-1),epc⟩) := by unfold doL; rw [hgd]; simp [hc,hwk]
   rw [hd] at hK
   dsimp only at hK
   refine hK _ (.inl ⟨zC t o,s.ths,stk t,hk,rfl,hgj,xI t o,by simp [StL.put],⟨rfl,rfl,trivial⟩,⟨?_,?_,rfl,?_,?_,?_,?_,trivial⟩,⟨fun j => ?_,trivial⟩⟩)
   ·rw [show stRef _ = stRef s by simp [stRef,StL.put]]
    conv => lhs; whnf
    all_goals (
     refine congrArg some ?_
     repeat (refine yK ?_ (xL i0 i1 i2 s rfl))
     all_goals rfl)
   ·rfl
   ·rfl
   ·conv => lhs; whnf
    all_goals (
     refine congrArg (fun x => some (Ob.rs 175 6 x)) ?_
     apply vI
     ·repeat (first | exact rfl | apply xR hk | apply xQ (fun _ => rfl))
     ·rfl)
   ·rfl
   ·rfl
   ·repeat (first | exact rfl | refine hscrO ?_ (hg _ _) | conv => lhs; whnf)
  |some j =>
   obtain ⟨hjl,hj3,hjc⟩ := pC hwk
   have hjk : j ≠ k := by
    rintro rfl
    rw [ht0] at hj3; exact hst3 hj3
   conv => whnf
   refine kbi (fun hw => ?_) (fun hw => ?_)
   rotate_left 1
   ·simp [lA] at hw
   conv => whnf
   refine .inr (.inl ⟨6,[],?_⟩)
   conv => whnf
   have hd : doL s k o ⟨eth,1,eobj,-1,epc⟩ = ({ s with ths := s.ths.modify j fun u => { u with st := 4 } }.put k (zC t o),⟨eth,10,o.a,j,epc⟩) := by unfold doL; rw [hgd]; simp [hc,hwk]
   rw [hd] at hK
   dsimp only at hK
   refine ⟨by kernel_rfl,?_⟩
   conv => whnf
   refine ⟨⟨by show (0 : Int) ≤ (j : Int); omega,by show (j : Int) < s.ths.length; omega⟩,?_⟩
   conv => whnf
   refine hK _ (.inl ⟨zC t o,s.ths.modify j fun u => { u with st := 4 },stk t,by simpa using hk,rfl,fun i hi => (hgj i hi).trans (sI i).symm,xI t o,by simp [StL.put],⟨rfl,rfl,trivial⟩,⟨?_,?_,rfl,?_,?_,?_,?_,trivial⟩,⟨fun j => ?_,trivial⟩⟩)
   ·rw [show stRef _ = stRef s by simp [stRef,StL.put]]
    conv => lhs; whnf
    all_goals (
     refine congrArg some ?_
     repeat (refine yK ?_ (xL i0 i1 i2 s rfl))
     all_goals rfl)
   ·rfl
   ·rfl
   ·conv => lhs; whnf
    all_goals (
     refine congrArg (fun x => some (Ob.rs 175 6 x)) ?_
     refine sQ hjl hjk ?_
     repeat (first | exact rfl | refine qA ?_ rfl (fun _ => rfl)))
   ·rfl
   ·rfl
   ·repeat (first | exact rfl | refine hscrO ?_ (hg _ _) | conv => lhs; whnf)
 have n17 : ¬ o.code = 17 := by simpa using hc
 clear hc
 conv => whnf
 have hcode : 4 ≤ o.code ∧ o.code ≤ 9 := by have := o1.1; have := o1.2; omega
 have htk : xK o = 2 := by simp only [xK,zA]; rw [if_neg (by omega),if_neg (by omega),if_pos hcode]; rfl
 refine .inr (.inr (.inr ⟨[0],by kernel_rfl,15,[],?_⟩))
 conv => whnf
 refine ⟨yE (zC t o),⟨by repeat (first | exact zR hk | refine yY ?_ (zY rfl _)),by simp [yE]⟩,?_⟩
 conv => whnf
 refine ⟨encF (yM t o 0),⟨by omega,wO o5 (by omega),by simp [encF]⟩,?_⟩
 conv => whnf
 refine ⟨encF (yM t o 1),⟨by omega,wO o5 (by omega),by simp [encF]⟩,?_⟩
 conv => whnf
 refine ⟨_,aQ _ _ _ hcode (lF hfl) (lF hfl),?_⟩
 conv => whnf
 refine ⟨by kernel_rfl,?_⟩
 conv => whnf
 refine ⟨⟨rfl,by rw [hpl]; simp; omega,by rw [hpl]; simp; omega⟩,?_⟩
 conv => whnf
 have hd : doL s k o ⟨eth,1,eobj,-1,epc⟩ = (s.put k (zN (zC t o) (yN o.code (yM t o 0) (yM t o 1))),⟨eth,1,eobj,-1,epc⟩) := by unfold doL; rw [hgd]; simp [n1,n2,n3,n10,n11,n12,n13,n14,n15,n16,n17]
 rw [hd] at hK
 dsimp only at hK
 refine hK _ (.inl ⟨zN (zC t o) (yN o.code (yM t o 0) (yM t o 1)),s.ths,stk (zN (zC t o) (yN o.code (yM t o 0) (yM t o 1))),hk,rfl,hgj,qV _,by simp [StL.put],⟨rfl,rfl,trivial⟩,⟨?_,?_,rfl,?_,?_,?_,?_,trivial⟩,⟨fun j => ?_,trivial⟩⟩)
 ·rw [show stRef _ = stRef s by simp [stRef,StL.put]]
  conv => lhs; whnf
  all_goals (
   refine congrArg some ?_
   repeat (refine yK ?_ (xL i0 i1 i2 s rfl))
   all_goals rfl)
 ·rfl
 ·conv => lhs; whnf
  show some (Ob.ds 132 1 _) = some (Ob.ds 132 1 _)
  simp [stk,zN,zC,encF]
 ·conv => lhs; whnf
  all_goals (
   refine congrArg (fun x => some (Ob.rs 175 6 x)) ?_
   apply vI
   ·repeat (first | exact rfl | apply xR hk | apply xQ (fun _ => rfl))
   ·show [_,_,_,_,_,AV.ref (.n 899) 0 ((zC t o).stack.length + 1)] = _
    simp [yE,zN]
    exact ⟨rfl,rfl,rfl,rfl,rfl⟩)
 ·rfl
 ·rfl
 ·repeat (first | exact rfl | refine hscrO ?_ (hg _ _) | conv => lhs; whnf)
end Ai
end
section
set_option maxRecDepth 100000
namespace Ai
open Go Go.Proofs
def InertL (pre : List AV) : Prop := ∀ x ∈ pre,Inert x
theorem gV : ∀ {pre : List AV},InertL pre → ∀ p,scrPL p pre = pre
 | [],_,p => rfl
 |x :: xs,h,p => by simp only [scrPL]; rw [(h x List.mem_cons_self).scr,gV (fun y hy => h y (List.mem_cons_of_mem _ hy))]
theorem inertL_ren : ∀ {pre : List AV},InertL pre → ∀ f,renL f pre = pre
 | [],_,f => rfl
 |x :: xs,h,f => by simp only [renL]; rw [(h x List.mem_cons_self).ren,inertL_ren (fun y hy => h y (List.mem_cons_of_mem _ hy))]
theorem tN : ∀ {pre : List AV},InertL pre → ∀ κ q,kA κ q pre = pre
 | [],_,κ,q => rfl
 |x :: xs,h,κ,q => by simp only [kA]; rw [(h x List.mem_cons_self).cut,tN (fun y hy => h y (List.mem_cons_of_mem _ hy))]
theorem bZ (p : Key → Bool) : ∀ a b : List AV,scrPL p (a ++ b) = scrPL p a ++ scrPL p b
 | [],b => rfl
 |x :: a,b => by simp only [List.cons_append,scrPL]; rw [bZ p a b]
theorem renL_app (f : Key → Key) : ∀ a b : List AV,renL f (a ++ b) = renL f a ++ renL f b
 | [],b => rfl
 |x :: a,b => by simp only [List.cons_append,renL]; rw [renL_app f a b]
theorem c7 (κ : Key) (q : Nat) : ∀ a b : List AV,kA κ q (a ++ b) = kA κ q a ++ kA κ q b
 | [],b => rfl
 |x :: a,b => by simp only [List.cons_append,kA]; rw [c7 κ q a b]
def xZ : Key → Bool
 | .n k => Nat.beq k 899 || Nat.beq k 900 || Nat.beq k 901 || Nat.beq k 902
 | .s o _ => Nat.beq o 900
 | .l k => Nat.beq k 0
def stHA (E : TypeId) (pre : List AV) (s : StL) (k : Nat) (t : Th) : Key → Option Ob
 | .l j => bif Nat.beq j 0 then some (.vs E (pre ++ stRef s)) else none
 | .n j => bif Nat.beq j 899 then some (.ds 132 1 (stk t)) else bif Nat.beq j 900 then some (.rs 175 6 (rowsA s.ths k t)) else bif Nat.beq j 901 then some (.ds 132 1 (s.cells.map encF)) else bif Nat.beq j 902 then some (.ds 3 1 (s.owner.map encInt)) else none
 | .s o j => bif Nat.beq o 900 then (bif Nat.beq j k then none else zV s.ths j) else none
def stHC (E : TypeId) (pre : List AV) (s : StL) : Key → Option Ob
 | .l j => bif Nat.beq j 0 then some (.vs E (pre ++ stRef s)) else none
 | .n j => bif Nat.beq j 900 then some (.rs 175 6 (thRows 900 s.ths)) else bif Nat.beq j 901 then some (.ds 132 1 (s.cells.map encF)) else bif Nat.beq j 902 then some (.ds 3 1 (s.owner.map encInt)) else none
 | .s o j => bif Nat.beq o 900 then zV s.ths j else none
theorem thRows_set {l : List Th} {k : Nat} {t : Th} (hk : k < l.length) : thRows 900 (l.set k t) = (thRows 900 l).set k (thRow 900 k t) := by
 apply List.ext_getElem?
 intro i
 rw [vZ,List.getElem?_set,List.getElem?_set]
 by_cases h : k = i
 ·subst h
  simp [hk,zU]
 ·simp [h,vZ]
theorem mV {l : List Th} {k : Nat} {t u : Th} (hk : k < l.length) : rowsA (l.set k u) k t = rowsA l k t := by
 unfold rowsA
 rw [thRows_set hk,List.set_set]
theorem mQ {l : List Th} {k j : Nat} {t : Th} (h : j ≠ k) : zV (l.set k t) j = zV l j := by
 unfold zV; rw [List.getElem?_set_ne (Ne.symm h)]
theorem thFam_self {l : List Th} {k : Nat} (h : k < l.length) : zV l k = some (.ds 132 1 (stk l[k])) := by
 unfold zV; rw [List.getElem?_eq_getElem h]; rfl
theorem rows_cut {l : List Th} {k : Nat} {t : Th} : (rowsA l k t).map (kA (.n 899) t.stack.length) = rowsA l k t := by
 unfold rowsA
 rw [List.map_set]
 congr 1
 ·apply List.ext_getElem?
  intro i
  rw [List.getElem?_map,vZ]
  cases l[i]? with
  |none => rfl
  |some u => rfl
 ·have : Nat.ble (0 + t.stack.length) t.stack.length = true := by rw [Nat.zero_add,Nat.ble_eq]; exact Nat.le_refl _
  show [_,_,_,_,_,(bif Nat.ble (0 + t.stack.length) t.stack.length then AV.ref (.n 899) 0 t.stack.length else .junk)] = _
  rw [this]; rfl
theorem stRef_cut (s : StL) (q : Nat) : kA (.n 899) q (stRef s) = stRef s := rfl
theorem aV (s : StL) : scrPL (fun o => !xZ o) (stRef s) = stRef s := rfl
def doIPost (E : TypeId) (pre : List AV) (k : Nat) (s' : StL) (e' : Ev) (r : AV) (H1 : Key → Option Ob) : Prop :=
 r = agg (encEv e') ∧ ∃ (h : k < s'.ths.length),H1 = stHA E pre s' k s'.ths[k]
theorem doI_fin (E : TypeId) (pre : List AV) (hp : InertL pre) (g : Nat → Option Ob) (k : Nat) (hg : ∀ p j,(g j).map (scrPO p) = g j) (hgc : ∀ q j,(g j).map (cutO (.n 899) q) = g j) (hgk : g k = none) (s' : StL) (e' : Ev) (S : St) (t' : Th) (h : DoIE E pre g k s' t' e' S) :
  AW EE Tryz.f172.ntmps (dropC 8 (Tryz.f172.body.getD .skip)) (retIO EE Tryz.f172 (doIPost E pre k s' e')) S := by
 obtain ⟨l',els,hk,hths,hgj,hels,hlen,hat⟩ := h
 obtain ⟨τ,H,rfl⟩ := hat.form
 conv => whnf
 refine ⟨_,weak_cut (.n 899) t'.stack.length (e := 132) (sz := 1) (els := els) ?_,?_⟩
 ·rfl
 conv => whnf
 refine ⟨xZ,?_,?_⟩
 ·rfl
 have hk' : k < s'.ths.length := by rw [hths]; simpa using hk
 have htk : s'.ths[k] = t' := by simp [hths]
 refine ⟨hk',?_⟩
 rw [htk]
 funext κ
 cases κ with
 |l j =>
  by_cases h : j = 0
  ·subst h
   show some (Ob.vs E (scrPL _ (kA _ _ (pre ++ stRef s')))) = some (Ob.vs E (pre ++ stRef s'))
   rw [c7,tN hp,stRef_cut,bZ,gV hp,aV]
  ·simp [yJ,xZ,stHA,nbeq_ne h]
 |n j =>
  by_cases h1 : j = 899
  ·subst h1
   show some (Ob.ds 132 1 (els.take t'.stack.length)) = some (Ob.ds 132 1 (stk t'))
   rw [hels]
  by_cases h2 : j = 900
  ·subst h2
   show some (Ob.rs 175 6 (((rowsA l' k t').map (kA (.n 899) t'.stack.length)).map (scrPL fun o => !xZ o))) = some (Ob.rs 175 6 (rowsA s'.ths k t'))
   rw [rows_cut,hths,mV hk]
   exact congrArg (fun x => some (Ob.rs 175 6 x)) (uA rfl (fun _ => rfl) _ _ _)
  by_cases h3 : j = 901
  ·subst h3; rfl
  by_cases h4 : j = 902
  ·subst h4; rfl
  simp [yJ,xZ,stHA,nbeq_ne h1,nbeq_ne h2,nbeq_ne h3,nbeq_ne h4]
 |s o j =>
  by_cases h : o = 900
  ·subst h
   show ((g j).map (cutO (.n 899) t'.stack.length)).map (scrPO fun o => !xZ o) = bif Nat.beq j k then none else zV s'.ths j
   rw [hgc,hg]
   by_cases hj : j = k
   ·subst hj; rw [nbeq_self,hgk]; rfl
   ·rw [nbeq_ne hj,hgj j hj,hths,mQ hj]; rfl
  ·simp [yJ,xZ,stHA,nbeq_ne h]
theorem rowsA_app {l : List Th} {k : Nat} {t u : Th} (hk : k < l.length) : rowsA (l ++ [u]) k t = rowsA l k t ++ [thRow 900 l.length u] := by
 unfold rowsA
 have : thRows 900 (l ++ [u]) = thRows 900 l ++ [thRow 900 l.length u] := by
  apply List.ext_getElem?
  intro i
  rw [vZ]
  by_cases h : i < l.length
  ·rw [List.getElem?_append_left h,List.getElem?_append_left (by rw [zU]; exact h),vZ]
  ·rw [List.getElem?_append_right (by omega),List.getElem?_append_right (by rw [zU]; omega),zU]
   by_cases h2 : i - l.length = 0
   ·have : i = l.length := by omega
    subst this
    simp
   ·rw [List.getElem?_eq_none (by simp; omega),List.getElem?_eq_none (by simp; omega)]; rfl
 rw [this,List.set_append_left _ _ (by rw [zU]; exact hk)]
theorem rowsA_ren {l : List Th} {k : Nat} {t : Th} : (rowsA l k t).map (renL (swp (.n 905) (.s 900 l.length))) = rowsA l k t := by
 unfold rowsA
 rw [List.map_set,dU (Nat.le_refl _)]
 rfl
theorem thFam_app {l : List Th} {u : Th} {j : Nat} : zV (l ++ [u]) j = bif Nat.beq j l.length then some (.ds 132 1 (stk u)) else zV l j := by
 unfold zV
 by_cases h : j = l.length
 ·subst h; rw [nbeq_self]; simp
 ·rw [nbeq_ne h]
  by_cases h2 : j < l.length
  ·rw [List.getElem?_append_left h2]; rfl
  ·rw [List.getElem?_eq_none (by simp; omega),List.getElem?_eq_none (by omega)]; rfl
theorem s8 (E : TypeId) (pre : List AV) (hp : InertL pre) (g : Nat → Option Ob) (k : Nat) (hg : ∀ p j,(g j).map (scrPO p) = g j) (hgr : ∀ f j,(g j).map (renO f) = g j) (hgk : g k = none) (s' : StL) (e' : Ev) (S : St) (l' : List Th) (t' : Th) (r : Int) (h : DoIF E pre g k s' l' t' r e' S) :
  AW EE Tryz.f172.ntmps (dropC 8 (Tryz.f172.body.getD .skip)) (retIO EE Tryz.f172 (doIPost E pre k s' e')) S := by
 obtain ⟨hk,hths,hgj,hat⟩ := h
 obtain ⟨τ,H,rfl⟩ := hat.form
 conv => whnf
 refine ⟨_,vK 905 900 l'.length,?_⟩
 conv => whnf
 refine ⟨xZ,?_,?_⟩
 ·rfl
 have hk' : k < s'.ths.length := by rw [hths]; simp; omega
 have htk : s'.ths[k] = t' := by
  have : s'.ths[k]? = some t' := by rw [hths,List.getElem?_append_left (by simpa using hk)]; simp [hk]
  rw [List.getElem?_eq_getElem hk'] at this
  exact Option.some.inj this
 refine ⟨hk',?_⟩
 rw [htk]
 have hnk : l'.length ≠ k := by omega
 funext κ
 cases κ with
 |l j =>
  by_cases h : j = 0
  ·subst h
   show some (Ob.vs E (scrPL _ (renL _ (pre ++ stRef s')))) = some (Ob.vs E (pre ++ stRef s'))
   rw [renL_app,inertL_ren hp,bZ,gV hp]
   rfl
  ·simp [yJ,xZ,stHA,nbeq_ne h]
 |n j =>
  by_cases h1 : j = 899
  ·subst h1; rfl
  by_cases h2 : j = 900
  ·subst h2
   show some (Ob.rs 175 6 (((rowsA l' k t' ++ [_]).map (renL (swp (.n 905) (.s 900 l'.length)))).map (scrPL fun o => !xZ o))) = some (Ob.rs 175 6 (rowsA s'.ths k t'))
   rw [hths,rowsA_app (by simpa using hk),mV hk,List.map_append,rowsA_ren,List.map_append,uA rfl (fun _ => rfl),List.length_set]
   rfl
  by_cases h3 : j = 901
  ·subst h3; rfl
  by_cases h4 : j = 902
  ·subst h4; rfl
  simp [yJ,xZ,stHA,nbeq_ne h1,nbeq_ne h2,nbeq_ne h3,nbeq_ne h4]
 |s o j =>
  by_cases h : o = 900
  ·subst h
   rw [show stHA E pre s' k t' (.s 900 j) = (bif Nat.beq j k then none else zV s'.ths j) from rfl,hths,thFam_app,List.length_set]
   by_cases hjn : j = l'.length
   ·subst hjn
    rw [nbeq_ne hnk,nbeq_self]
    have e : swp (.n 905) (.s 900 l'.length) (.s 900 l'.length) = .n 905 := by simp [swp,Key.beq,nbeq_self]
    simp only [yJ,St.swap,e]
    rfl
   ·have e : swp (.n 905) (.s 900 l'.length) (.s 900 j) = .s 900 j := by simp [swp,Key.beq,nbeq_ne hjn]
    rw [nbeq_ne hjn]
    simp only [yJ,St.swap,e]
    show (((g j).map (renO _)).map (scrPO fun o => !xZ o)) = bif Nat.beq j k then none else zV (l'.set k t') j
    rw [hgr,hg]
    by_cases hj : j = k
    ·subst hj; rw [nbeq_self,hgk]; rfl
    ·rw [nbeq_ne hj,hgj j hj,mQ hj]; rfl
  ·simp [yJ,xZ,stHA,nbeq_ne h]
end Ai
end
section
set_option maxRecDepth 100000
namespace Ai
open Go Go.Proofs
def fam0 (l : List Th) (k : Nat) (j : Nat) : Option Ob := bif Nat.beq j k then none else zV l j
theorem yW (l : List Th) (k : Nat) (p : Key → Bool) (j : Nat) : (fam0 l k j).map (scrPO p) = fam0 l k j := by
 unfold fam0; cases Nat.beq j k
 ·exact yI p l j
 ·rfl
theorem gI (l : List Th) (k : Nat) (p : Key → Key) (j : Nat) : (fam0 l k j).map (renO p) = fam0 l k j := by
 unfold fam0; cases Nat.beq j k
 ·exact thFam_ren p l j
 ·rfl
theorem r5 (l : List Th) (k : Nat) (κ : Key) (q j : Nat) : (fam0 l k j).map (cutO κ q) = fam0 l k j := by
 unfold fam0; cases Nat.beq j k
 ·show (zV l j).map _ = zV l j
  unfold zV; cases l[j]? <;> rfl
 ·rfl
theorem doI_okA (hI : yS) (E : TypeId) (x0 x1 x2 : AV) (i0 : Inert x0) (i1 : Inert x1) (i2 : Inert x2) (s : StL) (k : Nat) (o : OpL) (e : Ev) (hk : k < s.ths.length) (h5 : s.ths.length ≤ 5)
  (hs : s.small) (ho : o.fits s s.ths[k]) (hpc : InR s.ths[k].pc 0 1048576) (hst3 : s.ths[k].st ≠ 3) (he : e.kind = 1) (hel : e.lock = -1) (hfl : ∀ x ∈ s.ths[k].stack,x < 18446744073709551616) (hjo : o.code = 15 → ∃ j,yQ (yM s.ths[k] o 0) s.ths.length = some j ∧ zW s s.ths[k] = some j)
  (H0 : Key → Option Ob) (h0 : H0 (.l 0) = some (.vs E ([x0,x1,x2] ++ stRef s))) (h1 : H0 (.n 899) = some (.ds 132 1 (stk s.ths[k]))) (h2 : H0 (.n 900) = some (.rs 175 6 (rowsA s.ths k s.ths[k]))) (h3 : ∀ j,H0 (.s 900 j) = fam0 s.ths k j)
  (h4 : H0 (.n 901) = some (.ds 132 1 (s.cells.map encF))) (h6 : H0 (.n 902) = some (.ds 3 1 (s.owner.map encInt))) :
  IOCall EE 172 [.ptr (.l 0) 3,i64 k,agg (encOp o),agg (encEv e)] H0 (doIPost E [x0,x1,x2] k (doL s k o e).1 (doL s k o e).2) := by
 refine io_of_AW (fn := Tryz.f172) (c := Tryz.f172.body.getD .skip) Tryz.func172 rfl (by kernel_rfl) rfl ?_
 have hat : At [(0,.ptr (.l 0) 3),(1,i64 k),(2,agg (encOp o)),(3,agg (encEv e))] [(.l 0,.vs E ([x0,x1,x2] ++ stRef s)),(.n 899,.ds 132 1 (stk s.ths[k])),(.n 900,.rs 175 6 (rowsA s.ths k s.ths[k])),(.n 901,.ds 132 1 (s.cells.map encF)),(.n 902,.ds 3 1 (s.owner.map encInt))] [(900,fam0 s.ths k)]
   ⟨fun i => [AV.ptr (.l 0) 3,i64 k,agg (encOp o),agg (encEv e)].getD i .junk,H0⟩ :=
  ⟨⟨rfl,rfl,rfl,rfl,trivial⟩,⟨h0,h1,h2,h4,h6,trivial⟩,⟨h3,trivial⟩⟩
 obtain ⟨τ,H,hf⟩ := hat.form
 rw [hf]
 have hst := hs.2.1 _ (List.getElem_mem hk)
 have hgk : fam0 s.ths k k = none := by unfold fam0; rw [nbeq_self]; rfl
 refine uU 7 (At (doI1 3 k o s.ths[k]) (doIO E [x0,x1,x2] s k o e s.ths[k] (zC s.ths[k] o)) [(900,fam0 s.ths k)]) (fun K hK => doI_preB E x0 x1 x2 i0 i1 i2 (fam0 s.ths k) (yW _ _) s k o e hk s.ths[k] ho.2.2.2.2 hst hpc τ H _ K hK) (fun S hS => ?_)
 refine uU 1 (DoI2 E [x0,x1,x2] (fam0 s.ths k) k (doL s k o e).1 (doL s k o e).2) (fun K hK => doI_swB hI E x0 x1 x2 i0 i1 i2 (fam0 s.ths k) (yW _ _) s k o e hk h5 (fun j hj => by unfold fam0; rw [nbeq_ne hj]; rfl) hs ho hpc hst3 he hel hfl hjo _ K S hS hK) (fun S' hS' => ?_)
 have hp : InertL [x0,x1,x2] := by
  intro x hx
  simp only [List.mem_cons,List.not_mem_nil,or_false] at hx
  rcases hx with rfl | rfl | rfl <;> assumption
 rcases hS' with ⟨t',h⟩ | ⟨l',t',r,h⟩
 ·exact doI_fin E _ hp _ k (yW _ _) (r5 _ _ _) hgk _ _ S' t' h
 ·exact s8 E _ hp _ k (yW _ _) (gI _ _) hgk _ _ S' l' t' r h
theorem rowsA_sw {l : List Th} {k : Nat} (hk : k < l.length) : (thRows 900 l).map (renL (swp (.n 899) (.s 900 k))) = rowsA l k l[k] := by
 apply List.ext_getElem?
 intro i
 rw [List.getElem?_map,vZ]
 by_cases h : i = k
 ·subst h
  have e : swp (.n 899) (.s 900 i) (.s 900 i) = .n 899 := by simp [swp,Key.beq,nbeq_self]
  have : (rowsA l i l[i])[i]? = some (yE l[i]) := zR hk
  rw [this,List.getElem?_eq_getElem hk]
  simp [thRow,yE,renL,ren,e]
 ·rw [rowsA_ne h,vZ]
  cases hl : l[i]? with
  |none => rfl
  |some u => simp [aT (a := 899) (o := 900) h]
theorem rowsA_back {l : List Th} {k : Nat} (hk : k < l.length) : (rowsA l k l[k]).map (renL (swp (.n 899) (.s 900 k))) = thRows 900 l := by
 rw [← rowsA_sw hk,List.map_map]
 conv => rhs; rw [← List.map_id (thRows 900 l)]
 apply List.map_congr_left
 intro c hc
 exact qB _ _ c fun c _ => ren_ren _ _ c
theorem stRef_ren (s : StL) (k : Nat) : renL (swp (.n 899) (.s 900 k)) (stRef s) = stRef s := rfl
theorem swH_stHA {E : TypeId} {pre : List AV} (hp : InertL pre) {s : StL} {k : Nat} (hk : k < s.ths.length) : swH (.n 899) (.s 900 k) (stHA E pre s k s.ths[k]) = stHC E pre s := by
 funext κ
 cases κ with
 |l j =>
  have e : swp (.n 899) (.s 900 k) (.l j) = .l j := rfl
  by_cases h : j = 0
  ·subst h
   simp only [swH,e]
   show some (Ob.vs E (renL _ (pre ++ stRef s))) = some (Ob.vs E (pre ++ stRef s))
   rw [renL_app,inertL_ren hp,stRef_ren]
  ·simp [swH,e,stHA,stHC,nbeq_ne h]
 |n j =>
  by_cases h1 : j = 899
  ·subst h1
   have e : swp (.n 899) (.s 900 k) (.n 899) = .s 900 k := rfl
   simp only [swH,e]
   show (bif Nat.beq k k then none else zV s.ths k).map _ = none
   rw [nbeq_self]; rfl
  have e : swp (.n 899) (.s 900 k) (.n j) = .n j := by simp [swp,Key.beq,nbeq_ne h1]
  simp only [swH,e]
  by_cases h2 : j = 900
  ·subst h2
   show some (Ob.rs 175 6 ((rowsA s.ths k s.ths[k]).map (renL (swp (.n 899) (.s 900 k))))) = some (Ob.rs 175 6 (thRows 900 s.ths))
   rw [rowsA_back hk]
  by_cases h3 : j = 901
  ·subst h3; rfl
  by_cases h4 : j = 902
  ·subst h4; rfl
  simp [stHA,stHC,nbeq_ne h1,nbeq_ne h2,nbeq_ne h3,nbeq_ne h4]
 |s o j =>
  by_cases h : o = 900
  ·subst h
   by_cases hj : j = k
   ·subst hj
    have e : swp (.n 899) (.s 900 j) (.s 900 j) = .n 899 := by simp [swp,Key.beq,nbeq_self]
    simp only [swH,e]
    show some (Ob.ds 132 1 (stk s.ths[j])) = zV s.ths j
    rw [thFam_self hk]
   ·have e : swp (.n 899) (.s 900 k) (.s 900 j) = .s 900 j := by simp [swp,Key.beq,nbeq_ne hj]
    simp only [swH,e]
    show (bif Nat.beq j k then none else zV s.ths j).map _ = zV s.ths j
    rw [nbeq_ne hj]
    exact thFam_ren _ _ _
  ·have e : swp (.n 899) (.s 900 k) (.s o j) = .s o j := by simp [swp,Key.beq,nbeq_ne h]
   simp [swH,e,stHA,stHC,nbeq_ne h]
def AtC (E : TypeId) (pre : List AV) (s : StL) (H0 : Key → Option Ob) : Prop :=
 H0 (.l 0) = some (.vs E (pre ++ stRef s)) ∧ H0 (.n 899) = none ∧ H0 (.n 900) = some (.rs 175 6 (thRows 900 s.ths)) ∧ (∀ j,H0 (.s 900 j) = zV s.ths j) ∧ H0 (.n 901) = some (.ds 132 1 (s.cells.map encF)) ∧ H0 (.n 902) = some (.ds 3 1 (s.owner.map encInt))
theorem IOCall.mono {E : Env} {g : FuncId} {xs : List AV} {H0 : Key → Option Ob} {Post Post' : AV → (Key → Option Ob) → Prop} (h : IOCall E g xs H0 Post) (hp : ∀ r H1,Post r H1 → Post' r H1) : IOCall E g xs H0 Post' := by
 intro w0 A m w vs hH hl hrel
 refine (h w0 A m w vs hH hl hrel).mono ?_
 rintro v w' ⟨r,H1,m1,h1,h2,h3⟩
 exact ⟨r,H1,m1,hp r H1 h1,h2,h3⟩
end Ai
end
section
set_option maxRecDepth 100000
namespace Ai
open Go Go.Proofs
theorem uC {S : St} {E : TypeId} {pre : List AV} (hp : InertL pre) {s' : StL} {l : List Th} {k : Nat} {t' : Th} (hk : k < l.length) (hl : s'.ths = l.set k t') (h0 : S.H (.l 0) = some (.vs E (pre ++ stRef s'))) (h1 : S.H (.n 899) = some (.ds 132 1 (stk t')))
  (h2 : S.H (.n 900) = some (.rs 175 6 (rowsA l k t'))) (h3 : ∀ j,S.H (.s 900 j) = fam0 l k j) (h4 : S.H (.n 901) = some (.ds 132 1 (s'.cells.map encF))) (h6 : S.H (.n 902) = some (.ds 3 1 (s'.owner.map encInt))) :
  ∃ (h : k < s'.ths.length),yJ xZ S.H = stHA E pre s' k s'.ths[k] := by
 have hk' : k < s'.ths.length := by rw [hl]; simpa using hk
 refine ⟨hk',?_⟩
 have htk : s'.ths[k] = t' := by simp [hl]
 rw [htk]
 funext κ
 cases κ with
 |l j =>
  by_cases h : j = 0
  ·subst h
   show (S.H (.l 0)).map _ = _
   rw [h0]
   show some (Ob.vs E (scrPL _ (pre ++ stRef s'))) = some (Ob.vs E (pre ++ stRef s'))
   rw [bZ,gV hp,aV]
  ·simp [yJ,xZ,stHA,nbeq_ne h]
 |n j =>
  by_cases e1 : j = 899
  ·subst e1
   show (S.H (.n 899)).map _ = _
   rw [h1]; rfl
  by_cases e2 : j = 900
  ·subst e2
   show (S.H (.n 900)).map _ = _
   rw [h2]
   show some (Ob.rs 175 6 ((rowsA l k t').map (scrPL fun o => !xZ o))) = some (Ob.rs 175 6 (rowsA s'.ths k t'))
   rw [hl,mV hk]
   exact congrArg (fun x => some (Ob.rs 175 6 x)) (uA rfl (fun _ => rfl) _ _ _)
  by_cases e3 : j = 901
  ·subst e3
   show (S.H (.n 901)).map _ = _
   rw [h4]; rfl
  by_cases e4 : j = 902
  ·subst e4
   show (S.H (.n 902)).map _ = _
   rw [h6]; rfl
  simp [yJ,xZ,stHA,nbeq_ne e1,nbeq_ne e2,nbeq_ne e3,nbeq_ne e4]
 |s o j =>
  by_cases h : o = 900
  ·subst h
   show (S.H (.s 900 j)).map _ = bif Nat.beq j k then none else zV s'.ths j
   rw [h3,yW]
   by_cases hj : j = k
   ·subst hj; simp [fam0,nbeq_self]
   ·unfold fam0; rw [nbeq_ne hj,hl,mQ hj]
  ·simp [yJ,xZ,stHA,nbeq_ne h]
theorem aX {E : TypeId} {pre : List AV} {s : StL} {k : Nat} {t : Th} : ∀ κ,xZ κ = false → stHA E pre s k t κ = none
 | .l j,h => by have h : Nat.beq j 0 = false := h; simp [stHA,h]
 | .n j,h => by
  have h : (Nat.beq j 899 || Nat.beq j 900 || Nat.beq j 901 || Nat.beq j 902) = false := h
  simp only [Bool.or_eq_false_iff] at h
  simp [stHA,h.1.1.1,h.1.1.2,h.1.2,h.2]
 | .s o j,h => by have h : Nat.beq o 900 = false := h; simp [stHA,h]
theorem iY {E : TypeId} {pre : List AV} (hp : InertL pre) (s : StL) : renO (swp (.n 999) (.l 99)) (.vs E (pre ++ stRef s)) = .vs E (pre ++ stRef s) := by
 show Ob.vs E (renL _ (pre ++ stRef s)) = _
 rw [renL_app,inertL_ren hp]
 rfl
theorem gT (l : List Th) (k : Nat) (t : Th) : renO (swp (.n 999) (.l 99)) (.rs 175 6 (rowsA l k t)) = .rs 175 6 (rowsA l k t) := by
 show Ob.rs 175 6 ((rowsA l k t).map (renL _)) = _
 unfold rowsA
 rw [List.map_set,qU]
 rfl
theorem gS {p : Key → Bool} (h1 : p (.n 899) = false) (h2 : ∀ j,p (.s 900 j) = false) (l : List Th) (k : Nat) (t : Th) : scrPO p (.rs 175 6 (rowsA l k t)) = .rs 175 6 (rowsA l k t) := congrArg (Ob.rs 175 6) (uA h1 h2 l k t)
theorem pV {x X : Ob} {f : Key → Key} (h : x = X) (hp : renO f X = X) : renO f x = X := by rw [h]; exact hp
theorem FzA_ptr {S : St} {o : Key} {off : Nat} {E : TypeId} {cs : List AV} {ds : List D} (h : S.H o = some (.vs E cs)) (hf : FzC S (cs.drop off) ds) : FzA S (.ptr o off) (.fp ds) := by
 simp only [FzA,h]
 exact ⟨ds,rfl,hf⟩
theorem fz_stA {S : St} {s : StL} {k : Nat} {t : Th} {els : List (List D)} (hk : k < s.ths.length) (ht : s.ths[k] = t) (h9 : S.H (.n 900) = some (.rs 175 6 (rowsA s.ths k t))) (hfam : ∀ j,j ≠ k → (h : j < s.ths.length) → S.H (.s 900 j) = some (.ds 132 1 (stk s.ths[j])))
  (h8 : S.H (.n 899) = some (.ds 132 1 els)) (he : els.take t.stack.length = stk t) (h3 : S.H (.n 901) = some (.ds 132 1 (s.cells.map encF))) (h4 : S.H (.n 902) = some (.ds 3 1 (s.owner.map encInt))) : FzC S (stRef s) (encSt s) := by
 have hv := dR hk h9 hfam h8 he
 rw [← ht,List.set_getElem_self] at hv
 refine ⟨.sl (s.ths.map zE),_,rfl,⟨_,rfl,hv⟩,.sl (s.cells.map encF),_,rfl,?_,.sl (s.owner.map encInt),_,rfl,?_,di s.fault,[],rfl,rfl,rfl⟩
 ·simp [FzD,fz1,h3,List.take_of_length_le]
 ·simp [FzD,fz1,h4,List.take_of_length_le]
theorem sR {X : List (List AV)} {l : List Th} {k : Nat} {t : Th} (h : k < l.length) (hX : X = rowsA l k t) : X[((k : Nat) : Int).toNat]? = some (yE t) := by
 rw [hX]; exact zR h
theorem r3 {pre : List AV} {s : StL} {n : Int} {L : List AV} (hL : L = pre ++ stRef s) : yA L (pre.length + 3) [i64 n] = pre ++ stRef { s with fault := n } := by
 subst hL
 induction pre with
 |nil => rfl
 |cons x xs ih =>
  show yA (x :: (xs ++ stRef s)) (xs.length + 1 + 3) [i64 n] = x :: (xs ++ _)
  rw [show xs.length + 1 + 3 = (xs.length + 3) + 1 from by omega]
  exact congrArg (x :: ·) ih
theorem stepI_A (hI : yS) (E : TypeId) (x0 x1 x2 : AV) (i0 : Inert x0) (i1 : Inert x1) (i2 : Inert x2) (p : ProgL) (s : StL) (k : Nat) (hp : p.wf) (hk : k < s.ths.length) (h5 : s.ths.length ≤ 5)
  (hs : s.small) (hr : s.ths[k].ready p s k) (hst3 : s.ths[k].st ≠ 3) (hfl : ∀ x ∈ s.ths[k].stack,x < 18446744073709551616) (hjo : ∀ o,yC p s.ths[k] = some o → zX s k o = 0 → o.code = 15 → ∃ j,yQ (yM s.ths[k] o 0) s.ths.length = some j ∧ zW s s.ths[k] = some j)
  (H0 : Key → Option Ob) (h0 : H0 (.l 0) = some (.vs E ([x0,x1,x2] ++ stRef s))) (h1 : H0 (.n 899) = some (.ds 132 1 (stk s.ths[k]))) (h2 : H0 (.n 900) = some (.rs 175 6 (rowsA s.ths k s.ths[k]))) (h3 : ∀ j,H0 (.s 900 j) = fam0 s.ths k j)
  (h4 : H0 (.n 901) = some (.ds 132 1 (s.cells.map encF))) (h6 : H0 (.n 902) = some (.ds 3 1 (s.owner.map encInt))) :
  IOCall EE 92 [.ptr (.l 0) 3,agg (encProg p),i64 k] H0 (doIPost E [x0,x1,x2] k (stepL p s k).1 (stepL p s k).2) := by
 refine io_of_AW (fn := Tryz.f92) (c := Tryz.f92.body.getD .skip) Tryz.func92 rfl (by kernel_rfl) rfl ?_
 have hat : At [(0,.ptr (.l 0) 3),(1,agg (encProg p)),(2,i64 k)] [(.l 0,.vs E ([x0,x1,x2] ++ stRef s)),(.n 899,.ds 132 1 (stk s.ths[k])),(.n 900,.rs 175 6 (rowsA s.ths k s.ths[k])),(.n 901,.ds 132 1 (s.cells.map encF)),(.n 902,.ds 3 1 (s.owner.map encInt))] [(900,fam0 s.ths k)]
   ⟨fun i => [AV.ptr (.l 0) 3,agg (encProg p),i64 k].getD i .junk,H0⟩ :=
  ⟨⟨rfl,rfl,rfl,trivial⟩,⟨h0,h1,h2,h4,h6,trivial⟩,⟨h3,trivial⟩⟩
 obtain ⟨τ,H,hf⟩ := hat.form
 rw [hf]
 have hst := hs.2.1 _ (List.getElem_mem hk)
 have hgd : s.ths.getD k th0 = s.ths[k] := by simp [List.getD_eq_getElem?_getD,hk]
 have hp3 : InertL [x0,x1,x2] := by
  intro x hx
  simp only [List.mem_cons,List.not_mem_nil,or_false] at hx
  rcases hx with rfl | rfl | rfl <;> assumption
 have hpc := hr.pc
 clear hat hf h0 h1 h2 h3 h4 h6
 generalize ht0 : s.ths[k] = t at *
 conv => whnf
 refine ⟨⟨by omega,by omega⟩,?_⟩
 conv => whnf
 refine ⟨yE t,⟨by repeat (first | exact zR hk | refine yY ?_ (zY rfl t)),by simp [yE]⟩,?_⟩
 conv => whnf
 refine .inr (.inl ⟨10,[],?_⟩)
 conv => whnf
 refine ⟨yE t,⟨by repeat (first | exact zR hk | refine yY ?_ (zY rfl t)),by simp [yE]⟩,?_⟩
 conv => whnf
 refine ⟨_,Eq.mp (congrArg (fun x => CallsTo EE 169 [agg (encProg p),.agg [i64 t.rt,i64 t.pc,i64 t.st,i64 t.cond,i64 t.lock,sl x]] _) (qV t).symm) (sZ p t hp hr.inP),?_,?_⟩
 ·intro c hc
  simp only [List.mem_cons,List.not_mem_nil,or_false] at hc
  rcases hc with rfl | rfl
  ·exact .inr ⟨encOp _,rfl,rfl⟩
  ·exact .inl ⟨_,rfl,rfl⟩
 conv => whnf
 refine ⟨by kernel_rfl,?_⟩
 conv => whnf
 refine ⟨yE t,⟨by repeat (first | exact zR hk | refine yY ?_ (zY rfl t)),by simp [yE]⟩,?_⟩
 conv => whnf
 have hp3 : InertL [x0,x1,x2] := by
  intro x hx
  simp only [List.mem_cons,List.not_mem_nil,or_false] at hx
  rcases hx with rfl | rfl | rfl <;> assumption
 refine kbi (fun h4 => ?_) (fun h4 => ?_)
 ·have h4 : t.st = 4 := by simpa using h4
  have hlk := hr.lock h4
  have hd : stepL p s k = ({ s with owner := s.owner.set t.lock.toNat ((k : Nat) : Int) }.put k { t with st := 1,cond := -1,lock := -1,pc := if (yC p t).isSome = true then t.pc + 1 else t.pc },{ ev0 k t with kind := 9,obj := t.cond,lock := t.lock }) := by
   unfold stepL; rw [hgd,if_pos h4]
  conv => whnf
  refine .inr (.inl ⟨12,[],?_⟩)
  conv => whnf
  refine ⟨yE t,⟨by repeat (first | exact zR hk | refine yY ?_ (zY rfl _)),by simp [yE]⟩,?_⟩
  conv => whnf
  refine ⟨yE t,⟨by repeat (first | exact zR hk | refine yY ?_ (zY rfl _)),by simp [yE]⟩,?_⟩
  conv => whnf
  refine ⟨by kernel_rfl,?_⟩
  conv => whnf
  refine .inr (.inl ⟨9,[],?_⟩)
  conv => whnf
  refine ⟨yE t,⟨by repeat (first | exact zR hk | refine yY ?_ (zY rfl _)),by simp [yE]⟩,?_⟩
  conv => whnf
  refine ⟨by kernel_rfl,?_⟩
  conv => whnf
  refine ⟨⟨by omega,by omega⟩,?_⟩
  conv => whnf
  refine .inr (.inl ⟨7,[],?_⟩)
  conv => whnf
  refine ⟨yE { t with st := 1,cond := -1,lock := -1 },⟨yY (sR hk ?_) (zY rfl _),by simp [yE]⟩,?_⟩
  ·apply vI
   ·repeat (first | exact rfl | apply xR hk | apply xQ (fun _ => rfl))
   ·rfl
  conv => whnf
  refine ⟨_,qH _,?_⟩
  conv => whnf
  refine ⟨by kernel_rfl,?_⟩
  conv => whnf
  refine ⟨_,Weak.refl,?_⟩
  conv => whnf
  rw [hd]
  refine ⟨xZ,by rfl,?_⟩
  refine uC hp3 (l := s.ths) (t' := { t with st := 1,cond := -1,lock := -1,pc := if (yC p t).isSome = true then t.pc + 1 else t.pc }) hk rfl ?_ ?_ ?_ (fun j => ?_) ?_ ?_
  ·refine Eq.trans ?_ (congrArg (fun x => some (Ob.vs E ([x0,x1,x2] ++ x))) (show stRef s = stRef _ by simp [stRef,StL.put]))
   conv => lhs; whnf
   all_goals (
    refine congrArg some ?_
    repeat (refine yK ?_ (xL i0 i1 i2 s rfl))
    all_goals rfl)
  ·rfl
  ·conv => lhs; whnf
   all_goals (
    refine congrArg (fun x => some (Ob.rs 175 6 x)) ?_
    apply vI
    ·repeat (first | exact rfl | apply xR hk | apply xQ (fun _ => rfl))
    ·have ew : IntKind.i64.wrap (t.pc + (if (yC p t).isSome = true then 1 else 0)) = (if (yC p t).isSome = true then t.pc + 1 else t.pc) := by have a := hpc.1; have b := hpc.2; split <;> rw [zH (by omega) (by omega)]; omega
     show [_,AV.d (.int .i64 (IntKind.i64.wrap (t.pc + (if (yC p t).isSome = true then 1 else 0)))),_,_,_,_] = _
     rw [ew]
     rfl)
  ·repeat (first | exact rfl | refine hscrO ?_ (yW _ _ _ _) | conv => lhs; whnf)
  ·rfl
  ·conv => lhs; whnf
   show some (Ob.ds 3 1 ((s.owner.map encInt).set (0 + t.lock.toNat) (encInt ((k : Nat) : Int)))) = some (Ob.ds 3 1 ((s.owner.set t.lock.toNat ((k : Nat) : Int)).map encInt))
   rw [Nat.zero_add,List.map_set]
 have h4 : ¬ t.st = 4 := by simpa using h4
 cases hn : yC p t with
 |none =>
  conv => whnf
  have hd : stepL p s k = (s.put k { t with st := 2 },{ ev0 k t with kind := 11 }) := by
   unfold stepL; rw [hgd]; simp [h4,hn]
  refine ⟨_,Weak.refl,?_⟩
  conv => whnf
  rw [hd]
  refine ⟨xZ,by rfl,?_⟩
  refine uC hp3 (l := s.ths) (t' := { t with st := 2 }) hk rfl ?_ ?_ ?_ (fun j => ?_) ?_ ?_
  ·refine Eq.trans ?_ (congrArg (fun x => some (Ob.vs E ([x0,x1,x2] ++ x))) (show stRef s = stRef _ by simp [stRef,StL.put]))
   conv => lhs; whnf
   all_goals (
    refine congrArg some ?_
    repeat (refine yK ?_ (xL i0 i1 i2 s rfl))
    all_goals rfl)
  ·rfl
  ·conv => lhs; whnf
   all_goals (
    refine congrArg (fun x => some (Ob.rs 175 6 x)) ?_
    apply vI
    ·repeat (first | exact rfl | apply xR hk | apply xQ (fun _ => rfl))
    ·rfl)
  ·repeat (first | exact rfl | refine hscrO ?_ (yW _ _ _ _) | conv => lhs; whnf)
  ·rfl
  ·rfl
 |some o =>
  obtain ⟨hoS,hoF⟩ := hr.op o hn
  conv => whnf
  refine .inl ⟨[.fp (encSt s),i64 k,agg (encOp o)],[],_,⟨_,_,rfl,FzA_ptr (E := E) (cs := [x0,x1,x2] ++ stRef s) ?_ (fz_stA (k := k) (t := t) (els := stk t) hk ht0 ?_ (fun j hj hjl => ?_) rfl (by simp [stk,List.take_of_length_le]) ?_ ?_),_,_,rfl,rfl,_,_,rfl,⟨encOp o,rfl,_,_,rfl,rfl,_,_,rfl,rfl,_,_,rfl,rfl,_,_,rfl,rfl,rfl⟩,rfl⟩,rfl,iH hI s k o hk hs hoS,?_⟩
  ·conv => lhs; whnf
   all_goals (
    refine congrArg some ?_
    repeat (refine yK ?_ (xL i0 i1 i2 s rfl))
    all_goals rfl)
  ·conv => lhs; whnf
   all_goals (
    refine congrArg (fun x => some (Ob.rs 175 6 x)) ?_
    repeat (first | exact rfl | refine qA ?_ rfl (fun _ => rfl)))
  ·refine Eq.trans (b := fam0 s.ths k j) ?_ (by simp [fam0,nbeq_ne hj,zV,hjl])
   repeat (first | exact rfl | refine hscrO ?_ (yW _ _ _ _) | conv => lhs; whnf)
  ·rfl
  ·rfl
  rintro r rfl
  refine ⟨rfl,?_⟩
  conv => whnf
  refine kbi (fun h6 => ?_) (fun h6 => ?_)
  ·have h6 : ¬ zX s k o = 0 := by simpa using h6
   have hd : stepL p s k = ({ s with fault := zX s k o },{ ev0 k t with kind := 12,obj := zX s k o }) := by
    unfold stepL; rw [hgd]; simp [h4,hn,h6]
   conv => whnf
   refine ⟨_,Weak.refl,?_⟩
   conv => whnf
   rw [hd]
   refine ⟨xZ,by rfl,?_⟩
   refine uC hp3 (l := s.ths) (t' := t) hk (by show s.ths = s.ths.set k t; rw [← ht0,List.set_getElem_self]) ?_ ?_ ?_ (fun j => ?_) ?_ ?_
   ·conv => lhs; whnf
    refine congrArg some ?_
    repeat (refine yK ?_ (xL i0 i1 i2 { s with fault := zX s k o } rfl))
    refine congrArg (Ob.vs E) (r3 (pre := [x0,x1,x2]) ?_)
    repeat (refine hscrL ?_ (u7 i0 i1 i2 s rfl))
    all_goals rfl
   ·rfl
   ·conv => lhs; whnf
    all_goals (
     refine congrArg (fun x => some (Ob.rs 175 6 x)) ?_
     apply vI
     ·repeat (first | exact rfl | apply xR hk | apply xQ (fun _ => rfl))
     ·rfl)
   ·repeat (first | exact rfl | refine hscrO ?_ (yW _ _ _ _) | conv => lhs; whnf)
   ·rfl
   ·rfl
  ·have h6 : zX s k o = 0 := by simpa using h6
   have hd : stepL p s k = doL s k o (ev0 k t) := by
    unfold stepL; rw [hgd]; simp [h4,hn,h6]
   conv => whnf
   refine .inr (.inl ⟨999,99,xZ,_,doI_okA hI E x0 x1 x2 i0 i1 i2 s k o { ev0 k t with kind := 1 } hk h5 hs (by rw [ht0]; exact hoF h6) (by rw [ht0]; exact hpc) (by rw [ht0]; exact hst3) rfl rfl (by rw [ht0]; exact hfl) (by rw [ht0]; exact hjo o hn h6) _ ?_ ?_ ?_ (fun j => ?_) ?_ ?_,rfl,?_⟩)
   ·conv => lhs; whnf
    refine congrArg some ?_
    repeat (first | exact rfl | refine yK ?_ (xL i0 i1 i2 s rfl) | refine pV ?_ (iY hp3 s))
   ·rw [ht0]
    rfl
   ·rw [ht0]
    conv => lhs; whnf
    refine congrArg some ?_
    repeat (first | exact rfl | refine yK ?_ (gS rfl (fun _ => rfl) _ _ _) | refine pV ?_ (gT _ _ _))
   ·repeat (first | exact rfl | refine hscrO ?_ (yW _ _ _ _) | refine eZ ?_ (gI _ _ _ _) | conv => lhs; whnf)
   ·rfl
   ·rfl
   rintro r H1 ⟨rfl,hk2,rfl⟩
   refine ⟨aX,?_,?_⟩
   ·intro n hn
    have : n = 0 := by simpa [xZ] using hn
    subst this
    exact ⟨E,_,_,rfl,rfl⟩
   conv => whnf
   refine ⟨_,Weak.refl,?_⟩
   conv => whnf
   rw [hd]
   refine ⟨xZ,by rfl,?_⟩
   refine uC hp3 (l := (doL s k o (ev0 k t)).1.ths) (t' := (doL s k o (ev0 k t)).1.ths[k]) hk2 (List.set_getElem_self _).symm ?_ ?_ ?_ (fun j => ?_) ?_ ?_
   ·conv => lhs; whnf
    refine congrArg some ?_
    repeat (first | exact rfl | refine yK ?_ (xL i0 i1 i2 _ rfl) | refine pV ?_ (iY hp3 _))
   ·rfl
   ·conv => lhs; whnf
    refine congrArg some ?_
    repeat (first | exact rfl | refine yK ?_ (gS rfl (fun _ => rfl) _ _ _) | refine pV ?_ (gT _ _ _))
   ·refine Eq.trans (b := fam0 (doL s k o (ev0 k t)).1.ths k j) ?_ rfl
    repeat (first | exact rfl | refine hscrO ?_ (yW _ _ _ _) | refine eZ ?_ (gI _ _ _ _) | conv => lhs; whnf)
   ·rfl
   ·rfl
end Ai
end
section
set_option maxRecDepth 100000
namespace Ai
open Go Go.Proofs
theorem io_canon {E : TypeId} {pre : List AV} (hp : InertL pre) {s s' : StL} {k : Nat} {e' : Ev} {H0 : Key → Option Ob} {g : FuncId} {xs : List AV} (hk : k < s.ths.length) (hx : xs.map (ren (swp (.n 899) (.s 900 k))) = xs) (hH : AtC E pre s H0)
    (h : ∀ H0 : Key → Option Ob, H0 (.l 0) = some (.vs E (pre ++ stRef s)) → H0 (.n 899) = some (.ds 132 1 (stk s.ths[k])) → H0 (.n 900) = some (.rs 175 6 (rowsA s.ths k s.ths[k])) → (∀ j, H0 (.s 900 j) = fam0 s.ths k j) →
      H0 (.n 901) = some (.ds 132 1 (s.cells.map encF)) → H0 (.n 902) = some (.ds 3 1 (s.owner.map encInt)) → IOCall EE g xs H0 (doIPost E pre k s' e')) :
    IOCall EE g xs H0 (fun r H1 => r = agg (encEv e') ∧ H1 = stHC E pre s') := by
  obtain ⟨h0, h1, h2, h3, h4, h6⟩ := hH
  have eH : ∀ {κ κ' : Key} {ob : Ob}, swp (.n 899) (.s 900 k) κ = κ' → H0 κ' = some ob → swH (.n 899) (.s 900 k) H0 κ = some (renO (swp (.n 899) (.s 900 k)) ob) := fun e1 e2 => by simp [swH, e1, e2]
  have := h (swH (.n 899) (.s 900 k) H0)
    (by rw [eH (κ := .l 0) (κ' := .l 0) rfl h0]
        show some (Ob.vs E (renL _ (pre ++ stRef s))) = _
        rw [renL_app, inertL_ren hp, stRef_ren])
    (by rw [eH (κ := .n 899) (κ' := .s 900 k) rfl ((h3 k).trans (thFam_self hk))]; rfl)
    (by rw [eH (κ := .n 900) (κ' := .n 900) rfl h2]
        show some (Ob.rs 175 6 ((thRows 900 s.ths).map (renL (swp (.n 899) (.s 900 k))))) = _
        rw [rowsA_sw hk])
    (fun j => by
      by_cases hj : j = k
      · subst hj
        have e : swp (.n 899) (.s 900 j) (.s 900 j) = .n 899 := by simp [swp, Key.beq, nbeq_self]
        simp only [swH, e, h1, fam0, nbeq_self]; rfl
      · have e : swp (.n 899) (.s 900 k) (.s 900 j) = .s 900 j := by simp [swp, Key.beq, nbeq_ne hj]
        simp only [swH, e, h3, fam0, nbeq_ne hj]
        exact thFam_ren _ _ _)
    (by rw [eH (κ := .n 901) (κ' := .n 901) rfl h4]; rfl) (by rw [eH (κ := .n 902) (κ' := .n 902) rfl h6]; rfl)
  have := IOCall.sw (.n 899) (.s 900 k) (fun n h => by cases h) (fun n h => by cases h) this
  rw [swH_swH, hx] at this
  refine IOCall.mono this fun r H1 ⟨hr, hk', hh⟩ => ⟨?_, ?_⟩
  · have : ren (swp (.n 899) (.s 900 k)) (ren (swp (.n 899) (.s 900 k)) r) = ren (swp (.n 899) (.s 900 k)) (agg (encEv e')) := by rw [hr]
    rw [ren_ren] at this
    rw [this]; rfl
  · have : swH (.n 899) (.s 900 k) (swH (.n 899) (.s 900 k) H1) = swH (.n 899) (.s 900 k) (stHA E pre s' k s'.ths[k]) := by rw [hh]
    rw [swH_swH, swH_stHA hp] at this
    exact this
theorem agg_ren (f : Key → Key) (l : List D) : ren f (agg l) = agg l := by
 show AV.agg (renL f (l.map .d)) = _
 have : ∀ l : List D,renL f (l.map .d) = l.map .d := by
  intro l
  induction l with
  |nil => rfl
  |cons x xs ih => simp only [List.map_cons,renL,ih]; rfl
 rw [this]; rfl
theorem stepI_ok (hI : yS) (E : TypeId) (x0 x1 x2 : AV) (i0 : Inert x0) (i1 : Inert x1) (i2 : Inert x2) (p : ProgL) (s : StL) (k : Nat) (hp : p.wf) (hk : k < s.ths.length) (h5 : s.ths.length ≤ 5)
  (hs : s.small) (hr : s.ths[k].ready p s k) (hst3 : s.ths[k].st ≠ 3) (hfl : ∀ x ∈ s.ths[k].stack,x < 18446744073709551616) (hjo : ∀ o,yC p s.ths[k] = some o → zX s k o = 0 → o.code = 15 → ∃ j,yQ (yM s.ths[k] o 0) s.ths.length = some j ∧ zW s s.ths[k] = some j)
  (H0 : Key → Option Ob) (hH : AtC E [x0,x1,x2] s H0) :
  IOCall EE 92 [.ptr (.l 0) 3,agg (encProg p),i64 k] H0 (fun r H1 => r = agg (encEv (stepL p s k).2) ∧ H1 = stHC E [x0,x1,x2] (stepL p s k).1) := by
 have hp3 : InertL [x0,x1,x2] := by
  intro x hx
  simp only [List.mem_cons,List.not_mem_nil,or_false] at hx
  rcases hx with rfl | rfl | rfl <;> assumption
 refine io_canon hp3 hk ?_ hH fun H0 a b c d e f => stepI_A hI E x0 x1 x2 i0 i1 i2 p s k hp hk h5 hs hr hst3 hfl hjo H0 a b c d e f
 simp only [List.map_cons,List.map_nil,agg_ren]
 rfl
end Ai
end
section
set_option maxRecDepth 100000
namespace Ai
open Go Go.Proofs
structure RunI (p : ProgL) (Inv : StL → Prop) : Prop where
 small : ∀ s,Inv s → s.small ∧ s.ths.length ≤ 5
 seen : ∀ s,Inv s → ∀ t ∈ s.ths,t.seen p s
 ready : ∀ s,Inv s → ∀ k,k ∈ enabledL p s → (h : k < s.ths.length) → s.ths[k].ready p s k
 awake : ∀ s,Inv s → ∀ k,k ∈ enabledL p s → (h : k < s.ths.length) → s.ths[k].st ≠ 3
 flt : ∀ s,Inv s → ∀ t ∈ s.ths,∀ x ∈ t.stack,x < 18446744073709551616
 joins : ∀ s,Inv s → ∀ k,k ∈ enabledL p s → (h : k < s.ths.length) → ∀ o,yC p s.ths[k] = some o → zX s k o = 0 → o.code = 15 → ∃ j,yQ (yM s.ths[k] o 0) s.ths.length = some j ∧ zW s s.ths[k] = some j
 step : ∀ s,Inv s → ∀ k ∈ enabledL p s,Inv (stepL p s k).1
def numA (k : Nat) : Nat := bif Nat.beq k 900 then 903 else bif Nat.beq k 903 then 900 else bif Nat.beq k 901 then 904 else bif Nat.beq k 904 then 901 else bif Nat.beq k 902 then 905 else bif Nat.beq k 905 then 902 else k
theorem numA_numA (k : Nat) : numA (numA k) = k := by
 by_cases h1 : k = 900
 ·subst h1; rfl
 by_cases h2 : k = 903
 ·subst h2; rfl
 by_cases h3 : k = 901
 ·subst h3; rfl
 by_cases h4 : k = 904
 ·subst h4; rfl
 by_cases h5 : k = 902
 ·subst h5; rfl
 by_cases h6 : k = 905
 ·subst h6; rfl
 simp [numA,nbeq_ne h1,nbeq_ne h2,nbeq_ne h3,nbeq_ne h4,nbeq_ne h5,nbeq_ne h6]
def shN (g : Nat → Nat) : Key → Key
 | .n k => .n (g k)
 | .s o j => .s (g o) j
 | .l k => .l k
def mkSh (g : Nat → Nat) (hg : ∀ k,g (g k) = k) : Sh := ⟨shN g,fun κ => by cases κ <;> simp [shN,hg],fun _ => rfl⟩
def shA : Sh := mkSh numA numA_numA
theorem fz_prog {S : St} (p : ProgL) : FzA S (agg (encProg p)) (agg (encProg p)) := ⟨encProg p,rfl,_,_,rfl,rfl,_,_,rfl,rfl,_,_,rfl,rfl,_,_,rfl,rfl,rfl⟩
end Ai
end
section
set_option maxRecDepth 100000
namespace Ai
open Go Go.Proofs
theorem oU (x : D) : Inert (.d x) := ⟨fun _ => rfl,fun _ => rfl,fun _ _ => rfl⟩
def lX : Key → Bool
 | .n k => Nat.beq k 900 || Nat.beq k 901 || Nat.beq k 902
 | .s o _ => Nat.beq o 900
 | .l k => Nat.beq k 0
theorem aW {E : TypeId} {pre : List AV} {s : StL} : ∀ κ,lX κ = false → stHC E pre s κ = none
 | .l j,h => by have h : Nat.beq j 0 = false := h; simp [stHC,h]
 | .n j,h => by
  have h : (Nat.beq j 900 || Nat.beq j 901 || Nat.beq j 902) = false := h
  simp only [Bool.or_eq_false_iff] at h
  simp [stHC,h.1.1,h.1.2,h.2]
 | .s o j,h => by have h : Nat.beq o 900 = false := h; simp [stHC,h]
end Ai
end
section
set_option maxRecDepth 100000
namespace Ai
open Go Go.Proofs Ieee
theorem order_symm {x y : Nat} : double.order x y = some .eq ↔ double.order y x = some .eq := by
 have key : ∀ {x y : Nat},double.order x y = some .eq → double.order y x = some .eq := by
  intro x y h
  unfold Format.order at *
  cases hx : double.read x with
  |nan s f => rw [hx] at h; cases h
  |infinity s =>
   cases hy : double.read y with
   |nan t f => rw [hx,hy] at h; cases h
   |infinity t => rw [hx,hy] at h; cases s <;> cases t <;> first | rfl | cases h
   |number t n i => rw [hx,hy] at h; cases s <;> cases h
  |number s m e =>
   cases hy : double.read y with
   |nan t f => rw [hx,hy] at h; cases h
   |infinity t => rw [hx,hy] at h; cases t <;> cases h
   |number t n i =>
    rw [hx,hy] at h
    simp only [Datum.order,Option.some.injEq] at h ⊢
    have h := Std.LawfulEqCmp.eq_of_compare h
    rw [Int.min_comm i e,h]
    exact Std.ReflCmp.compare_self
 exact ⟨key,key⟩
theorem r6 {x y : Nat} : fcmp .eql x y = fcmp .eql y x := by
 have : ∀ a b : Nat,fcmp .eql a b = true ↔ double.order a b = some .eq := fun a b => by simp [fcmp]
 rw [Bool.eq_iff_iff,this,this]
 exact order_symm
theorem near_cut : (List.range 1001).all (fun q => canon (double.nearest false q 0) == FloatKind.f64.nearest (q : Int)) = true := by decide +kernel
theorem near_cut' {q : Nat} (h : q ≤ 1000) : canon (double.nearest false q 0) = FloatKind.f64.nearest (q : Int) := by
 have := near_cut
 simp only [List.all_eq_true,List.mem_range,beq_iff_eq] at this
 exact this q (by omega)
theorem inI56_ok (n lo hi : Int) : CallsTo EE 86 [i64 n,i64 lo,i64 hi] (· = bp (InR n lo hi)) := by
 refine callsTo_of_AW (fn := Tryz.f86) Tryz.func86 rfl (by kernel_rfl) rfl ?_
 conv => whnf
 repeat' (refine kbi (fun h => ?_) (fun h => ?_) <;> first | contradiction | conv => whnf)
 all_goals simp only [decide_eq_true_eq] at *
 all_goals first | exact bpt (by unfold InR; omega) | exact bpf (by unfold InR; omega)
theorem tL {x : Nat} {many n : Int} (h1 : 1 ≤ many ∧ many ≤ 1000) (hx0 : fcmp .lss x 0 = false) (hxm : fcmp .lss x (FloatKind.f64.nearest many) = true) (hn : floatToIntVal .f64 x .i64 = some n) (hr : 0 ≤ n ∧ n < many) :
  (wF x = 2 ∨ wF x = 3) ↔ fcmp .eql (FloatKind.f64.nearest n) x = true := by
 have hdec : FloatKind.f64.decode x = double.read x := rfl
 unfold floatToIntVal at hn
 rw [hdec] at hn
 have z0 : FloatKind.f64.nearest 0 = 0 := by decide
 unfold wF
 cases hd : double.read x with
 |nan s f =>
  rw [hd] at hn; cases hn
 |infinity s => rw [hd] at hn; cases hn
 |number s m i =>
  have hnan : ¬ zQ x = true := by unfold zQ; rw [hd]; simp [Datum.isNaN]
  rw [if_neg hnan]
  rw [hd] at hn
  simp only [Datum.toInt,Datum.integral] at hn
  simp only
  have hcut0 : m = 0 → Toward.cut .zero s (m <<< i.toNat) (-i).toNat = 0 := by
   rintro rfl
   rw [cC]; simp
  by_cases e0 : fcmp .eql x 0 = true
  ·rw [if_pos e0]
   have hm : m = 0 := by
    have o : double.order x 0 = some .eq := by simpa [fcmp] using e0
    unfold Format.order at o
    rw [hd,kY] at o
    simp only [Datum.order,Option.some.injEq] at o
    have o := Std.LawfulEqCmp.eq_of_compare o
    simp only [signed,Nat.shiftLeft_eq] at o
    have : 0 < 2 ^ (i - min i double.leastPlace).toNat := Nat.pow_pos (by decide)
    have o2 : m * 2 ^ (i - min i double.leastPlace).toNat = 0 := by
     simp only [Nat.zero_mul] at o
     generalize m * 2 ^ (i - min i double.leastPlace).toNat = u at o ⊢
     cases s <;> simp at o <;> omega
    rcases Nat.mul_eq_zero.1 o2 with e | e
    ·exact e
    ·omega
   have hn0 : n = 0 := by
    rw [hcut0 hm] at hn
    split at hn
    ·simp only [Option.some.injEq] at hn
     rw [← hn]
     cases s <;> rfl
    ·cases hn
   subst hn0
   rw [z0,r6,e0]
   simp
  ·rw [if_neg e0]
   have hs : s = false := by
    cases s with
    |false => rfl
    |true =>
     exfalso
     have o : double.order x 0 ≠ some .lt := by simpa [fcmp] using hx0
     have o2 : double.order x 0 ≠ some .eq := by simpa [fcmp] using e0
     unfold Format.order at o o2
     rw [hd,kY] at o o2
     simp only [Datum.order,Option.some.injEq,ne_eq] at o o2
     rw [cmp_lt] at o
     simp only [signed,if_true,Nat.shiftLeft_eq,Nat.zero_mul] at o o2
     by_cases hm : m = 0
     ·subst hm; simp at o2; try exact o2 rfl
     ·have : 0 < m * 2 ^ (i - min i double.leastPlace).toNat := Nat.mul_pos (by omega) (Nat.pow_pos (by decide))
      generalize m * 2 ^ (i - min i double.leastPlace).toNat = u at o o2 this
      simp at o
      omega
   subst hs
   generalize hq : Toward.cut .zero false (m <<< i.toNat) (-i).toNat = q at *
   have hnq : n = (q : Int) := by
    split at hn
    ·simp only [Option.some.injEq] at hn
     rw [← hn]
     show ((q <<< 0 : Nat) : Int) = q
     rw [Nat.shiftLeft_zero]
    ·cases hn
   have ht : dS x = FloatKind.f64.nearest n := by
    unfold dS
    rw [hd]
    simp only [Datum.integral,hq,Format.write]
    rw [hnq,near_cut' (by omega)]
   rw [ht,r6]
   by_cases h : fcmp .eql (FloatKind.f64.nearest n) x = true
   ·rw [if_pos h]; simp [h]
   ·rw [if_neg h]; simp [h]
theorem m8 {x : Nat} (h : wF x = 2 ∨ wF x = 3) : zQ x = false := by
 cases hn : zQ x with
 |false => rfl
 |true =>
  exfalso
  have : wF x = 0 := by unfold wF; rw [if_pos hn]
  omega
theorem geq_lss {x y : Nat} (h : fcmp .geq x y = true) (e : fcmp .lss x y = true) : False := by
 have h : (double.order x y == some .gt || double.order x y == some .eq) = true := h
 have e : (double.order x y == some .lt) = true := e
 simp only [Bool.or_eq_true,beq_iff_eq] at h e
 rw [e] at h
 rcases h with h | h <;> cases h
theorem pM {x : Nat} {many : Int} (h1 : InR many 1 1000) (hn : zQ x = false) (h : fcmp .geq x (FloatKind.f64.nearest many) = false) : fcmp .lss x (FloatKind.f64.nearest many) = true := by
 obtain ⟨b,rfl⟩ : ∃ b : Nat,many = (b : Int) := ⟨many.toNat,by have := h1.1; omega⟩
 obtain ⟨k,hk⟩ := eN (m := b) (by have := h1.1; omega) (by have := h1.2; omega)
 have h : (double.order x (FloatKind.f64.nearest (b : Int)) == some .gt || double.order x (FloatKind.f64.nearest (b : Int)) == some .eq) = false := h
 show (double.order x (FloatKind.f64.nearest (b : Int)) == some .lt) = true
 obtain ⟨c,hc⟩ : ∃ c,double.order x (FloatKind.f64.nearest (b : Int)) = some c := by
  unfold Format.order
  rw [hk]
  unfold zQ at hn
  cases hd : double.read x with
  |nan s f => rw [hd] at hn; cases hn
  |infinity s => exact ⟨_,rfl⟩
  |number s m e => exact ⟨_,rfl⟩
 rw [hc] at h ⊢
 cases c with
 |lt => rfl
 |eq => cases h
 |gt => cases h
theorem idx_none {x : Nat} {many : Int} (hk : ¬ (wF x = 2 ∨ wF x = 3)) : yQ x many = none := by
 unfold yQ
 split
 ·rename_i hc
  obtain ⟨n,g1,g2,g3⟩ := mD x many hc.1.1 hc.1.2 hc.2.1 hc.2.2
  rw [g1]
  simp only
  rw [if_neg]
  intro e
  exact hk ((tL hc.1 hc.2.1 hc.2.2 g1 ⟨g2,g3⟩).2 e)
 ·rfl
theorem sF : yS := by
 intro x many
 refine callsTo_of_AW (fn := Tryz.f221) Tryz.func221 rfl (by kernel_rfl) rfl ?_
 conv => whnf
 refine ⟨_,iT x,?_⟩
 rintro r rfl
 conv => whnf
 refine ocase (inI56_ok _ _ _) (fun h1 => ?_) (fun h1 => ?_)
 ·conv => whnf
  refine kbi (fun k2 => ?_) (fun k2 => ?_)
  ·have k2 : ¬ wF x = 2 := by simpa using k2
   conv => whnf
   refine kbi (fun k3 => ?_) (fun k3 => ?_)
   ·have k3 : ¬ wF x = 3 := by simpa using k3
    conv => whnf
    rw [idx_none (by omega)]
    rfl
   have hk : wF x = 2 ∨ wF x = 3 := .inr (by simpa using k3)
   conv => whnf
   refine kbi (fun hx0 => ?_) (fun hx0 => ?_)
   ·have hx0 : fcmp .lss x 0 = true := hx0
    conv => whnf
    rw [show yQ x many = none by unfold yQ; rw [if_neg]; rintro ⟨_,e,_⟩; rw [hx0] at e; cases e]
    rfl
   have hx0 : fcmp .lss x 0 = false := by
    have hx0 : ¬ fcmp .lss x 0 = true := hx0
    simpa using hx0
   conv => whnf
   refine kbi (fun hg => ?_) (fun hg => ?_)
   ·have hg : fcmp .geq x (FloatKind.f64.nearest many) = true := hg
    conv => whnf
    rw [show yQ x many = none by unfold yQ; rw [if_neg]; rintro ⟨_,_,e⟩; exact geq_lss hg e]
    rfl
   have hg : fcmp .geq x (FloatKind.f64.nearest many) = false := by
    have hg : ¬ fcmp .geq x (FloatKind.f64.nearest many) = true := hg
    simpa using hg
   have hxm := pM h1 (m8 hk) hg
   obtain ⟨n,g1,g2,g3⟩ := mD x many h1.1 h1.2 hx0 hxm
   have he := (tL h1 hx0 hxm g1 ⟨g2,g3⟩).1 hk
   conv => whnf
   refine ⟨n,g1,?_⟩
   conv => whnf
   rw [show yQ x many = some n by unfold yQ; rw [if_pos ⟨h1,hx0,hxm⟩,g1]; simp only; rw [if_pos he]]
   rfl
  ·have hk : wF x = 2 ∨ wF x = 3 := .inl (by simpa using k2)
   conv => whnf
   refine kbi (fun hx0 => ?_) (fun hx0 => ?_)
   ·have hx0 : fcmp .lss x 0 = true := hx0
    conv => whnf
    rw [show yQ x many = none by unfold yQ; rw [if_neg]; rintro ⟨_,e,_⟩; rw [hx0] at e; cases e]
    rfl
   have hx0 : fcmp .lss x 0 = false := by
    have hx0 : ¬ fcmp .lss x 0 = true := hx0
    simpa using hx0
   conv => whnf
   refine kbi (fun hg => ?_) (fun hg => ?_)
   ·have hg : fcmp .geq x (FloatKind.f64.nearest many) = true := hg
    conv => whnf
    rw [show yQ x many = none by unfold yQ; rw [if_neg]; rintro ⟨_,_,e⟩; exact geq_lss hg e]
    rfl
   have hg : fcmp .geq x (FloatKind.f64.nearest many) = false := by
    have hg : ¬ fcmp .geq x (FloatKind.f64.nearest many) = true := hg
    simpa using hg
   have hxm := pM h1 (m8 hk) hg
   obtain ⟨n,g1,g2,g3⟩ := mD x many h1.1 h1.2 hx0 hxm
   have he := (tL h1 hx0 hxm g1 ⟨g2,g3⟩).1 hk
   conv => whnf
   refine ⟨n,g1,?_⟩
   conv => whnf
   rw [show yQ x many = some n by unfold yQ; rw [if_pos ⟨h1,hx0,hxm⟩,g1]; simp only; rw [if_pos he]]
   rfl
 ·conv => whnf
  rw [show yQ x many = none by unfold yQ; rw [if_neg]; rintro ⟨e,_⟩; exact h1 e]
  rfl
end Ai
end
section
set_option maxRecDepth 100000
namespace Ai
open Go Go.Proofs Ieee
def F64 (x : Nat) : Prop := x < 18446744073709551616
theorem l1 (s : Bool) (m : Nat) (i : Int) : F64 (double.nearest s m i) := by
 unfold F64 Format.nearest
 have e1 : double.signWeight = 9223372036854775808 := by decide
 have e2 : double.infRung = 9218868437227405312 := by decide
 split
 ·unfold Format.word; rw [e1]; split <;> omega
 ·unfold Format.word
  rw [e1,e2]
  simp only
  generalize (max (i + ↑m.log2 - ↑double.fractionBits) double.leastPlace - double.leastPlace).toNat * double.binade + Toward.even.cut s (m <<< (i - max (i + ↑m.log2 - ↑double.fractionBits) double.leastPlace).toNat) (max (i + ↑m.log2 - ↑double.fractionBits) double.leastPlace - i).toNat = r
  split <;> omega
theorem aO (d : Datum) : F64 (double.write d) := by
 cases d with
 |number s m i => exact l1 s m i
 |infinity s => unfold F64 Format.write Format.word; cases s <;> decide
 |nan s f =>
  show (if s = true then double.signWeight + (double.infRung + f % double.binade) else double.infRung + f % double.binade) < 18446744073709551616
  rw [show double.signWeight = 9223372036854775808 by decide,show double.infRung = 9218868437227405312 by decide,show double.binade = 4503599627370496 by decide]
  split <;> omega
theorem nearN_f64 (n : Int) : F64 (FloatKind.f64.nearest n) := aO (.number (n < 0) n.natAbs 0)
theorem fop_f64 (op : BinOp) (x y : Nat) : F64 (fop op x y) := by
 have hn : F64 nanC := by unfold F64; decide
 have key : ∀ o : Option Datum,F64 ((o.map double.write).getD nanC) := by
  intro o
  cases o with
  |none => exact hn
  |some d => exact aO d
 unfold fop floatBits
 cases op <;> first | exact hn | exact key _
theorem reckon_f64 (c : Int) (x y : Nat) : F64 (yN c x y) := by
 unfold yN
 repeat' split
 all_goals first | exact fop_f64 _ _ _ | (unfold F64 oneF; decide) | (unfold F64; decide)
def StL.flt (s : StL) : Prop := (∀ c ∈ s.cells,F64 c) ∧ ∀ t ∈ s.ths,∀ x ∈ t.stack,F64 x
theorem wR {s : StL} {k : Nat} {t : Th} (h : s.flt) (ht : ∀ x ∈ t.stack,F64 x) : (s.put k t).flt := by
 refine ⟨h.1,fun u hu => ?_⟩
 rcases List.mem_or_eq_of_mem_set hu with e | e
 ·exact h.2 u e
 ·subst e; exact ht
theorem topN_f64 {t : Th} {o : OpL} {i : Nat} (h : ∀ x ∈ t.stack,F64 x) : F64 (yM t o i) := lF h
theorem flt_do {s : StL} {k : Nat} {o : OpL} {e : Ev} (hk : k < s.ths.length) (h : s.flt) (ho : F64 o.v) : (doL s k o e).1.flt := by
 have hgd : s.ths.getD k th0 = s.ths[k] := by simp [List.getD_eq_getElem?_getD,hk]
 have ht := h.2 _ (List.getElem_mem hk)
 generalize s.ths[k] = t at *
 unfold doL
 simp only [hgd]
 have hpop : ∀ x ∈ (zC t o).stack,F64 x := fun x hx => ht x (List.mem_of_mem_take hx)
 have hpush : ∀ v,F64 v → ∀ x ∈ (zN (zC t o) v).stack,F64 x := by
  intro v hv x hx
  rcases List.mem_append.1 hx with e | e
  ·exact hpop x e
  ·simp only [List.mem_cons,List.not_mem_nil,or_false] at e
   subst e; exact hv
 by_cases n1 : o.code = 1
 ·rw [if_pos n1]; exact wR h (hpush _ ho)
 rw [if_neg n1]
 by_cases n2 : o.code = 2
 ·rw [if_pos n2]
  refine wR h (hpush _ ?_)
  rw [List.getD_eq_getElem?_getD]
  cases hg : s.cells[o.a.toNat]? with
  |none => unfold F64; decide
  |some c => exact h.1 c (List.mem_of_getElem? hg)
 rw [if_neg n2]
 by_cases n3 : o.code = 3
 ·rw [if_pos n3]
  refine wR ⟨fun c hc => ?_,h.2⟩ hpop
  rcases List.mem_or_eq_of_mem_set hc with e | e
  ·exact h.1 c e
  ·subst e; exact topN_f64 ht
 rw [if_neg n3]
 by_cases n10 : o.code = 10
 ·rw [if_pos n10]; exact wR h hpop
 rw [if_neg n10]
 by_cases n11 : o.code = 11
 ·rw [if_pos n11]
  refine wR h ?_
  split
  ·exact hpop
  ·exact hpop
 rw [if_neg n11]
 by_cases n12 : o.code = 12
 ·rw [if_pos n12]; exact wR (s := { s with owner := _ }) h hpop
 rw [if_neg n12]
 by_cases n13 : o.code = 13
 ·rw [if_pos n13]; exact wR (s := { s with owner := _ }) h hpop
 rw [if_neg n13]
 by_cases n14 : o.code = 14
 ·rw [if_pos n14]
  refine wR (s := { s with ths := _ }) ⟨h.1,fun u hu => ?_⟩ (hpush _ (nearN_f64 _))
  rcases List.mem_append.1 hu with e | e
  ·exact h.2 u e
  ·simp only [List.mem_cons,List.not_mem_nil,or_false] at e
   subst e; intro x hx; cases hx
 rw [if_neg n14]
 by_cases n15 : o.code = 15
 ·rw [if_pos n15]; exact wR h hpop
 rw [if_neg n15]
 by_cases n16 : o.code = 16
 ·rw [if_pos n16]; exact wR (s := { s with owner := _ }) h hpop
 rw [if_neg n16]
 by_cases n17 : o.code = 17
 ·rw [if_pos n17]
  cases wK s.ths o.a with
  |none => exact wR h hpop
  |some j =>
   refine wR (s := { s with ths := _ }) ⟨h.1,fun u hu => ?_⟩ hpop
   obtain ⟨i,hi,rfl⟩ := List.mem_iff_getElem.1 hu
   have hil : i < s.ths.length := by simpa using hi
   have := h.2 _ (List.getElem_mem hil)
   rw [List.getElem_modify]
   split
   ·exact this
   ·exact this
 rw [if_neg n17]
 exact wR h (hpush _ (reckon_f64 _ _ _))
theorem p7 {p : ProgL} (hv : p.flt) {s : StL} {k : Nat} (hk : k < s.ths.length) (h : s.flt) : (stepL p s k).1.flt := by
 have hgd : s.ths.getD k th0 = s.ths[k] := by simp [List.getD_eq_getElem?_getD,hk]
 have ht := h.2 _ (List.getElem_mem hk)
 unfold stepL
 simp only [hgd]
 split
 ·exact wR (s := { s with owner := _ }) h ht
 ·split
  ·exact wR h ht
  ·rename_i o hn
   split
   ·refine flt_do hk h ?_
    unfold yC at hn
    by_cases hr : s.ths[k].rt.toNat < p.rs.length
    ·have e : p.rs.getD s.ths[k].rt.toNat [] = p.rs[s.ths[k].rt.toNat] := by rw [List.getD_eq_getElem?_getD,List.getElem?_eq_getElem hr]; rfl
     rw [e] at hn
     exact hv _ (List.getElem_mem hr) o (List.mem_of_getElem? hn)
    ·have e : p.rs.getD s.ths[k].rt.toNat [] = [] := by rw [List.getD_eq_getElem?_getD,List.getElem?_eq_none (by omega)]; rfl
     rw [e] at hn
     simp at hn
   ·exact h
theorem flt_new (p : ProgL) : (vA p).flt := by
 refine ⟨fun c hc => ?_,fun t ht => ?_⟩
 ·obtain ⟨_,rfl⟩ := List.mem_replicate.1 hc
  unfold F64; decide
 ·have : t = jF 0 := by simpa [vA] using ht
  subst this
  intro x hx; cases hx
theorem goes_st {p : ProgL} {s : StL} {k : Nat} (h : k ∈ enabledL p s) (hk : k < s.ths.length) : s.ths[k].st = 1 ∨ s.ths[k].st = 4 := by
 have := (List.mem_filter.1 h).2
 unfold qE at this
 have this := of_decide_eq_true this
 simp only [List.getD_eq_getElem?_getD,List.getElem?_eq_getElem hk,Option.getD_some] at this
 exact this.2.1
theorem joins_top {s : StL} {k : Nat} {o : OpL} (hk : k < s.ths.length) (hf : zX s k o = 0) (h15 : o.code = 15) : ∃ j,yQ (yM s.ths[k] o 0) s.ths.length = some j ∧ zW s s.ths[k] = some j := by
 have hgd : s.ths.getD k th0 = s.ths[k] := by simp [List.getD_eq_getElem?_getD,hk]
 unfold zX at hf
 simp only [hgd] at hf
 generalize s.ths[k] = t at *
 have ht : zA o.code = (1,0) := by rw [h15]; decide
 rw [ht] at hf
 simp only at hf
 split at hf
 ·cases hf
 rename_i h1
 have hl : 1 ≤ t.stack.length := by
  have := fun e => h1 (.inl e)
  omega
 split at hf
 ·cases hf
 split at hf
 ·cases hf
 rename_i h3
 have hj : ¬ (zW s t).getD (-1) < 0 := fun e => h3 ⟨h15,e⟩
 have hkn : zT t o = t.stack.length - 1 := by simp [zT,xK,ht]
 have htop : t.stack.getLast? = some (yM t o 0) := by
  unfold yM
  rw [hkn,List.getLast?_eq_getElem?,List.getD_eq_getElem?_getD,List.getElem?_drop]
  rw [Nat.add_zero,List.getElem?_eq_getElem (by omega)]
  rfl
 unfold zW at hj ⊢
 rw [htop] at hj ⊢
 simp only [Option.bind_some] at hj ⊢
 cases hi : yQ (yM t o 0) s.ths.length with
 |none => rw [hi] at hj; exact absurd (by decide) hj
 |some j => exact ⟨j,rfl,rfl⟩
theorem runI {p : ProgL} (hg : p.goodS) (hv : p.flt) : RunI p (fun s => SInv p s ∧ s.flt) := {
 small := fun s h => (runOK hg).small s h.1
 seen := fun s h => (runOK hg).seen s h.1
 ready := fun s h => (runOK hg).ready s h.1
 awake := fun s h k hk hl => by
  have := goes_st hk hl
  omega
 flt := fun s h => h.2.2
 joins := fun s h k hk hl o hn hf h15 => joins_top hl hf h15
 step := fun s h k hk => by
  have : k < s.ths.length := by have := (List.mem_filter.1 hk).1; simpa using this
  exact ⟨(runOK hg).step s h.1 k hk,p7 hv this h.2⟩ }
end Ai
end
section
set_option maxRecDepth 100000
namespace Ai
open Go Go.Proofs
noncomputable def xN (p : ProgL) (s : StL) (n : Nat) : List (Nat × Int) := ((List.range n).filter fun k => decide (0 ≤ zK p s (s.ths.getD k th0))).map fun k => (k,zK p s (s.ths.getD k th0))
noncomputable def nR (p : ProgL) (s : StL) : List (Nat × Int) := xN p s s.ths.length
def encE (e : Nat × Int) : List D := [.sl [[di e.1],[di e.2]]]
theorem yD {p : ProgL} {s : StL} {n : Nat} : xN p s (n + 1) = xN p s n ++ (if 0 ≤ zK p s (s.ths.getD n th0) then [(n,zK p s (s.ths.getD n th0))] else []) := by
 unfold xN
 rw [List.range_succ,List.filter_append,List.map_append]
 congr 1
 by_cases h : 0 ≤ zK p s (s.ths.getD n th0)
 ·rw [List.filter_cons_of_pos (by simpa using h),if_pos h]; rfl
 ·rw [List.filter_cons_of_neg (by simpa using h),if_neg h]; rfl
theorem edgesTo_le {p : ProgL} {s : StL} {n : Nat} : (xN p s n).length ≤ n := by
 unfold xN
 rw [List.length_map]
 exact Nat.le_trans (List.length_filter_le _ _) (by simp)
end Ai
end
section
namespace Ai.Cyc
structure BS where
 out : List Nat
 queue : List Nat
 far : List (Nat × Nat)
deriving DecidableEq
def setF (l : List (Nat × Nat)) (k v : Nat) : List (Nat × Nat) := if l.any (fun p => p.1 == k) = true then l.map (fun p => if p.1 == k then (k,v) else p) else l ++ [(k,v)]
def getF (l : List (Nat × Nat)) (k : Nat) : Nat := ((l.find? fun p => p.1 == k).map (·.2)).getD 0
def bsE (goal cur : Nat) (st : BS) (e : Nat × Nat) : BS :=
 if (e.2 != cur || decide (0 < st.out.getD e.1 0)) = true then st
 else if (e.1 != goal) = true then ⟨st.out.set e.1 (getF st.far cur + 1),st.queue ++ [e.1],setF st.far e.1 (getF st.far cur + 1)⟩
 else ⟨st.out.set e.1 (getF st.far cur + 1),st.queue,st.far⟩
def bs0 (goal : Nat) : BS := ⟨List.replicate 100 0,[goal],[(goal,0)]⟩
def cH (goal : Nat) (edges : List (Nat × Nat)) : Nat → Nat → BS → Option BS
 | 0,_,_ => none
 |f + 1,i,st => if i < st.queue.length then cH goal edges f (i + 1) (edges.foldl (bsE goal (st.queue.getD i 0)) st) else some st
def nextI (edges : List (Nat × Nat)) (far : List Nat) (n at_ left : Nat) : Nat :=
 edges.foldl (fun nx e => if (e.1 == at_ && e.2 != n && far.getD e.2 0 == left) = true then min nx e.2 else nx) 100
def wayI (edges : List (Nat × Nat)) (far : List Nat) (n : Nat) : Nat → List Nat → Nat → List Nat
 | 0,out,_ => out
 |left + 1,out,at_ => wayI edges far n left (out ++ [nextI edges far n at_ (left + 1)]) (nextI edges far n at_ (left + 1))
def s9 (edges : List (Nat × Nat)) (n : Nat) : Option (List Nat) :=
 match cH n edges 7 0 (bs0 n) with
 |none => none
 |some st => if st.out.getD n 0 = 0 then some [] else some (wayI edges st.out n (st.out.getD n 0 - 1) [n] n)
def fU (edges : List (Nat × Nat)) (to : Nat) : Nat → Nat → List (List Nat) → List Nat → Option (List Nat)
 | 0,_,_,_ => none
 |f + 1,i,ways,seen =>
  if i < ways.length then
   match edges.find? (fun e => e.1 == (ways.getD i []).getLastD 0) with
   |none => fU edges to f (i + 1) ways seen
   |some e => if e.2 = to then some (ways.getD i []) else if seen.contains e.2 = true then fU edges to f (i + 1) ways seen
     else fU edges to f (i + 1) (ways ++ [ways.getD i [] ++ [e.2]]) (seen ++ [e.2])
  else some []
def lB (edges : List (Nat × Nat)) (n : Nat) : Option (List Nat) := fU edges n 8 0 [[n]] []
def opts : List (Option Nat) := [none,some 0,some 1,some 2,some 3,some 4]
def ed (k : Nat) (o : Option Nat) : List (Nat × Nat) := match o with | some b => [(k,b)] | none => []
def ok (edges : List (Nat × Nat)) : Bool := (List.range 5).all fun n => (s9 edges n).isSome && s9 edges n == lB edges n
def bE (a : Option Nat) : Bool := opts.all fun b => opts.all fun c => opts.all fun d => opts.all fun e => ok (ed 0 a ++ ed 1 b ++ ed 2 c ++ ed 3 d ++ ed 4 e)
theorem okN : bE none = true := by decide +kernel
theorem ok0 : bE (some 0) = true := by decide +kernel
theorem ok1 : bE (some 1) = true := by decide +kernel
theorem ok2 : bE (some 2) = true := by decide +kernel
theorem ok3 : bE (some 3) = true := by decide +kernel
theorem ok4 : bE (some 4) = true := by decide +kernel
theorem ok_all (a b c d e : Option Nat) (ha : a ∈ opts) (hb : b ∈ opts) (hc : c ∈ opts) (hd : d ∈ opts) (he : e ∈ opts) : ok (ed 0 a ++ ed 1 b ++ ed 2 c ++ ed 3 d ++ ed 4 e) = true := by
 have h : bE a = true := by
  simp only [opts,List.mem_cons,List.not_mem_nil,or_false] at ha
  rcases ha with rfl | rfl | rfl | rfl | rfl | rfl
  ·exact okN
  ·exact ok0
  ·exact ok1
  ·exact ok2
  ·exact ok3
  ·exact ok4
 simp only [bE,List.all_eq_true] at h
 exact h b hb c hc d hd e he
end Ai.Cyc
end
section
set_option maxRecDepth 100000
namespace Ai
open Go Go.Proofs Cyc
def nQ (e : Nat × Nat) : List D := [.sl [[di e.1],[di e.2]]]
def vU (x : Nat) : List D := [di (x : Int)]
end Ai
end
section
namespace Ai.Cyc
theorem iD {goal cur : Nat} : ∀ (es : List (Nat × Nat)) (st : BS),(∀ e ∈ es,e.2 ≠ cur) → es.foldl (bsE goal cur) st = st
 | [],st,h => rfl
 |e :: es,st,h => by
  have : bsE goal cur st e = st := by
   unfold bsE
   rw [if_pos (by rw [Bool.or_eq_true]; exact .inl (bne_iff_ne.2 (h e List.mem_cons_self)))]
  rw [List.foldl_cons,this]
  exact iD es st fun x hx => h x (List.mem_cons_of_mem _ hx)
theorem run_far {n : Nat} {edges : List (Nat × Nat)} (h : ∀ e ∈ edges,e.2 ≠ n) : cH n edges 7 0 (bs0 n) = some (bs0 n) := by
 unfold cH
 rw [if_pos (by simp [bs0])]
 rw [show (bs0 n).queue.getD 0 0 = n from rfl,iD edges _ h]
 unfold cH
 rw [if_neg (by simp [bs0])]
theorem cycI_far {n : Nat} {edges : List (Nat × Nat)} (h : ∀ e ∈ edges,e.2 ≠ n) : s9 edges n = some [] := by
 unfold s9
 rw [run_far h]
 have : (bs0 n).out.getD n 0 = 0 := by
  simp only [bs0,List.getD_eq_getElem?_getD,List.getElem?_replicate]
  split <;> rfl
 show (if (bs0 n).out.getD n 0 = 0 then some [] else _) = _
 rw [if_pos this]
theorem cycS_far {n : Nat} {edges : List (Nat × Nat)} (h : ∀ e ∈ edges,e.1 ≠ n) : lB edges n = some [] := by
 have hf : edges.find? (fun e => e.1 == n) = none := by
  rw [List.find?_eq_none]
  intro e he
  simpa using h e he
 unfold lB fU
 rw [if_pos (by simp)]
 have : (([[n]] : List (List Nat)).getD 0 []).getLastD 0 = n := rfl
 rw [this,hf]
 unfold fU
 rw [if_neg (by simp)]
structure Graph (edges : List (Nat × Nat)) : Prop where
 g : ∃ a b c d e : Option Nat,(a ∈ opts ∧ b ∈ opts ∧ c ∈ opts ∧ d ∈ opts ∧ e ∈ opts) ∧ edges = ed 0 a ++ ed 1 b ++ ed 2 c ++ ed 3 d ++ ed 4 e
theorem s5 {k : Nat} {o : Option Nat} (ho : o ∈ opts) (hk : k < 5) : ∀ e ∈ ed k o,e.1 < 5 ∧ e.2 < 5 := by
 intro e he
 simp only [opts,List.mem_cons,List.not_mem_nil,or_false] at ho
 rcases ho with rfl | rfl | rfl | rfl | rfl | rfl <;> simp [ed] at he <;> subst he <;> exact ⟨hk,by simp⟩
theorem Graph.small {edges : List (Nat × Nat)} (h : Graph edges) : ∀ e ∈ edges,e.1 < 5 ∧ e.2 < 5 := by
 obtain ⟨a,b,c,d,e,⟨ha,hb,hc,hd,he⟩,rfl⟩ := h.g
 intro x hx
 simp only [List.mem_append] at hx
 rcases hx with (((hx | hx) | hx) | hx) | hx
 ·exact s5 ha (by decide) x hx
 ·exact s5 hb (by decide) x hx
 ·exact s5 hc (by decide) x hx
 ·exact s5 hd (by decide) x hx
 ·exact s5 he (by decide) x hx
theorem cB (k : Nat) (o : Option Nat) : (ed k o).length ≤ 1 := by cases o <;> simp [ed]
theorem Graph.len {edges : List (Nat × Nat)} (h : Graph edges) : edges.length ≤ 5 := by
 obtain ⟨a,b,c,d,e,-,rfl⟩ := h.g
 simp only [List.length_append]
 have := cB 0 a; have := cB 1 b; have := cB 2 c; have := cB 3 d; have := cB 4 e
 omega
theorem Graph.same {edges : List (Nat × Nat)} (h : Graph edges) (n : Nat) : (s9 edges n).isSome = true ∧ s9 edges n = lB edges n := by
 by_cases hn : n < 5
 ·obtain ⟨a,b,c,d,e,⟨ha,hb,hc,hd,he⟩,rfl⟩ := h.g
  have := ok_all a b c d e ha hb hc hd he
  simp only [ok,List.all_eq_true,List.mem_range,Bool.and_eq_true,beq_iff_eq] at this
  exact this n hn
 ·have h1 : s9 edges n = some [] := cycI_far fun e he => by have := h.small e he; omega
  have h2 : lB edges n = some [] := cycS_far fun e he => by have := h.small e he; omega
  rw [h1,h2]
  exact ⟨rfl,rfl⟩
theorem Graph.run {edges : List (Nat × Nat)} (h : Graph edges) (n : Nat) : (cH n edges 7 0 (bs0 n)).isSome = true := by
 have := (h.same n).1
 unfold s9 at this
 cases hr : cH n edges 7 0 (bs0 n) with
 |none => rw [hr] at this; cases this
 |some x => rfl
end Ai.Cyc
end
section
set_option maxRecDepth 100000
namespace Ai
open Go Go.Proofs Cyc
def jZ (edges : List (Nat × Nat)) : List Nat := ((List.range 100).findSome? fun n => match lB edges n with | some (x :: xs) => some (x :: xs) | _ => none).getD []
theorem cycS_at {edges : List (Nat × Nat)} {n : Nat} {o : List Nat} (h : n < 100) (hno : ∀ k,k < n → lB edges k = some []) (ho : lB edges n = some o) (hne : o ≠ []) : jZ edges = o := by
 unfold jZ
 have hs : List.range 100 = (List.range 100).take n ++ n :: (List.range 100).drop (n + 1) := by
  have := (List.take_append_drop n (List.range 100)).symm
  rw [List.drop_eq_getElem_cons (by simp; omega),List.getElem_range] at this
  exact this
 have hf : (List.range 100).findSome? (fun n => match lB edges n with | some (x :: xs) => some (x :: xs) | _ => none) = some o := by
  rw [List.findSome?_eq_some_iff]
  refine ⟨_,n,_,hs,?_,fun x hx => ?_⟩
  ·rw [ho]
   cases o with
   |nil => exact absurd rfl hne
   |cons x xs => rfl
  ·obtain ⟨i,hi,rfl⟩ := List.mem_iff_getElem.1 hx
   have hi2 : i < n := by
    have := hi
    simp at this
    omega
   rw [List.getElem_take,List.getElem_range,hno i hi2]
 rw [hf]
 rfl
theorem l3Cycle_ok (edges : List (Nat × Nat)) (hG : Graph edges) (hW : ∀ n w,n < 100 → lB edges n = some w → CallsTo EE 205 [sl (edges.map nQ),i64 n,i64 n] (· = sl (w.map vU))) :
  CallsTo EE 142 [sl (edges.map nQ)] (· = sl ((jZ edges).map vU)) := by
 refine callsTo_of_AW (fn := Tryz.f142) Tryz.func142 rfl (by kernel_rfl) rfl ?_
 conv => whnf
 refine xA (fun n : Nat => [(0,sl (edges.map nQ)),(3,i64 n)]) (fun n => []) (fun n => 100 - n) (fun n => n ≤ 100 ∧ ∀ k,k < n → lB edges k = some []) 0
  Weak.refl ⟨rfl,rfl,trivial⟩ trivial ⟨Nat.zero_le _,fun k hk => by omega⟩ ?_
 rintro n τ H ⟨hn,hno⟩
 conv => whnf
 refine kbi (fun h => ?_) (fun h => ?_)
 ·have h : n < 100 := by
   have := of_decide_eq_true h
   omega
  obtain ⟨w,hw⟩ : ∃ w,lB edges n = some w := by
   have := (hG.same n).1
   rw [(hG.same n).2] at this
   exact Option.isSome_iff_exists.1 this
  conv => whnf
  refine ⟨_,hW n w h hw,?_⟩
  rintro r rfl
  conv => whnf
  refine kbi (fun h0 => ?_) (fun h0 => ?_)
  ·have h0 : 0 < w.length := by
    have := of_decide_eq_true h0
    simpa using this
   conv => whnf
   rw [cycS_at h hno hw (by intro e; rw [e] at h0; simp at h0)]
   try rfl
  ·have h0 : w = [] := by
    have h1 : ¬ ((w.map vU).length : Int) > 0 := fun e => h0 (decide_eq_true e)
    have : w.length = 0 := by simp at h1; simpa using h1
    exact List.length_eq_zero_iff.1 this
   subst h0
   conv => whnf
   refine ⟨n + 1,⟨by omega,fun k hk => ?_⟩,by show 100 - (n + 1) < 100 - n; omega,⟨rfl,?_,trivial⟩,trivial⟩
   ·by_cases hkn : k = n
    ·rw [hkn]; exact hw
    ·exact hno k (by omega)
   ·show AV.d (.int .i64 (IntKind.i64.wrap ((n : Int) + 1))) = i64 ((n + 1 : Nat) : Int)
    rw [zH (by omega) (by omega)]
    rfl
 ·have h : n = 100 := by
   have : ¬ (n : Int) < 100 := fun e => h (decide_eq_true e)
   omega
  subst h
  have h0 : jZ edges = [] := by
   unfold jZ
   have : (List.range 100).findSome? (fun n => match lB edges n with | some (x :: xs) => some (x :: xs) | _ => none) = none := by
    rw [List.findSome?_eq_none_iff]
    intro k hk
    rw [hno k (by simpa using hk)]
   rw [this]; rfl
  conv => whnf
  rw [h0]
  exact .inl rfl
end Ai
end
section
set_option maxRecDepth 100000
namespace Ai
open Go Go.Proofs Cyc
theorem l1Put0_ok (n : Int) : CallsTo EE 252 [sl [],i64 n] (· = .uq 3 1 [[di n]]) := by
 refine callsTo_of_AW (fn := Tryz.f252) Tryz.func252 rfl (by kernel_rfl) rfl ?_
 conv => whnf
 refine xA (fun _ : Unit => [(0,sl []),(1,i64 n),(5,i64 0)]) (fun _ => []) (fun _ => 0) (fun _ => True) ()
  Weak.refl ⟨rfl,rfl,rfl,trivial⟩ trivial trivial ?_
 rintro ⟨⟩ τ H -
 conv => whnf
 refine kbi (fun h => absurd h (by decide)) (fun h => ?_)
 conv => whnf
 refine kbi (fun h2 => absurd h2 (by decide)) (fun h2 => ?_)
 conv => whnf
 refine ⟨⟨Int.le_refl _,Int.le_refl _,Int.le_refl _,fun c hc => (by cases hc)⟩,?_⟩
 conv => whnf
 refine ⟨⟨rfl,by decide,by decide⟩,?_⟩
 conv => whnf
 refine ⟨⟨rfl,by show (8 : Nat) ≤ _; decide,by show (1 : Nat) ≤ _; decide⟩,?_⟩
 conv => whnf
 refine ⟨⟨Int.le_refl _,Int.le_refl _,Int.le_refl _,fun c hc => (by cases hc)⟩,?_⟩
 conv => whnf
 refine ⟨⟨rfl,by show (8 : Nat) ≤ _; decide,by show (1 : Nat) ≤ _; decide⟩,?_⟩
 conv => whnf
 try rfl
end Ai
end
section
set_option maxRecDepth 100000
namespace Ai
open Go Go.Proofs Cyc
def cA (w : List Nat) : List D := [.sl (w.map vU)]
def OneEach (edges : List (Nat × Nat)) : Prop := ∀ i j (hi : i < edges.length) (hj : j < edges.length),edges[i].1 = edges[j].1 → i = j
def nxv : Option Nat → AV
 |none => .d .nil
 |some b => .d (.sl [[di (b : Int)]])
theorem l3Way_ok (edges : List (Nat × Nat)) (n : Nat) (w : List Nat) (hl : edges.length ≤ 5) (ho : OneEach edges) (hw : fU edges n 8 0 [[n]] [] = some w) :
  CallsTo EE 205 [sl (edges.map nQ),i64 n,i64 n] (· = sl (w.map vU)) := by
 refine callsTo_of_AW (fn := Tryz.f205) Tryz.func205 rfl (by kernel_rfl) rfl ?_
 conv => whnf
 refine .inl ?_
 conv => whnf
 refine xA (fun x : Nat × List (List Nat) × List Nat => [(0,sl (edges.map nQ)),(1,i64 n),(2,i64 n),(6,.d .nil),(7,.ref (.n 18) 0 x.2.1.length),(8,.ref (.n 68) 0 x.2.2.length),(9,i64 x.1)])
  (fun x => [(.n 18,.ds 41 1 (x.2.1.map cA)),(.n 68,.ds 3 1 (x.2.2.map vU))]) (fun x => 8 - x.1)
  (fun x => ∃ f,f + x.1 = 8 ∧ fU edges n f x.1 x.2.1 x.2.2 = some w ∧ x.2.1.length ≤ x.1 + 1 ∧ (∀ v ∈ x.2.1,1 ≤ v.length ∧ v.length ≤ x.1 + 1) ∧ x.2.2.length ≤ x.1) (0,[[n]],[])
  (weak_nil 8 (.n 68) 3 1 rfl) ?_ ?_ ⟨8,rfl,hw,by simp,by simp,by simp⟩ ?_
 ·exact ⟨rfl,rfl,rfl,rfl,rfl,rfl,rfl,trivial⟩
 ·exact ⟨rfl,rfl,trivial⟩
 rintro ⟨i,ways,seen⟩ τ H ⟨f,hf,hrun,hwl,hne,hsl⟩
 cases f with
 |zero => cases hrun
 |succ f =>
 have hf : f + 1 + i = 8 := hf
 have hrun : fU edges n (f + 1) i ways seen = some w := hrun
 have hwl : ways.length ≤ i + 1 := hwl
 have hne : ∀ v ∈ ways,1 ≤ v.length ∧ v.length ≤ i + 1 := hne
 have hsl : seen.length ≤ i := hsl
 conv => whnf
 refine kbi (fun hi => ?_) (fun hi => ?_)
 ·have hi : i < ways.length := by
   have := of_decide_eq_true hi
   simpa using this
  have hwi := hne _ (List.getElem_mem hi)
  have hgd : ways.getD i [] = ways[i] := by simp [List.getD_eq_getElem?_getD,hi]
  unfold fU at hrun
  rw [if_pos hi,hgd] at hrun
  generalize hv : ways[i] = v at *
  have hvl : v.getLastD 0 = v.getD (v.length - 1) 0 := by
   rw [List.getLastD_eq_getLast?,List.getLast?_eq_getElem?,List.getD_eq_getElem?_getD]
  conv => whnf
  refine ⟨⟨by omega,by show (i : Int) < ways.length; omega⟩,?_⟩
  conv => whnf
  refine ⟨cA v,⟨by rw [Nat.zero_add]; show (ways.map cA)[i]? = _; rw [List.getElem?_map,List.getElem?_eq_getElem hi,hv]; rfl,by show 0 + 1 ≤ 1; omega⟩,?_⟩
  conv => whnf
  have ewl : IntKind.i64.wrap ((v.length : Int) - 1) = ((v.length - 1 : Nat) : Int) := by rw [zH (by omega) (by omega)]; omega
  generalize hlast : v.getLastD 0 = last at *
  refine xA (fun y : Nat × Option Nat => [(0,sl (edges.map nQ)),(1,i64 n),(2,i64 n),(6,.d .nil),(7,.ref (.n 18) 0 ways.length),(8,.ref (.n 68) 0 seen.length),(9,i64 i),(10,sl (v.map vU)),(11,nxv y.2),(29,sl (edges.map nQ)),(30,i64 (edges.map nQ).length),(31,i64 y.1)])
   (fun y => [(.n 18,.ds 41 1 (ways.map cA)),(.n 68,.ds 3 1 (seen.map vU))]) (fun y => edges.length - y.1)
   (fun y => y.1 ≤ edges.length ∧ y.2 = ((edges.take y.1).find? (fun e => e.1 == last)).map (·.2)) (0,none)
   Weak.refl ⟨rfl,rfl,rfl,rfl,rfl,rfl,rfl,rfl,rfl,rfl,rfl,rfl,trivial⟩ ⟨rfl,rfl,trivial⟩ ⟨Nat.zero_le _,rfl⟩ ?_
  rintro ⟨j,q⟩ τ2 H2 ⟨hj,hq⟩
  have hj : j ≤ edges.length := hj
  have hq : q = ((edges.take j).find? (fun e => e.1 == last)).map (·.2) := hq
  conv => whnf
  refine kbi (fun hje => ?_) (fun hje => ?_)
  ·have hje : j < edges.length := by simpa using hje
   have hnext : (edges.take (j + 1)).find? (fun e => e.1 == last) = ((edges.take j).find? (fun e => e.1 == last)).or (if edges[j].1 == last then some edges[j] else none) := by
    rw [List.take_succ_eq_append_getElem hje,List.find?_append]
    congr 1
    simp only [List.find?_cons]
    cases (edges[j].1 == last) <;> rfl
   conv => whnf
   refine ⟨nQ edges[j],⟨by omega,by simp [hje],rfl⟩,?_⟩
   conv => whnf
   refine ⟨by kernel_rfl,?_⟩
   conv => whnf
   refine ⟨[di edges[j].1],⟨by decide,rfl,rfl⟩,?_⟩
   conv => whnf
   refine ⟨vU last,⟨?_,?_,rfl⟩,?_⟩
   ·show (0 : Int) ≤ IntKind.i64.wrap (((v.map vU).length : Int) - 1)
    rw [List.length_map,ewl]; omega
   ·show (v.map vU)[(IntKind.i64.wrap (((v.map vU).length : Int) - 1)).toNat]? = _
    rw [List.length_map,ewl,hvl,List.getElem?_map,List.getD_eq_getElem?_getD]
    show (v[v.length - 1]?).map vU = _
    rw [List.getElem?_eq_getElem (by omega)]
    rfl
   conv => whnf
   refine kbi (fun h7 => ?_) (fun h7 => ?_)
   ·have h7 : edges[j].1 = last := by
     have h8 : ((edges[j].1 : Int) == (last : Int)) = true := h7
     rw [beq_iff_eq] at h8
     omega
    have hnone : (edges.take j).find? (fun e => e.1 == last) = none := by
     rw [List.find?_eq_none]
     intro e he
     obtain ⟨k,hk,rfl⟩ := List.mem_take_iff_getElem.1 he
     intro e2
     have e2 : edges[k].1 = last := by simpa using e2
     have := ho k j (by omega) hje (by rw [e2,h7])
     omega
    rw [hnone] at hq hnext
    have hq : q = none := hq
    subst hq
    conv => whnf
    refine ⟨[di edges[j].2],⟨by decide,rfl,rfl⟩,?_⟩
    conv => whnf
    refine ⟨_,l1Put0_ok (edges[j].2 : Int),?_⟩
    rintro r rfl
    refine .inl ?_
    conv => whnf
    refine ⟨(j + 1,some edges[j].2),⟨by show j + 1 ≤ edges.length; omega,by show some edges[j].2 = _; rw [hnext,h7]; simp⟩,by show edges.length - (j + 1) < edges.length - j; omega,⟨rfl,rfl,rfl,rfl,rfl,rfl,rfl,rfl,rfl,rfl,rfl,?_,trivial⟩,⟨rfl,rfl,trivial⟩⟩
    show AV.d (.int .i64 (IntKind.i64.wrap ((j : Int) + 1))) = i64 ((j + 1 : Nat) : Int)
    rw [zH (by omega) (by omega)]
    rfl
   ·have h7 : edges[j].1 ≠ last := by
     intro e
     apply h7
     show ((edges[j].1 : Int) == (last : Int)) = true
     rw [beq_iff_eq,e]
    conv => whnf
    refine ⟨(j + 1,q),⟨by show j + 1 ≤ edges.length; omega,by show q = _; rw [hnext,hq]; simp [h7]⟩,by show edges.length - (j + 1) < edges.length - j; omega,⟨rfl,rfl,rfl,rfl,rfl,rfl,rfl,rfl,rfl,rfl,rfl,?_,trivial⟩,⟨rfl,rfl,trivial⟩⟩
    show AV.d (.int .i64 (IntKind.i64.wrap ((j : Int) + 1))) = i64 ((j + 1 : Nat) : Int)
    rw [zH (by omega) (by omega)]
    rfl
  ·have hje : edges.length ≤ j := by simpa using hje
   have hjj : j = edges.length := by omega
   rw [hjj,List.take_length] at hq
   cases hfd : edges.find? (fun e => e.1 == last) with
   |none =>
    rw [hfd] at hq hrun
    have hq : q = none := hq
    subst hq
    conv => whnf
    refine xA (fun _ : Unit => [(0,sl (edges.map nQ)),(1,i64 n),(2,i64 n),(6,.d .nil),(7,.ref (.n 18) 0 ways.length),(8,.ref (.n 68) 0 seen.length),(9,i64 i),(52,i64 0),(53,i64 0)])
     (fun _ => [(.n 18,.ds 41 1 (ways.map cA)),(.n 68,.ds 3 1 (seen.map vU))]) (fun _ => 0) (fun _ => True) ()
     Weak.refl ⟨rfl,rfl,rfl,rfl,rfl,rfl,rfl,rfl,rfl,trivial⟩ ⟨rfl,rfl,trivial⟩ trivial ?_
    rintro ⟨⟩ τ3 H3 -
    conv => whnf
    refine kbi (fun h8 => absurd h8 (by decide)) (fun h8 => ?_)
    conv => whnf
    refine ⟨(i + 1,ways,seen),⟨f,by show f + (i + 1) = 8; omega,hrun,by show ways.length ≤ i + 1 + 1; omega,fun v hv => ⟨(hne v hv).1,Nat.le_succ_of_le (hne v hv).2⟩,Nat.le_succ_of_le hsl⟩,by show 8 - (i + 1) < 8 - i; omega,⟨rfl,rfl,rfl,rfl,rfl,rfl,?_,trivial⟩,⟨rfl,rfl,trivial⟩⟩
    show AV.d (.int .i64 (IntKind.i64.wrap ((i : Int) + 1))) = i64 ((i + 1 : Nat) : Int)
    rw [zH (by omega) (by omega)]
    rfl
   |some e =>
    rw [hfd] at hq hrun
    have hq : q = some e.2 := hq
    subst hq
    conv => whnf
    have hrun : (if e.2 = n then some v else if seen.contains e.2 = true then fU edges n f (i + 1) ways seen else fU edges n f (i + 1) (ways ++ [v ++ [e.2]]) (seen ++ [e.2])) = some w := hrun
    refine xA (fun z : Nat × List (List Nat) × List Nat => [(0,sl (edges.map nQ)),(1,i64 n),(2,i64 n),(6,.d .nil),(7,.ref (.n 18) 0 z.2.1.length),(8,.ref (.n 68) 0 z.2.2.length),(9,i64 i),(10,sl (v.map vU)),(51,.d (.sl [[di (e.2 : Int)]])),(52,i64 1),(53,i64 z.1)])
     (fun z => [(.n 18,.ds 41 1 (z.2.1.map cA)),(.n 68,.ds 3 1 (z.2.2.map vU))]) (fun z => 1 - z.1)
     (fun z => (z.1 = 0 ∧ z.2.1 = ways ∧ z.2.2 = seen) ∨ (z.1 = 1 ∧ fU edges n f (i + 1) z.2.1 z.2.2 = some w ∧ z.2.1.length ≤ i + 2 ∧ (∀ v ∈ z.2.1,1 ≤ v.length ∧ v.length ≤ i + 2) ∧ z.2.2.length ≤ i + 1)) (0,ways,seen)
     Weak.refl ⟨rfl,rfl,rfl,rfl,rfl,rfl,rfl,rfl,rfl,rfl,rfl,trivial⟩ ⟨rfl,rfl,trivial⟩ (.inl ⟨rfl,rfl,rfl⟩) ?_
    rintro ⟨k,W,Sn⟩ τ3 H3 hz
    rcases hz with ⟨hk,hW,hS⟩ | ⟨hk,hrun2,hWl,hWn,hSl⟩
    ·obtain rfl : k = 0 := hk
     obtain rfl : W = ways := hW
     obtain rfl : Sn = seen := hS
     conv => whnf
     refine kbi (fun _ => ?_) (fun h8 => absurd (show decide ((0 : Int) < 1) = true from rfl) h8)
     conv => whnf
     refine ⟨[di (e.2 : Int)],⟨Int.le_refl _,rfl,rfl⟩,?_⟩
     conv => whnf
     refine kbi (fun h9 => ?_) (fun h9 => ?_)
     ·have h9 : e.2 = n := by
       have h8 : ((e.2 : Int) == (n : Int)) = true := h9
       rw [beq_iff_eq] at h8
       omega
      rw [if_pos h9] at hrun
      obtain rfl := Option.some.inj hrun
      conv => whnf
      try rfl
     have h9 : e.2 ≠ n := by
      intro q
      apply h9
      show ((e.2 : Int) == (n : Int)) = true
      rw [beq_iff_eq,q]
     rw [if_neg h9] at hrun
     conv => whnf
     have hsn : ((Sn.map vU).drop 0).take Sn.length = (Sn.map fun x => ((x : Nat) : Int)).map encInt := by
      rw [List.drop_zero,List.take_of_length_le (by simp),List.map_map]; rfl
     refine .inl ⟨_,l1Has_at _ (Sn.map fun x => ((x : Nat) : Int)) (e.2 : Int) hsn (by simp; omega),?_⟩
     rintro r rfl
     refine ⟨rfl,?_⟩
     by_cases hc : e.2 ∈ Sn
     ·rw [if_pos (by simpa using hc)] at hrun
      simp only [bp,aG (show ((e.2 : Nat) : Int) ∈ Sn.map fun x => ((x : Nat) : Int) from List.mem_map.2 ⟨e.2,hc,rfl⟩)]
      conv => whnf
      refine ⟨(1,W,Sn),.inr ⟨rfl,hrun,by show W.length ≤ i + 2; omega,fun v hv => ⟨(hne v hv).1,Nat.le_succ_of_le (hne v hv).2⟩,by show Sn.length ≤ i + 1; omega⟩,by show 1 - 1 < 1 - 0; omega,⟨rfl,rfl,rfl,rfl,rfl,rfl,rfl,rfl,rfl,rfl,rfl,trivial⟩,⟨rfl,rfl,trivial⟩⟩
     ·rw [if_neg (by simpa using hc)] at hrun
      have hm2 : ¬ ((e.2 : Nat) : Int) ∈ Sn.map fun x => ((x : Nat) : Int) := by
       intro hm
       obtain ⟨x,hx,hx2⟩ := List.mem_map.1 hm
       have hxe : x = e.2 := by omega
       rw [hxe] at hx
       exact hc hx
      simp only [bp,f7 hm2]
      conv => whnf
      refine ⟨⟨rfl,by show (Sn.length + 1) * 8 ≤ _; omega,by show Sn.length + 1 ≤ _; omega⟩,?_⟩
      conv => whnf
      have hvq : v.map vU = (v.map fun x => ((x : Nat) : Int)).map encInt := by rw [List.map_map]; rfl
      refine ⟨_,Eq.mp (congrArg (fun x => CallsTo EE 152 [sl x] _) hvq.symm) (l1Own_ok (v.map fun x => ((x : Nat) : Int)) (by simp; omega)),?_⟩
      rintro r rfl
      rw [← hvq]
      refine .inr ⟨71,rfl,?_⟩
      conv => whnf
      refine ⟨⟨rfl,by show ((v.map vU).length + 1) * 8 ≤ _; simp; omega,by show (v.map vU).length + 1 ≤ _; simp; omega⟩,?_⟩
      conv => whnf
      refine .inl ?_
      conv => whnf
      have evw : (((v.map vU).take (v.map vU).length ++ [[di (e.2 : Int)]]).drop 0).take ((v.map vU).length + 1) = (v ++ [e.2]).map vU := by
       rw [List.take_length,List.drop_zero,List.take_of_length_le (by simp),List.map_append]; rfl
      refine ⟨⟨rfl,by show (W.length + 1) * 24 ≤ _; omega,by show W.length + 1 ≤ _; omega⟩,?_⟩
      conv => whnf
      refine ⟨(1,W ++ [v ++ [e.2]],Sn ++ [e.2]),.inr ⟨rfl,hrun,by show (W ++ [v ++ [e.2]]).length ≤ i + 2; simp; omega,fun u hu => ?_,by show (Sn ++ [e.2]).length ≤ i + 1; simp; omega⟩,by show 1 - 1 < 1 - 0; omega,⟨rfl,rfl,rfl,rfl,?_,?_,rfl,rfl,rfl,rfl,rfl,trivial⟩,⟨?_,?_,trivial⟩⟩
      ·rcases List.mem_append.1 hu with hu | hu
       ·exact ⟨(hne u hu).1,Nat.le_succ_of_le (hne u hu).2⟩
       ·simp only [List.mem_cons,List.not_mem_nil,or_false] at hu
        subst hu
        simp; omega
      ·show AV.ref (.n 18) 0 (W.length + 1) = .ref (.n 18) 0 (W ++ [v ++ [e.2]]).length
       rw [List.length_append]; rfl
      ·show AV.ref (.n 68) 0 (Sn.length + 1) = .ref (.n 68) 0 (Sn ++ [e.2]).length
       rw [List.length_append]; rfl
      ·show some (Ob.ds 41 1 ((W.map cA).take W.length ++ [[.sl ((((v.map vU).take (v.map vU).length ++ [[di (e.2 : Int)]]).drop 0).take ((v.map vU).length + 1))]])) = some (Ob.ds 41 1 ((W ++ [v ++ [e.2]]).map cA))
       have e2 : (W ++ [v ++ [e.2]]).map cA = W.map cA ++ [cA (v ++ [e.2])] := by rw [List.map_append]; rfl
       rw [evw,List.take_of_length_le (by simp),e2]; rfl
      ·show some (Ob.ds 3 1 ((Sn.map vU).take Sn.length ++ [[di (e.2 : Int)]])) = some (Ob.ds 3 1 ((Sn ++ [e.2]).map vU))
       rw [List.take_of_length_le (by simp),List.map_append]; rfl
    ·obtain rfl : k = 1 := hk
     conv => whnf
     refine kbi (fun h8 => absurd h8 (show ¬ decide ((1 : Int) < 1) = true from by decide)) (fun h8 => ?_)
     conv => whnf
     refine ⟨(i + 1,W,Sn),⟨f,by show f + (i + 1) = 8; omega,hrun2,hWl,hWn,hSl⟩,by show 8 - (i + 1) < 8 - i; omega,⟨rfl,rfl,rfl,rfl,rfl,rfl,?_,trivial⟩,⟨rfl,rfl,trivial⟩⟩
     show AV.d (.int .i64 (IntKind.i64.wrap ((i : Int) + 1))) = i64 ((i + 1 : Nat) : Int)
     rw [zH (by omega) (by omega)]
     rfl
 ·have hi : ¬ i < ways.length := by
   have := fun e => hi (decide_eq_true e)
   intro e
   apply this
   show (i : Int) < ways.length
   omega
  unfold fU at hrun
  rw [if_neg hi] at hrun
  obtain rfl := Option.some.inj hrun
  conv => whnf
  exact .inl rfl
end Ai
end
section
set_option maxRecDepth 100000
namespace Ai
open Go Go.Proofs Cyc
theorem one_each {edges : List (Nat × Nat)} (h : Graph edges) : OneEach edges := by
 have hn : edges.Pairwise fun x y => x.1 ≠ y.1 := by
  obtain ⟨a,b,c,d,e,-,rfl⟩ := h.g
  cases a <;> cases b <;> cases c <;> cases d <;> cases e <;> simp [ed]
 rw [List.pairwise_iff_getElem] at hn
 intro i j hi hj e
 rcases Nat.lt_trichotomy i j with h1 | h1 | h1
 ·exact absurd e (hn i j hi hj h1)
 ·exact h1
 ·exact absurd e.symm (hn j i hj hi h1)
theorem m7 (edges : List (Nat × Nat)) (hG : Graph edges) : CallsTo EE 142 [sl (edges.map nQ)] (· = sl ((jZ edges).map vU)) :=
 l3Cycle_ok edges hG fun n w hn hw => l3Way_ok edges n w hG.len (one_each hG) hw
end Ai
end
section
set_option maxRecDepth 100000
namespace Ai
open Go Go.Proofs Cyc
def nY (s : StL) : Prop := ∀ x ∈ s.owner,-1 ≤ x ∧ x < s.ths.length
theorem xY {s : StL} {k : Nat} {t : Th} (h : nY s) : nY (s.put k t) := by
 intro x hx
 have := h x hx
 simpa [StL.put] using this
theorem lR {s : StL} {i : Nat} {v : Int} (h : nY s) (hv : -1 ≤ v ∧ v < s.ths.length) : nY { s with owner := s.owner.set i v } := by
 intro x hx
 rcases List.mem_or_eq_of_mem_set hx with e | e
 ·exact h x e
 ·subst e; exact hv
theorem oinv_do {s : StL} {k : Nat} {o : OpL} {e : Ev} (hk : k < s.ths.length) (h : nY s) : nY (doL s k o e).1 := by
 unfold doL
 simp only
 generalize s.ths.getD k th0 = t at *
 by_cases n1 : o.code = 1
 ·rw [if_pos n1]; exact xY h
 rw [if_neg n1]
 by_cases n2 : o.code = 2
 ·rw [if_pos n2]; exact xY h
 rw [if_neg n2]
 by_cases n3 : o.code = 3
 ·rw [if_pos n3]; exact xY (s := { s with cells := _ }) h
 rw [if_neg n3]
 by_cases n10 : o.code = 10
 ·rw [if_pos n10]; exact xY h
 rw [if_neg n10]
 by_cases n11 : o.code = 11
 ·rw [if_pos n11]; exact xY h
 rw [if_neg n11]
 by_cases n12 : o.code = 12
 ·rw [if_pos n12]; exact xY (lR h ⟨by omega,by omega⟩)
 rw [if_neg n12]
 by_cases n13 : o.code = 13
 ·rw [if_pos n13]; exact xY (lR h ⟨by omega,by omega⟩)
 rw [if_neg n13]
 by_cases n14 : o.code = 14
 ·rw [if_pos n14]
  refine xY (s := { s with ths := _ }) fun x hx => ?_
  have := h x hx
  refine ⟨this.1,?_⟩
  show x < ((s.ths ++ [jF o.a]).length : Int)
  simp; omega
 rw [if_neg n14]
 by_cases n15 : o.code = 15
 ·rw [if_pos n15]; exact xY h
 rw [if_neg n15]
 by_cases n16 : o.code = 16
 ·rw [if_pos n16]; exact xY (lR h ⟨by omega,by omega⟩)
 rw [if_neg n16]
 by_cases n17 : o.code = 17
 ·rw [if_pos n17]
  cases wK s.ths o.a with
  |none => exact xY h
  |some j =>
   refine xY (s := { s with ths := _ }) fun x hx => ?_
   have := h x hx
   refine ⟨this.1,?_⟩
   show x < ((s.ths.modify j fun u => { u with st := 4 }).length : Int)
   simp; omega
 rw [if_neg n17]
 exact xY h
theorem oinv_step {p : ProgL} {s : StL} {k : Nat} (hk : k < s.ths.length) (h : nY s) : nY (stepL p s k).1 := by
 unfold stepL
 simp only
 split
 ·exact xY (lR h ⟨by omega,by omega⟩)
 ·split
  ·exact xY h
  ·split
   ·exact oinv_do hk h
   ·exact h
theorem oinv_new (p : ProgL) : nY (vA p) := by
 intro x hx
 obtain ⟨_,rfl⟩ := List.mem_replicate.1 hx
 simp [vA]
end Ai
end
section
set_option maxRecDepth 100000
namespace Ai
open Go Go.Proofs Cyc
theorem b7 {s : StL} (h : nY s) (h1 : 1 ≤ s.ths.length) (i : Nat) : s.owner.getD i 0 < s.ths.length := by
 rw [List.getD_eq_getElem?_getD]
 cases hg : s.owner[i]? with
 |none => show (0 : Int) < _; omega
 |some x => exact (h x (List.mem_of_getElem? hg)).2
theorem blocks_lt {p : ProgL} {s : StL} (h : nY s) (h1 : 1 ≤ s.ths.length) (t : Th) : zK p s t < s.ths.length := by
 unfold zK
 split
 ·exact b7 h h1 _
 ·split
  ·omega
  ·split
   ·split
    ·exact b7 h h1 _
    ·split
     ·split
      ·rename_i k hk
       split
       ·omega
       ·exact (kK idxRange hk).2
      ·omega
     ·omega
   ·omega
end Ai
end
section
set_option maxRecDepth 100000
namespace Ai
open Go Go.Proofs Cyc
noncomputable def bN (p : ProgL) (s : StL) : List (Nat × Nat) := (nR p s).map fun e => (e.1,e.2.toNat)
theorem edges_nn {p : ProgL} {s : StL} : ∀ e ∈ nR p s,0 ≤ e.2 := by
 intro e he
 obtain ⟨k,hk,rfl⟩ := List.mem_map.1 he
 simpa using (List.mem_filter.1 hk).2
theorem edges_enc (p : ProgL) (s : StL) : (nR p s).map encE = (bN p s).map nQ := by
 unfold bN
 rw [List.map_map]
 refine List.map_congr_left fun e he => ?_
 have := edges_nn e he
 show [D.sl [[di e.1],[di e.2]]] = [D.sl [[di e.1],[di ((e.2.toNat : Nat) : Int)]]]
 rw [Int.toNat_of_nonneg this]
noncomputable def waitO (p : ProgL) (s : StL) (k : Nat) : Option Nat := if 0 ≤ zK p s (s.ths.getD k th0) then some (zK p s (s.ths.getD k th0)).toNat else none
theorem wN (p : ProgL) (s : StL) (k : Nat) : ((if 0 ≤ zK p s (s.ths.getD k th0) then [(k,zK p s (s.ths.getD k th0))] else []).map fun e : Nat × Int => (e.1,e.2.toNat)) = ed k (waitO p s k) := by
 unfold waitO
 split <;> rfl
theorem opts_lt {o : Option Nat} (h : ∀ b,o = some b → b < 5) : o ∈ opts := by
 cases o with
 |none => simp [opts]
 |some b =>
  have := h b rfl
  have : b = 0 ∨ b = 1 ∨ b = 2 ∨ b = 3 ∨ b = 4 := by omega
  rcases this with rfl | rfl | rfl | rfl | rfl <;> simp [opts]
theorem r9 {p : ProgL} {s : StL} (h : nY s) (h1 : 1 ≤ s.ths.length) (h5 : s.ths.length ≤ 5) : Graph (bN p s) := by
 have hw : ∀ k,waitO p s k ∈ opts := fun k => opts_lt fun b hb => by
  unfold waitO at hb
  split at hb
  ·rename_i h0
   have := blocks_lt (p := p) h h1 (s.ths.getD k th0)
   simp only [Option.some.injEq] at hb
   omega
  ·cases hb
 have hn : (none : Option Nat) ∈ opts := by simp [opts]
 have e0 : xN p s 0 = [] := rfl
 unfold bN nR
 have : s.ths.length = 1 ∨ s.ths.length = 2 ∨ s.ths.length = 3 ∨ s.ths.length = 4 ∨ s.ths.length = 5 := by omega
 rcases this with e | e | e | e | e <;> rw [e]
 ·exact ⟨_,none,none,none,none,⟨hw 0,hn,hn,hn,hn⟩,by rw [yD,e0,List.map_append,wN]; simp [ed]⟩
 ·exact ⟨_,_,none,none,none,⟨hw 0,hw 1,hn,hn,hn⟩,by rw [yD,yD,e0,List.map_append,List.map_append,wN,wN]; simp [ed]⟩
 ·exact ⟨_,_,_,none,none,⟨hw 0,hw 1,hw 2,hn,hn⟩,by rw [yD,yD,yD,e0,List.map_append,List.map_append,List.map_append,wN,wN,wN]; simp [ed]⟩
 ·exact ⟨_,_,_,_,none,⟨hw 0,hw 1,hw 2,hw 3,hn⟩,by rw [yD,yD,yD,yD,e0,List.map_append,List.map_append,List.map_append,List.map_append,wN,wN,wN,wN]; simp [ed]⟩
 ·exact ⟨_,_,_,_,_,⟨hw 0,hw 1,hw 2,hw 3,hw 4⟩,by rw [yD,yD,yD,yD,yD,e0,List.map_append,List.map_append,List.map_append,List.map_append,List.map_append,wN,wN,wN,wN,wN]; simp⟩
end Ai
end
section
set_option maxRecDepth 100000
namespace Ai
open Go Go.Proofs Cyc
def GTh (p : ProgL) (t : Th) : Prop := ((t.st = 1 ∨ t.st = 2) ∧ t.cond = -1 ∧ t.lock = -1) ∨ ((t.st = 3 ∨ t.st = 4) ∧ 0 ≤ t.cond ∧ t.cond < p.conds ∧ 0 ≤ t.lock ∧ t.lock < p.locks)
structure GInv (p : ProgL) (s : StL) : Prop where
 ths : ∀ t ∈ s.ths,GTh p t
 ne : 1 ≤ s.ths.length
 fault : InR s.fault 0 4
theorem wA {p : ProgL} {s : StL} {k : Nat} {t : Th} (h : GInv p s) (ht : GTh p t) : GInv p (s.put k t) := by
 refine ⟨fun u hu => ?_,by simpa [StL.put] using h.ne,h.fault⟩
 rcases List.mem_or_eq_of_mem_set hu with e | e
 ·exact h.ths u e
 ·subst e; exact ht
theorem fault_in (s : StL) (k : Nat) (o : OpL) : InR (zX s k o) 0 4 := by
 unfold zX InR
 simp only
 split
 ·omega
 split
 ·omega
 split
 ·omega
 split <;> omega
theorem ginv_do {p : ProgL} (hg : p.goodS) {s : StL} (hi : SInv p s) {k : Nat} (h : k < s.ths.length) {o : OpL} (hn : yC p s.ths[k] = some o) (e : Ev) (hG : GInv p s) (h1 : s.ths[k].st = 1) : GInv p (doL s k o e).1 := by
 have hT := hi.ths _ (List.getElem_mem h)
 have hgd : s.ths.getD k th0 = s.ths[k] := by simp [List.getD_eq_getElem?_getD,h]
 obtain ⟨⟨g1,g2⟩,hlt⟩ := bB hg hT hn
 obtain ⟨c1,c2,c3,_⟩ := g1
 obtain ⟨a1,a2,a3,a4,a5,a6⟩ := g2
 have ht := hG.ths _ (List.getElem_mem h)
 generalize s.ths[k] = t at *
 unfold doL
 simp only [hgd]
 have hp : GTh p (zC t o) := ht
 have hpush : ∀ v,GTh p (zN (zC t o) v) := fun v => ht
 have hpc : ∀ a,GTh p { zC t o with pc := a } := fun a => ht
 by_cases n1 : o.code = 1
 ·rw [if_pos n1]; exact wA hG (hpush _)
 rw [if_neg n1]
 by_cases n2 : o.code = 2
 ·rw [if_pos n2]; exact wA hG (hpush _)
 rw [if_neg n2]
 by_cases n3 : o.code = 3
 ·rw [if_pos n3]; exact wA (s := { s with cells := _ }) ⟨hG.ths,hG.ne,hG.fault⟩ hp
 rw [if_neg n3]
 by_cases n10 : o.code = 10
 ·rw [if_pos n10]; exact wA hG (hpc _)
 rw [if_neg n10]
 by_cases n11 : o.code = 11
 ·rw [if_pos n11]
  refine wA hG ?_
  split
  ·exact hpc _
  ·exact hp
 rw [if_neg n11]
 by_cases n12 : o.code = 12
 ·rw [if_pos n12]; exact wA (s := { s with owner := _ }) ⟨hG.ths,hG.ne,hG.fault⟩ hp
 rw [if_neg n12]
 by_cases n13 : o.code = 13
 ·rw [if_pos n13]; exact wA (s := { s with owner := _ }) ⟨hG.ths,hG.ne,hG.fault⟩ hp
 rw [if_neg n13]
 by_cases n14 : o.code = 14
 ·rw [if_pos n14]
  refine wA (s := { s with ths := _ }) ⟨fun u hu => ?_,by show 1 ≤ (s.ths ++ [jF o.a]).length; simp,hG.fault⟩ (hpush _)
  rcases List.mem_append.1 hu with e | e
  ·exact hG.ths u e
  ·simp only [List.mem_cons,List.not_mem_nil,or_false] at e
   subst e; exact .inl ⟨.inl rfl,rfl,rfl⟩
 rw [if_neg n14]
 by_cases n15 : o.code = 15
 ·rw [if_pos n15]; exact wA hG hp
 rw [if_neg n15]
 by_cases n16 : o.code = 16
 ·rw [if_pos n16]
  exact wA (s := { s with owner := _ }) ⟨hG.ths,hG.ne,hG.fault⟩ (.inr ⟨.inl rfl,c2.1,(a5 n16).1,c3.1,(a5 n16).2⟩)
 rw [if_neg n16]
 by_cases n17 : o.code = 17
 ·rw [if_pos n17]
  cases hw : wK s.ths o.a with
  |none => exact wA hG hp
  |some j =>
   refine wA (s := { s with ths := _ }) ⟨fun u hu => ?_,by simpa using hG.ne,hG.fault⟩ hp
   obtain ⟨i,hi2,rfl⟩ := List.mem_iff_getElem.1 hu
   have hil : i < s.ths.length := by simpa using hi2
   have hU := hG.ths _ (List.getElem_mem hil)
   rw [List.getElem_modify]
   split
   ·rename_i hji
    subst hji
    unfold wK at hw
    rw [List.findIdx?_eq_some_iff_getElem] at hw
    obtain ⟨_,hpw,_⟩ := hw
    simp only [Bool.and_eq_true,beq_iff_eq] at hpw
    rcases hU with ⟨h9,_⟩ | ⟨_,h9⟩
    ·have := hpw.1; omega
    ·exact .inr ⟨.inr rfl,h9⟩
   ·exact hU
 rw [if_neg n17]
 exact wA hG (hpush _)
theorem ginv_step {p : ProgL} (hg : p.goodS) {s : StL} (hi : SInv p s) {k : Nat} (h : k < s.ths.length) (hk : k ∈ enabledL p s) (hG : GInv p s) : GInv p (stepL p s k).1 := by
 have ht := hG.ths _ (List.getElem_mem h)
 have hgo := goes_st hk h
 have hgd : s.ths.getD k th0 = s.ths[k] := by simp [List.getD_eq_getElem?_getD,h]
 unfold stepL
 simp only [hgd]
 split
 ·exact wA (s := { s with owner := _ }) ⟨hG.ths,hG.ne,hG.fault⟩ (.inl ⟨.inl rfl,rfl,rfl⟩)
 ·rename_i h4
  have h1 : s.ths[k].st = 1 := by omega
  split
  ·refine wA hG (.inl ⟨.inr rfl,?_⟩)
   rcases ht with ⟨_,h9⟩ | ⟨h9,_⟩
   ·exact h9
   ·omega
  ·rename_i o hn
   split
   ·exact ginv_do hg hi h hn _ hG h1
   ·exact ⟨hG.ths,hG.ne,fault_in s k o⟩
theorem ginv_new (p : ProgL) : GInv p (vA p) := by
 refine ⟨fun t ht => ?_,by simp [vA],by simp [vA,InR]⟩
 have : t = jF 0 := by simpa [vA] using ht
 subst this
 exact .inl ⟨.inl rfl,rfl,rfl⟩
structure AInv (p : ProgL) (s : StL) : Prop where
 si : SInv p s
 fl : s.flt
 ow : nY s
 gi : GInv p s
theorem en_lt {p : ProgL} {s : StL} {k : Nat} (hk : k ∈ enabledL p s) : k < s.ths.length := by have := (List.mem_filter.1 hk).1; simpa using this
theorem ainv_step {p : ProgL} (hg : p.goodS) (hv : p.flt) {s : StL} {k : Nat} (hk : k ∈ enabledL p s) (h : AInv p s) : AInv p (stepL p s k).1 :=
 ⟨n4 hg h.si (en_lt hk),p7 hv (en_lt hk) h.fl,oinv_step (en_lt hk) h.ow,ginv_step hg h.si (en_lt hk) hk h.gi⟩
theorem ainv_new {p : ProgL} (hg : p.goodS) : AInv p (vA p) := ⟨inv_new hg,flt_new p,oinv_new p,ginv_new p⟩
theorem do_lev (s : StL) (k : Nat) (o : OpL) (e : Ev) : s.ths.length ≤ (doL s k o e).1.ths.length ∧ (doL s k o e).2.th = e.th ∧ (doL s k o e).2.pc = e.pc := by
 have hput : ∀ (s : StL) (t : Th),(s.put k t).ths.length = s.ths.length := fun s t => by simp [StL.put]
 have hle : ∀ (s2 : StL) (t : Th),s.ths.length ≤ s2.ths.length → s.ths.length ≤ (s2.put k t).ths.length := fun s2 t h => by rw [hput]; exact h
 unfold doL
 simp only
 by_cases n1 : o.code = 1
 ·rw [if_pos n1]; exact ⟨hle _ _ (Nat.le_refl _),rfl,rfl⟩
 rw [if_neg n1]
 by_cases n2 : o.code = 2
 ·rw [if_pos n2]; exact ⟨hle _ _ (Nat.le_refl _),rfl,rfl⟩
 rw [if_neg n2]
 by_cases n3 : o.code = 3
 ·rw [if_pos n3]; exact ⟨hle _ _ (Nat.le_refl _),rfl,rfl⟩
 rw [if_neg n3]
 by_cases n10 : o.code = 10
 ·rw [if_pos n10]; exact ⟨hle _ _ (Nat.le_refl _),rfl,rfl⟩
 rw [if_neg n10]
 by_cases n11 : o.code = 11
 ·rw [if_pos n11]; exact ⟨hle _ _ (Nat.le_refl _),rfl,rfl⟩
 rw [if_neg n11]
 by_cases n12 : o.code = 12
 ·rw [if_pos n12]; exact ⟨hle _ _ (Nat.le_refl _),rfl,rfl⟩
 rw [if_neg n12]
 by_cases n13 : o.code = 13
 ·rw [if_pos n13]; exact ⟨hle _ _ (Nat.le_refl _),rfl,rfl⟩
 rw [if_neg n13]
 by_cases n14 : o.code = 14
 ·rw [if_pos n14]; exact ⟨hle _ _ (by show _ ≤ (s.ths ++ [jF o.a]).length; simp),rfl,rfl⟩
 rw [if_neg n14]
 by_cases n15 : o.code = 15
 ·rw [if_pos n15]; exact ⟨hle _ _ (Nat.le_refl _),rfl,rfl⟩
 rw [if_neg n15]
 by_cases n16 : o.code = 16
 ·rw [if_pos n16]; exact ⟨hle _ _ (Nat.le_refl _),rfl,rfl⟩
 rw [if_neg n16]
 by_cases n17 : o.code = 17
 ·rw [if_pos n17]
  cases wK s.ths o.a with
  |none => exact ⟨hle _ _ (Nat.le_refl _),rfl,rfl⟩
  |some j => exact ⟨hle _ _ (by show _ ≤ (s.ths.modify j _).length; simp),rfl,rfl⟩
 rw [if_neg n17]
 exact ⟨hle _ _ (Nat.le_refl _),rfl,rfl⟩
theorem step_len (p : ProgL) (s : StL) (k : Nat) : s.ths.length ≤ (stepL p s k).1.ths.length := by
 have hput : ∀ (s : StL) (t : Th),(s.put k t).ths.length = s.ths.length := fun s t => by simp [StL.put]
 unfold stepL
 simp only
 split
 ·rw [hput]; exact Nat.le_refl _
 ·split
  ·rw [hput]; exact Nat.le_refl _
  ·split
   ·exact (do_lev _ _ _ _).1
   ·exact Nat.le_refl _
theorem step_ev (p : ProgL) (s : StL) (k : Nat) : (stepL p s k).2.th = k ∧ (stepL p s k).2.pc = (s.ths.getD k th0).pc := by
 unfold stepL
 simp only
 split
 ·exact ⟨rfl,rfl⟩
 ·split
  ·exact ⟨rfl,rfl⟩
  ·split
   ·exact (do_lev _ _ _ _).2
   ·exact ⟨rfl,rfl⟩
structure TrOK (s : StL) (tr : List Ev) : Prop where
 ev : ∀ e ∈ tr,0 ≤ e.th ∧ e.th < s.ths.length ∧ 0 ≤ e.pc ∧ e.pc ≤ 24
 ne : s.fault ≠ 0 → tr ≠ []
theorem tr_step {p : ProgL} (hg : p.goodS) {s : StL} {k : Nat} (hk : k ∈ enabledL p s) (h : AInv p s) {tr : List Ev} (ht : TrOK s tr) : TrOK (stepL p s k).1 (tr ++ [(stepL p s k).2]) := by
 have hl := en_lt hk
 have hgd : s.ths.getD k th0 = s.ths[k] := by simp [List.getD_eq_getElem?_getD,hl]
 have hT := h.si.ths _ (List.getElem_mem hl)
 have hr : s.ths[k].rt.toNat < p.rs.length := by have := hT.rt; omega
 have e24 : (p.rs.getD s.ths[k].rt.toNat []).length ≤ 24 := by
  rw [List.getD_eq_getElem?_getD,List.getElem?_eq_getElem hr]
  exact (hg.2 _ (List.getElem_mem hr)).2
 have h2 := step_len p s k
 refine ⟨fun e he => ?_,fun _ => by simp⟩
 rcases List.mem_append.1 he with e1 | e1
 ·have := ht.ev e e1
  omega
 ·simp only [List.mem_cons,List.not_mem_nil,or_false] at e1
  subst e1
  obtain ⟨e1,e2⟩ := step_ev p s k
  rw [e1,e2,hgd]
  have := hT.pc
  omega
structure RunT where
 c : Int
 tr : List Ev
 tk : List Int
 s : StL
noncomputable def runT (p : ProgL) (picks : List Int) (budget : Int) : Nat → StL → List Ev → List Int → RunT
 | 0,s,tr,tk => ⟨0,tr,tk,s⟩
 |n + 1,s,tr,tk =>
  if 0 < codeL p s tr.length budget then ⟨codeL p s tr.length budget,tr,tk,s⟩
  else
   let k := pickOf picks tk (enabledL p s).length
   let w := (enabledL p s).getD k.toNat 0
   runT p picks budget n (stepL p s w).1 (tr ++ [(stepL p s w).2]) (tk ++ [k])
def jX (x : RunT) : List D := encRun x.c x.tr x.tk x.s
structure REnd (p : ProgL) (budget : Int) (x : RunT) : Prop where
 inv : AInv p x.s
 tr : TrOK x.s x.tr
 code : x.c = codeL p x.s x.tr.length budget
 pos : 0 < x.c
 len : x.tr.length = x.tk.length
 le : (x.tr.length : Int) ≤ budget
 tk : ∀ i ∈ x.tk,0 ≤ i ∧ i < 5
theorem en_ne {p : ProgL} {s : StL} {a b : Int} (h : ¬ 0 < codeL p s a b) : 0 < (enabledL p s).length ∧ a ≠ b := by
 have hen : enabledL p s ≠ [] := by
  intro he
  apply h
  unfold codeL
  by_cases hf : s.fault ≠ 0
  ·rw [if_pos hf]; decide
  ·rw [if_neg hf,if_pos he]; split <;> decide
 refine ⟨List.length_pos_iff.2 hen,fun he => h ?_⟩
 unfold codeL
 by_cases hf : s.fault ≠ 0
 ·rw [if_pos hf]; decide
 ·rw [if_neg hf,if_neg hen,if_pos he]; decide
noncomputable def runOf (p : ProgL) (picks : List Int) (budget : Int) : RunT := runT p picks budget (budget.toNat + 1) (vA p) [] []
end Ai
end
section
set_option maxRecDepth 100000
namespace Ai
open Go Go.Proofs Cyc
theorem rO {edges : List (Nat × Nat)} {to : Nat} (he : ∀ e ∈ edges,e.2 < 100) : ∀ (f i L : Nat) (ways : List (List Nat)) (seen : List Nat) (w : List Nat),(∀ w ∈ ways,w.length ≤ L ∧ ∀ x ∈ w,x < 100) → fU edges to f i ways seen = some w → w.length ≤ L + f ∧ ∀ x ∈ w,x < 100
 | 0,_,_,_,_,_,_,h => by simp [fU] at h
 |f + 1,i,L,ways,seen,w,hw,h => by
  unfold fU at h
  split at h
  ·rename_i hi
   have hgw : ways.getD i [] ∈ ways := by rw [List.getD_eq_getElem?_getD,List.getElem?_eq_getElem hi]; exact List.getElem_mem hi
   split at h
   ·obtain ⟨h1,h2⟩ := rO he f (i + 1) L ways seen w hw h
    exact ⟨by omega,h2⟩
   ·rename_i e hf
    have he2 := he e (List.mem_of_find?_eq_some hf)
    split at h
    ·simp only [Option.some.injEq] at h
     subst h
     exact ⟨by have := (hw _ hgw).1; omega,(hw _ hgw).2⟩
    ·split at h
     ·obtain ⟨h1,h2⟩ := rO he f (i + 1) L ways seen w hw h
      exact ⟨by omega,h2⟩
     ·obtain ⟨h1,h2⟩ := rO he f (i + 1) (L + 1) _ _ w (fun v hv => by
       rcases List.mem_append.1 hv with e1 | e1
       ·have := hw v e1
        exact ⟨by omega,this.2⟩
       ·simp only [List.mem_cons,List.not_mem_nil,or_false] at e1
        subst e1
        refine ⟨by have := (hw _ hgw).1; rw [List.length_append]; show _ + 1 ≤ _; omega,fun x hx => ?_⟩
        rcases List.mem_append.1 hx with e2 | e2
        ·exact (hw _ hgw).2 x e2
        ·simp only [List.mem_cons,List.not_mem_nil,or_false] at e2
         subst e2; exact he2) h
      exact ⟨by omega,h2⟩
  ·simp only [Option.some.injEq] at h
   subst h
   simp
theorem cyc_ok {edges : List (Nat × Nat)} (hG : Graph edges) : (jZ edges).length ≤ 9 ∧ ∀ x ∈ jZ edges,x < 100 := by
 unfold jZ
 cases h : (List.range 100).findSome? (fun n => match lB edges n with | some (x :: xs) => some (x :: xs) | _ => none) with
 |none => simp
 |some o =>
  obtain ⟨n,hn,ho⟩ := List.exists_of_findSome?_eq_some h
  have hn : n < 100 := by simpa using hn
  cases hc : lB edges n with
  |none => rw [hc] at ho; cases ho
  |some l =>
   rw [hc] at ho
   cases l with
   |nil => cases ho
   |cons x xs =>
    simp only [Option.some.injEq] at ho
    subst ho
    exact rO (fun e he => by have := hG.small e he; omega) 8 0 1 _ _ _ (fun w hw => by
     simp only [List.mem_cons,List.not_mem_nil,or_false] at hw
     subst hw
     simpa using hn) hc
noncomputable def kN (p : ProgL) (s : StL) : List Int := (jZ (bN p s)).map fun x => ((x : Nat) : Int)
theorem cM {p : ProgL} {s : StL} (h : AInv p s) : Graph (bN p s) := r9 h.ow h.gi.ne h.si.len
theorem dead_enc (p : ProgL) (s : StL) : (jZ (bN p s)).map vU = (kN p s).map encInt := by
 unfold kN
 rw [List.map_map]
 rfl
theorem dead_picks {p : ProgL} {s : StL} (h : AInv p s) : Picks (kN p s) := by
 obtain ⟨h1,h2⟩ := cyc_ok (cM h)
 refine ⟨by simp [kN]; omega,fun x hx => ?_⟩
 obtain ⟨y,hy,rfl⟩ := List.mem_map.1 hx
 have := h2 y hy
 unfold InR; omega
def gJ : Ev := ⟨0,0,0,0,0⟩
def faultT (s : StL) (e : Ev) : List UInt8 := [102,97,117,108,116,32] ++ Lib.decDigits s.fault.toNat ++ [32] ++ Lib.decDigits e.th.toNat ++ [32] ++ Lib.decDigits (s.ths.getD e.th.toNat th0).rt.toNat ++ [32] ++ Lib.decDigits e.pc.toNat
noncomputable def signL (p : ProgL) (x : RunT) : List UInt8 :=
 if x.c = 1 then [100,111,110,101] else if x.c = 4 then [98,117,100,103,101,116] else if x.c = 3 then [115,116,117,99,107,32] ++ dashT (txt (kN p x.s)) else faultT x.s (x.tr.getLastD gJ)
theorem code_cases {p : ProgL} {s : StL} {a b : Int} (h : 0 < codeL p s a b) : (codeL p s a b = 1 ∨ codeL p s a b = 3 ∨ codeL p s a b = 4) ∨ (codeL p s a b = 2 ∧ s.fault ≠ 0) := by
 unfold codeL at h ⊢
 by_cases hf : s.fault ≠ 0
 ·rw [if_pos hf]; exact .inr ⟨rfl,hf⟩
 ·rw [if_neg hf] at h ⊢
  split
  ·split <;> simp
  ·split
   ·simp
   ·rename_i h1 h2
    rw [if_neg h1,if_neg h2] at h
    exact absurd h (by decide)
end Ai
end
section
set_option maxRecDepth 100000
namespace Ai
open Go Go.Proofs Cyc
theorem uP {n lo hi : Int} (h : InR n lo hi) : CallsTo EE 65 [i64 n,i64 lo,i64 hi] (· = bv true) := by
 have := qP n lo hi
 simp only [bp,aG h] at this
 exact this
theorem l1All_yes {xs : List Int} {lo hi : Int} (hx : xs.length ≤ 1048576) (h : AllIn xs lo hi) : CallsTo EE 150 [sl (xs.map encInt),i64 lo,i64 hi] (· = bv true) := by
 have := l1All_ok xs lo hi hx
 simp only [bp,aG h] at this
 exact this
theorem v6 {p : ProgL} (hs : p.rs.length ≤ 1048576 ∧ ∀ x ∈ p.rs,x.length ≤ 1048576) (hv : p.flt) (h : p.goodS) : CallsTo EE 72 [agg (encProg p)] (· = bv true) := by
 have := mM p hs hv
 simp only [bp,aG h] at this
 exact this
theorem m5 (p : ProgL) (hp : p.headS) (t : Th) (hT : TInv p t) (hG : GTh p t) : CallsTo EE 272 [agg (encProg p),agg (zE t)] (· = bv true) := by
 obtain ⟨a1,a2,a3,a4⟩ := hp
 unfold InR at a1 a2 a3 a4
 have hr := hT.rt
 have hpc := hT.pc
 have hst := hT.st
 have e4 : IntKind.i64.wrap (((p.rs.map zS).length : Int) - 1) = (p.rs.length : Int) - 1 := by rw [List.length_map]; exact zH (by omega) (by omega)
 have e2 : IntKind.i64.wrap (p.locks - 1) = p.locks - 1 := zH (by omega) (by omega)
 have e3 : IntKind.i64.wrap (p.conds - 1) = p.conds - 1 := zH (by omega) (by omega)
 refine callsTo_of_AW (fn := Tryz.f272) Tryz.func272 rfl (by kernel_rfl) rfl ?_
 conv => whnf
 refine ⟨_,uP (by rw [e4]; unfold InR; omega),?_⟩
 rintro r rfl
 conv => whnf
 refine ⟨_,uP (by unfold InR; rcases hG with h | h <;> omega),?_⟩
 rintro r rfl
 conv => whnf
 refine kbi (fun h => ?_) (fun _ => ?_)
 ·simp at h; omega
 conv => whnf
 refine ⟨by kernel_rfl,?_⟩
 conv => whnf
 have hrl : t.rt.toNat < p.rs.length := by omega
 refine ⟨zS p.rs[t.rt.toNat],⟨hr.1,by simp [hrl],rfl⟩,?_⟩
 conv => whnf
 have e5 : p.rs.getD t.rt.toNat [] = p.rs[t.rt.toNat] := by simp [List.getD_eq_getElem?_getD,hrl]
 rw [e5] at hpc
 refine ⟨_,uP (by unfold InR; rw [List.length_map]; omega),?_⟩
 conv => whnf
 refine kbi (fun h3 => ?_) (fun h3 => ?_)
 ·have h3 : t.st = 3 := by simpa using h3
  conv => whnf
  refine ⟨_,uP (by rw [e3]; unfold InR; rcases hG with h | h <;> omega),?_⟩
  rintro r rfl
  conv => whnf
  refine ⟨_,uP (by rw [e2]; unfold InR; rcases hG with h | h <;> omega),?_⟩
  rintro r rfl
  conv => whnf
  try rfl
 ·have h3 : ¬ t.st = 3 := by simpa using h3
  conv => whnf
  refine kbi (fun h4 => ?_) (fun h4 => ?_)
  ·have h4 : t.st = 4 := by simpa using h4
   conv => whnf
   refine ⟨_,uP (by rw [e3]; unfold InR; rcases hG with h | h <;> omega),?_⟩
   rintro r rfl
   conv => whnf
   refine ⟨_,uP (by rw [e2]; unfold InR; rcases hG with h | h <;> omega),?_⟩
   rintro r rfl
   conv => whnf
   try rfl
  ·have h4 : ¬ t.st = 4 := by simpa using h4
   obtain ⟨_,hc,hl⟩ : (t.st = 1 ∨ t.st = 2) ∧ t.cond = -1 ∧ t.lock = -1 := by
    rcases hG with h | h
    ·exact h
    ·omega
   conv => whnf
   refine kbi (fun _ => ?_) (fun h => absurd (beq_iff_eq.2 hc) h)
   conv => whnf
   refine kbi (fun _ => ?_) (fun h => absurd (beq_iff_eq.2 hl) h)
   conv => whnf
   try rfl
theorem cL {p : ProgL} (hg : p.goodS) {s : StL} (h : AInv p s) : s.small := ((runOK hg).small s h.si).1
theorem prog_len {p : ProgL} (h : p.goodS) : p.rs.length ≤ 1048576 ∧ ∀ x ∈ p.rs,x.length ≤ 1048576 := by
 obtain ⟨b1,b2,b3,b4⟩ := h.1
 exact ⟨by have := b4.2; omega,fun x hx => by have := (h.2 x hx).2; omega⟩
theorem l3Good_ok (p : ProgL) (hg : p.goodS) (s : StL) (h : AInv p s) : CallsTo EE 251 [agg (encProg p),agg (encSt s)] (· = bv true) := by
 have hi := h.si
 have hl5 := hi.len
 have hne := h.gi.ne
 have hsm := cL hg h
 have hgt := h.gi.ths
 have hown := h.ow
 refine callsTo_of_AW (fn := Tryz.f251) Tryz.func251 rfl (by kernel_rfl) rfl ?_
 conv => whnf
 refine ⟨_,uP (by unfold InR; rw [List.length_map]; omega),?_⟩
 rintro r rfl
 conv => whnf
 refine kbi (fun h1 => absurd (show ((s.cells.map encF).length : Int) = p.cells by rw [List.length_map]; exact hi.cells) (by simpa using h1)) (fun _ => ?_)
 conv => whnf
 refine kbi (fun h1 => absurd (show ((s.owner.map encInt).length : Int) = p.locks by rw [List.length_map]; exact hi.owner) (by simpa using h1)) (fun _ => ?_)
 conv => whnf
 refine ⟨_,uP h.gi.fault,?_⟩
 rintro r rfl
 conv => whnf
 refine xA (fun k : Nat => [(2,.ptr (.n 2) 0),(3,.ptr (.n 3) 0),(35,sl (s.ths.map zE)),(36,i64 (s.ths.map zE).length),(37,i64 k)])
  (fun k => [(.n 2,.vs 31 ((encProg p).map .d)),(.n 3,.vs 54 ((encSt s).map .d))]) (fun k => s.ths.length - k) (fun k => k ≤ s.ths.length) 0
  Weak.refl ⟨rfl,rfl,rfl,rfl,rfl,trivial⟩ ⟨rfl,rfl,trivial⟩ (Nat.zero_le _) ?_
 intro k τ H hk
 have hk : k ≤ s.ths.length := hk
 conv => whnf
 refine kbi (fun h => ?_) (fun h => ?_)
 ·have hlt := xH h
  conv => whnf
  refine ⟨zE s.ths[k],yB zE hlt rfl,?_⟩
  conv => whnf
  refine ⟨_,m5 p hg.1 s.ths[k] (hi.ths _ (List.getElem_mem hlt)) (hgt _ (List.getElem_mem hlt)),?_⟩
  rintro r rfl
  conv => whnf
  exact ⟨k + 1,by show k + 1 ≤ s.ths.length; omega,by show s.ths.length - (k + 1) < s.ths.length - k; omega,⟨rfl,rfl,rfl,rfl,next_i64 hlt (by omega),trivial⟩,⟨rfl,rfl,trivial⟩⟩
 ·conv => whnf
  have e1 : IntKind.i64.wrap (((s.ths.map zE).length : Int) - 1) = (s.ths.length : Int) - 1 := by rw [List.length_map]; exact zH (by omega) (by omega)
  rw [e1]
  refine ⟨_,l1All_yes hsm.2.2.2 (fun x hx => by have := hown x hx; unfold InR; omega),?_⟩
  rintro r rfl
  conv => whnf
  try rfl
theorem w9 (p : ProgL) (hg : p.goodS) (hv : p.flt) (s : StL) (h : AInv p s) : CallsTo EE 204 [agg (encProg p),agg (encSt s)] (· = bv true) := by
 refine callsTo_of_AW (fn := Tryz.f204) Tryz.func204 rfl (by kernel_rfl) rfl ?_
 conv => whnf
 refine ⟨_,v6 (prog_len hg) hv hg,?_⟩
 rintro r rfl
 conv => whnf
 refine ⟨_,l3Good_ok p hg s h,?_⟩
 rintro r rfl
 conv => whnf
 try rfl
end Ai
end
section
set_option maxRecDepth 100000
namespace Ai
open Go Go.Proofs Cyc
theorem ainv_seen {p : ProgL} (hg : p.goodS) {s : StL} (h : AInv p s) : ∀ t ∈ s.ths,t.seen p s := (runOK hg).seen s h.si
theorem WaitsFor_ok (p : ProgL) (hp : p.wf) (hg : p.goodS) (hv : p.flt) (s : StL) (h : AInv p s) : CallsTo EE 141 [agg (encProg p),agg (encSt s)] (· = .tup [sl ((nR p s).map encE),bv true]) := by
 have hs := cL hg h
 have hn := h.si.len
 have hse := ainv_seen hg h
 refine callsTo_of_AW (fn := Tryz.f141) Tryz.func141 rfl (by kernel_rfl) rfl ?_
 conv => whnf
 refine ⟨_,w9 p hg hv s h,?_⟩
 rintro r rfl
 conv => whnf
 refine xA (fun k : Nat => [(2,.ptr (.n 2) 0),(3,.ptr (.n 3) 0),(6,.ref (.n 6) 0 (xN p s k).length),(15,sl (s.ths.map zE)),(16,i64 (s.ths.map zE).length),(17,i64 k)])
  (fun k => [(.n 2,.vs 31 ((encProg p).map .d)),(.n 3,.vs 54 ((encSt s).map .d)),(.n 6,.ds 41 1 ((xN p s k).map encE))]) (fun k => s.ths.length - k) (fun k => k ≤ s.ths.length) 0
  (weak_nil 6 (.n 6) 41 1 rfl) ⟨rfl,rfl,rfl,rfl,rfl,rfl,trivial⟩ ⟨rfl,rfl,rfl,trivial⟩ (Nat.zero_le _) ?_
 intro k τ H hk
 have hk : k ≤ s.ths.length := hk
 conv => whnf
 refine kbi (fun h => ?_) (fun h => ?_)
 ·have hlt := xH h
  conv => whnf
  refine ⟨zE s.ths[k],yB zE hlt rfl,?_⟩
  conv => whnf
  have hgd : s.ths.getD k th0 = s.ths[k] := by simp [List.getD_eq_getElem?_getD,hlt]
  have hle : (xN p s k).length ≤ k := edgesTo_le
  refine ⟨_,bF toIndexS idxRange p s s.ths[k] hp (hs.2.1 _ (List.getElem_mem hlt)) (hse _ (List.getElem_mem hlt)),?_⟩
  rintro r rfl
  conv => whnf
  refine kbi (fun hb => ?_) (fun hb => ?_)
  ·have hb : 0 ≤ zK p s s.ths[k] := by simpa using hb
   have hsk : xN p s (k + 1) = xN p s k ++ [(k,zK p s s.ths[k])] := by rw [yD,hgd,if_pos hb]
   conv => whnf
   refine .inl ?_
   conv => whnf
   refine ⟨⟨rfl,by show ((xN p s k).length + 1) * 24 ≤ _; omega,by show (xN p s k).length + 1 ≤ _; omega⟩,?_⟩
   conv => whnf
   refine ⟨k + 1,by show k + 1 ≤ s.ths.length; omega,by show s.ths.length - (k + 1) < s.ths.length - k; omega,⟨rfl,rfl,?_,rfl,rfl,next_i64 hlt (by omega),trivial⟩,⟨rfl,rfl,?_,trivial⟩⟩
   ·rw [hsk]
    show AV.ref (.n 6) 0 ((xN p s k).length + 1) = _
    simp
   ·rw [hsk]
    show some (Ob.ds 41 1 (((xN p s k).map encE).take (xN p s k).length ++ [encE (k,zK p s s.ths[k])])) = _
    rw [List.take_of_length_le (by simp)]
    simp
  ·have hb : ¬ 0 ≤ zK p s s.ths[k] := by simpa using hb
   conv => whnf
   have hsk : xN p s (k + 1) = xN p s k := by rw [yD,hgd,if_neg hb]; simp
   refine ⟨k + 1,by show k + 1 ≤ s.ths.length; omega,by show s.ths.length - (k + 1) < s.ths.length - k; omega,⟨rfl,rfl,?_,rfl,rfl,next_i64 hlt (by omega),trivial⟩,⟨rfl,rfl,?_,trivial⟩⟩
   ·rw [hsk]; rfl
   ·rw [hsk]; rfl
 ·have hge : s.ths.length ≤ k := by simpa using h
  have hkk : k = s.ths.length := by omega
  subst hkk
  conv => whnf
  refine .inl ?_
  conv => whnf
  have e : (((xN p s s.ths.length).map encE).drop 0).take (xN p s s.ths.length).length = (nR p s).map encE := by rw [List.drop_zero,List.take_of_length_le (by simp)]; rfl
  first | exact congrArg (fun x => AV.tup [sl x,bv true]) e | (rw [← e]; rfl) | trace_state
theorem l4Dead_ok (p : ProgL) (hp : p.wf) (hg : p.goodS) (hv : p.flt) (c : Int) (tr : List Ev) (tk : List Int) (s : StL) (h : AInv p s) : CallsTo EE 74 [agg (encProg p),agg (encRun c tr tk s)] (· = sl ((kN p s).map encInt)) := by
 refine callsTo_of_AW (fn := Tryz.f74) Tryz.func74 rfl (by kernel_rfl) rfl ?_
 conv => whnf
 refine ⟨_,WaitsFor_ok p hp hg hv s h,?_⟩
 rintro r rfl
 conv => whnf
 rw [edges_enc]
 refine ⟨_,m7 (bN p s) (cM h),?_⟩
 rintro r rfl
 conv => whnf
 rw [dead_enc]
theorem last_at {tr : List Ev} (h : tr ≠ []) (hl : (tr.length : Int) ≤ 1048576) : 0 ≤ IntKind.i64.wrap (((tr.map encEv).length : Int) - 1) ∧ (tr.map encEv)[(IntKind.i64.wrap (((tr.map encEv).length : Int) - 1)).toNat]? = some (encEv (tr.getLastD gJ)) ∧ tr.getLastD gJ ∈ tr := by
 have hp : 0 < tr.length := List.length_pos_iff.2 h
 have e : IntKind.i64.wrap (((tr.map encEv).length : Int) - 1) = ((tr.length - 1 : Nat) : Int) := by
  rw [List.length_map,zH (by omega) (by omega)]; omega
 have e2 : tr.getLastD gJ = tr[tr.length - 1] := by
  rw [List.getLastD_eq_getLast?,List.getLast?_eq_getElem?,List.getElem?_eq_getElem (by omega)]; rfl
 rw [e,e2]
 refine ⟨by omega,?_,List.getElem_mem _⟩
 rw [Int.toNat_natCast,List.getElem?_map,List.getElem?_eq_getElem (by omega)]; rfl
theorem dec_ne (n : Nat) : Lib.decDigits n ≠ [] := by
 rw [Lib.decDigits]
 split <;> simp
theorem txt_ne {l : List Int} (h : l ≠ []) : txt l ≠ [] := by
 cases l with
 |nil => exact absurd rfl h
 |cons x xs =>
  unfold txt
  rw [List.map_cons,Lib.join_cons]
  intro e
  exact dec_ne _ (List.append_eq_nil_iff.1 e).1
theorem l4Sign_ok (p : ProgL) (hp : p.wf) (hg : p.goodS) (hv : p.flt) (budget : Int) (x : RunT) (h : REnd p budget x) (hb : budget ≤ 1048576) : CallsTo EE 183 [agg (encProg p),agg (jX x)] (· = sv (signL p x)) := by
 obtain ⟨c,tr,tk,s⟩ := x
 have hcode : c = codeL p s tr.length budget := h.code
 have hpos : 0 < c := h.pos
 have hcs := code_cases (show 0 < codeL p s tr.length budget by rw [← hcode]; exact hpos)
 rw [← hcode] at hcs
 have hi : AInv p s := h.inv
 have hT : TrOK s tr := h.tr
 have hle : (tr.length : Int) ≤ budget := h.le
 unfold signL
 show CallsTo EE 183 [agg (encProg p),agg (encRun c tr tk s)] (· = sv (if c = 1 then [100,111,110,101] else if c = 4 then [98,117,100,103,101,116] else if c = 3 then [115,116,117,99,107,32] ++ dashT (txt (kN p s)) else faultT s (tr.getLastD gJ)))
 refine callsTo_of_AW (fn := Tryz.f183) Tryz.func183 rfl (by kernel_rfl) rfl ?_
 conv => whnf
 refine kbi (fun h1 => ?_) (fun h1 => ?_)
 ·have h1 : c = 1 := by simpa using h1
  rw [if_pos h1]
  conv => whnf
  try rfl
 have h1 : ¬ c = 1 := by simpa using h1
 rw [if_neg h1]
 conv => whnf
 refine kbi (fun h4 => ?_) (fun h4 => ?_)
 ·have h4 : c = 4 := by simpa using h4
  rw [if_pos h4]
  conv => whnf
  try rfl
 have h4 : ¬ c = 4 := by simpa using h4
 rw [if_neg h4]
 conv => whnf
 refine kbi (fun h2 => ?_) (fun h2 => ?_)
 ·have h2 : c = 2 := by simpa using h2
  rw [if_neg (by omega)]
  conv => whnf
  have hf : s.fault ≠ 0 := by
   rcases hcs with h | h
   ·omega
   ·exact h.2
  have hne := hT.ne hf
  have hpt : 0 < tr.length := List.length_pos_iff.2 hne
  obtain ⟨e1,e2,e3⟩ := last_at hne (by omega)
  have hev := hT.ev _ e3
  refine ⟨encEv (tr.getLastD gJ),⟨e1,e2,rfl⟩,?_⟩
  generalize tr.getLastD gJ = e at *
  conv => whnf
  refine ⟨by kernel_rfl,?_⟩
  conv => whnf
  have hfa := hi.gi.fault
  unfold InR at hfa
  refine ⟨_,gG s.fault hfa.1 (by omega),?_⟩
  conv => whnf
  have hev1 : e.th.toNat < s.ths.length := by omega
  have hrt := (hi.si.ths _ (List.getElem_mem hev1)).rt
  have hn4 := hg.1.2.2.2
  unfold InR at hn4
  have d1 : (Lib.decDigits s.fault.toNat).length ≤ 1 := vV _ 1 (by omega) (by omega)
  have hl5 := hi.si.len
  have d2 : (Lib.decDigits e.th.toNat).length ≤ 1 := vV _ 1 (by omega) (by omega)
  have d3 : (Lib.decDigits s.ths[e.th.toNat].rt.toNat).length ≤ 1 := vV _ 1 (by omega) (by omega)
  have d4 : (Lib.decDigits e.pc.toNat).length ≤ 2 := vV _ 2 (by omega) (by omega)
  have hgd : s.ths.getD e.th.toNat th0 = s.ths[e.th.toNat] := by simp [List.getD_eq_getElem?_getD,hev1]
  refine ⟨by simp; omega,?_⟩
  conv => whnf
  refine ⟨by simp; omega,?_⟩
  conv => whnf
  refine ⟨_,gG e.th hev.1 (by omega),?_⟩
  conv => whnf
  refine ⟨by simp; omega,?_⟩
  conv => whnf
  refine ⟨by simp; omega,?_⟩
  conv => whnf
  refine ⟨zE s.ths[e.th.toNat],⟨hev.1,by simp [hev1],rfl⟩,?_⟩
  conv => whnf
  refine ⟨_,gG s.ths[e.th.toNat].rt hrt.1 (by omega),?_⟩
  conv => whnf
  refine ⟨by simp; omega,?_⟩
  conv => whnf
  refine ⟨by simp; omega,?_⟩
  conv => whnf
  refine ⟨_,gG e.pc hev.2.2.1 (by omega),?_⟩
  conv => whnf
  refine ⟨by simp; omega,?_⟩
  conv => whnf
  unfold faultT
  rw [hgd]
  try rfl
 ·have h2 : ¬ c = 2 := by simpa using h2
  rw [if_pos (by omega)]
  conv => whnf
  refine ⟨_,l4Dead_ok p hp hg hv c tr tk s hi,?_⟩
  rintro r rfl
  conv => whnf
  have hd := dead_picks hi
  refine kbi (fun h3 => ?_) (fun h3 => ?_)
  ·have h3 : 0 < (kN p s).length := by simpa using h3
   conv => whnf
   refine ⟨_,l4List_ok (kN p s) hd,?_⟩
   rintro r rfl
   conv => whnf
   have htl := txt_len (kN p s) hd.2 (kN p s).length (Nat.le_refl _)
   rw [List.take_length] at htl
   have h200 := hd.1
   refine ⟨by show 6 + _ ≤ _; omega,?_⟩
   conv => whnf
   have hne : txt (kN p s) ≠ [] := txt_ne (by intro e; rw [e] at h3; simp at h3)
   unfold dashT
   rw [if_neg hne]
   try rfl
  ·have h3 : kN p s = [] := by
    have : ¬ 0 < (kN p s).length := by simpa using h3
    exact List.length_eq_zero_iff.1 (by omega)
   conv => whnf
   rw [h3]
   try rfl
end Ai
end
section
set_option maxRecDepth 100000
namespace Ai
open Go Go.Proofs
theorem szOpS_ok (xs : List (List D)) (left : Int) (h0 : 0 ≤ left) (h1 : left ≤ 1048576) (hx : xs.length ≤ 9223372036854775807) :
  CallsTo EE 112 [sl xs,i64 left] (szR left xs.length) := by
 refine callsTo_of_AW (fn := Tryz.f112) Tryz.func112 rfl (by kernel_rfl) rfl ?_
 conv => whnf
 rw [zH (by omega) (by omega)]
 refine ⟨fun h => ?_,fun h => ?_⟩
 ·conv => whnf
  exact ⟨-1,rfl,by omega,by omega,by omega⟩
 ·conv => whnf
  simp at h
  exact ⟨_,rfl,by omega,by omega,by omega⟩
theorem szOpSS_ok (xs : List (List OpL)) (left : Int) (h0 : 0 ≤ left) (h1 : left ≤ 1048576) (hx : xs.length ≤ 9223372036854775807) (hx2 : ∀ x ∈ xs,x.length ≤ 9223372036854775807) :
  CallsTo EE 56 [sl (xs.map zS),i64 left] (szR left (fY List.length xs)) := by
 refine callsTo_of_AW (fn := Tryz.f56) Tryz.func56 rfl (by kernel_rfl) rfl ?_
 conv => whnf
 rw [zH (by simp; omega) (by simp; omega),List.length_map]
 refine ⟨fun h => ?_,fun h => ?_⟩
 ·conv => whnf
  exact ⟨-1,rfl,by omega,by omega,by omega⟩
 ·simp at h
  conv => whnf
  refine xA (fun x : Nat × Int => [(0,sl (xs.map zS)),(5,i64 x.1),(1,i64 x.2)]) (fun _ => []) (fun x => xs.length - x.1)
   (fun x => x.1 ≤ xs.length ∧ 0 ≤ x.2 ∧ (xs.length : Int) + ((xs.map List.length).take x.1).sum + x.2 ≤ left) (0,left - xs.length) .refl ⟨rfl,rfl,rfl,trivial⟩ trivial ⟨by omega,by omega,by simp; omega⟩ ?_
  rintro ⟨k,l⟩ τ H ⟨hk,hl,hs⟩
  dsimp only at hk hl hs
  conv => whnf
  refine ⟨fun h => ?_,fun h => ?_⟩
  ·have hlt := xH h
   conv => whnf
   refine ⟨zS xs[k],yB zS hlt rfl,?_⟩
   conv => whnf
   refine ⟨_,szOpS_ok _ l hl (by omega) (by simpa using hx2 _ (List.getElem_mem hlt)),?_⟩
   rintro r ⟨n,rfl,hn1,hn2,hn3⟩
   conv => whnf
   refine ⟨fun h => ?_,fun h => ?_⟩
   ·conv => whnf
    exact ⟨-1,rfl,by omega,by omega,by omega⟩
   ·simp at h
    conv => whnf
    refine ⟨(k + 1,n),⟨by omega,by omega,?_⟩,by show xs.length - (k + 1) < xs.length - k; omega,⟨rfl,next_i64 hlt hx,rfl,trivial⟩,trivial⟩
    have hm : k < (xs.map List.length).length := by simpa using hlt
    rw [aC _ _ hm]
    have := hn3 h
    simp at this ⊢
    omega
  ·have hge := ge_map h
   conv => whnf
   have hkk : k = xs.length := by omega
   subst hkk
   refine ⟨_,rfl,by omega,?_,?_⟩
   ·omega
   ·intro _
    simp only [fY]
    rw [List.take_of_length_le (by simp)] at hs
    simp at hs ⊢
    omega
theorem aU (p : ProgL) (left : Int) (h0 : 0 ≤ left) (h1 : left ≤ 1048576) (hs : p.wf) : CallsTo EE 11 [agg (encProg p),i64 left] (szR left p.size) := by
 refine callsTo_of_AW (fn := Tryz.f11) Tryz.func11 rfl (by kernel_rfl) rfl ?_
 conv => whnf
 refine ⟨_,szOpSS_ok _ left h0 h1 hs.1 hs.2,?_⟩
 rintro r ⟨n,rfl,hn1,hn2,hn3⟩
 conv => whnf
 refine ⟨fun h => ?_,fun h => ?_⟩
 ·conv => whnf
  exact ⟨-1,rfl,by omega,by omega,by omega⟩
 ·simp at h
  conv => whnf
  exact ⟨_,rfl,by omega,by omega,hn3⟩
end Ai
end
section
set_option maxRecDepth 100000
namespace Ai
open Go Go.Proofs
theorem xW (n : Int) (h : (n != n) = true) : False := by simp at h
theorem eqIntS_ok (xs : List Int) (hx : xs.length ≤ 1048576) : CallsTo EE 28 [sl (xs.map encInt),sl (xs.map encInt)] (· = bv true) := by
 refine callsTo_of_AW (fn := Tryz.f28) Tryz.func28 rfl (by kernel_rfl) rfl ?_
 conv => whnf
 refine ⟨fun h => (xW _ h).elim,fun _ => ?_⟩
 conv => whnf
 refine xA (fun k : Nat => [(0,sl (xs.map encInt)),(1,sl (xs.map encInt)),(5,i64 k)]) (fun k => []) (fun k => xs.length - k) (fun k => k ≤ xs.length) 0 .refl ⟨rfl,rfl,rfl,trivial⟩ trivial (Nat.zero_le _) ?_
 intro k τ H hk
 conv => whnf
 refine ⟨fun h => ?_,fun h => ?_⟩
 ·have hlt := xH h
  conv => whnf
  refine ⟨by kernel_rfl,?_⟩
  conv => whnf
  refine ⟨encInt xs[k],yB encInt hlt rfl,?_⟩
  conv => whnf
  refine ⟨encInt xs[k],yB encInt hlt rfl,?_⟩
  conv => whnf
  refine ⟨fun h => (xW _ h).elim,fun _ => ?_⟩
  conv => whnf
  refine ⟨k + 1,by omega,by show xs.length - (k + 1) < xs.length - k; omega,⟨rfl,rfl,next_i64 hlt (by omega),trivial⟩,trivial⟩
 ·conv => whnf
theorem oC (x : Nat) : CallsTo EE 173 [.d (.flt x),.d (.flt x)] (· = bv true) := by
 refine callsTo_of_AW (fn := Tryz.f173) Tryz.func173 rfl (by kernel_rfl) rfl ?_
 conv => whnf
 repeat' (refine kbi (fun h => ?_) (fun h => ?_) <;> first | contradiction | conv => whnf)
 all_goals simp [y7] at *
 all_goals simp_all
theorem eqOp_ok (x : OpL) : CallsTo EE 189 [agg (encOp x),agg (encOp x)] (· = bv true) := by
 refine callsTo_of_AW (fn := Tryz.f189) Tryz.func189 rfl (by kernel_rfl) rfl ?_
 conv => whnf
 refine ⟨fun h => (xW _ h).elim,fun _ => ?_⟩
 conv => whnf
 refine ⟨fun h => (xW _ h).elim,fun _ => ?_⟩
 conv => whnf
 refine ⟨fun h => (xW _ h).elim,fun _ => ?_⟩
 conv => whnf
 refine ⟨_,oC x.v,?_⟩
 rintro r rfl
 conv => whnf
theorem eqOpS_ok (xs : List OpL) (hx : xs.length ≤ 1048576) : CallsTo EE 118 [sl (xs.map encOp),sl (xs.map encOp)] (· = bv true) := by
 refine callsTo_of_AW (fn := Tryz.f118) Tryz.func118 rfl (by kernel_rfl) rfl ?_
 conv => whnf
 refine ⟨fun h => (xW _ h).elim,fun _ => ?_⟩
 conv => whnf
 refine xA (fun k : Nat => [(0,sl (xs.map encOp)),(1,sl (xs.map encOp)),(5,i64 k)]) (fun k => []) (fun k => xs.length - k) (fun k => k ≤ xs.length) 0 .refl ⟨rfl,rfl,rfl,trivial⟩ trivial (Nat.zero_le _) ?_
 intro k τ H hk
 conv => whnf
 refine ⟨fun h => ?_,fun h => ?_⟩
 ·have hlt := xH h
  conv => whnf
  refine ⟨by kernel_rfl,?_⟩
  conv => whnf
  refine ⟨encOp xs[k],yB encOp hlt rfl,?_⟩
  conv => whnf
  refine ⟨encOp xs[k],yB encOp hlt rfl,?_⟩
  conv => whnf
  refine ⟨_,eqOp_ok xs[k],?_⟩
  conv => whnf
  refine ⟨k + 1,by omega,by show xs.length - (k + 1) < xs.length - k; omega,⟨rfl,rfl,next_i64 hlt (by omega),trivial⟩,trivial⟩
 ·conv => whnf
theorem eqOpSS_ok (xs : List (List OpL)) (hx : xs.length ≤ 1048576) (hx2 : ∀ x ∈ xs,x.length ≤ 1048576) : CallsTo EE 61 [sl (xs.map zS),sl (xs.map zS)] (· = bv true) := by
 refine callsTo_of_AW (fn := Tryz.f61) Tryz.func61 rfl (by kernel_rfl) rfl ?_
 conv => whnf
 refine ⟨fun h => (xW _ h).elim,fun _ => ?_⟩
 conv => whnf
 refine xA (fun k : Nat => [(0,sl (xs.map zS)),(1,sl (xs.map zS)),(5,i64 k)]) (fun k => []) (fun k => xs.length - k) (fun k => k ≤ xs.length) 0 .refl ⟨rfl,rfl,rfl,trivial⟩ trivial (Nat.zero_le _) ?_
 intro k τ H hk
 conv => whnf
 refine ⟨fun h => ?_,fun h => ?_⟩
 ·have hlt := xH h
  conv => whnf
  refine ⟨by kernel_rfl,?_⟩
  conv => whnf
  refine ⟨zS xs[k],yB zS hlt rfl,?_⟩
  conv => whnf
  refine ⟨zS xs[k],yB zS hlt rfl,?_⟩
  conv => whnf
  refine ⟨_,eqOpS_ok xs[k] (hx2 _ (List.getElem_mem hlt)),?_⟩
  conv => whnf
  refine ⟨k + 1,by omega,by show xs.length - (k + 1) < xs.length - k; omega,⟨rfl,rfl,next_i64 hlt (by omega),trivial⟩,trivial⟩
 ·conv => whnf
theorem iJ (p : ProgL) (h : p.rs.length ≤ 1048576 ∧ ∀ x ∈ p.rs,x.length ≤ 1048576) : CallsTo EE 16 [agg (encProg p),agg (encProg p)] (· = bv true) := by
 refine callsTo_of_AW (fn := Tryz.f16) Tryz.func16 rfl (by kernel_rfl) rfl ?_
 conv => whnf
 refine ⟨fun h => (xW _ h).elim,fun _ => ?_⟩
 conv => whnf
 refine ⟨fun h => (xW _ h).elim,fun _ => ?_⟩
 conv => whnf
 refine ⟨fun h => (xW _ h).elim,fun _ => ?_⟩
 conv => whnf
 refine ⟨_,eqOpSS_ok _ h.1 h.2,?_⟩
 rintro r rfl
 conv => whnf
end Ai
end
section
set_option maxRecDepth 100000
namespace Ai
open Go Go.Proofs Cyc
theorem aY (c : List Int) (k : Nat) (x : Int) : wL (c.map encInt) 1 (0 + (k : Int).toNat) 0 [di x] = (c.set k x).map encInt := by
 have e : wL (c.map encInt) 1 (0 + (k : Int).toNat) 0 [di x] = (c.map encInt).set k [di x] := by
  unfold wL
  rw [show ([di x] : List D).length = 1 from rfl,nbeq_self,nbeq_self]
  simp
 rw [e,List.map_set]
 rfl
end Ai
end
section
set_option maxRecDepth 100000
namespace Ai
open Go Go.Proofs
def uX (k : Int) (n : Nat) : List Int := (List.range n).map fun (j : Nat) => k + (j : Int)
theorem gD (k : Int) (n : Nat) : (uX k n).length = n := by simp [uX]
theorem marks_get {k : Int} {n j : Nat} (h : j < n) : (uX k n)[j]? = some (k + (j : Int)) := by simp [uX,h]
def vS (xs : List Int) (k : Int) (n : Nat) : List Int := uX k n ++ xs.drop n
theorem pK {xs : List Int} {k : Int} {n : Nat} (h : n < xs.length) : (vS xs k n).set n (k + (n : Int)) = vS xs k (n + 1) := by
 unfold vS
 rw [List.drop_eq_getElem_cons h,List.set_append_right _ _ (by rw [gD]; omega),gD,Nat.sub_self,List.set_cons_zero]
 unfold uX
 rw [List.range_succ,List.map_append]
 simp
theorem tD (xs : List Int) (k : Int) : vS xs k xs.length = uX k xs.length := by simp [vS]
theorem l7 (κ : Key) (hκ : κ = .n 77 ∨ κ = .l 77) (xs : List Int) (k : Int) (hx : xs.length ≤ 1048576) (h0 : 0 ≤ k) (h1 : k ≤ 1073741824) (H0 : Key → Option Ob) (hH : H0 κ = some (.ds 3 1 (xs.map encInt))) :
  IOCall EE 31 [.ref κ 0 xs.length,i64 k] H0 (fun r H1 => r = i64 (k + xs.length) ∧ H1 κ = some (.ds 3 1 ((uX k xs.length).map encInt)) ∧ ∀ κ',isK κ κ' = false → H1 κ' = none) := by
 rcases hκ with rfl | rfl
 ·refine io_of_AW (fn := Tryz.f31) (c := Tryz.f31.body.getD .skip) Tryz.func31 rfl (by kernel_rfl) rfl ?_
  have hat : At [(0,.ref (.n 77) 0 xs.length),(1,i64 k)] [(.n 77,.ds 3 1 (xs.map encInt))] [] ⟨fun i => [AV.ref (.n 77) 0 xs.length,i64 k].getD i .junk,H0⟩ := ⟨⟨rfl,rfl,trivial⟩,⟨hH,trivial⟩,trivial⟩
  obtain ⟨τ,H,hf⟩ := hat.form
  rw [hf]
  conv => whnf
  refine xA (fun n : Nat => [(0,.ref (.n 77) 0 xs.length),(1,i64 (k + (n : Int))),(5,i64 n)]) (fun n => [(.n 77,.ds 3 1 ((vS xs k n).map encInt))]) (fun n => xs.length - n) (fun n => n ≤ xs.length) 0
   Weak.refl ⟨rfl,?_,rfl,trivial⟩ ⟨?_,trivial⟩ (Nat.zero_le _) ?_
  ·show i64 k = i64 (k + ((0 : Nat) : Int))
   rw [show k + ((0 : Nat) : Int) = k by omega]
  ·show some (Ob.ds 3 1 (xs.map encInt)) = some (Ob.ds 3 1 ((vS xs k 0).map encInt))
   simp [vS,uX]
  intro n τ H hn
  have hn : n ≤ xs.length := hn
  conv => whnf
  refine kbi (fun h => ?_) (fun h => ?_)
  ·have hlt : n < xs.length := by simpa using h
   conv => whnf
   refine ⟨⟨by omega,by omega⟩,?_⟩
   conv => whnf
   refine ⟨n + 1,by show n + 1 ≤ xs.length; omega,by show xs.length - (n + 1) < xs.length - n; omega,⟨rfl,?_,?_,trivial⟩,⟨?_,trivial⟩⟩
   ·show AV.d (.int .i64 (IntKind.i64.wrap ((k + (n : Int)) + 1))) = i64 (k + ((n + 1 : Nat) : Int))
    rw [zH (by omega) (by omega)]
    exact congrArg i64 (by omega)
   ·show AV.d (.int .i64 (IntKind.i64.wrap ((n : Int) + 1))) = i64 ((n + 1 : Nat) : Int)
    rw [zH (by omega) (by omega)]
    rfl
   ·show some (Ob.ds 3 1 (wL ((vS xs k n).map encInt) 1 (0 + (n : Int).toNat) 0 [di (k + (n : Int))])) = _
    rw [aY,pK hlt]
  ·have hkk : n = xs.length := by
    have : ¬ n < xs.length := by simpa using h
    omega
   subst hkk
   conv => whnf
   refine ⟨_,Weak.refl,?_⟩
   conv => whnf
   refine ⟨isK (.n 77),rfl,?_,fun κ hκ => ?_⟩
   ·show some (Ob.ds 3 1 ((vS xs k xs.length).map encInt)) = _
    rw [tD]
   ·unfold yJ
    rw [hκ]; rfl
 ·refine io_of_AW (fn := Tryz.f31) (c := Tryz.f31.body.getD .skip) Tryz.func31 rfl (by kernel_rfl) rfl ?_
  have hat : At [(0,.ref (.l 77) 0 xs.length),(1,i64 k)] [(.l 77,.ds 3 1 (xs.map encInt))] [] ⟨fun i => [AV.ref (.l 77) 0 xs.length,i64 k].getD i .junk,H0⟩ := ⟨⟨rfl,rfl,trivial⟩,⟨hH,trivial⟩,trivial⟩
  obtain ⟨τ,H,hf⟩ := hat.form
  rw [hf]
  conv => whnf
  refine xA (fun n : Nat => [(0,.ref (.l 77) 0 xs.length),(1,i64 (k + (n : Int))),(5,i64 n)]) (fun n => [(.l 77,.ds 3 1 ((vS xs k n).map encInt))]) (fun n => xs.length - n) (fun n => n ≤ xs.length) 0
   Weak.refl ⟨rfl,?_,rfl,trivial⟩ ⟨?_,trivial⟩ (Nat.zero_le _) ?_
  ·show i64 k = i64 (k + ((0 : Nat) : Int))
   rw [show k + ((0 : Nat) : Int) = k by omega]
  ·show some (Ob.ds 3 1 (xs.map encInt)) = some (Ob.ds 3 1 ((vS xs k 0).map encInt))
   simp [vS,uX]
  intro n τ H hn
  have hn : n ≤ xs.length := hn
  conv => whnf
  refine kbi (fun h => ?_) (fun h => ?_)
  ·have hlt : n < xs.length := by simpa using h
   conv => whnf
   refine ⟨⟨by omega,by omega⟩,?_⟩
   conv => whnf
   refine ⟨n + 1,by show n + 1 ≤ xs.length; omega,by show xs.length - (n + 1) < xs.length - n; omega,⟨rfl,?_,?_,trivial⟩,⟨?_,trivial⟩⟩
   ·show AV.d (.int .i64 (IntKind.i64.wrap ((k + (n : Int)) + 1))) = i64 (k + ((n + 1 : Nat) : Int))
    rw [zH (by omega) (by omega)]
    exact congrArg i64 (by omega)
   ·show AV.d (.int .i64 (IntKind.i64.wrap ((n : Int) + 1))) = i64 ((n + 1 : Nat) : Int)
    rw [zH (by omega) (by omega)]
    rfl
   ·show some (Ob.ds 3 1 (wL ((vS xs k n).map encInt) 1 (0 + (n : Int).toNat) 0 [di (k + (n : Int))])) = _
    rw [aY,pK hlt]
  ·have hkk : n = xs.length := by
    have : ¬ n < xs.length := by simpa using h
    omega
   subst hkk
   conv => whnf
   refine ⟨_,Weak.refl,?_⟩
   conv => whnf
   refine ⟨isK (.l 77),rfl,?_,fun κ hκ => ?_⟩
   ·show some (Ob.ds 3 1 ((vS xs k xs.length).map encInt)) = _
    rw [tD]
   ·unfold yJ
    rw [hκ]; rfl
theorem n8 (k : Int) (n : Nat) (hx : n ≤ 1048576) (h0 : 0 ≤ k) (h1 : k ≤ 1073741824) : CallsTo EE 32 [sl ((uX k n).map encInt),i64 k] (· = i64 (k + n)) := by
 have hml := gD k n
 refine callsTo_of_AW (fn := Tryz.f32) Tryz.func32 rfl (by kernel_rfl) rfl ?_
 conv => whnf
 refine xA (fun j : Nat => [(0,sl ((uX k n).map encInt)),(1,i64 (k + (j : Int))),(5,i64 j)]) (fun j => []) (fun j => n - j) (fun j => j ≤ n) 0
  Weak.refl ⟨rfl,?_,rfl,trivial⟩ trivial (Nat.zero_le _) ?_
 ·show i64 k = i64 (k + ((0 : Nat) : Int))
  rw [show k + ((0 : Nat) : Int) = k by omega]
 intro j τ H hj
 have hj : j ≤ n := hj
 conv => whnf
 refine kbi (fun h => ?_) (fun h => ?_)
 ·have hlt := xH h
  rw [hml] at hlt
  conv => whnf
  refine ⟨encInt (k + (j : Int)),⟨by omega,?_,rfl⟩,?_⟩
  ·rw [List.getElem?_map,Int.toNat_natCast,marks_get hlt]; rfl
  conv => whnf
  refine kbi (fun h => absurd h (by simp)) (fun _ => ?_)
  conv => whnf
  refine ⟨j + 1,by show j + 1 ≤ n; omega,by show n - (j + 1) < n - j; omega,⟨rfl,?_,?_,trivial⟩,trivial⟩
  ·show AV.d (.int .i64 (IntKind.i64.wrap ((k + (j : Int)) + 1))) = i64 (k + ((j + 1 : Nat) : Int))
   rw [zH (by omega) (by omega)]
   exact congrArg i64 (by omega)
  ·show AV.d (.int .i64 (IntKind.i64.wrap ((j : Int) + 1))) = i64 ((j + 1 : Nat) : Int)
   rw [zH (by omega) (by omega)]
   rfl
 ·have hkk : j = n := by
   have : ¬ j < n := by simpa [hml] using h
   omega
  subst hkk
  conv => whnf
  try rfl
end Ai
end
section
set_option maxRecDepth 100000
namespace Ai
open Go Go.Proofs
theorem bY (els : List (List D)) (sz k off : Nat) (xs : List D) : (wL els sz k off xs).length = els.length := by
 unfold wL
 cases Nat.beq off 0 && Nat.beq xs.length sz <;> simp
theorem sL {x : D} : ∀ (c : List D) (off : Nat),off < c.length → (yA c off [x]).length = c.length
 | [],off,h => by simp at h
 |c :: cs,0,h => by simp [yA]
 |c :: cs,off + 1,h => by
  have := sL (x := x) cs off (by simpa using h)
  simp [yA,this]
theorem rQ {els : List (List D)} {k off : Nat} {x : D} (h : ∀ c ∈ els,c.length = 4) (ho : off < 4) : ∀ c ∈ wL els 4 k off [x],c.length = 4 := by
 intro c hc
 unfold wL at hc
 rw [show Nat.beq ([x] : List D).length 4 = false from rfl,Bool.and_false] at hc
 obtain ⟨i,hi,rfl⟩ := List.mem_iff_getElem.1 hc
 have hil : i < els.length := by simpa using hi
 have h4 := h _ (List.getElem_mem hil)
 simp only [cond_false,List.getElem_modify]
 split
 ·rw [sL _ _ (by omega)]; exact h4
 ·exact h4
theorem markOpS_ok (els : List (List D)) (k : Int) (n : Nat) (hn : n = els.length) (hx : n ≤ 1048576) (h4 : ∀ c ∈ els,c.length = 4) (h0 : 0 ≤ k) (h1 : k ≤ 1073741824) (H0 : Key → Option Ob) (hH : H0 (.n 50) = some (.ds 183 4 els)) :
  IOCall EE 119 [.ref (.n 50) 0 n,i64 k] H0 (fun r H1 => r = i64 (k + 4 * n) ∧ ∀ κ,H1 κ = none) := by
 refine io_of_AW (fn := Tryz.f119) (c := Tryz.f119.body.getD .skip) Tryz.func119 rfl (by kernel_rfl) rfl ?_
 have hat : At [(0,.ref (.n 50) 0 n),(1,i64 k)] [(.n 50,.ds 183 4 els)] [] ⟨fun i => [AV.ref (.n 50) 0 n,i64 k].getD i .junk,H0⟩ := ⟨⟨rfl,rfl,trivial⟩,⟨hH,trivial⟩,trivial⟩
 obtain ⟨τ,H,hf⟩ := hat.form
 rw [hf]
 conv => whnf
 refine xA (fun x : Nat × List (List D) => [(0,.ref (.n 50) 0 n),(1,i64 (k + 4 * (x.1 : Int))),(5,i64 x.1)]) (fun x => [(.n 50,.ds 183 4 x.2)]) (fun x => n - x.1) (fun x => x.1 ≤ n ∧ x.2.length = n ∧ ∀ c ∈ x.2,c.length = 4) (0,els)
  Weak.refl ⟨rfl,?_,rfl,trivial⟩ ⟨rfl,trivial⟩ ⟨Nat.zero_le _,hn.symm,h4⟩ ?_
 ·show i64 k = i64 (k + 4 * ((0 : Nat) : Int))
  rw [show k + 4 * ((0 : Nat) : Int) = k by omega]
 rintro ⟨i,E⟩ τ H ⟨hi,hE,hE4⟩
 have hi : i ≤ n := hi
 have hE : E.length = n := hE
 have hE4 : ∀ c ∈ E,c.length = 4 := hE4
 conv => whnf
 refine kbi (fun h => ?_) (fun h => ?_)
 ·have hlt : i < n := by simpa using h
  conv => whnf
  refine ⟨⟨by show 0 ≤ (i : Int); omega,by show (i : Int) < n; omega⟩,?_⟩
  conv => whnf
  refine ⟨⟨by show 0 ≤ (i : Int); omega,by show (i : Int) < n; omega⟩,?_⟩
  conv => whnf
  refine ⟨⟨by show 0 ≤ (i : Int); omega,by show (i : Int) < n; omega⟩,?_⟩
  conv => whnf
  refine ⟨⟨by show 0 ≤ (i : Int); omega,by show (i : Int) < n; omega⟩,?_⟩
  conv => whnf
  refine ⟨(i + 1,wL (wL (wL (wL E 4 (0 + (i : Int).toNat) (0 + 0) [.int .i64 (k + 4 * (i : Int))]) 4 (0 + (i : Int).toNat) (0 + 1) [.int .i64 (IntKind.i64.wrap (k + 4 * (i : Int) + 1))]) 4 (0 + (i : Int).toNat) (0 + 2) [.int .i64 (IntKind.i64.wrap (IntKind.i64.wrap (k + 4 * (i : Int) + 1) + 1))]) 4 (0 + (i : Int).toNat) (0 + 3) [.flt (FloatKind.f64.nearest (IntKind.i64.wrap (IntKind.i64.wrap (IntKind.i64.wrap (k + 4 * (i : Int) + 1) + 1) + 1)))]),⟨by show i + 1 ≤ n; omega,?_,?_⟩,by show n - (i + 1) < n - i; omega,⟨rfl,?_,?_,trivial⟩,⟨rfl,trivial⟩⟩
  ·dsimp only
   rw [bY,bY,bY,bY,hE]
  ·dsimp only
   refine rQ (rQ (rQ (rQ hE4 ?_) ?_) ?_) ?_ <;> omega
  ·show AV.d (.int .i64 (IntKind.i64.wrap (IntKind.i64.wrap (IntKind.i64.wrap (IntKind.i64.wrap ((k + 4 * (i : Int)) + 1) + 1) + 1) + 1))) = i64 (k + 4 * ((i + 1 : Nat) : Int))
   rw [zH (n := k + 4 * (i : Int) + 1) (by omega) (by omega),zH (n := k + 4 * (i : Int) + 1 + 1) (by omega) (by omega),zH (n := k + 4 * (i : Int) + 1 + 1 + 1) (by omega) (by omega),zH (n := k + 4 * (i : Int) + 1 + 1 + 1 + 1) (by omega) (by omega)]
   exact congrArg i64 (by omega)
  ·show AV.d (.int .i64 (IntKind.i64.wrap ((i : Int) + 1))) = i64 ((i + 1 : Nat) : Int)
   rw [zH (by omega) (by omega)]
   rfl
 ·conv => whnf
  have hkk : i = n := by
   have : ¬ i < n := by simpa using h
   omega
  subst hkk
  refine ⟨_,Weak.refl,?_⟩
  conv => whnf
  exact ⟨fun _ => false,rfl,fun κ => rfl⟩
end Ai
end
section
set_option maxRecDepth 100000
namespace Ai
open Go Go.Proofs
theorem io_congr {g : FuncId} {xs ys : List AV} {H0 : Key → Option Ob} {Post : AV → (Key → Option Ob) → Prop} (h : IOCall EE g xs H0 Post) (e : ys = xs) : IOCall EE g ys H0 Post := by rw [e]; exact h
def rI (subs : List (List (List D))) (i j : Nat) : List AV := if j < i then [.junk] else [.ref (.s 903 j) 0 (subs.getD j []).length]
def wM (subs : List (List (List D))) (i : Nat) : List (List AV) := (List.range subs.length).map (rI subs i)
def vT (subs : List (List (List D))) (i j : Nat) : Option Ob := if j < i then none else (subs[j]?).map (.ds 183 4)
theorem eB {subs : List (List (List D))} {i j : Nat} (h : j < subs.length) : (wM subs i)[j]? = some (rI subs i j) := by simp [wM,h]
theorem mU {subs : List (List (List D))} {i i' : Nat} (f : List AV → List AV) (h : ∀ j,f (rI subs i j) = rI subs i' j) : (wM subs i).map f = wM subs i' := by
 unfold wM
 rw [List.map_map]
 exact List.map_congr_left fun j _ => h j
theorem jW (f : Key → Key) (subs : List (List (List D))) (i j : Nat) : (vT subs i j).map (renO f) = vT subs i j := by
 unfold vT
 split
 ·rfl
 ·cases subs[j]? <;> rfl
theorem uR (p : Key → Bool) (subs : List (List (List D))) (i j : Nat) : (vT subs i j).map (scrPO p) = vT subs i j := by
 unfold vT
 split
 ·rfl
 ·cases subs[j]? <;> rfl
def tot (subs : List (List (List D))) (i : Nat) : Nat := ((subs.take i).map List.length).sum
theorem tot_succ {subs : List (List (List D))} {i : Nat} (h : i < subs.length) : tot subs (i + 1) = tot subs i + subs[i].length := by
 unfold tot
 rw [List.take_succ_eq_append_getElem h,List.map_append,List.sum_append]
 simp
theorem tot_le (subs : List (List (List D))) (i : Nat) : tot subs i ≤ tot subs subs.length := by
 unfold tot
 rw [List.take_length]
 have : ∀ (l : List Nat) (i : Nat),(l.take i).sum ≤ l.sum := by
  intro l
  induction l with
  |nil => simp
  |cons x xs ih =>
   intro i
   cases i with
   |zero => simp
   |succ i => simp only [List.take_succ_cons,List.sum_cons]; have := ih i; omega
 rw [List.map_take]
 exact this _ i
theorem l6 (subs : List (List (List D))) (k : Int) (hx : subs.length ≤ 1048576) (hs : ∀ q ∈ subs,∀ c ∈ q,c.length = 4) (ht : tot subs subs.length ≤ 1048576) (h0 : 0 ≤ k) (h1 : k ≤ 1048576) (H0 : Key → Option Ob)
  (hH : H0 (.n 903) = some (.rs 157 1 (wM subs 0))) (hF : ∀ j,H0 (.s 903 j) = vT subs 0 j) :
  IOCall EE 62 [.dref (.n 903) subs.length,i64 k] H0 (fun r H1 => r = i64 (k + 4 * tot subs subs.length) ∧ ∀ κ,H1 κ = none) := by
 refine io_of_AW (fn := Tryz.f62) (c := Tryz.f62.body.getD .skip) Tryz.func62 rfl (by kernel_rfl) rfl ?_
 have hat : At [(0,.dref (.n 903) subs.length),(1,i64 k)] [(.n 903,.rs 157 1 (wM subs 0))] [(903,vT subs 0)] ⟨fun i => [AV.dref (.n 903) subs.length,i64 k].getD i .junk,H0⟩ := ⟨⟨rfl,rfl,trivial⟩,⟨hH,trivial⟩,⟨hF,trivial⟩⟩
 obtain ⟨τ,H,hf⟩ := hat.form
 rw [hf]
 conv => whnf
 refine aloopF (fun i : Nat => [(0,.dref (.n 903) subs.length),(1,i64 (k + 4 * (tot subs i : Int))),(5,i64 i)]) (fun i => [(.n 903,.rs 157 1 (wM subs i))]) (fun i => [(903,vT subs i)]) (fun i => subs.length - i) (fun i => i ≤ subs.length) 0
  Weak.refl ⟨rfl,?_,rfl,trivial⟩ ⟨rfl,trivial⟩ ⟨fun j => ?_,trivial⟩ (Nat.zero_le _) ?_
 ·show i64 k = i64 (k + 4 * ((tot subs 0 : Nat) : Int))
  rw [show k + 4 * ((tot subs 0 : Nat) : Int) = k by simp [tot]]
 ·rfl
 intro i τ H hi
 have hi : i ≤ subs.length := hi
 have hti := tot_le subs i
 conv => whnf
 refine kbi (fun h => ?_) (fun h => ?_)
 ·have hlt : i < subs.length := by simpa using h
  conv => whnf
  refine ⟨⟨by omega,by omega⟩,?_⟩
  conv => whnf
  have hgi : subs.getD i [] = subs[i] := by simp [List.getD_eq_getElem?_getD,hlt]
  have hrow : rI subs i i = [.ref (.s 903 i) 0 subs[i].length] := by unfold rI; rw [if_neg (by omega),hgi]
  have hfi : vT subs i i = some (.ds 183 4 subs[i]) := by unfold vT; rw [if_neg (by omega),List.getElem?_eq_getElem hlt]; rfl
  refine ⟨[.ref (.s 903 i) 0 subs[i].length],⟨?_,Nat.le_refl _⟩,?_⟩
  ·rw [Int.toNat_natCast,eB hlt,hrow]
  conv => whnf
  have hsw : swp (.n 50) (.s 903 i) (.s 903 i) = .n 50 := by simp [swp,Key.beq]
  have hts := tot_succ hlt
  have hti2 := tot_le subs (i + 1)
  split
  case' h_1 => conv => whnf
  case' h_1 => refine .inr (.inr (.inr (.inl ?_)))
  case' h_2 => refine .inr (.inr (.inl ?_))
  all_goals
   refine ⟨_,119,[],vK 50 903 i,rfl,999,0,isK (.n 50),(fun r H1 => r = i64 ((k + 4 * (tot subs i : Int)) + 4 * (subs[i].length : Nat)) ∧ ∀ κ,H1 κ = none),?_,rfl,?_⟩
   ·refine io_congr (markOpS_ok subs[i] (k + 4 * (tot subs i : Int)) subs[i].length rfl (by omega) (hs _ (List.getElem_mem hlt)) (by omega) (by omega) _ ?_) ?_
    ·show Option.map _ (Option.map _ (Option.map _ (vT subs i i))) = _
     rw [hfi]
     rfl
    ·show [scrP _ (.ref (swp (.n 999) (.l 0) (swp (.n 50) (.s 903 i) (.s 903 i))) 0 subs[i].length),_] = _
     rw [hsw]
     rfl
   ·rintro r H1 ⟨rfl,q⟩
    refine ⟨fun κ _ => q κ,fun n hn => (by cases hn),?_⟩
    conv => whnf
    have hne : ∀ j,j ≠ i → swp (.n 50) (.s 903 i) (.s 903 j) = .s 903 j := fun j hj => by simp [swp,Key.beq,nbeq_ne hj]
    refine ⟨i + 1,_,vK 50 903 i,by show i + 1 ≤ subs.length; omega,by show subs.length - (i + 1) < subs.length - i; omega,⟨rfl,?_,?_,trivial⟩,⟨?_,trivial⟩,⟨fun j => ?_,trivial⟩⟩
    ·show i64 (k + 4 * ((tot subs i : Nat) : Int) + 4 * ((subs[i].length : Nat) : Int)) = i64 (k + 4 * ((tot subs (i + 1) : Nat) : Int))
     rw [hts]
     exact congrArg i64 (by omega)
    ·show AV.d (.int .i64 (IntKind.i64.wrap ((i : Int) + 1))) = i64 ((i + 1 : Nat) : Int)
     rw [zH (by omega) (by omega)]
     rfl
    ·show some (Ob.rs 157 1 ((((((wM subs i).map (renL (swp (.n 50) (.s 903 i)))).map (renL (swp (.n 999) (.l 0)))).map (scrPL (uV (isK (.n 50))))).map (renL (swp (.n 999) (.l 0)))).map (renL (swp (.n 50) (.s 903 i))))) = _
     rw [List.map_map,List.map_map,List.map_map,List.map_map]
     refine congrArg (fun x => some (Ob.rs 157 1 x)) (mU _ fun j => ?_)
     by_cases hj : j = i
     ·subst hj
      rw [hrow]
      unfold rI
      rw [if_pos (by omega)]
      show renL _ (renL _ (scrPL _ (renL _ [AV.ref (swp (.n 50) (.s 903 j) (.s 903 j)) 0 _]))) = _
      rw [hsw]
      rfl
     ·unfold rI
      by_cases hji : j < i
      ·rw [if_pos hji,if_pos (by omega)]
       rfl
      ·rw [if_neg hji,if_neg (by omega)]
       show renL _ (renL _ (scrPL _ (renL _ [AV.ref (swp (.n 50) (.s 903 i) (.s 903 j)) 0 _]))) = _
       rw [hne j hj]
       show [AV.ref (swp (.n 50) (.s 903 i) (.s 903 j)) 0 _] = _
       rw [hne j hj]
    ·show (St.H _ (swp (.n 50) (.s 903 i) (.s 903 j))).map _ = _
     by_cases hj : j = i
     ·subst hj
      rw [hsw]
      show Option.map _ (Option.map _ (H1 (.n 50))) = _
      rw [q]
      unfold vT
      rw [if_pos (by omega)]
      rfl
     ·rw [hne j hj]
      show Option.map _ (Option.map _ (Option.map _ (Option.map _ (Option.map _ (St.H _ (swp (.n 50) (.s 903 i) (.s 903 j))))))) = _
      rw [hne j hj]
      show Option.map _ (Option.map _ (Option.map _ (Option.map _ (Option.map _ (vT subs i j))))) = _
      rw [jW,jW,uR,jW,jW]
      unfold vT
      by_cases hji : j < i
      ·rw [if_pos hji,if_pos (by omega)]
      ·rw [if_neg hji,if_neg (by omega)]
 ·conv => whnf
  have hkk : i = subs.length := by
   have : ¬ i < subs.length := by simpa using h
   omega
  subst hkk
  refine ⟨_,Weak.refl,?_⟩
  conv => whnf
  exact ⟨fun _ => false,rfl,fun κ => rfl⟩
end Ai
end
section
set_option maxRecDepth 100000
namespace Ai
open Go Go.Proofs
def tJ : Key → Bool
 | .n k => Nat.beq k 903
 | .s o _ => Nat.beq o 903
 | .l _ => false
theorem vB {p : Key → Bool} (subs : List (List (List D))) (hp : ∀ j,p (.s 903 j) = false) : (wM subs 0).map (scrPL p) = wM subs 0 :=
 mU _ fun j => by
  unfold rI
  rw [if_neg (by omega)]
  simp [scrPL,scrP,hp j]
theorem dW {f : Key → Key} (subs : List (List (List D))) (hf : ∀ j,f (.s 903 j) = .s 903 j) : (wM subs 0).map (renL f) = wM subs 0 :=
 mU _ fun j => by
  unfold rI
  rw [if_neg (by omega)]
  simp [renL,ren,hf j]
theorem pL (c l d : Int) (subs : List (List (List D))) (k : Int) (hx : subs.length ≤ 1048576) (hs : ∀ q ∈ subs,∀ c ∈ q,c.length = 4) (ht : tot subs subs.length ≤ 1048576) (h0 : 0 ≤ k) (h1 : k ≤ 1048576) (H0 : Key → Option Ob)
  (hH : H0 (.n 903) = some (.rs 157 1 (wM subs 0))) (hF : ∀ j,H0 (.s 903 j) = vT subs 0 j) :
  IOCall EE 17 [.agg [i64 c,i64 l,i64 d,.dref (.n 903) subs.length],i64 k] H0 (fun r H1 => r = i64 (k + 4 * tot subs subs.length) ∧ ∀ κ,H1 κ = none) := by
 refine io_of_AW (fn := Tryz.f17) (c := Tryz.f17.body.getD .skip) Tryz.func17 rfl (by kernel_rfl) rfl ?_
 have hat : At [(0,.agg [i64 c,i64 l,i64 d,.dref (.n 903) subs.length]),(1,i64 k)] [(.n 903,.rs 157 1 (wM subs 0))] [(903,vT subs 0)] ⟨fun i => [AV.agg [i64 c,i64 l,i64 d,.dref (.n 903) subs.length],i64 k].getD i .junk,H0⟩ := ⟨⟨rfl,rfl,trivial⟩,⟨hH,trivial⟩,⟨hF,trivial⟩⟩
 obtain ⟨τ,H,hf⟩ := hat.form
 rw [hf]
 conv => whnf
 refine .inr (.inl ⟨999,0,tJ,(fun r H1 => r = i64 (k + 4 * tot subs subs.length) ∧ ∀ κ,H1 κ = none),?_,rfl,?_⟩)
 ·refine io_congr (l6 subs k hx hs ht h0 h1 _ ?_ fun j => ?_) rfl
  ·show some (Ob.rs 157 1 ((((wM subs 0).map (scrPL (isK (.n 2)))).map (renL (swp (.n 999) (.l 0)))).map (scrPL (fun o => !tJ o)))) = _
   rw [vB subs (fun j => rfl),dW subs (fun j => rfl),vB subs (fun j => rfl)]
  ·show Option.map _ (Option.map _ (Option.map _ (vT subs 0 j))) = _
   rw [uR,jW,uR]
 ·rintro r H1 ⟨rfl,q⟩
  refine ⟨fun κ _ => q κ,fun n hn => (by cases hn),?_⟩
  conv => whnf
  refine ⟨_,Weak.refl,?_⟩
  conv => whnf
  exact ⟨fun _ => false,rfl,fun κ => rfl⟩
def gA (r : List OpL) : List (List D) := r.map encOp
def zP (p : ProgL) : List (List (List D)) := p.rs.map gA
def aD (subs : List (List (List D))) (i j : Nat) : List AV := if j < i then [.ref (.s 900 j) 0 (subs.getD j []).length] else [.d .nil]
def vL (subs : List (List (List D))) (i : Nat) : List (List AV) := (List.range subs.length).map (aD subs i)
def nP (subs : List (List (List D))) (i j : Nat) : Option Ob := if j < i then (subs[j]?).map (.ds 183 4) else none
theorem rowsT_zero (subs : List (List (List D))) : vL subs 0 = List.replicate subs.length [.d .nil] := by
 apply List.ext_getElem?
 intro j
 simp only [vL,List.getElem?_map,List.getElem?_replicate,List.getElem?_range']
 by_cases h : j < subs.length
 ·rw [if_pos h,List.getElem?_eq_getElem (by simpa using h)]
  simp [aD]
 ·rw [if_neg h,List.getElem?_eq_none (by simpa using h)]
  rfl
theorem rowsT_map {subs : List (List (List D))} {i i' : Nat} (f : List AV → List AV) (h : ∀ j,f (aD subs i j) = aD subs i' j) : (vL subs i).map f = vL subs i' := by
 unfold vL
 rw [List.map_map]
 exact List.map_congr_left fun j _ => h j
theorem eA {p : Key → Bool} (subs : List (List (List D))) (i : Nat) (hp : ∀ j,p (.s 900 j) = false) : (vL subs i).map (scrPL p) = vL subs i :=
 rowsT_map _ fun j => by
  unfold aD
  split
  ·simp [scrPL,scrP,hp j]
  ·rfl
theorem famT_ren (f : Key → Key) (subs : List (List (List D))) (i j : Nat) : (nP subs i j).map (renO f) = nP subs i j := by
 unfold nP
 split
 ·cases subs[j]? <;> rfl
 ·rfl
theorem r4 (p : Key → Bool) (subs : List (List (List D))) (i j : Nat) : (nP subs i j).map (scrPO p) = nP subs i j := by
 unfold nP
 split
 ·cases subs[j]? <;> rfl
 ·rfl
theorem rowsT_put {subs : List (List (List D))} {k : Nat} (h : k < subs.length) : ((xG (vL subs k) 1 k 0 [.ref (.n 20) 0 subs[k].length]).map (renL (swp (.n 20) (.s 900 k)))) = vL subs (k + 1) := by
 have hlen : (vL subs k).length = subs.length := by simp [vL]
 apply List.ext_getElem?
 intro j
 by_cases hj : j = k
 ·subst hj
  rw [List.getElem?_map,wY (c := aD subs j j) (c' := [.ref (.n 20) 0 subs[j].length]) (by simp [vL,h]) rfl]
  simp only [vL,List.getElem?_map,List.getElem?_range h,Option.map_some,Option.some.injEq]
  unfold aD
  rw [if_pos (by omega)]
  have e : swp (.n 20) (.s 900 j) (.n 20) = .s 900 j := by simp [swp,Key.beq]
  simp [renL,ren,e,List.getD_eq_getElem?_getD,h]
 ·by_cases hl : j < subs.length
  ·rw [List.getElem?_map,rP hj (c := aD subs k j) (by simp [vL,hl])]
   simp only [vL,List.getElem?_map,List.getElem?_range hl,Option.map_some,Option.some.injEq]
   have e : swp (.n 20) (.s 900 k) (.s 900 j) = .s 900 j := by simp [swp,Key.beq,nbeq_ne hj]
   unfold aD
   by_cases hjk : j < k
   ·rw [if_pos hjk,if_pos (by omega)]
    simp [renL,ren,e]
   ·rw [if_neg hjk,if_neg (by omega)]
    simp [renL,ren]
  ·rw [List.getElem?_eq_none (by simp [xG]; simp [hlen]; omega),List.getElem?_eq_none (by simp [vL]; omega)]
def lend9 : Key → Bool
 | .n k => Nat.beq k 900
 | .s o _ => Nat.beq o 900
 | .l _ => false
theorem own1_n {x : AV} {q : Nat} (h : q ≠ 900) : ownH [x] (.n q) = none := by
 unfold ownH
 cases hb : Nat.blt q 900 with
 |true => simp only [hb,cond_true]
 |false =>
  have : ¬ q < 900 := by
   intro e
   have : Nat.blt q 900 = true := by simpa [Nat.blt_eq] using e
   rw [this] at hb; cases hb
  have : ([x] : List AV)[q - 900]? = none := List.getElem?_eq_none (by simp; omega)
  simp only [hb,cond_false,this]
theorem own1_s {x : AV} {q j : Nat} (h : q ≠ 900) : ownH [x] (.s q j) = none := by
 unfold ownH
 cases hb : Nat.blt q 900 with
 |true => simp only [hb,cond_true]
 |false =>
  have : ¬ q < 900 := by
   intro e
   have : Nat.blt q 900 = true := by simpa [Nat.blt_eq] using e
   rw [this] at hb; cases hb
  have : ([x] : List AV)[q - 900]? = none := List.getElem?_eq_none (by simp; omega)
  simp only [hb,cond_false,this]
theorem rowsT_own (xs : List (List OpL)) : vL (xs.map gA) xs.length = ownRows 900 0 (xs.map fun _ => [.nil]) (xs.map gA) := by
 unfold ownRows vL
 apply List.ext_getElem?
 intro j
 by_cases h : j < xs.length
 ·have h2 : j < (xs.map gA).length := by simpa using h
  simp only [List.getElem?_map,List.getElem?_range h2,Option.map_some,List.getElem?_mapIdx,List.getElem?_eq_getElem h]
  unfold aD
  rw [if_pos h]
  rfl
 ·rw [List.getElem?_eq_none (by simp; omega),List.getElem?_eq_none (by simp; omega)]
theorem toOpSS_own (xs : List (List OpL)) (hx : xs.length ≤ 1048576) (hx2 : ∀ x ∈ xs,x.length ≤ 1048576) : CallsTo EE 58 [sl (xs.map zS)] (· = .ownF 1 [.uqd 157 1 0 183 4 (xs.map fun _ => [.nil]) (xs.map gA)]) := by
 refine pZ (fun v hv => ?_) ?_
 ·simp only [List.mem_cons,List.not_mem_nil,or_false] at hv
  subst hv
  show (xs.map _).length = (xs.map gA).length
  simp
 refine io_of_AW (fn := Tryz.f58) (c := Tryz.f58.body.getD .skip) Tryz.func58 rfl (by kernel_rfl) rfl ?_
 conv => whnf
 refine ⟨by simp; omega,?_⟩
 conv => whnf
 refine aloopF (fun k : Nat => [(0,sl (xs.map zS)),(3,.dref (.n 900) xs.length),(4,i64 k)]) (fun k => [(.n 900,.rs 157 1 (vL (xs.map gA) k))]) (fun k => [(900,nP (xs.map gA) k)]) (fun k => xs.length - k) (fun k => k ≤ xs.length) 0
  ((rZ (.n 7) rfl).trans (vP 7 900)) ?_ ?_ ?_ (Nat.zero_le _) ?_
 ·exact ⟨rfl,by show AV.dref (.n 900) (((xs.map zS).length : Nat) : Int).toNat = _; simp,rfl,trivial⟩
 ·refine ⟨?_,trivial⟩
  show some (Ob.rs 157 1 (((List.replicate (((xs.map zS).length : Nat) : Int).toNat [D.nil]).map (List.map AV.d)).map (renL (swp (.n 7) (.n 900))))) = _
  rw [rowsT_zero]
  simp [renL,ren]
 ·refine ⟨fun j => ?_,trivial⟩
  unfold nP
  rw [if_neg (by omega)]
  rfl
 intro k τ H hk
 have hk : k ≤ xs.length := hk
 conv => whnf
 refine kbi (fun h => ?_) (fun h => ?_)
 ·have hlt := xH h
  have hlt2 : k < (xs.map gA).length := by simpa using hlt
  have hgk : (xs.map gA)[k] = xs[k].map encOp := by simp [gA]
  conv => whnf
  refine ⟨zS xs[k],yB zS hlt rfl,?_⟩
  conv => whnf
  refine ⟨_,j1 xs[k] (hx2 _ (List.getElem_mem hlt)),?_⟩
  rintro r rfl
  refine .inr ⟨_,rfl,?_⟩
  conv => whnf
  refine ⟨⟨by omega,by omega⟩,?_⟩
  conv => whnf
  refine ⟨k + 1,_,vK 20 900 k,by show k + 1 ≤ xs.length; omega,by show xs.length - (k + 1) < xs.length - k; omega,⟨rfl,rfl,next_i64 hlt (by omega),trivial⟩,⟨?_,trivial⟩,⟨fun j => ?_,trivial⟩⟩
  ·show some (Ob.rs 157 1 ((xG ((vL (xs.map gA) k).map (scrPL (isK (.n 20)))) 1 ((k : Int)).toNat 0 [.ref (.n 20) 0 (xs[k].map encOp).length]).map (renL (swp (.n 20) (.s 900 k))))) = _
   rw [eA _ _ (fun j => rfl),Int.toNat_natCast,← hgk,rowsT_put hlt2]
  ·show (St.H _ (swp (.n 20) (.s 900 k) (.s 900 j))).map _ = _
   by_cases hj : j = k
   ·subst hj
    have e : swp (.n 20) (.s 900 j) (.s 900 j) = .n 20 := by simp [swp,Key.beq]
    rw [e]
    unfold nP
    rw [if_pos (by omega),List.getElem?_eq_getElem hlt2,hgk]
    rfl
   ·have e : swp (.n 20) (.s 900 k) (.s 900 j) = .s 900 j := by simp [swp,Key.beq,nbeq_ne hj]
    rw [e]
    show Option.map _ (Option.map _ (nP (xs.map gA) k j)) = _
    rw [r4,famT_ren]
    unfold nP
    by_cases hjk : j < k
    ·rw [if_pos hjk,if_pos (by omega)]
    ·rw [if_neg hjk,if_neg (by omega)]
 ·have hkk : k = xs.length := by
   have : ¬ k < xs.length := by simpa using h
   omega
  subst hkk
  conv => whnf
  refine ⟨_,Weak.refl,?_⟩
  conv => whnf
  refine ⟨lend9,?_,fun κ hκ => ?_⟩
  ·show AV.dref (.n 900) xs.length = AV.dref (.n 900) (xs.map _).length
   rw [List.length_map]
  ·cases κ with
   |l n => exact absurd rfl hκ
   |n q =>
    by_cases hq : q = 900
    ·subst hq
     show some (Ob.rs 157 1 ((vL (xs.map gA) xs.length).map (scrPL (fun o => !lend9 o)))) = some (Ob.rs 157 1 (ownRows 900 0 (xs.map fun _ => [.nil]) (xs.map gA)))
     rw [eA _ _ (fun j => rfl),rowsT_own]
    ·exact absurd (own1_n hq) hκ
   |s o j =>
    by_cases hq : o = 900
    ·subst hq
     show Option.map _ (nP (xs.map gA) xs.length j) = ((xs.map gA)[j]?).map (Ob.ds 183 4)
     rw [r4]
     unfold nP
     by_cases hj : j < xs.length
     ·rw [if_pos hj]
     ·rw [if_neg hj,List.getElem?_eq_none (by simp; omega)]
      rfl
    ·exact absurd (own1_s hq) hκ
end Ai
end
section
set_option maxRecDepth 100000
namespace Ai
open Go Go.Proofs
def rwQ (o : Nat) (l : List (List Int)) (j : Nat) : List AV := [.ref (.s o j) 0 (l.getD j []).length]
def wI (o : Nat) (l : List (List Int)) (k : Nat) : List (List AV) := (List.range k).map (rwQ o l)
def fmQ (l : List (List Int)) (k j : Nat) : Option Ob := if j < k then some (.ds 3 1 ((l.getD j []).map encInt)) else none
theorem uL {p : Key → Bool} {o : Nat} (l : List (List Int)) (k : Nat) (hp : ∀ j,p (.s o j) = false) : (wI o l k).map (scrPL p) = wI o l k := by
 unfold wI
 rw [List.map_map]
 refine List.map_congr_left fun j _ => ?_
 simp [rwQ,scrPL,scrP,hp j]
theorem qW {f : Key → Key} {o o2 : Nat} (l : List (List Int)) (k : Nat) (hf : ∀ j,j < k → f (.s o j) = .s o2 j) : (wI o l k).map (renL f) = wI o2 l k := by
 unfold wI
 rw [List.map_map]
 refine List.map_congr_left fun j hj => ?_
 have hj : j < k := by simpa using hj
 simp [rwQ,renL,ren,hf j hj]
theorem qR (f : Key → Key) (l : List (List Int)) (k j : Nat) : (fmQ l k j).map (renO f) = fmQ l k j := by
 unfold fmQ
 split <;> rfl
theorem qQ (p : Key → Bool) (l : List (List Int)) (k j : Nat) : (fmQ l k j).map (scrPO p) = fmQ l k j := by
 unfold fmQ
 split <;> rfl
theorem rwsQ_succ (o : Nat) (l : List (List Int)) (k : Nat) : wI o l (k + 1) = wI o l k ++ [rwQ o l k] := by
 unfold wI
 rw [List.range_succ,List.map_append]
 rfl
theorem j6 (o : Nat) (l : List (List Int)) (k : Nat) : (wI o l k).length = k := by simp [wI]
def b9 (l : List (List Int)) : AV := .uqd 41 1 0 3 1 (l.map fun _ => [.nil]) (l.map fun x => x.map encInt)
theorem lJ (l : List (List Int)) : wI 900 l l.length = ownRows 900 0 (l.map fun _ => [.nil]) (l.map fun x => x.map encInt) := by
 unfold ownRows wI
 apply List.ext_getElem?
 intro j
 by_cases h : j < l.length
 ·simp [rwQ,h,List.getD_eq_getElem?_getD]
 ·rw [List.getElem?_eq_none (by simp; omega),List.getElem?_eq_none (by simp; omega)]
theorem fmQ_own (l : List (List Int)) (j : Nat) : fmQ l l.length j = ((l.map fun x => x.map encInt)[j]?).map (Ob.ds 3 1) := by
 unfold fmQ
 by_cases h : j < l.length
 ·rw [if_pos h]
  simp [h,List.getD_eq_getElem?_getD]
 ·rw [if_neg h,List.getElem?_eq_none (by simp; omega)]
  rfl
theorem q6 {S : St} {l : List (List Int)} {o : Key} {q : Nat} (h : S.H o = some (.rs 41 1 (wI q l l.length))) (hf : ∀ j,S.H (.s q j) = fmQ l l.length j) : jI S o l.length (l.map wB) := by
 refine viewR h (by simp) (by simp [j6]) ?_
 intro j row d hr hd
 have hj : j < l.length := by
  have := (List.getElem?_eq_some_iff.1 hd).1
  simpa using this
 have h1 : row = rwQ q l j := by
  simp [wI,hj] at hr
  exact hr.symm
 have h2 : d = wB l[j] := by
  simp [hj] at hd
  exact hd.symm
 subst h1 h2
 have h3 := hf j
 unfold fmQ at h3
 rw [if_pos hj] at h3
 simp [rwQ,fz1s,fz1,h3,wB,List.getD_eq_getElem?_getD,hj,List.take_of_length_le]
end Ai
end
section
set_option maxRecDepth 100000
namespace Ai
open Go Go.Proofs
def wT (l : List (List Int)) (i : Nat) : Nat := ((l.take i).map List.length).sum
theorem mP {l : List (List Int)} {i : Nat} (h : i < l.length) : wT l (i + 1) = wT l i + l[i].length := by
 unfold wT
 rw [List.take_succ_eq_append_getElem h,List.map_append,List.sum_append]
 simp
theorem totQ_le (l : List (List Int)) (i : Nat) : wT l i ≤ wT l l.length := by
 unfold wT
 rw [List.take_length]
 have : ∀ (l : List Nat) (i : Nat),(l.take i).sum ≤ l.sum := by
  intro l
  induction l with
  |nil => simp
  |cons x xs ih =>
   intro i
   cases i with
   |zero => simp
   |succ i => simp only [List.take_succ_cons,List.sum_cons]; have := ih i; omega
 rw [List.map_take]
 exact this _ i
def uN (l : List (List Int)) (k : Int) (i : Nat) : List (List Int) := l.mapIdx fun j x => if j < i then uX (k + wT l j) x.length else x
theorem qX (l : List (List Int)) (k : Int) (i : Nat) : (uN l k i).length = l.length := by simp [uN]
theorem l4 (l : List (List Int)) (k : Int) (i j : Nat) (h : j < l.length) : (uN l k i)[j]'(by rw [qX]; exact h) = if j < i then uX (k + wT l j) l[j].length else l[j] := by simp [uN]
theorem gC (l : List (List Int)) (k : Int) (i j : Nat) (h : j < l.length) : (uN l k i).getD j [] = if j < i then uX (k + wT l j) l[j].length else l[j] := by
 rw [List.getD_eq_getElem?_getD,List.getElem?_eq_getElem (by rw [qX]; exact h),Option.getD_some,l4 _ _ _ _ h]
theorem l3 (l : List (List Int)) (k : Int) (i j : Nat) : ((uN l k i).getD j []).length = (l.getD j []).length := by
 by_cases h : j < l.length
 ·rw [gC _ _ _ _ h]
  have e : l.getD j [] = l[j] := by simp [List.getD_eq_getElem?_getD,h]
  rw [e]
  split
  ·rw [gD]
  ·rfl
 ·simp [List.getD_eq_getElem?_getD,List.getElem?_eq_none (show l.length ≤ j by omega),List.getElem?_eq_none (show (uN l k i).length ≤ j by rw [qX]; omega)]
theorem mixQ_zero (l : List (List Int)) (k : Int) : uN l k 0 = l := by
 apply List.ext_getElem?
 intro j
 simp [uN]
theorem rwsQ_mix (o : Nat) (l : List (List Int)) (k : Int) (i n : Nat) : wI o (uN l k i) n = wI o l n := by
 unfold wI
 refine List.map_congr_left fun j _ => ?_
 unfold rwQ
 rw [l3]
theorem fC (l : List (List Int)) (hx : l.length ≤ 1048576) (hx2 : ∀ x ∈ l,x.length ≤ 1048576) : CallsTo EE 15 [sl (l.map wB),sl (l.map wB)] (· = bv true) := by
 refine callsTo_of_AW (fn := Tryz.f15) Tryz.func15 rfl (by kernel_rfl) rfl ?_
 conv => whnf
 refine kbi (fun h => absurd h (by simp)) (fun _ => ?_)
 conv => whnf
 refine xA (fun k : Nat => [(0,sl (l.map wB)),(1,sl (l.map wB)),(5,i64 k)]) (fun k => []) (fun k => l.length - k) (fun k => k ≤ l.length) 0
  Weak.refl ⟨rfl,rfl,rfl,trivial⟩ trivial (Nat.zero_le _) ?_
 intro k τ H hk
 have hk : k ≤ l.length := hk
 conv => whnf
 refine kbi (fun h => ?_) (fun h => ?_)
 ·have hlt := xH h
  conv => whnf
  refine ⟨by kernel_rfl,?_⟩
  conv => whnf
  refine ⟨wB l[k],yB wB hlt rfl,?_⟩
  conv => whnf
  refine ⟨wB l[k],yB wB hlt rfl,?_⟩
  conv => whnf
  refine ⟨_,eqIntS_ok l[k] (hx2 _ (List.getElem_mem hlt)),?_⟩
  conv => whnf
  refine ⟨k + 1,hlt,by show l.length - (k + 1) < l.length - k; omega,⟨rfl,rfl,next_i64 hlt (by omega),trivial⟩,trivial⟩
 ·conv => whnf
  try rfl
theorem oX (l : List (List Int)) (k : Int) (hx : l.length ≤ 1048576) (ht : wT l l.length ≤ 1048576) (h0 : 0 ≤ k) (h1 : k ≤ 1048576) : CallsTo EE 19 [sl ((uN l k l.length).map wB),i64 k] (· = i64 (k + wT l l.length)) := by
 refine callsTo_of_AW (fn := Tryz.f19) Tryz.func19 rfl (by kernel_rfl) rfl ?_
 conv => whnf
 refine xA (fun i : Nat => [(0,sl ((uN l k l.length).map wB)),(1,i64 (k + (wT l i : Int))),(5,i64 i)]) (fun i => []) (fun i => l.length - i) (fun i => i ≤ l.length) 0
  Weak.refl ⟨rfl,?_,rfl,trivial⟩ trivial (Nat.zero_le _) ?_
 ·show i64 k = i64 (k + ((wT l 0 : Nat) : Int))
  rw [show k + ((wT l 0 : Nat) : Int) = k by simp [wT]]
 intro i τ H hi
 have hi : i ≤ l.length := hi
 conv => whnf
 refine kbi (fun h => ?_) (fun h => ?_)
 ·have hlt0 := xH h
  have hlt : i < l.length := by rw [qX] at hlt0; exact hlt0
  have hts := mP hlt
  have htl := totQ_le l (i + 1)
  have hg : (uN l k l.length)[i] = uX (k + wT l i) l[i].length := by rw [l4 _ _ _ _ hlt,if_pos hlt]
  conv => whnf
  refine ⟨wB (uN l k l.length)[i],yB wB hlt0 rfl,?_⟩
  rw [hg]
  conv => whnf
  refine ⟨_,n8 (k + wT l i) l[i].length (by omega) (by omega) (by omega),?_⟩
  rintro r rfl
  conv => whnf
  refine kbi (fun h => absurd h (by simp; omega)) (fun _ => ?_)
  conv => whnf
  refine ⟨i + 1,hlt,by show l.length - (i + 1) < l.length - i; omega,⟨rfl,?_,next_i64 hlt (by omega),trivial⟩,trivial⟩
  show i64 (k + ((wT l i : Nat) : Int) + ((l[i].length : Nat) : Int)) = i64 (k + ((wT l (i + 1) : Nat) : Int))
  rw [hts]
  exact congrArg i64 (by omega)
 ·have hkk : i = l.length := by
   have : ¬ i < (uN l k l.length).length := by simpa using h
   rw [qX] at this
   omega
  subst hkk
  conv => whnf
  try rfl
end Ai
end
section
set_option maxRecDepth 100000
namespace Ai
open Go Go.Proofs
def m4 : Key → Bool
 | .n k => false
 | .s o _ => Nat.beq o 943
 | .l k => Nat.beq k 76
theorem oQ (l : List (List Int)) (k : Int) (hx : l.length ≤ 1048576) (ht : wT l l.length ≤ 1048576) (h0 : 0 ≤ k) (h1 : k ≤ 1048576) (H0 : Key → Option Ob)
  (hH : H0 (.l 76) = some (.rs 41 1 (wI 943 l l.length))) (hF : ∀ j,H0 (.s 943 j) = fmQ l l.length j) :
  IOCall EE 18 [.dref (.l 76) l.length,i64 k] H0 (fun r H1 => r = i64 (k + wT l l.length) ∧ H1 (.l 76) = some (.rs 41 1 (wI 943 l l.length)) ∧ (∀ j,H1 (.s 943 j) = fmQ (uN l k l.length) l.length j) ∧ ∀ κ,m4 κ = false → H1 κ = none) := by
 refine io_of_AW (fn := Tryz.f18) (c := Tryz.f18.body.getD .skip) Tryz.func18 rfl (by kernel_rfl) rfl ?_
 have hat : At [(0,.dref (.l 76) l.length),(1,i64 k)] [(.l 76,.rs 41 1 (wI 943 l l.length))] [(943,fmQ l l.length)] ⟨fun i => [AV.dref (.l 76) l.length,i64 k].getD i .junk,H0⟩ := ⟨⟨rfl,rfl,trivial⟩,⟨hH,trivial⟩,⟨hF,trivial⟩⟩
 obtain ⟨τ,H,hf⟩ := hat.form
 rw [hf]
 conv => whnf
 refine aloopF (fun i : Nat => [(0,.dref (.l 76) l.length),(1,i64 (k + (wT l i : Int))),(5,i64 i)]) (fun i => [(.l 76,.rs 41 1 (wI 943 l l.length))]) (fun i => [(943,fmQ (uN l k i) l.length)]) (fun i => l.length - i) (fun i => i ≤ l.length) 0
  Weak.refl ⟨rfl,?_,rfl,trivial⟩ ⟨rfl,trivial⟩ ⟨fun j => ?_,trivial⟩ (Nat.zero_le _) ?_
 ·show i64 k = i64 (k + ((wT l 0 : Nat) : Int))
  rw [show k + ((wT l 0 : Nat) : Int) = k by simp [wT]]
 ·rw [mixQ_zero]; rfl
 intro i τ H hi
 have hi : i ≤ l.length := hi
 conv => whnf
 refine kbi (fun h => ?_) (fun h => ?_)
 ·have hlt : i < l.length := by simpa using h
  have hts := mP hlt
  have htl := totQ_le l (i + 1)
  have hgi : l.getD i [] = l[i] := by simp [List.getD_eq_getElem?_getD,hlt]
  conv => whnf
  refine ⟨⟨by omega,by omega⟩,?_⟩
  conv => whnf
  refine ⟨[.ref (.s 943 i) 0 l[i].length],⟨?_,Nat.le_refl _⟩,?_⟩
  ·simp [wI,rwQ,hlt]
  conv => whnf
  have hfi : fmQ (uN l k i) l.length i = some (.ds 3 1 (l[i].map encInt)) := by
   unfold fmQ
   rw [if_pos hlt,gC _ _ _ _ hlt,if_neg (by omega)]
  have hsw : swp (.n 77) (.s 943 i) (.s 943 i) = .n 77 := by simp [swp,Key.beq]
  have hsn : swp (.n 77) (.s 943 i) (.n 77) = .s 943 i := by simp [swp,Key.beq]
  have hne : ∀ j,j ≠ i → swp (.n 77) (.s 943 i) (.s 943 j) = .s 943 j := fun j hj => by simp [swp,Key.beq,nbeq_ne hj]
  split
  case' h_1 => conv => whnf
  case' h_1 => refine .inr (.inr (.inr (.inr (.inr ?_))))
  case' h_2 => refine .inr (.inr (.inr (.inr ?_)))
  all_goals
   refine ⟨_,31,[],vK 77 943 i,rfl,77,77,isK (.l 77),(fun r H1 => r = i64 ((k + (wT l i : Int)) + l[i].length) ∧ H1 (.l 77) = some (.ds 3 1 ((uX (k + (wT l i : Int)) l[i].length).map encInt)) ∧ ∀ κ',isK (.l 77) κ' = false → H1 κ' = none),?_,rfl,?_⟩
   ·refine io_congr (l7 (.l 77) (.inr rfl) l[i] (k + (wT l i : Int)) (by omega) (by omega) (by omega) _ ?_) ?_
    ·show Option.map _ (Option.map _ (Option.map _ (fmQ (uN l k i) l.length i))) = _
     rw [hfi]; rfl
    ·show [scrP _ (.ref (swp (.n 77) (.l 77) (swp (.n 77) (.s 943 i) (.s 943 i))) 0 l[i].length),_] = _
     rw [hsw]; rfl
   ·rintro r H1 ⟨rfl,e1,q⟩
    refine ⟨q,fun n hn => ⟨.ds 3 1 (l[i].map encInt),?_,(uX (k + (wT l i : Int)) l[i].length).map encInt,?_,by simp [gD]⟩,?_⟩
    ·have : n = 77 := Nat.eq_of_beq_eq_true hn
     subst this
     show Option.map _ (Option.map _ (fmQ (uN l k i) l.length i)) = _
     rw [hfi]; rfl
    ·have : n = 77 := Nat.eq_of_beq_eq_true hn
     subst this
     exact e1
    conv => whnf
    refine ⟨i + 1,_,vK 77 943 i,by show i + 1 ≤ l.length; omega,by show l.length - (i + 1) < l.length - i; omega,⟨rfl,?_,next_i64 hlt (by omega),trivial⟩,⟨?_,trivial⟩,⟨fun j => ?_,trivial⟩⟩
    ·show i64 (k + ((wT l i : Nat) : Int) + ((l[i].length : Nat) : Int)) = i64 (k + ((wT l (i + 1) : Nat) : Int))
     rw [hts]
     exact congrArg i64 (by omega)
    ·show some (Ob.rs 41 1 ((((((wI 943 l l.length).map (renL (swp (.n 77) (.s 943 i)))).map (renL (swp (.n 77) (.l 77)))).map (scrPL (uV (isK (.l 77))))).map (renL (swp (.n 77) (.l 77)))).map (renL (swp (.n 77) (.s 943 i))))) = _
     rw [List.map_map,List.map_map,List.map_map,List.map_map]
     refine congrArg (fun x => some (Ob.rs 41 1 x)) ?_
     unfold wI
     rw [List.map_map]
     refine List.map_congr_left fun j _ => ?_
     by_cases hj : j = i
     ·subst hj
      show renL _ (renL _ (scrPL _ (renL _ [AV.ref (swp (.n 77) (.s 943 j) (.s 943 j)) 0 _]))) = _
      rw [hsw]
      show [AV.ref (swp (.n 77) (.s 943 j) (.n 77)) 0 _] = _
      rw [hsn]
      rfl
     ·show renL _ (renL _ (scrPL _ (renL _ [AV.ref (swp (.n 77) (.s 943 i) (.s 943 j)) 0 _]))) = _
      rw [hne j hj]
      show [AV.ref (swp (.n 77) (.s 943 i) (.s 943 j)) 0 _] = _
      rw [hne j hj]
      rfl
    ·show (St.H _ (swp (.n 77) (.s 943 i) (.s 943 j))).map _ = _
     by_cases hj : j = i
     ·subst hj
      rw [hsw]
      show Option.map _ (Option.map _ (H1 (.l 77))) = _
      rw [e1]
      unfold fmQ
      rw [if_pos hlt,gC _ _ _ _ hlt,if_pos (by omega)]
      rfl
     ·rw [hne j hj]
      show Option.map _ (Option.map _ (Option.map _ (Option.map _ (Option.map _ (St.H _ (swp (.n 77) (.s 943 i) (.s 943 j))))))) = _
      rw [hne j hj]
      show Option.map _ (Option.map _ (Option.map _ (Option.map _ (Option.map _ (fmQ (uN l k i) l.length j))))) = _
      rw [qR,qR,qQ,qR,qR]
      unfold fmQ
      by_cases hjl : j < l.length
      ·rw [if_pos hjl,if_pos hjl,gC _ _ _ _ hjl,gC _ _ _ _ hjl]
       by_cases hji : j < i
       ·rw [if_pos hji,if_pos (by omega)]
       ·rw [if_neg hji,if_neg (by omega)]
      ·rw [if_neg hjl,if_neg hjl]
 ·conv => whnf
  have hkk : i = l.length := by
   have : ¬ i < l.length := by simpa using h
   omega
  subst hkk
  refine ⟨_,Weak.refl,?_⟩
  conv => whnf
  refine ⟨m4,rfl,?_,fun j => ?_,fun κ hκ => ?_⟩
  ·show some (Ob.rs 41 1 ((wI 943 l l.length).map (scrPL (fun o => !m4 o)))) = _
   rw [uL _ _ (fun j => rfl)]
  ·show Option.map _ (fmQ (uN l k l.length) l.length j) = _
   rw [qQ]
  ·unfold yJ
   rw [hκ]; rfl
end Ai
end
section
set_option maxRecDepth 100000
namespace Ai
open Go Go.Proofs
theorem picksOf_ok (xs : List RunT) (h : RowsUp (xs.map RunT.tk)) : CallsTo EE 60 [sl (xs.map jX)] (· = .ownF 1 [b9 (xs.map RunT.tk)]) := by
 have hN : xs.length ≤ 1048576 := by have := h.len; simpa using this
 have htk : ∀ x ∈ xs,x.tk.length ≤ 1048576 := fun x hx => h.row _ (List.mem_map_of_mem hx)
 refine pZ (fun v hv => ?_) ?_
 ·simp only [List.mem_cons,List.not_mem_nil,or_false] at hv
  subst hv
  show ((xs.map RunT.tk).map _).length = ((xs.map RunT.tk).map _).length
  simp
 refine io_of_AW (fn := Tryz.f60) (c := Tryz.f60.body.getD .skip) Tryz.func60 rfl (by kernel_rfl) rfl ?_
 generalize hl : xs.map RunT.tk = l at *
 have hll : l.length = xs.length := by rw [← hl]; simp
 conv => whnf
 refine aloopF (fun k : Nat => [(3,.dref (.n 900) k),(7,sl (xs.map jX)),(8,i64 (xs.map jX).length),(9,i64 k)]) (fun k => [(.n 900,.rs 41 1 (wI 900 l k))]) (fun k => [(900,fmQ l k)]) (fun k => xs.length - k) (fun k => k ≤ xs.length) 0
  ((rZ (.n 6) rfl).trans (vP 6 900)) ⟨rfl,rfl,rfl,rfl,trivial⟩ ⟨rfl,trivial⟩ ⟨fun j => ?_,trivial⟩ (Nat.zero_le _) ?_
 ·unfold fmQ
  rw [if_neg (by omega)]
  rfl
 intro k τ H hk
 have hk : k ≤ xs.length := hk
 conv => whnf
 refine kbi (fun hh => ?_) (fun hh => ?_)
 ·have hlt := xH hh
  have hlk : l.getD k [] = xs[k].tk := by rw [← hl]; simp [List.getD_eq_getElem?_getD,hlt]
  conv => whnf
  refine ⟨jX xs[k],yB jX hlt rfl,?_⟩
  conv => whnf
  refine ⟨_,Clone_ok xs[k].tk (htk _ (List.getElem_mem hlt)),?_⟩
  rintro r rfl
  refine .inr ⟨_,rfl,?_⟩
  conv => whnf
  refine .inr ?_
  conv => whnf
  refine ⟨⟨fun c hc => ?_,by show (k + 1) * 24 ≤ _; omega,by show k + 1 ≤ _; omega⟩,?_⟩
  ·have hc : c ∈ [[AV.ref (.n 16) 0 (xs[k].tk.map encInt).length]] := hc
   simp only [List.mem_cons,List.not_mem_nil,or_false] at hc
   subst hc; rfl
  conv => whnf
  refine ⟨k + 1,_,vK 16 900 k,by show k + 1 ≤ xs.length; omega,by show xs.length - (k + 1) < xs.length - k; omega,⟨rfl,rfl,rfl,next_i64 hlt (by omega),trivial⟩,⟨?_,trivial⟩,⟨fun j => ?_,trivial⟩⟩
  ·show some (Ob.rs 41 1 (((((((wI 900 l k).map (scrPL (isK (.n 5)))).map (scrPL (isK (.n 16)))).map (scrPL (isK (.n 17)))).take k ++ [[AV.ref (.n 16) 0 (xs[k].tk.map encInt).length]]).map (scrPL (isK (.n 900)))).map (renL (swp (.n 16) (.s 900 k))))) = _
   rw [uL _ _ (fun j => rfl),uL _ _ (fun j => rfl),uL _ _ (fun j => rfl),List.take_of_length_le (by rw [j6]; exact Nat.le_refl _),List.map_append,uL _ _ (fun j => rfl),List.map_append,qW,rwsQ_succ]
   ·have e : swp (.n 16) (.s 900 k) (.n 16) = .s 900 k := by simp [swp,Key.beq]
    rw [List.length_map]
    show some (Ob.rs 41 1 (wI 900 l k ++ [[AV.ref (swp (.n 16) (.s 900 k) (.n 16)) 0 xs[k].tk.length]])) = some (Ob.rs 41 1 (wI 900 l k ++ [[AV.ref (.s 900 k) 0 (l.getD k []).length]]))
    rw [e,hlk]
   ·intro j hj
    simp [swp,Key.beq,nbeq_ne (by omega : j ≠ k)]
  ·show (St.H _ (swp (.n 16) (.s 900 k) (.s 900 j))).map _ = _
   by_cases hj : j = k
   ·subst hj
    have e : swp (.n 16) (.s 900 j) (.s 900 j) = .n 16 := by simp [swp,Key.beq]
    rw [e]
    unfold fmQ
    rw [if_pos (by omega),hlk]
    rfl
   ·have e : swp (.n 16) (.s 900 k) (.s 900 j) = .s 900 j := by simp [swp,Key.beq,nbeq_ne hj]
    rw [e]
    show Option.map _ (Option.map _ (Option.map _ (Option.map _ (Option.map _ (fmQ l k j))))) = _
    rw [qQ,qQ,qQ,qQ,qR]
    unfold fmQ
    by_cases hjk : j < k
    ·rw [if_pos hjk,if_pos (by omega)]
    ·rw [if_neg hjk,if_neg (by omega)]
 ·have hkk : k = xs.length := by
   have : ¬ k < xs.length := by simpa using hh
   omega
  subst hkk
  conv => whnf
  refine .inl ⟨[sl (l.map wB),cD],[],_,⟨_,_,rfl,⟨_,rfl,?_⟩,_,_,rfl,rfl,rfl⟩,rfl,SortFunc_ok h,?_⟩
  ·rw [← hll]
   refine q6 (q := 900) ?_ (fun j => ?_)
   ·rfl
   ·rfl
  rintro r rfl
  refine ⟨fun c hc => (by cases hc),?_⟩
  conv => whnf
  refine ⟨_,Weak.refl,?_⟩
  conv => whnf
  refine ⟨lend9,?_,fun κ hκ => ?_⟩
  ·show AV.dref (.n 900) xs.length = AV.dref (.n 900) (l.map _).length
   rw [List.length_map,hll]
  ·cases κ with
   |l n => exact absurd rfl hκ
   |n q =>
    by_cases hq : q = 900
    ·subst hq
     show some (Ob.rs 41 1 ((wI 900 l xs.length).map (scrPL (fun o => !lend9 o)))) = some (Ob.rs 41 1 (ownRows 900 0 (l.map fun _ => [.nil]) (l.map fun x => x.map encInt)))
     rw [uL _ _ (fun j => rfl),← hll,lJ]
    ·exact absurd (own1_n hq) hκ
   |s o j =>
    by_cases hq : o = 900
    ·subst hq
     show Option.map _ (fmQ l xs.length j) = ((l.map fun x => x.map encInt)[j]?).map (Ob.ds 3 1)
     rw [qQ,← hll,fmQ_own]
    ·exact absurd (own1_s hq) hκ
end Ai
end
section
set_option maxRecDepth 100000
namespace Ai
open Go Go.Proofs Cyc
def natI (l : List Nat) : List Int := l.map fun k => ((k : Nat) : Int)
theorem natI_enc (l : List Nat) : l.map encN = (natI l).map encInt := by simp [natI,encN,encInt]
end Ai
end
section
set_option maxRecDepth 100000
namespace Ai
open Go Go.Proofs Cyc
open Classical in
noncomputable def keptBy (K : StL → Nat → Ev → Prop) (s : StL) (l : List Nat) (e : Ev) : List Nat := l.filter fun u => decide (K s u e)
structure XS where
 acc : List RunT
 tried : List Nat
 ok : Bool
noncomputable def enAt (p : ProgL) (r : RunT) (k : Nat) : Nat := (enabledL p r.s).getD k 0
noncomputable def runBy (p : ProgL) (r : RunT) (k : Nat) : RunT := ⟨0,r.tr ++ [(stepL p r.s (enAt p r k)).2],r.tk ++ [(k : Int)],(stepL p r.s (enAt p r k)).1⟩
open Classical in
noncomputable def xloop (p : ProgL) (sl : Bool) (K : StL → Nat → Ev → Prop) (f : RunT → List Nat → List RunT → List RunT × Bool) (r : RunT) (sleep : List Nat) (acc : List RunT) : Nat → XS
 | 0 => ⟨acc,[],true⟩
 |k + 1 =>
  if (xloop p sl K f r sleep acc k).ok = false ∨ (sl = true ∧ enAt p r k ∈ sleep) then xloop p sl K f r sleep acc k
  else ⟨(f (runBy p r k) (keptBy K r.s (sleep ++ (xloop p sl K f r sleep acc k).tried) (stepL p r.s (enAt p r k)).2) (xloop p sl K f r sleep acc k).acc).1,(xloop p sl K f r sleep acc k).tried ++ [enAt p r k],
   (f (runBy p r k) (keptBy K r.s (sleep ++ (xloop p sl K f r sleep acc k).tried) (stepL p r.s (enAt p r k)).2) (xloop p sl K f r sleep acc k).acc).2⟩
def leaf (p : ProgL) (b : Int) (c : Int) (r : RunT) : RunT := ⟨c,r.tr,r.tk,r.s⟩
noncomputable def xgo (p : ProgL) (b : Int) (sl : Bool) (K : StL → Nat → Ev → Prop) : Nat → RunT → List Nat → List RunT → List RunT × Bool
 | 0,r,sleep,acc => (acc,true)
 |n + 1,r,sleep,acc =>
  if 0 < codeL p r.s r.tr.length b then (acc ++ [leaf p b (codeL p r.s r.tr.length b) r],decide (acc.length + 1 ≤ 400))
  else ((xloop p sl K (xgo p b sl K n) r sleep acc (enabledL p r.s).length).acc,(xloop p sl K (xgo p b sl K n) r sleep acc (enabledL p r.s).length).ok)
theorem xloop_stay {p : ProgL} {sl : Bool} {K : StL → Nat → Ev → Prop} {f : RunT → List Nat → List RunT → List RunT × Bool} {r : RunT} {sleep : List Nat} {acc : List RunT} {k : Nat} (h : (xloop p sl K f r sleep acc k).ok = false) :
    ∀ m, k ≤ m → xloop p sl K f r sleep acc m = xloop p sl K f r sleep acc k := by
  intro m hm
  induction m with
  | zero => have : k = 0 := by omega
            subst this; rfl
  | succ m ih =>
    by_cases hk : k = m + 1
    · subst hk; rfl
    · have := ih (by omega)
      rw [xloop, if_pos (.inl (by rw [this]; exact h)), this]
theorem pB {p : ProgL} {K K' : StL → Nat → Ev → Prop} {f f' : RunT → List Nat → List RunT → List RunT × Bool} {r : RunT} {s1 s2 : List Nat} {acc : List RunT}
  (hf : ∀ r a b acc,f r a acc = f' r b acc) : ∀ k,xloop p false K f r s1 acc k = xloop p false K' f' r s2 acc k
 | 0 => rfl
 |k + 1 => by
  have ih := pB (p := p) (K := K) (K' := K') (r := r) (s1 := s1) (s2 := s2) (acc := acc) hf k
  rw [xloop,xloop,ih]
  have e : ∀ (q : Nat) (l : List Nat),(false = true ∧ q ∈ l) ↔ False := fun q l => by simp
  simp only [e]
  split
  ·rfl
  ·rw [hf _ _ (keptBy K' r.s (s2 ++ (xloop p false K' f' r s2 acc k).tried) (stepL p r.s (enAt p r k)).2)]
theorem aN (p : ProgL) (b : Int) (K K' : StL → Nat → Ev → Prop) : ∀ (n : Nat) (r : RunT) (s1 s2 : List Nat) (acc : List RunT),xgo p b false K n r s1 acc = xgo p b false K' n r s2 acc
 | 0,_,_,_,_ => rfl
 |n + 1,r,s1,s2,acc => by
  rw [xgo,xgo,pB (K' := K') (f' := xgo p b false K' n) (s2 := s2) (fun r a c acc => aN p b K K' n r a c acc)]
noncomputable def rG (p : ProgL) (tr : List Ev) : Nat → StL
 | 0 => vA p
 |i + 1 => (stepL p (rG p tr i) (tr.getD i gJ).th.toNat).1
theorem sK (p : ProgL) (tr : List Ev) (e : Ev) : ∀ i,i ≤ tr.length → rG p (tr ++ [e]) i = rG p tr i
 | 0,_ => rfl
 |i + 1,h => by
  rw [rG,rG,sK p tr e i (by omega)]
  have : (tr ++ [e]).getD i gJ = tr.getD i gJ := by
   rw [List.getD_eq_getElem?_getD,List.getD_eq_getElem?_getD,List.getElem?_append_left (by omega)]
  rw [this]
structure XR (p : ProgL) (b : Int) (r : RunT) : Prop where
 inv : AInv p r.s
 tr : TrOK r.s r.tr
 len : r.tr.length = r.tk.length
 le : (r.tr.length : Int) ≤ b
 tk : ∀ i ∈ r.tk,0 ≤ i ∧ i < 5
 at_ : rG p r.tr r.tr.length = r.s
 en : ∀ i,i < r.tr.length → (r.tr.getD i gJ).th.toNat ∈ enabledL p (rG p r.tr i) ∧ 0 ≤ (r.tr.getD i gJ).th
 run : ∀ picks,r.tk <+: picks → runOf p picks b = runT p picks b (b.toNat + 1 - r.tr.length) r.s r.tr r.tk
structure XEnd (p : ProgL) (b : Int) (x : RunT) : Prop where
 fin : REnd p b x
 en : ∀ i,i < x.tr.length → (x.tr.getD i gJ).th.toNat ∈ enabledL p (rG p x.tr i) ∧ 0 ≤ (x.tr.getD i gJ).th
 run : runOf p x.tk b = x
theorem XR.new {p : ProgL} (hg : p.goodS) {b : Int} (hb : 0 ≤ b) : XR p b ⟨0,[],[],vA p⟩ :=
 ⟨ainv_new hg,⟨fun e he => (by cases he),fun h => absurd rfl h⟩,rfl,hb,fun i hi => (by cases hi),rfl,fun i hi => (by cases hi),fun picks h => rfl⟩
theorem XR.mem {p : ProgL} {b : Int} {r : RunT} {k : Nat} (hk : k < (enabledL p r.s).length) : enAt p r k ∈ enabledL p r.s := by
 unfold enAt
 rw [List.getD_eq_getElem?_getD,List.getElem?_eq_getElem hk]; exact List.getElem_mem hk
theorem XR.step {p : ProgL} (hg : p.goodS) (hv : p.flt) {b : Int} {r : RunT} (h : XR p b r) (hc : ¬ 0 < codeL p r.s r.tr.length b) {k : Nat} (hk : k < (enabledL p r.s).length) : XR p b (runBy p r k) := by
 have hm := XR.mem (b := b) hk
 have h5 : (enabledL p r.s).length ≤ 5 := Nat.le_trans (enabledTo_le) h.inv.si.len
 have hlb := (en_ne hc).2
 have hle := h.le
 have hth : (stepL p r.s (enAt p r k)).2.th = (enAt p r k : Nat) := (step_ev p r.s _).1
 refine ⟨ainv_step hg hv hm h.inv,tr_step hg hm h.inv h.tr,by simp [runBy,h.len],?_,fun i hi => ?_,?_,fun i hi => ?_,fun picks hp => ?_⟩
 ·show ((r.tr ++ [_]).length : Int) ≤ b
  simp; omega
 ·rcases List.mem_append.1 hi with e | e
  ·exact h.tk i e
  ·simp only [List.mem_cons,List.not_mem_nil,or_false] at e
   subst e; omega
 ·show rG p (r.tr ++ [_]) (r.tr ++ [_]).length = (stepL p r.s _).1
  rw [List.length_append]
  show rG p (r.tr ++ [_]) (r.tr.length + 1) = _
  rw [rG,sK _ _ _ _ (Nat.le_refl _),h.at_]
  have : (r.tr ++ [(stepL p r.s (enAt p r k)).2]).getD r.tr.length gJ = (stepL p r.s (enAt p r k)).2 := by simp [List.getD_eq_getElem?_getD]
  rw [this,hth]
  rfl
 ·have hi : i < (r.tr ++ [(stepL p r.s (enAt p r k)).2]).length := hi
  show ((r.tr ++ [_]).getD i gJ).th.toNat ∈ enabledL p (rG p (r.tr ++ [_]) i) ∧ 0 ≤ ((r.tr ++ [_]).getD i gJ).th
  simp only [List.length_append,List.length_cons,List.length_nil] at hi
  rw [sK _ _ _ _ (by omega)]
  by_cases he : i = r.tr.length
  ·subst he
   have : (r.tr ++ [(stepL p r.s (enAt p r k)).2]).getD r.tr.length gJ = (stepL p r.s (enAt p r k)).2 := by simp [List.getD_eq_getElem?_getD]
   rw [this,hth,h.at_]
   exact ⟨by simpa using hm,by omega⟩
  ·have : (r.tr ++ [(stepL p r.s (enAt p r k)).2]).getD i gJ = r.tr.getD i gJ := by
    rw [List.getD_eq_getElem?_getD,List.getD_eq_getElem?_getD,List.getElem?_append_left (by omega)]
   rw [this]
   exact h.en i (by omega)
 ·have hp : r.tk ++ [(k : Int)] <+: picks := hp
  obtain ⟨more,rfl⟩ := hp
  rw [h.run _ ⟨[(k : Int)] ++ more,by simp⟩]
  have hn : b.toNat + 1 - r.tr.length = (b.toNat - r.tr.length) + 1 := by omega
  rw [hn,runT,if_neg hc]
  have hpk : pickOf (r.tk ++ [(k : Int)] ++ more) r.tk (enabledL p r.s).length = (k : Int) := by
   unfold pickOf
   rw [if_pos (by simp)]
   have : (r.tk ++ [(k : Int)] ++ more).getD r.tk.length 0 = (k : Int) := by simp [List.getD_eq_getElem?_getD]
   rw [this]
   exact Int.tmod_eq_of_lt (by omega) (by omega)
  simp only [hpk]
  show _ = runT p _ b (b.toNat + 1 - (r.tr ++ [_]).length) _ _ _
  rw [show b.toNat + 1 - (r.tr ++ [(stepL p r.s (enAt p r k)).2]).length = b.toNat - r.tr.length by simp]
  rfl
theorem XR.leaf {p : ProgL} {b : Int} {r : RunT} (h : XR p b r) (hc : 0 < codeL p r.s r.tr.length b) : XEnd p b (leaf p b (codeL p r.s r.tr.length b) r) := by
 refine ⟨⟨h.inv,h.tr,rfl,hc,h.len,h.le,h.tk⟩,h.en,?_⟩
 show runOf p r.tk b = _
 rw [h.run _ (List.prefix_rfl)]
 have hle := h.le
 have hn : b.toNat + 1 - r.tr.length = (b.toNat - r.tr.length) + 1 := by omega
 rw [hn,runT,if_pos hc]
 rfl
theorem xgo_all {p : ProgL} (hg : p.goodS) (hv : p.flt) {b : Int} {sl : Bool} {K : StL → Nat → Ev → Prop} : ∀ (n : Nat) (r : RunT) (sleep : List Nat) (acc : List RunT),XR p b r → (∀ x ∈ acc,XEnd p b x) → ∀ x ∈ (xgo p b sl K n r sleep acc).1,XEnd p b x
 | 0,r,sleep,acc,hr,ha => ha
 |n + 1,r,sleep,acc,hr,ha => by
  rw [xgo]
  split
  ·rename_i hc
   intro x hx
   rcases List.mem_append.1 hx with e | e
   ·exact ha x e
   ·simp only [List.mem_cons,List.not_mem_nil,or_false] at e
    subst e; exact hr.leaf hc
  ·rename_i hc
   have : ∀ k,k ≤ (enabledL p r.s).length → ∀ x ∈ (xloop p sl K (xgo p b sl K n) r sleep acc k).acc,XEnd p b x := by
    intro k
    induction k with
    |zero => exact fun _ => ha
    |succ k ih =>
     intro hk
     rw [xloop]
     split
     ·exact ih (by omega)
     ·exact xgo_all hg hv n _ _ _ (hr.step hg hv hc hk) (ih (by omega))
   exact this _ (Nat.le_refl _)
theorem iW {p : ProgL} {b : Int} {sl : Bool} {K : StL → Nat → Ev → Prop} : ∀ (n : Nat) (r : RunT) (sleep : List Nat) (acc : List RunT),acc.length ≤ 400 → (xgo p b sl K n r sleep acc).1.length ≤ 401 ∧ ((xgo p b sl K n r sleep acc).2 = true → (xgo p b sl K n r sleep acc).1.length ≤ 400)
 | 0,r,sleep,acc,ha => ⟨by show acc.length ≤ _; omega,fun _ => ha⟩
 |n + 1,r,sleep,acc,ha => by
  rw [xgo]
  split
  ·refine ⟨by simp; omega,fun h => ?_⟩
   have := of_decide_eq_true h
   simp; omega
  ·have : ∀ k,(xloop p sl K (xgo p b sl K n) r sleep acc k).acc.length ≤ 401 ∧ ((xloop p sl K (xgo p b sl K n) r sleep acc k).ok = true → (xloop p sl K (xgo p b sl K n) r sleep acc k).acc.length ≤ 400) := by
    intro k
    induction k with
    |zero => exact ⟨by show acc.length ≤ _; omega,fun _ => ha⟩
    |succ k ih =>
     rw [xloop]
     split
     ·exact ih
     ·rename_i h
      have hok : (xloop p sl K (xgo p b sl K n) r sleep acc k).ok = true := by
       cases hh : (xloop p sl K (xgo p b sl K n) r sleep acc k).ok with
       |true => rfl
       |false => exact absurd (.inl hh) h
      exact iW n _ _ _ (ih.2 hok)
   exact this _
theorem xloop_len {p : ProgL} {b : Int} {sl : Bool} {K : StL → Nat → Ev → Prop} {n : Nat} {r : RunT} {sleep : List Nat} {acc : List RunT} (ha : acc.length ≤ 400) : ∀ k,(xloop p sl K (xgo p b sl K n) r sleep acc k).ok = true → (xloop p sl K (xgo p b sl K n) r sleep acc k).acc.length ≤ 400
 | 0,_ => ha
 |k + 1,hok => by
  rw [xloop] at hok ⊢
  split
  ·rename_i h
   rw [if_pos h] at hok
   exact xloop_len ha k hok
  ·rename_i h
   rw [if_neg h] at hok
   have hok1 : (xloop p sl K (xgo p b sl K n) r sleep acc k).ok = true := by
    cases hh : (xloop p sl K (xgo p b sl K n) r sleep acc k).ok with
    |true => rfl
    |false => exact absurd (.inl hh) h
   exact (iW n _ _ _ (xloop_len ha k hok1)).2 hok
theorem xloop_tried {p : ProgL} {sl : Bool} {K : StL → Nat → Ev → Prop} {f : RunT → List Nat → List RunT → List RunT × Bool} {r : RunT} {sleep : List Nat} {acc : List RunT} : ∀ k,k ≤ (enabledL p r.s).length →
  (xloop p sl K f r sleep acc k).tried.length ≤ k ∧ ∀ u ∈ (xloop p sl K f r sleep acc k).tried,u ∈ enabledL p r.s
 | 0,_ => ⟨Nat.le_refl _,fun u hu => (by cases hu)⟩
 |k + 1,hk => by
  have ih := xloop_tried (p := p) (sl := sl) (K := K) (f := f) (r := r) (sleep := sleep) (acc := acc) k (by omega)
  rw [xloop]
  split
  ·exact ⟨by omega,ih.2⟩
  ·refine ⟨by simp; exact ih.1,fun u hu => ?_⟩
   rcases List.mem_append.1 hu with e | e
   ·exact ih.2 u e
   ·simp only [List.mem_cons,List.not_mem_nil,or_false] at e
    subst e
    exact XR.mem (b := 0) (by omega)
end Ai
end
section
set_option maxRecDepth 100000
namespace Ai
open Go Go.Proofs Cyc
noncomputable def gO (p : ProgL) (b : Int) : List RunT × Bool := xgo p b false (fun _ _ _ => True) (b.toNat + 1) ⟨0,[],[],vA p⟩ [] []
theorem e8 {p : ProgL} (hg : p.goodS) (hv : p.flt) {b : Int} (hb : 0 ≤ b) : ∀ x ∈ (gO p b).1,XEnd p b x := xgo_all hg hv _ _ _ _ (XR.new hg hb) fun x hx => (by cases hx)
theorem e7 (p : ProgL) (b : Int) : (gO p b).1.length ≤ 401 := (iW _ _ _ _ (Nat.zero_le _)).1
theorem allR_of (p : ProgL) (b : Int) (K : StL → Nat → Ev → Prop) (sleep : List Nat) : xgo p b false K (b.toNat + 1) ⟨0,[],[],vA p⟩ sleep [] = gO p b := aN p b K _ _ _ _ _ _
end Ai
end
section
set_option maxRecDepth 100000
namespace Ai
open Go Go.Proofs
def n6 (xs : List Int) (n : Int) : Option Nat := xs.findIdx? (· == n)
theorem lZ (xs : List Int) (n : Int) : (0 ≤ lA (n6 xs n)) ↔ n ∈ xs := by
 unfold n6
 cases h : xs.findIdx? (· == n) with
 |none =>
  rw [List.findIdx?_eq_none_iff] at h
  simp only [lA]
  refine ⟨fun e => absurd e (by decide),fun hm => ?_⟩
  have := h n hm
  simp at this
 |some k =>
  rw [List.findIdx?_eq_some_iff_getElem] at h
  obtain ⟨h1,h2,_⟩ := h
  simp only [lA]
  have h2 : xs[k] = n := by simpa using h2
  exact ⟨fun _ => h2 ▸ List.getElem_mem h1,fun _ => by omega⟩
theorem IdxA_ok (xs : List Int) (n : Int) (hx : xs.length ≤ 1048576) : CallsTo EE 162 [sl (xs.map encInt),i64 n] (· = i64 (lA (n6 xs n))) := by
 refine callsTo_of_AW (fn := Tryz.f162) Tryz.func162 rfl (by kernel_rfl) rfl ?_
 conv => whnf
 refine xA (fun k : Nat => [(0,sl (xs.map encInt)),(1,i64 n),(7,i64 (xs.map encInt).length),(8,i64 k)]) (fun k => []) (fun k => xs.length - k) (fun k => k ≤ xs.length ∧ ∀ x ∈ xs.take k,(x == n) = false) 0 .refl ⟨rfl,rfl,rfl,rfl,trivial⟩ trivial ⟨Nat.zero_le _,kE⟩ ?_
 rintro k τ H ⟨hk,ih⟩
 conv => whnf
 refine kbi (fun h => ?_) (fun h => ?_)
 ·have hlt := xH h
  conv => whnf
  refine ⟨encInt xs[k],yB encInt hlt rfl,?_⟩
  conv => whnf
  refine kbi (fun h => ?_) (fun h => ?_)
  ·conv => whnf
   have h : n = xs[k] := by simpa using h
   have : n6 xs n = some k := gZ (f := (· == n)) hlt ih (by simp [h])
   rw [this]
   rfl
  ·conv => whnf
   have h : ¬ n = xs[k] := by simpa using h
   exact ⟨k + 1,⟨by omega,qM ih hlt (by simp; exact fun e => h e.symm)⟩,by show xs.length - (k + 1) < xs.length - k; omega,⟨rfl,rfl,rfl,next_i64 hlt (by omega),trivial⟩,trivial⟩
 ·conv => whnf
  have : n6 xs n = none := fA (f := (· == n)) (kP ih (by simp at h; omega))
  rw [this]
  rfl
theorem ContA_ok (xs : List Int) (n : Int) (hx : xs.length ≤ 1048576) : CallsTo EE 126 [sl (xs.map encInt),i64 n] (· = bp (n ∈ xs)) := by
 refine callsTo_of_AW (fn := Tryz.f126) Tryz.func126 rfl (by kernel_rfl) rfl ?_
 conv => whnf
 refine ⟨_,IdxA_ok xs n hx,?_⟩
 rintro r rfl
 conv => whnf
 refine kbi (fun h => ?_) (fun h => ?_)
 ·conv => whnf
  exact bpt ((lZ xs n).1 (of_decide_eq_true h))
 ·conv => whnf
  exact bpf fun e => h (decide_eq_true ((lZ xs n).2 e))
theorem IdxS_ok (xs : List Int) (n : Int) (hx : xs.length ≤ 1048576) : CallsTo EE 192 [sl (xs.map encInt),i64 n] (· = i64 (lA (n6 xs n))) := by
 refine callsTo_of_AW (fn := Tryz.f192) Tryz.func192 rfl (by kernel_rfl) rfl ?_
 conv => whnf
 refine xA (fun k : Nat => [(0,sl (xs.map encInt)),(1,i64 n),(7,i64 (xs.map encInt).length),(8,i64 k)]) (fun k => []) (fun k => xs.length - k) (fun k => k ≤ xs.length ∧ ∀ x ∈ xs.take k,(x == n) = false) 0 .refl ⟨rfl,rfl,rfl,rfl,trivial⟩ trivial ⟨Nat.zero_le _,kE⟩ ?_
 rintro k τ H ⟨hk,ih⟩
 conv => whnf
 refine kbi (fun h => ?_) (fun h => ?_)
 ·have hlt := xH h
  conv => whnf
  refine ⟨encInt xs[k],yB encInt hlt rfl,?_⟩
  conv => whnf
  refine kbi (fun h => ?_) (fun h => ?_)
  ·conv => whnf
   have h : n = xs[k] := by simpa using h
   have : n6 xs n = some k := gZ (f := (· == n)) hlt ih (by simp [h])
   rw [this]
   rfl
  ·conv => whnf
   have h : ¬ n = xs[k] := by simpa using h
   exact ⟨k + 1,⟨by omega,qM ih hlt (by simp; exact fun e => h e.symm)⟩,by show xs.length - (k + 1) < xs.length - k; omega,⟨rfl,rfl,rfl,next_i64 hlt (by omega),trivial⟩,trivial⟩
 ·conv => whnf
  have : n6 xs n = none := fA (f := (· == n)) (kP ih (by simp at h; omega))
  rw [this]
  rfl
theorem ContS_ok (xs : List Int) (n : Int) (hx : xs.length ≤ 1048576) : CallsTo EE 123 [sl (xs.map encInt),i64 n] (· = bp (n ∈ xs)) := by
 refine callsTo_of_AW (fn := Tryz.f123) Tryz.func123 rfl (by kernel_rfl) rfl ?_
 conv => whnf
 refine ⟨_,IdxS_ok xs n hx,?_⟩
 rintro r rfl
 conv => whnf
 refine kbi (fun h => ?_) (fun h => ?_)
 ·conv => whnf
  exact bpt ((lZ xs n).1 (of_decide_eq_true h))
 ·conv => whnf
  exact bpf fun e => h (decide_eq_true ((lZ xs n).2 e))
theorem CloneS_ok (xs : List Int) (hx : xs.length ≤ 1048576) : CallsTo EE 122 [sl (xs.map encInt)] (· = .uq 3 1 (xs.map encInt)) := by
 refine callsTo_of_AW (fn := Tryz.f122) Tryz.func122 rfl (by kernel_rfl) rfl ?_
 conv => whnf
 refine ⟨fun hn => ?_,?_⟩
 ·conv => whnf
  have : xs = [] := List.eq_nil_of_length_eq_zero (by simpa using hn)
  subst this
  exact .inr ⟨3,1,rfl⟩
 ·conv => whnf
  refine ⟨⟨by simp [encInt],by simp; omega,by simp; omega⟩,?_⟩
  conv => whnf
  exact congrArg (AV.uq 3 1) (by simp [List.take_of_length_le])
def dT (e : Ev) : Prop := e.kind = 2 ∨ e.kind = 3
def pX (e : Ev) : Prop := e.kind = 8 ∨ e.kind = 9 ∨ e.kind = 10
def kJ (e : Ev) : Int := if e.kind = 4 ∨ e.kind = 5 then e.obj else if e.kind = 8 ∨ e.kind = 9 then e.lock else -2
def oZ (e : Ev) : Int := if e.kind = 5 then e.obj else if e.kind = 8 then e.lock else -1
def iZ (e : Ev) : Int := if e.kind = 4 then e.obj else if e.kind = 9 then e.lock else -1
def pN (e : Ev) : Int := if iZ e > oZ e then iZ e else oZ e
def fN (a b : Ev) : Prop :=
 if a.kind = 3 then dT b ∧ a.obj = b.obj
 else if a.kind = 6 then b.kind = 6 ∨ b.th = a.obj
 else if a.kind = 7 then b.kind = 11 ∧ b.th = a.obj
 else if a.kind = 10 then b.th = a.lock ∨ (pX b ∧ a.obj = b.obj)
 else if a.kind = 8 then pX b ∧ a.obj = b.obj
 else a.kind = 12
def hangE (a b : Ev) : Prop := a.th = b.th ∨ fN a b ∨ fN b a ∨ (kJ a = kJ b ∧ kJ a ≠ -2)
def hangI (a b : Ev) : Prop := a.th = b.th ∨ fN a b ∨ fN b a ∨ (0 ≤ pN a ∧ pN a = pN b)
theorem touchS_ok (e : Ev) : CallsTo EE 91 [agg (encEv e)] (· = bp (dT e)) := by
 refine callsTo_of_AW (fn := Tryz.f91) Tryz.func91 rfl (by kernel_rfl) rfl ?_
 conv => whnf
 repeat' (refine kbi (fun h => ?_) (fun h => ?_) <;> conv => whnf)
 all_goals simp only [beq_iff_eq] at *
 all_goals first | exact bpt (by unfold dT; omega) | exact bpf (by unfold dT; omega)
theorem touchI_ok (e : Ev) : CallsTo EE 93 [agg (encEv e)] (· = bp (dT e)) := by
 refine callsTo_of_AW (fn := Tryz.f93) Tryz.func93 rfl (by kernel_rfl) rfl ?_
 conv => whnf
 repeat' (refine kbi (fun h => ?_) (fun h => ?_) <;> conv => whnf)
 all_goals simp only [beq_iff_eq] at *
 all_goals first | exact bpt (by unfold dT; omega) | exact bpf (by unfold dT; omega)
theorem condS_ok (e : Ev) : CallsTo EE 263 [agg (encEv e)] (· = bp (pX e)) := by
 refine callsTo_of_AW (fn := Tryz.f263) Tryz.func263 rfl (by kernel_rfl) rfl ?_
 conv => whnf
 repeat' (refine kbi (fun h => ?_) (fun h => ?_) <;> conv => whnf)
 all_goals simp only [beq_iff_eq] at *
 all_goals first | exact bpt (by unfold pX; omega) | exact bpf (by unfold pX; omega)
theorem condI_ok (e : Ev) : CallsTo EE 245 [agg (encEv e)] (· = bp (pX e)) := by
 refine callsTo_of_AW (fn := Tryz.f245) Tryz.func245 rfl (by kernel_rfl) rfl ?_
 conv => whnf
 repeat' (refine kbi (fun h => ?_) (fun h => ?_) <;> conv => whnf)
 all_goals simp only [beq_iff_eq] at *
 all_goals first | exact bpt (by unfold pX; omega) | exact bpf (by unfold pX; omega)
theorem tE (e : Ev) : CallsTo EE 225 [agg (encEv e)] (· = i64 (kJ e)) := by
 refine callsTo_of_AW (fn := Tryz.f225) Tryz.func225 rfl (by kernel_rfl) rfl ?_
 conv => whnf
 repeat' (refine kbi (fun h => ?_) (fun h => ?_) <;> conv => whnf)
 all_goals simp only [beq_iff_eq] at *
 all_goals exact congrArg i64 (by unfold kJ; simp [*])
theorem givesI_ok (e : Ev) : CallsTo EE 246 [agg (encEv e)] (· = i64 (oZ e)) := by
 refine callsTo_of_AW (fn := Tryz.f246) Tryz.func246 rfl (by kernel_rfl) rfl ?_
 conv => whnf
 repeat' (refine kbi (fun h => ?_) (fun h => ?_) <;> conv => whnf)
 all_goals simp only [beq_iff_eq] at *
 all_goals exact congrArg i64 (by unfold oZ; simp [*])
theorem takesI2_ok (e : Ev) : CallsTo EE 247 [agg (encEv e)] (· = i64 (iZ e)) := by
 refine callsTo_of_AW (fn := Tryz.f247) Tryz.func247 rfl (by kernel_rfl) rfl ?_
 conv => whnf
 repeat' (refine kbi (fun h => ?_) (fun h => ?_) <;> conv => whnf)
 all_goals simp only [beq_iff_eq] at *
 all_goals exact congrArg i64 (by unfold iZ; simp [*])
end Ai
end
section
set_option maxRecDepth 100000
namespace Ai
open Go Go.Proofs
theorem mG (a b : Ev) : CallsTo EE 226 [agg (encEv a),agg (encEv b)] (· = bp (fN a b)) := by
 refine callsTo_of_AW (fn := Tryz.f226) Tryz.func226 rfl (by kernel_rfl) rfl ?_
 conv => whnf
 repeat' (first | refine kbi (fun h => ?_) (fun h => ?_) | refine ocase (touchS_ok b) (fun h => ?_) (fun h => ?_) | refine ocase (condS_ok b) (fun h => ?_) (fun h => ?_)) <;> conv => whnf
 all_goals simp only [beq_iff_eq] at *
 all_goals first | exact bpt (by unfold fN; simp [*]) | exact bpf (by unfold fN; simp [*])
theorem a0 (a b : Ev) : CallsTo EE 195 [agg (encEv a),agg (encEv b)] (· = bp (fN a b)) := by
 refine callsTo_of_AW (fn := Tryz.f195) Tryz.func195 rfl (by kernel_rfl) rfl ?_
 conv => whnf
 repeat' (first | refine kbi (fun h => ?_) (fun h => ?_) | refine ocase (touchI_ok b) (fun h => ?_) (fun h => ?_) | refine ocase (condI_ok b) (fun h => ?_) (fun h => ?_)) <;> conv => whnf
 all_goals simp only [beq_iff_eq] at *
 all_goals first | exact bpt (by unfold fN; simp [*]) | exact bpf (by unfold fN; simp [*])
theorem nG (e : Ev) : CallsTo EE 196 [agg (encEv e)] (· = i64 (pN e)) := by
 refine callsTo_of_AW (fn := Tryz.f196) Tryz.func196 rfl (by kernel_rfl) rfl ?_
 conv => whnf
 refine ⟨by kernel_rfl,?_⟩
 conv => whnf
 refine ⟨_,givesI_ok e,?_⟩
 conv => whnf
 refine ⟨_,takesI2_ok e,?_⟩
 conv => whnf
 rfl
theorem hangS_ok (a b : Ev) : CallsTo EE 174 [agg (encEv a),agg (encEv b)] (· = bp (hangE a b)) := by
 refine callsTo_of_AW (fn := Tryz.f174) Tryz.func174 rfl (by kernel_rfl) rfl ?_
 conv => whnf
 refine ⟨by kernel_rfl,?_⟩
 conv => whnf
 refine kbi (fun h1 => ?_) (fun h1 => ?_)
 ·conv => whnf
  exact bpt (.inl (by simpa using h1))
 have h1 : ¬ a.th = b.th := by simpa using h1
 conv => whnf
 refine ⟨_,tE a,?_⟩
 conv => whnf
 refine ⟨_,tE b,?_⟩
 conv => whnf
 have rest : ¬ (kJ a = kJ b ∧ kJ a ≠ -2) → (hangE a b ↔ fN a b ∨ fN b a) := fun h => by unfold hangE; simp [h,h1]
 refine kbi (fun h2 => ?_) (fun h2 => ?_)
 ·have h2 : kJ a = kJ b := by simpa using h2
  conv => whnf
  refine ⟨_,tE a,?_⟩
  conv => whnf
  refine kbi (fun h3 => ?_) (fun h3 => ?_)
  ·have h3 : kJ a ≠ -2 := by simpa using h3
   conv => whnf
   exact bpt (.inr (.inr (.inr ⟨h2,h3⟩)))
  have h3 : kJ a = -2 := by simpa using h3
  have rest := rest fun e => e.2 h3
  conv => whnf
  refine ocase (mG a b) (fun h => ?_) (fun h => ?_)
  ·conv => whnf
   exact bpt (rest.2 (.inl h))
  conv => whnf
  refine ocase (mG b a) (fun h4 => ?_) (fun h4 => ?_)
  ·conv => whnf
   exact bpt (rest.2 (.inr h4))
  conv => whnf
  exact bpf fun e => (rest.1 e).elim h h4
 ·have h2 : ¬ kJ a = kJ b := by simpa using h2
  have rest := rest fun e => h2 e.1
  conv => whnf
  refine ocase (mG a b) (fun h => ?_) (fun h => ?_)
  ·conv => whnf
   exact bpt (rest.2 (.inl h))
  conv => whnf
  refine ocase (mG b a) (fun h4 => ?_) (fun h4 => ?_)
  ·conv => whnf
   exact bpt (rest.2 (.inr h4))
  conv => whnf
  exact bpf fun e => (rest.1 e).elim h h4
theorem hangI_ok (a b : Ev) : CallsTo EE 127 [agg (encEv a),agg (encEv b)] (· = bp (hangI a b)) := by
 refine callsTo_of_AW (fn := Tryz.f127) Tryz.func127 rfl (by kernel_rfl) rfl ?_
 conv => whnf
 refine ⟨by kernel_rfl,?_⟩
 conv => whnf
 refine kbi (fun h1 => ?_) (fun h1 => ?_)
 ·conv => whnf
  exact bpt (.inl (by simpa using h1))
 have h1 : ¬ a.th = b.th := by simpa using h1
 conv => whnf
 refine qcase (a0 a b) (fun h2 => ?_) (fun h2 => ?_)
 ·conv => whnf
  exact bpt (.inr (.inl h2))
 conv => whnf
 refine qcase (a0 b a) (fun h3 => ?_) (fun h3 => ?_)
 ·conv => whnf
  exact bpt (.inr (.inr (.inl h3)))
 have rest : hangI a b ↔ 0 ≤ pN a ∧ pN a = pN b := by unfold hangI; simp [h1,h2,h3]
 conv => whnf
 refine ⟨_,nG a,?_⟩
 conv => whnf
 refine kbi (fun h4 => ?_) (fun h4 => ?_)
 ·have h4 : 0 ≤ pN a := by simpa using h4
  conv => whnf
  refine ⟨_,nG a,?_⟩
  conv => whnf
  refine ⟨_,nG b,?_⟩
  conv => whnf
  refine kbi (fun h5 => ?_) (fun h5 => ?_)
  ·conv => whnf
   exact bpt (rest.2 ⟨h4,by simpa using h5⟩)
  ·conv => whnf
   exact bpf fun e => h5 (by simpa using (rest.1 e).2)
 ·conv => whnf
  exact bpf fun e => h4 (decide_eq_true (rest.1 e).1)
end Ai
end
section
set_option maxRecDepth 100000
namespace Ai
open Go Go.Proofs Cyc
def rowPk (x : RunT) : List D := [.sl (x.tk.map encInt)]
def rowTr (x : RunT) : List D := [.sl (x.tr.map encEv)]
noncomputable def rowSg (p : ProgL) (x : RunT) : List D := [.str (signL p x)]
theorem event_ok (p : ProgL) (hp : p.wf) (hg : p.goodS) (s : StL) (hi : AInv p s) (k : Nat) (hk : k < s.ths.length) (b : Int) (sl many : Bool) (d1 d2 d3 : List (List D)) :
  CallsTo EE 184 [.fp (encProg p ++ [di b,.bool sl,.sl d1,.sl d2,.sl d3,.bool many]),agg (encSt s),i64 k] (· = agg (encEv (stepL p s k).2)) := by
 have hst := l3Step_ok toIndexS p s k hp hk hi.si.len (runOK hg |>.small s hi.si).1 (inv_ready hg hi.si hk)
 refine callsTo_of_AW (fn := Tryz.f184) Tryz.func184 rfl (by kernel_rfl) rfl ?_
 conv => whnf
 refine .inr (.inl ⟨14,[],?_⟩)
 conv => whnf
 refine ⟨_,hst,?_⟩
 conv => whnf
 refine ⟨by kernel_rfl,?_⟩
 conv => whnf
 rfl
def wkC (p : ProgL) (b : Int) (sl : Bool) (n : Nat) (many : Bool) : List AV := [i64 p.cells,i64 p.locks,i64 p.conds,.d (.sl (p.rs.map zS)),i64 b,bv sl,.ref (.n 901) 0 n,.ref (.n 902) 0 n,.ref (.n 903) 0 n,bv many]
noncomputable def wkH (p : ProgL) (b : Int) (sl : Bool) (xs : List RunT) (many : Bool) : Key → Option Ob
 | .l j => bif Nat.beq j 0 then some (.vs 97 (wkC p b sl xs.length many)) else none
 | .n j => bif Nat.beq j 901 then some (.ds 41 1 (xs.map rowPk)) else bif Nat.beq j 902 then some (.ds 51 1 (xs.map rowTr)) else bif Nat.beq j 903 then some (.ds 9 1 (xs.map (rowSg p))) else none
 | .s _ _ => none
def lendW : Key → Bool
 | .l j => Nat.beq j 0
 | .n j => Nat.beq j 901 || Nat.beq j 902 || Nat.beq j 903
 | .s _ _ => false
def AtW (p : ProgL) (b : Int) (sl : Bool) (xs : List RunT) (many : Bool) (H : Key → Option Ob) : Prop :=
 H (.l 0) = some (.vs 97 (wkC p b sl xs.length many)) ∧ H (.n 901) = some (.ds 41 1 (xs.map rowPk)) ∧ H (.n 902) = some (.ds 51 1 (xs.map rowTr)) ∧ H (.n 903) = some (.ds 9 1 (xs.map (rowSg p)))
theorem wkH_none {p : ProgL} {b : Int} {sl : Bool} {xs : List RunT} {many : Bool} : ∀ κ,lendW κ = false → wkH p b sl xs many κ = none
 | .l j,h => by have h : Nat.beq j 0 = false := h; simp [wkH,h]
 | .n j,h => by
  have h : (Nat.beq j 901 || Nat.beq j 902 || Nat.beq j 903) = false := h
  simp only [Bool.or_eq_false_iff] at h
  simp [wkH,h.1.1,h.1.2,h.2]
 | .s o j,h => rfl
theorem lend_wk {p : ProgL} {b : Int} {sl : Bool} {xs : List RunT} {many : Bool} {H : Key → Option Ob} (h : AtW p b sl xs many H) : yJ lendW H = wkH p b sl xs many := by
 obtain ⟨h0,h1,h2,h3⟩ := h
 funext κ
 cases hk : lendW κ with
 |false => rw [wkH_none κ hk,dF hk]
 |true =>
  rw [wZ hk]
  cases κ with
  |l j =>
   have := Nat.eq_of_beq_eq_true (show Nat.beq j 0 = true from hk)
   subst this
   rw [h0]; rfl
  |n j =>
   have hk : (Nat.beq j 901 || Nat.beq j 902 || Nat.beq j 903) = true := hk
   simp only [Bool.or_eq_true] at hk
   rcases hk with (hk | hk) | hk
   ·have := Nat.eq_of_beq_eq_true hk
    subst this; rw [h1]; rfl
   ·have := Nat.eq_of_beq_eq_true hk
    subst this; rw [h2]; rfl
   ·have := Nat.eq_of_beq_eq_true hk
    subst this; rw [h3]; rfl
  |s o j => cases hk
theorem io_nil {E : Env} {g : FuncId} {H0 : Key → Option Ob} {Post : AV → (Key → Option Ob) → Prop} {x y : AV} (h : IOCall E g [x,y,sl []] H0 Post) : IOCall E g [x,y,.d .nil] H0 Post := by
 intro w0 A m w vs hH hl hr
 refine h w0 A m w vs hH hl fun i a v ha hv => ?_
 match i,ha with
 | 0,ha => exact hr 0 a v ha hv
 | 1,ha => exact hr 1 a v ha hv
 | 2,ha =>
  have ha : sl [] = a := by simpa using ha
  subst ha
  have := hr 2 (.d .nil) v rfl hv
  cases this with
  |d _ _ hd => cases hd; exact .d _ _ (.sl0 none 0)
 |i + 3,ha => simp at ha
end Ai
end
section
set_option maxRecDepth 100000
namespace Ai
open Go Go.Proofs Cyc
def keepS (p : ProgL) (s : StL) (u : Nat) (e : Ev) : Prop := ¬ hangE (stepL p s u).2 e
theorem args3 {T T' K K' O O' : List (List D)} {x : AV} {a b c d : D} (h1 : T = T') (h2 : K = K') (h3 : O = O') : [x,AV.agg [i64 0,sl T,sl K,.d a,.d b,.d c,.d d],sl O] = [x,AV.agg [i64 0,sl T',sl K',.d a,.d b,.d c,.d d],sl O'] := by rw [h1,h2,h3]
noncomputable def wkO (p : ProgL) (b : Int) (sl : Bool) (xs : List RunT) (many : Bool) : List (Key × Ob) := [(.l 0,.vs 97 (wkC p b sl xs.length many)),(.n 901,.ds 41 1 (xs.map rowPk)),(.n 902,.ds 51 1 (xs.map rowTr)),(.n 903,.ds 9 1 (xs.map (rowSg p)))]
noncomputable def wkO2 (p : ProgL) (b : Int) (sl : Bool) (r : RunT) (X : XS) : List (Key × Ob) := [(.l 0,.vs 97 (wkC p b sl X.acc.length (!X.ok))),(.n 901,.ds 41 1 (X.acc.map rowPk)),(.n 902,.ds 51 1 (X.acc.map rowTr)),(.n 903,.ds 9 1 (X.acc.map (rowSg p))),(.n 4,.vs 56 ((encRun 0 r.tr r.tk r.s).map .d)),(.n 61,.ds 3 1 (X.tried.map encN))]
noncomputable def wkO3 (p : ProgL) (b : Int) (sl : Bool) (r : RunT) (X : XS) (st : StL × Ev) (on L : List Nat) : List (Key × Ob) := [(.l 0,.vs 97 (wkC p b sl X.acc.length (!X.ok))),(.n 901,.ds 41 1 (X.acc.map rowPk)),(.n 902,.ds 51 1 (X.acc.map rowTr)),(.n 903,.ds 9 1 (X.acc.map (rowSg p))),(.n 4,.vs 56 ((encRun 0 r.tr r.tk r.s).map .d)),(.n 61,.ds 3 1 (X.tried.map encN)),
 (.n 9,.vs 54 ((encSt st.1).map .d)),(.n 10,.vs 128 ((encEv st.2).map .d)),(.n 62,.ds 3 1 (on.map encN)),(.n 127,.ds 3 1 (L.map encN))]
theorem go1_ok (p : ProgL) (hp : p.wf) (hg : p.goodS) (hv : p.flt) (b : Int) (hb : InR b 0 1000) (slp : Bool) : ∀ (n : Nat) (r : RunT) (c0 : Int) (sleep : List Nat) (xs : List RunT), XR p b r → b.toNat + 1 - r.tr.length = n → xs.length ≤ 400 → sleep.length ≤ 5 * r.tr.length → (∀ u ∈ sleep, u < r.s.ths.length) →
    ∀ H0, AtW p b slp xs false H0 → IOCall EE 113 [.ptr (.l 0) 0, agg (encRun c0 r.tr r.tk r.s), sl (sleep.map encN)] H0 (fun q H1 => q = .tup [] ∧ H1 = wkH p b slp (xgo p b slp (keepS p) n r sleep xs).1 (!(xgo p b slp (keepS p) n r sleep xs).2))
  | 0, r, c0, sleep, xs, hr, hn, hx, hs, hu, H0, hH => by
    have := hr.le
    omega
  | n + 1, r, c0, sleep, xs, hr, hn, hx, hs, hu, H0, hH => by
    have hok := runOK hg
    have hsm := hok.small r.s hr.inv.si
    have hcode : CallsTo EE 132 [agg (encProg p), agg (encSt r.s), i64 ((r.tr.map encEv).length : Nat), i64 b] (· = i64 (codeL p r.s r.tr.length b)) := by
      rw [List.length_map]; exact l4Code_ok toIndexS idxRange p r.s r.tr.length b hp hsm.1 (hok.seen r.s hr.inv.si)
    have hen := l3Enabled_ok toIndexS idxRange p r.s hp hsm.1 (hok.seen r.s hr.inv.si)
    have hle := hr.le
    have hlen := hr.len
    have hb2 := hb.2
    rw [xgo]
    refine io_of_AW (fn := Tryz.f113) (c := Tryz.f113.body.getD .skip) Tryz.func113 rfl (by kernel_rfl) rfl ?_
    have hat : At [(0, .ptr (.l 0) 0), (1, agg (encRun c0 r.tr r.tk r.s)), (2, sl (sleep.map encN))] (wkO p b slp xs false) [] ⟨fun i => [AV.ptr (.l 0) 0, agg (encRun c0 r.tr r.tk r.s), sl (sleep.map encN)].getD i .junk, H0⟩ :=
      ⟨⟨rfl, rfl, rfl, trivial⟩, ⟨hH.1, hH.2.1, hH.2.2.1, hH.2.2.2, trivial⟩, trivial⟩
    obtain ⟨τ, H, hf⟩ := hat.form
    rw [hf]
    clear hat hf hH
    conv => whnf
    refine .inr (.inl ⟨14, [], ?_⟩)
    conv => whnf
    refine ⟨_, hcode, ?_⟩
    conv => whnf
    refine ⟨by kernel_rfl, ?_⟩
    conv => whnf
    refine kbi (fun hc => ?_) (fun hc => ?_)
    · have hc : 0 < codeL p r.s r.tr.length b := by simpa using hc
      rw [if_pos hc]
      have hX := hr.leaf hc
      have hsg := l4Sign_ok p hp hg hv b _ hX.fin (by omega)
      have hown : CallsTo EE 152 [sl (r.tk.map encInt)] (· = .uq 3 1 (r.tk.map encInt)) := l1Own_ok r.tk (by omega)
      conv => whnf
      refine .inr (.inr (.inr ⟨[0], by kernel_rfl, 9, [], ?_⟩))
      conv => whnf
      refine ⟨_, hown, ?_⟩
      refine .inl ?_
      conv => whnf
      refine ⟨by kernel_rfl, ?_⟩
      conv => whnf
      refine ⟨⟨rfl, by show (xs.length + 1) * 24 ≤ _; omega, by show xs.length + 1 ≤ _; omega⟩, ?_⟩
      conv => whnf
      refine .inr (.inr (.inr ⟨[0], by kernel_rfl, 10, [], ?_⟩))
      conv => whnf
      refine ⟨⟨by simp [encEv], by simp; omega, by simp; omega⟩, ?_⟩
      conv => whnf
      refine ⟨by kernel_rfl, ?_⟩
      conv => whnf
      refine ⟨_, (weak_frz (isK (.n 49))).trans (weak_cvt (.n 53) (e := 51) (sz := 1) (els := [[.sl (r.tr.map encEv)]]) ?_), ?_⟩
      · show some (Ob.rs 51 1 [[AV.d (.sl (((([] : List (List D)).take 0 ++ r.tr.map encEv).drop 0).take (0 + (r.tr.map encEv).length)))]]) = _
        simp [List.take_of_length_le]
      conv => whnf
      refine ⟨⟨rfl, by show (xs.length + 1) * 24 ≤ _; omega, by show xs.length + 1 ≤ _; omega⟩, ?_⟩
      conv => whnf
      refine .inr (.inr (.inr ⟨[0], by kernel_rfl, 12, [], ?_⟩))
      conv => whnf
      refine ⟨_, hsg, ?_⟩
      conv => whnf
      refine ⟨by kernel_rfl, ?_⟩
      conv => whnf
      refine ⟨⟨rfl, by show (xs.length + 1) * 16 ≤ _; omega, by show xs.length + 1 ≤ _; omega⟩, ?_⟩
      conv => whnf
      have fin : ∀ (S : Key → Option Ob) (w : Bool), w = !decide (xs.length + 1 ≤ 400) → S (.l 0) = some (.vs 97 (wkC p b slp (xs.length + 1) w)) → S (.n 901) = some (.ds 41 1 ((xs.map rowPk).take xs.length ++ [[.sl (r.tk.map encInt)]])) →
          S (.n 902) = some (.ds 51 1 ((xs.map rowTr).take xs.length ++ [[.sl (r.tr.map encEv)]])) → S (.n 903) = some (.ds 9 1 ((xs.map (rowSg p)).take xs.length ++ [rowSg p (leaf p b (codeL p r.s r.tr.length b) r)])) → AtW p b slp (xs ++ [leaf p b (codeL p r.s r.tr.length b) r]) (!decide (xs.length + 1 ≤ 400)) S := by
        intro S w hw h0 h1 h2 h3
        rw [List.take_of_length_le (by simp)] at h1 h2 h3
        refine ⟨by rw [h0, List.length_append, hw]; rfl, by rw [h1, List.map_append]; rfl, by rw [h2, List.map_append]; rfl, by rw [h3, List.map_append]; rfl⟩
      refine kbi (fun h4 => ?_) (fun h4 => ?_)
      · have h4 : ((xs.length + 1 : Nat) : Int) > 400 := of_decide_eq_true h4
        conv => whnf
        refine ⟨_, Weak.refl, ?_⟩
        conv => whnf
        refine ⟨lendW, rfl, lend_wk (fin _ true (by rw [decide_eq_false (by omega)]; rfl) rfl rfl rfl rfl)⟩
      · have h4 : ¬ ((xs.length + 1 : Nat) : Int) > 400 := fun e => h4 (decide_eq_true e)
        conv => whnf
        refine ⟨_, Weak.refl, ?_⟩
        conv => whnf
        refine ⟨lendW, rfl, lend_wk (fin _ false (by rw [decide_eq_true (by omega)]; rfl) rfl rfl rfl rfl)⟩
    · have hc : ¬ 0 < codeL p r.s r.tr.length b := by simpa using hc
      rw [if_neg hc]
      have h5 : (enabledL p r.s).length ≤ 5 := Nat.le_trans (enabledTo_le) hr.inv.si.len
      have hcc : codeL p r.s r.tr.length b = 0 := by have := codeL_nn p r.s r.tr.length b; omega
      have hlb := (en_ne hc).2
      conv => whnf
      refine .inr (.inl ⟨9, [], ?_⟩)
      conv => whnf
      refine ⟨_, hen, ?_⟩
      refine .inl ?_
      conv => whnf
      refine ⟨by kernel_rfl, ?_⟩
      conv => whnf
      refine aloopF (fun x : Nat × XS => [(0, .ptr (.l 0) 0), (2, sl (sleep.map encN)), (4, .ptr (.n 4) 0), (6, .ref (.n 61) 0 x.2.tried.length), (93, sl ((enabledL p r.s).map encN)), (94, i64 ((enabledL p r.s).map encN).length), (95, i64 x.1)])
        (fun x => wkO2 p b slp r x.2)
        (fun _ => []) (fun x => (enabledL p r.s).length - x.1) (fun x => x.1 ≤ (enabledL p r.s).length ∧ xloop p slp (keepS p) (xgo p b slp (keepS p) n) r sleep xs x.1 = x.2) (0, ⟨xs, [], true⟩) (weak_nil 6 (.n 61) 3 1 rfl) ⟨rfl, rfl, rfl, rfl, rfl, rfl, rfl, trivial⟩ ⟨rfl, rfl, rfl, rfl, ?_, rfl, trivial⟩ trivial ⟨Nat.zero_le _, rfl⟩ ?_
      · show some (Ob.vs 56 [i64 (codeL p r.s r.tr.length b), _, _, _, _, _, _]) = some (Ob.vs 56 [i64 0, _, _, _, _, _, _])
        rw [hcc]; rfl
      rintro ⟨k, ⟨acc, tried, okk⟩⟩ τ H ⟨hk, hXe⟩
      have hk : k ≤ (enabledL p r.s).length := hk
      have hXe : xloop p slp (keepS p) (xgo p b slp (keepS p) n) r sleep xs k = ⟨acc, tried, okk⟩ := hXe
      conv => whnf
      refine kbi (fun h => ?_) (fun h => ?_)
      · have hlt : k < (enabledL p r.s).length := by simpa using h
        have hXl := xloop_len (p := p) (b := b) (sl := slp) (K := keepS p) (n := n) (r := r) (sleep := sleep) hx k
        have hXt := xloop_tried (p := p) (sl := slp) (K := keepS p) (f := xgo p b slp (keepS p) n) (r := r) (sleep := sleep) (acc := xs) k hk
        rw [hXe] at hXl hXt
        have hnx := xloop.eq_2 p slp (keepS p) (xgo p b slp (keepS p) n) r sleep xs k
        rw [hXe] at hnx
        have hm := XR.mem (b := b) hlt
        have hwl := en_lt hm
        have hst := l3Step_ok toIndexS p r.s (enAt p r k) hp hwl hsm.2 hsm.1 (inv_ready hg hr.inv.si hwl)
        have hnext := hr.step hg hv hc hlt
        have hown : CallsTo EE 152 [sl (sleep.map encN)] (· = .uq 3 1 (sleep.map encN)) := by
          rw [natI_enc]; exact l1Own_ok (natI sleep) (by simp [natI]; omega)
        have hhas : CallsTo EE 130 [sl (sleep.map encN), i64 (enAt p r k : Nat)] (· = bp (((enAt p r k : Nat) : Int) ∈ natI sleep)) := by
          rw [natI_enc]; exact l1Has_ok (natI sleep) _ (by simp [natI]; omega)
        have hmem : ((enAt p r k : Nat) : Int) ∈ natI sleep ↔ enAt p r k ∈ sleep := by
          simp only [natI, List.mem_map]
          exact ⟨fun ⟨a, ha, e⟩ => by have : a = enAt p r k := by omega
                                      subst this; exact ha, fun h => ⟨_, h, rfl⟩⟩
        have hownT : CallsTo EE 152 [sl (r.tk.map encInt)] (· = .uq 3 1 (r.tk.map encInt)) := l1Own_ok r.tk (by omega)
        have hL : ((sleep.map encN).take (sleep.map encN).length ++ ((tried.map encN).drop 0).take tried.length) = (sleep ++ tried).map encN := by
          rw [List.take_length, List.drop_zero, List.take_of_length_le (by simp), List.map_append]
        have hLl : (sleep.map encN).length + (((tried.map encN).drop 0).take tried.length).length = (sleep ++ tried).length := by simp
        have hLu : ∀ u ∈ sleep ++ tried, u < r.s.ths.length := fun u hu' => (List.mem_append.1 hu').elim (hu u) fun h => en_lt (hXt.2 u h)
        have hLb : (sleep ++ tried).length ≤ 5 * r.tr.length + 5 := by have : tried.length ≤ k := hXt.1; simp; omega
        conv => whnf
        refine ⟨encN (enAt p r k), ⟨by omega, en_get hlt, rfl⟩, ?_⟩
        cases okk with
        | false =>
          rw [if_pos (.inl rfl)] at hnx
          conv => whnf
          refine ⟨(k + 1, ⟨acc, tried, false⟩), _, Weak.refl, ⟨hlt, hnx⟩, by show (enabledL p r.s).length - (k + 1) < (enabledL p r.s).length - k; omega, ⟨rfl, rfl, rfl, rfl, rfl, rfl, next_i64 hlt (by omega), trivial⟩, ⟨rfl, rfl, rfl, rfl, rfl, rfl, trivial⟩, trivial⟩
        | true =>
          have ha4 : acc.length ≤ 400 := hXl rfl
          clear hXl
          obtain ⟨sq, hsq⟩ : ∃ sq : Bool, sq = slp := ⟨slp, rfl⟩
          cases slp
          case' true =>
            conv => whnf
            refine ocase hhas (fun hin => ?_) (fun hin => ?_)
          case true.refine_1 =>
            rw [if_pos (.inr ⟨rfl, hmem.1 hin⟩)] at hnx
            conv => whnf
            refine ⟨(k + 1, ⟨acc, tried, true⟩), _, Weak.refl, ⟨hlt, hnx⟩, by show (enabledL p r.s).length - (k + 1) < (enabledL p r.s).length - k; omega, ⟨rfl, rfl, rfl, rfl, rfl, rfl, next_i64 hlt (by omega), trivial⟩, ⟨rfl, rfl, rfl, rfl, rfl, rfl, trivial⟩, trivial⟩
          case' true.refine_2 => rw [if_neg (by rintro (e | ⟨_, e⟩); exact absurd e (by simp); exact hin (hmem.2 e))] at hnx
          case' false => rw [if_neg (by rintro (e | ⟨e, _⟩); exact absurd e (by simp); exact absurd e (by simp))] at hnx
          all_goals
            conv => whnf
            refine .inr (.inl ⟨15, [], ?_⟩)
            conv => whnf
            refine ⟨_, hst, ?_⟩
            conv => whnf
            refine ⟨by kernel_rfl, ?_⟩
            conv => whnf
            refine ⟨_, hown, ?_⟩
            rintro q rfl
            refine .inr ⟨_, rfl, ?_⟩
            conv => whnf
            refine ⟨⟨by rw [List.all_eq_true]; intro c hc'; obtain ⟨y, _, rfl⟩ := List.mem_map.1 (List.mem_of_mem_drop (List.mem_of_mem_take hc')); rfl, by show _ * 8 ≤ _; rw [hLl]; omega, by rw [hLl]; omega⟩, ?_⟩
            conv => whnf
            generalize hLe : sleep ++ tried = L at *
            refine aloopF (fun j : Nat => [(0, .ptr (.l 0) 0), (2, sl (sleep.map encN)), (4, .ptr (.n 4) 0), (6, .ref (.n 61) 0 tried.length), (7, i64 k), (8, i64 (enAt p r k : Nat)), (9, .ptr (.n 9) 0), (10, .ptr (.n 10) 0), (11, .ref (.n 62) 0 (keptBy (keepS p) r.s (L.take j) (stepL p r.s (enAt p r k)).2).length), (93, sl ((enabledL p r.s).map encN)), (94, i64 ((enabledL p r.s).map encN).length), (95, i64 k), (129, .ref (.n 127) 0 L.length), (130, i64 L.length), (131, i64 j)])
              (fun j => wkO3 p b sq r ⟨acc, tried, true⟩ (stepL p r.s (enAt p r k)) (keptBy (keepS p) r.s (L.take j) (stepL p r.s (enAt p r k)).2) L)
              (fun _ => []) (fun j => L.length - j) (fun j => j ≤ L.length) 0 (weak_nil 11 (.n 62) 3 1 rfl) ⟨rfl, rfl, rfl, rfl, rfl, rfl, rfl, rfl, rfl, rfl, rfl, rfl, ?_, ?_, rfl, trivial⟩ ⟨by rw [hsq]; rfl, rfl, rfl, rfl, rfl, rfl, rfl, rfl, rfl, ?_, trivial⟩ trivial (Nat.zero_le _) ?_
            · exact congrArg (AV.ref (.n 127) 0) hLl
            · exact congrArg (fun x : Nat => i64 (x : Int)) hLl
            · exact congrArg (fun x => some (Ob.ds 3 1 x)) hL
            intro j τ H hj
            have hj : j ≤ L.length := hj
            conv => whnf
            refine kbi (fun h => ?_) (fun h => ?_)
            · have hjl : j < L.length := by have := of_decide_eq_true h; omega
              have hhg := hangS_ok (stepL p r.s L[j]).2 (stepL p r.s (enAt p r k)).2
              have hjt : L.take (j + 1) = L.take j ++ [L[j]] := List.take_succ_eq_append_getElem hjl
              have hkj : keptBy (keepS p) r.s (L.take (j + 1)) (stepL p r.s (enAt p r k)).2 = keptBy (keepS p) r.s (L.take j) (stepL p r.s (enAt p r k)).2 ++ keptBy (keepS p) r.s [L[j]] (stepL p r.s (enAt p r k)).2 := by
                rw [hjt]; unfold keptBy; rw [List.filter_append]
              have hkl : (keptBy (keepS p) r.s (L.take j) (stepL p r.s (enAt p r k)).2).length ≤ j := Nat.le_trans (List.length_filter_le _ _) (by simp; omega)
              have hev := event_ok p hp hg r.s hr.inv L[j] (hLu _ (List.getElem_mem hjl)) b sq
              conv => whnf
              refine ⟨⟨by omega, by omega⟩, ?_⟩
              conv => whnf
              refine ⟨encN L[j], ⟨by simp [hjl], Nat.le_refl _⟩, ?_⟩
              conv => whnf
              refine ⟨by kernel_rfl, ?_⟩
              conv => whnf
              refine ⟨_, hev _ _ _ _, fun c hc' => ?_, ?_⟩
              · obtain ⟨y, hy, rfl⟩ := List.mem_map.1 hc'
                simp only [encEv, List.mem_cons, List.not_mem_nil, or_false] at hy
                rcases hy with rfl | rfl | rfl | rfl | rfl <;> exact ⟨_, rfl, rfl⟩
              conv => whnf
              refine qcase hhg (fun hh => ?_) (fun hh => ?_)
              · have hkn : keptBy (keepS p) r.s [L[j]] (stepL p r.s (enAt p r k)).2 = [] := by simp [keptBy, keepS, hh]
                rw [hkn, List.append_nil] at hkj
                conv => whnf
                refine ⟨j + 1, _, Weak.refl, hjl, by show L.length - (j + 1) < L.length - j; omega, ⟨rfl, rfl, rfl, rfl, rfl, rfl, rfl, rfl, ?_, rfl, rfl, rfl, rfl, rfl, next_i64 hjl (by omega), trivial⟩, ⟨rfl, rfl, rfl, rfl, rfl, rfl, rfl, rfl, ?_, rfl, trivial⟩, trivial⟩
                · show AV.ref (.n 62) 0 (keptBy (keepS p) r.s (L.take j) _).length = .ref (.n 62) 0 (keptBy (keepS p) r.s (L.take (j + 1)) _).length
                  rw [hkj]
                · show some (Ob.ds 3 1 ((keptBy (keepS p) r.s (L.take j) _).map encN)) = some (Ob.ds 3 1 ((keptBy (keepS p) r.s (L.take (j + 1)) _).map encN))
                  rw [hkj]
              · have hkn : keptBy (keepS p) r.s [L[j]] (stepL p r.s (enAt p r k)).2 = [L[j]] := by simp [keptBy, keepS, hh]
                rw [hkn] at hkj
                conv => whnf
                refine ⟨⟨rfl, by show (_ + 1) * 8 ≤ _; omega, by show _ + 1 ≤ _; omega⟩, ?_⟩
                conv => whnf
                refine ⟨j + 1, _, Weak.refl, hjl, by show L.length - (j + 1) < L.length - j; omega, ⟨rfl, rfl, rfl, rfl, rfl, rfl, rfl, rfl, ?_, rfl, rfl, rfl, rfl, rfl, next_i64 hjl (by omega), trivial⟩, ⟨rfl, rfl, rfl, rfl, rfl, rfl, rfl, rfl, ?_, rfl, trivial⟩, trivial⟩
                · show AV.ref (.n 62) 0 ((keptBy (keepS p) r.s (L.take j) (stepL p r.s (enAt p r k)).2).length + 1) = .ref (.n 62) 0 (keptBy (keepS p) r.s (L.take (j + 1)) _).length
                  rw [hkj, List.length_append]; rfl
                · show some (Ob.ds 3 1 (((keptBy (keepS p) r.s (L.take j) (stepL p r.s (enAt p r k)).2).map encN).take _ ++ [encN L[j]])) = some (Ob.ds 3 1 ((keptBy (keepS p) r.s (L.take (j + 1)) _).map encN))
                  rw [hkj, List.take_of_length_le (by simp), List.map_append]; rfl
            · have hge : j = L.length := by
                have : ¬ (j : Int) < L.length := fun e => h (decide_eq_true e)
                omega
              subst hge
              have hon : keptBy (keepS p) r.s (L.take L.length) (stepL p r.s (enAt p r k)).2 = keptBy (keepS p) r.s L (stepL p r.s (enAt p r k)).2 := by rw [List.take_length]
              conv => whnf
              refine .inr (.inl ⟨17, [], ?_⟩)
              conv => whnf
              refine ⟨⟨by simp [encEv], by simp; omega, by simp; omega⟩, ?_⟩
              conv => whnf
              refine ⟨⟨rfl, by simp; omega, by simp; omega⟩, ?_⟩
              conv => whnf
              refine ⟨_, hownT, ?_⟩
              refine .inr ⟨_, rfl, ?_⟩
              conv => whnf
              refine ⟨⟨rfl, by simp; omega, by simp; omega⟩, ?_⟩
              conv => whnf
              refine ⟨by kernel_rfl, ?_⟩
              conv => whnf
              subst hsq
              have hkk : (keptBy (keepS p) r.s L (stepL p r.s (enAt p r k)).2).length ≤ 5 * (runBy p r k).tr.length := by
                have : (keptBy (keepS p) r.s L (stepL p r.s (enAt p r k)).2).length ≤ L.length := List.length_filter_le _ _
                have e : (runBy p r k).tr.length = r.tr.length + 1 := by simp [runBy]
                omega
              have hku : ∀ u ∈ keptBy (keepS p) r.s L (stepL p r.s (enAt p r k)).2, u < (runBy p r k).s.ths.length := fun u hu' => Nat.lt_of_lt_of_le (hLu u (List.mem_filter.1 hu').1) (step_len p r.s _)
              have hfu : b.toNat + 1 - (runBy p r k).tr.length = n := by
                have e : (runBy p r k).tr.length = r.tr.length + 1 := by simp [runBy]
                omega
              refine .inr (.inr (.inr (.inl ⟨_, 113, [], weak_frz (fun κ => isK (.n 153) κ || isK (.n 159) κ || isK (.n 62) κ), rfl, 999, 99, lendW, _, io_congr (go1_ok p hp hg hv b hb _ n (runBy p r k) 0 (keptBy (keepS p) r.s L (stepL p r.s (enAt p r k)).2) acc hnext hfu ha4 hkk hku _ ⟨rfl, rfl, rfl, rfl⟩) ?_, rfl, ?_⟩)))
              · show [AV.ptr (.l 0) 0, AV.agg [i64 0, sl _, sl _, _, _, _, _], sl _] = _
                refine args3 ?_ ?_ ?_
                · simp [List.take_of_length_le, runBy]; rfl
                · simp [List.take_of_length_le, runBy]; rfl
                · simp [List.take_of_length_le]
              rintro q H1 ⟨rfl, rfl⟩
              refine ⟨wkH_none, fun n hn => ?_, ?_⟩
              · have : n = 0 := Nat.eq_of_beq_eq_true hn
                subst this
                exact ⟨97, _, _, rfl, rfl⟩
              conv => whnf
              refine ⟨⟨rfl, by show (tried.length + 1) * 8 ≤ _; have : tried.length ≤ k := hXt.1; omega, by show tried.length + 1 ≤ _; have : tried.length ≤ k := hXt.1; omega⟩, ?_⟩
              conv => whnf
              refine ⟨(k + 1, ⟨_, tried ++ [enAt p r k], _⟩), _, Weak.refl, ⟨hlt, hnx⟩, by show (enabledL p r.s).length - (k + 1) < (enabledL p r.s).length - k; omega, ⟨rfl, rfl, rfl, ?_, rfl, rfl, next_i64 hlt (by omega), trivial⟩, ⟨rfl, rfl, rfl, rfl, ?_, ?_, trivial⟩, trivial⟩
              · show AV.ref (.n 61) 0 (tried.length + 1) = .ref (.n 61) 0 (tried ++ [enAt p r k]).length
                rw [List.length_append]; rfl
              · rfl
              · show some (Ob.ds 3 1 ((tried.map encN).take tried.length ++ [encN (enAt p r k)])) = some (Ob.ds 3 1 ((tried ++ [enAt p r k]).map encN))
                rw [List.take_of_length_le (by simp), List.map_append]; rfl
      · have hge : k = (enabledL p r.s).length := by
          have : ¬ (k : Int) < ((enabledL p r.s).map encN).length := fun e => h (decide_eq_true e)
          simp at this; omega
        rw [← hge, hXe]
        conv => whnf
        refine ⟨_, Weak.refl, ?_⟩
        conv => whnf
        exact ⟨lendW, rfl, lend_wk ⟨rfl, rfl, rfl, rfl⟩⟩
end Ai
end
section
set_option maxRecDepth 100000
namespace Ai
open Go Go.Proofs Cyc
def OkX (p : ProgL) (b : Int) : Prop := p.goodS ∧ InR b 0 14
theorem sub_agg {w : World} {ok : Nat → Prop} {m : Own} {H : Key → Option Ob} {c x y z u t : D} {v : Value} (h : VRel w ok m H (.agg [.d c,.d .nil,.d .nil,.d x,.d y,.d z,.d u]) v) : VRel w ok m H (.agg [.d c,sl [],sl [],.d x,.d y,.d z,.d u]) v := by
 cases h with
 |agg _ us hl h =>
  refine .agg _ us hl fun i c' u' hc hu => ?_
  match i,hc with
  | 0,hc => exact h 0 _ _ hc hu
  | 1,hc =>
   have e : sl [] = c' := by simpa using hc
   subst e
   have := h 1 (.d .nil) u' rfl hu
   cases this with
   |d _ _ hd => cases hd; exact .d _ _ (.sl0 none 0)
  | 2,hc =>
   have e : sl [] = c' := by simpa using hc
   subst e
   have := h 2 (.d .nil) u' rfl hu
   cases this with
   |d _ _ hd => cases hd; exact .d _ _ (.sl0 none 0)
  | 3,hc => exact h 3 _ _ hc hu
  | 4,hc => exact h 4 _ _ hc hu
  | 5,hc => exact h 5 _ _ hc hu
  | 6,hc => exact h 6 _ _ hc hu
  |i + 7,hc => simp at hc
theorem io_nilR {E : Env} {g : FuncId} {H0 : Key → Option Ob} {Post : AV → (Key → Option Ob) → Prop} {x y : AV} {c a b d e : D} (h : IOCall E g [x,.agg [.d c,sl [],sl [],.d a,.d b,.d d,.d e],y] H0 Post) : IOCall E g [x,.agg [.d c,.d .nil,.d .nil,.d a,.d b,.d d,.d e],y] H0 Post := by
 intro w0 A m w vs hH hl hr
 refine h w0 A m w vs hH hl fun i av v ha hv => ?_
 match i,ha with
 | 0,ha => exact hr 0 av v ha hv
 | 1,ha =>
  have ha : AV.agg [.d c,sl [],sl [],.d a,.d b,.d d,.d e] = av := by simpa using ha
  subst ha
  exact sub_agg (t := c) (hr 1 _ v rfl hv)
 | 2,ha => exact hr 2 av v ha hv
 |i + 3,ha => simp at ha
noncomputable def wkN (p : ProgL) (b : Int) (sl : Bool) (xs : List RunT) (many : Bool) : Key → Option Ob
 | .n j => bif Nat.beq j 905 then some (.vs 97 (wkC p b sl xs.length many)) else bif Nat.beq j 901 then some (.ds 41 1 (xs.map rowPk)) else bif Nat.beq j 902 then some (.ds 51 1 (xs.map rowTr)) else bif Nat.beq j 903 then some (.ds 9 1 (xs.map (rowSg p))) else none
 | _ => none
def pS : Key → Bool
 | .n j => Nat.beq j 905 || Nat.beq j 901 || Nat.beq j 902 || Nat.beq j 903
 | _ => false
def AtN (p : ProgL) (b : Int) (sl : Bool) (xs : List RunT) (many : Bool) (H : Key → Option Ob) : Prop :=
 H (.n 905) = some (.vs 97 (wkC p b sl xs.length many)) ∧ H (.n 901) = some (.ds 41 1 (xs.map rowPk)) ∧ H (.n 902) = some (.ds 51 1 (xs.map rowTr)) ∧ H (.n 903) = some (.ds 9 1 (xs.map (rowSg p)))
theorem u6 {p : ProgL} {b : Int} {sl : Bool} {xs : List RunT} {many : Bool} : ∀ κ,pS κ = false → wkN p b sl xs many κ = none
 | .l j,h => rfl
 | .n j,h => by
  have h : (Nat.beq j 905 || Nat.beq j 901 || Nat.beq j 902 || Nat.beq j 903) = false := h
  simp only [Bool.or_eq_false_iff] at h
  simp [wkN,h.1.1.1,h.1.1.2,h.1.2,h.2]
 | .s o j,h => rfl
theorem lend_wkN {p : ProgL} {b : Int} {sl : Bool} {xs : List RunT} {many : Bool} {H : Key → Option Ob} (h : AtN p b sl xs many H) : yJ pS H = wkN p b sl xs many := by
 obtain ⟨h0,h1,h2,h3⟩ := h
 funext κ
 cases hk : pS κ with
 |false => rw [u6 κ hk,dF hk]
 |true =>
  rw [wZ hk]
  cases κ with
  |l j => cases hk
  |n j =>
   have hk : (Nat.beq j 905 || Nat.beq j 901 || Nat.beq j 902 || Nat.beq j 903) = true := hk
   simp only [Bool.or_eq_true] at hk
   rcases hk with ((hk | hk) | hk) | hk
   ·have := Nat.eq_of_beq_eq_true hk
    subst this; rw [h0]; rfl
   ·have := Nat.eq_of_beq_eq_true hk
    subst this; rw [h1]; rfl
   ·have := Nat.eq_of_beq_eq_true hk
    subst this; rw [h2]; rfl
   ·have := Nat.eq_of_beq_eq_true hk
    subst this; rw [h3]; rfl
  |s o j => cases hk
noncomputable def allX (p : ProgL) (b : Int) (sl : Bool) : List RunT × Bool := xgo p b sl (keepS p) (b.toNat + 1) ⟨0,[],[],vA p⟩ [] []
def AllPost (p : ProgL) (b : Int) (sl : Bool) (q : AV) (H1 : Key → Option Ob) : Prop :=
 (OkX p b ∧ q = .tup [.ptr (.n 905) 0,bv (allX p b sl).2] ∧ H1 = wkN p b sl (allX p b sl).1 (!(allX p b sl).2)) ∨ (¬ OkX p b ∧ q = .tup [.junk,bv false] ∧ H1 = fun _ => none)
theorem l10All_ok (p : ProgL) (hp : p.wf) (hs : p.rs.length ≤ 1048576 ∧ ∀ x ∈ p.rs,x.length ≤ 1048576) (hv : p.flt) (b : Int) (slp : Bool) : IOCall EE 57 [agg (encProg p),i64 b,bv slp] (fun _ => none) (AllPost p b slp) := by
 refine io_of_AW (fn := Tryz.f57) (c := Tryz.f57.body.getD .skip) Tryz.func57 rfl (by kernel_rfl) rfl ?_
 conv => whnf
 refine ocase (mM p hs hv) (fun hg => ?_) (fun hg => ?_)
 rotate_left 1
 ·conv => whnf
  refine ⟨_,Weak.refl,?_⟩
  conv => whnf
  refine ⟨fun _ => false,.inr ⟨fun e => hg e.1,rfl,rfl⟩⟩
 conv => whnf
 refine ocase (qP b 0 14) (fun hk => ?_) (fun hk => ?_)
 rotate_left 1
 ·conv => whnf
  refine ⟨_,Weak.refl,?_⟩
  conv => whnf
  refine ⟨fun _ => false,.inr ⟨fun e => hk e.2,rfl,rfl⟩⟩
 obtain ⟨b1,b2,b3,b4⟩ := hg.1
 conv => whnf
 refine ⟨_,l3New_ok p ⟨b1.1,by have := b1.2; omega⟩ ⟨b2.1,by have := b2.2; omega⟩,?_⟩
 rintro r rfl
 have hr0 : XR p b ⟨0,[],[],vA p⟩ := XR.new hg hk.1
 conv => whnf
 refine .inr (.inr (.inr (.inl ⟨_,113,[],(uZ (.n 13) (.n 901) 97 41 1 6 [i64 p.cells,i64 p.locks,i64 p.conds,.d (.sl (p.rs.map zS)),i64 b,bv slp,.d .nil,.d .nil,.d .nil,bv false] (by intro n h; cases h) (by intro h; cases h) rfl rfl).trans ((uZ (.n 13) (.n 902) 97 51 1 7 [i64 p.cells,i64 p.locks,i64 p.conds,.d (.sl (p.rs.map zS)),i64 b,bv slp,.dref (.n 901) 0,.d .nil,.d .nil,bv false] (by intro n h; cases h) (by intro h; cases h) rfl rfl).trans
  ((uZ (.n 13) (.n 903) 97 9 1 8 [i64 p.cells,i64 p.locks,i64 p.conds,.d (.sl (p.rs.map zS)),i64 b,bv slp,.dref (.n 901) 0,.dref (.n 902) 0,.d .nil,bv false] (by intro n h; cases h) (by intro h; cases h) rfl rfl).trans ((weak_cvt (.n 901) (e := 41) (sz := 1) (els := []) rfl).trans ((weak_cvt (.n 902) (e := 51) (sz := 1) (els := []) rfl).trans (weak_cvt (.n 903) (e := 9) (sz := 1) (els := []) rfl))))),rfl,13,0,lendW,_,io_nilR (io_nil (go1_ok p hp hg hv b ⟨hk.1,by have := hk.2; omega⟩ slp (b.toNat + 1) ⟨0,[],[],vA p⟩ 0 [] [] hr0 (by simp) (by simp) (by simp) (fun u hu => by cases hu) _ ?_)),rfl,?_⟩)))
 ·exact ⟨rfl,rfl,rfl,rfl⟩
 rintro q H1 ⟨rfl,rfl⟩
 refine ⟨wkH_none,fun n hn => ?_,?_⟩
 ·have : n = 0 := Nat.eq_of_beq_eq_true hn
  subst this
  exact ⟨97,_,_,rfl,rfl⟩
 conv => whnf
 refine .inr (.inl ⟨8,[],?_⟩)
 conv => whnf
 refine ⟨by kernel_rfl,?_⟩
 conv => whnf
 have hX : allX p b slp = xgo p b slp (keepS p) (b.toNat + 1) ⟨0,[],[],vA p⟩ [] [] := rfl
 generalize xgo p b slp (keepS p) (b.toNat + 1) ⟨0,[],[],vA p⟩ [] [] = X at *
 refine ⟨_,vP 13 905,?_⟩
 conv => whnf
 refine ⟨pS,.inl ⟨⟨hg,hk⟩,?_,?_⟩⟩
 ·rw [hX]
  cases X.2 <;> rfl
 ·rw [hX]
  exact lend_wkN ⟨rfl,rfl,rfl,rfl⟩
end Ai
end
section
set_option maxRecDepth 100000
namespace Ai
open Go Go.Proofs Cyc
theorem l5 {n : Int} (hn : 0 ≤ n) {l : List Nat} : n ∈ natI l ↔ n.toNat ∈ l := by
 simp only [natI,List.mem_map]
 constructor
 ·rintro ⟨a,ha,e⟩
  have : a = n.toNat := by omega
  subst this; exact ha
 ·exact fun h => ⟨_,h,by omega⟩
end Ai
end
section
set_option maxRecDepth 100000
namespace Ai
open Go Go.Proofs Cyc
theorem lend_none {H : Key → Option Ob} (h0 : H (.n 905) = none) (h1 : H (.n 901) = none) (h2 : H (.n 902) = none) (h3 : H (.n 903) = none) : yJ pS H = fun _ => none := by
 funext κ
 cases hk : pS κ with
 |false => exact dF hk
 |true =>
  rw [wZ hk]
  cases κ with
  |l j => cases hk
  |n j =>
   have hk : (Nat.beq j 905 || Nat.beq j 901 || Nat.beq j 902 || Nat.beq j 903) = true := hk
   simp only [Bool.or_eq_true] at hk
   rcases hk with ((hk | hk) | hk) | hk
   all_goals (have := Nat.eq_of_beq_eq_true hk; subst this; first | (rw [h0]; rfl) | (rw [h1]; rfl) | (rw [h2]; rfl) | (rw [h3]; rfl))
  |s o j => cases hk
theorem l10All_at (p : ProgL) (hp : p.wf) (hs : p.rs.length ≤ 1048576 ∧ ∀ x ∈ p.rs,x.length ≤ 1048576) (hv : p.flt) (b : Int) (slp : Bool) {H : Key → Option Ob} (h0 : H (.n 905) = none) (h1 : H (.n 901) = none) (h2 : H (.n 902) = none) (h3 : H (.n 903) = none) :
  IOCall EE 57 [agg (encProg p),i64 b,bv slp] (yJ pS H) (AllPost p b slp) := by
 rw [lend_none h0 h1 h2 h3]; exact l10All_ok p hp hs hv b slp
theorem allX_eq (p : ProgL) (b : Int) : allX p b false = gO p b := allR_of p b _ _
def OkA (p : ProgL) (b : Int) : Prop := OkX p b ∧ (gO p b).2 = true
theorem rC (p : ProgL) (hp : p.wf) (hs : p.rs.length ≤ 1048576 ∧ ∀ x ∈ p.rs,x.length ≤ 1048576) (hv : p.flt) (b : Int) :
  CallsTo EE 12 [agg (encProg p),i64 b] (fun r => (OkA p b ∧ r = .tup [sl ((gO p b).1.map rowPk),bv true]) ∨ (¬ OkA p b ∧ r = .tup [sl [],bv false])) := by
 refine callsTo_of_AW (fn := Tryz.f12) Tryz.func12 rfl (by kernel_rfl) rfl ?_
 conv => whnf
 refine ⟨_,57,[],Weak.refl,rfl,999,99,pS,_,l10All_at p hp hs hv b false rfl rfl rfl rfl,rfl,?_⟩
 rintro q H1 (⟨hok,rfl,rfl⟩ | ⟨hn,rfl,rfl⟩)
 ·rw [allX_eq]
  refine ⟨u6,fun n hn => ?_,?_⟩
  ·cases hn
  have hA : OkA p b ↔ (gO p b).2 = true := ⟨fun e => e.2,fun e => ⟨hok,e⟩⟩
  generalize gO p b = X at *
  obtain ⟨xs,okk⟩ := X
  cases okk with
  |false =>
   conv => whnf
   refine .inl ?_
   conv => whnf
   exact .inr ⟨fun e => absurd (hA.1 e) (by simp),rfl⟩
  |true =>
   conv => whnf
   refine .inl ?_
   conv => whnf
   refine .inl ⟨hA.2 rfl,?_⟩
   show AV.tup [sl (((xs.map rowPk).drop 0).take xs.length),bv true] = _
   rw [List.drop_zero,List.take_of_length_le (by simp)]
 ·refine ⟨fun _ _ => rfl,fun n hn => ?_,?_⟩
  ·cases hn
  conv => whnf
  refine .inl ?_
  conv => whnf
  exact .inr ⟨fun e => hn e.1,rfl⟩
end Ai
end
