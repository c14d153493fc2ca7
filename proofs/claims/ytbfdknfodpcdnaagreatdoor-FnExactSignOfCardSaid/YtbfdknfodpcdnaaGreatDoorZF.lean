import Derived.Test.YtbfdknfodpcdnaaGreatDoorZE
set_option maxHeartbeats 8000000
set_option linter.unusedVariables false
set_option linter.unusedSimpArgs false
namespace Ai
set_option maxRecDepth 100000
open Go Go.Proofs
def sZ (xs:List Th) (k j:Nat):List AV:=if j<k then (match xs[j]? with|some t=>thRow 900 j t|none=>[]) else [i64 0,i64 0,i64 0,i64 0,i64 0,.d .nil]
def vH (xs:List Th) (k:Nat):List (List AV):=(List.range xs.length).map (sZ xs k)
def mP (xs:List Th) (k j:Nat):Option Ob:=if j<k then zP xs j else none
theorem rowsH_map {xs:List Th} {i i':Nat} (f:List AV→List AV) (h:∀ j,j<xs.length→f (sZ xs i j)=sZ xs i' j):(vH xs i).map f=vH xs i':=by
 unfold vH
 rw[List.map_map]
 exact List.map_congr_left fun j hj=>h j (by simpa using hj)
theorem rowsH_zero (xs:List Th):vH xs 0=List.replicate xs.length [i64 0,i64 0,i64 0,i64 0,i64 0,.d .nil]:=by
 apply List.ext_getElem?
 intro j
 by_cases h:j<xs.length
 ·simp[vH,sZ,h]
 ·rw[List.getElem?_eq_none (by simp[vH];omega),List.getElem?_eq_none (by simp;omega)]
theorem eS {p:Key→Bool} (xs:List Th) (i:Nat) (hp:∀ j,p (.s 900 j)=false):(vH xs i).map (scrPL p)=vH xs i :=
 rowsH_map _ fun j hj=>by
  unfold sZ
  split
  ·rw[List.getElem?_eq_getElem hj]
   exact zU (hp j)
  ·rfl
theorem famH_ren (f:Key→Key) (xs:List Th) (i j:Nat):(mP xs i j).map (renO f)=mP xs i j:=by
 unfold mP
 split
 ·exact thFam_ren _ _ _
 ·rfl
theorem famH_scr (p:Key→Bool) (xs:List Th) (i j:Nat):(mP xs i j).map (scrPO p)=mP xs i j:=by
 unfold mP
 split
 ·exact yE _ _ _
 ·rfl
theorem rowsH_end (xs:List Th):vH xs xs.length=thRows 900 xs:=by
 apply List.ext_getElem?
 intro j
 by_cases h:j<xs.length
 ·rw[yY h]
  simp[vH,sZ,h]
 ·rw[List.getElem?_eq_none (by simp[vH];omega),List.getElem?_eq_none (by rw[zR];omega)]
theorem famH_end (xs:List Th) (j:Nat):mP xs xs.length j=zP xs j:=by
 unfold mP
 split
 ·rfl
 ·rename_i h
  exact(thFam_ge (by omega)).symm
theorem rowsH_put {xs:List Th} {k:Nat} (h:k<xs.length):((yZ (vH xs k) 6 k 0 [i64 xs[k].rt,i64 xs[k].pc,i64 xs[k].st,i64 xs[k].cond,i64 xs[k].lock,.ref (.n 905) 0 (stk xs[k]).length]).map (renL (swp (.n 905) (.s 900 k))))=vH xs (k+1):=by
 have hlen:(vH xs k).length=xs.length:=by simp[vH]
 apply List.ext_getElem?
 intro j
 by_cases hj:j=k
 ·subst hj
  rw[List.getElem?_map,vE (c:=sZ xs j j) (c':=[i64 xs[j].rt,i64 xs[j].pc,i64 xs[j].st,i64 xs[j].cond,i64 xs[j].lock,.ref (.n 905) 0 (stk xs[j]).length]) (by simp[vH,h]) (by unfold sZ;rw[if_neg (by omega)];rfl)]
  have e:swp (.n 905) (.s 900 j) (.n 905)=.s 900 j:=by simp[swp,Key.beq]
  simp[vH,sZ,h,renL,ren,e,thRow,stk]
 ·by_cases hl:j<xs.length
  ·rw[List.getElem?_map,lK hj (c:=sZ xs k j) (by simp[vH,hl])]
   simp only[vH,List.getElem?_map,List.getElem?_range hl,Option.map_some,Option.some.injEq]
   unfold sZ
   by_cases hjk:j<k
   ·rw[if_pos hjk,if_pos (by omega),List.getElem?_eq_getElem hl]
    exact nC (by omega)
   ·rw[if_neg hjk,if_neg (by omega)]
    rfl
  ·rw[List.getElem?_eq_none (by simp[yZ];simp[hlen];omega),List.getElem?_eq_none (by simp[vH];omega)]
theorem aM (xs:List Th) (hx:xs.length≤1048576) (hx2:∀ x∈xs,x.stack.length≤1048576):CallsTo EE 65 [sl (xs.map zD)] (·=.ownF 1 [.uqd 109 6 5 100 1 (xs.map vL) (xs.map stk)]):=by
 refine rI (fun v hv=>?_) ?_
 ·simp only[List.mem_cons,List.not_mem_nil,or_false] at hv
  subst hv
  show(xs.map _).length=(xs.map _).length
  simp
 refine fZ (fn:=Tryz.f65) (c:=Tryz.f65.body.getD .skip) Tryz.func65 rfl (by kernel_rfl) rfl ?_
 conv=>whnf
 refine⟨by simp;omega,?_⟩
 conv=>whnf
 refine pE (fun k:Nat=>[(0,sl (xs.map zD)),(3,.dref (.n 900) xs.length),(4,i64 k)]) (fun k=>[(.n 900,.rs 109 6 (vH xs k))]) (fun k=>[(900,mP xs k)]) (fun k=>xs.length - k) (fun k=>k≤xs.length) 0
  ((sI (.n 7) rfl).trans (wI 7 900)) ?_ ?_ ?_ (Nat.zero_le _) ?_
 ·exact⟨rfl,by show AV.dref (.n 900) (((xs.map zD).length:Nat):Int).toNat=_;simp,rfl,trivial⟩
 ·refine⟨?_,trivial⟩
  show some (Ob.rs 109 6 (((List.replicate (((xs.map zD).length:Nat):Int).toNat [di 0,di 0,di 0,di 0,di 0,D.nil]).map (List.map AV.d)).map (renL (swp (.n 7) (.n 900)))))=_
  rw[rowsH_zero]
  simp[renL,ren]
 ·refine⟨fun j=>?_,trivial⟩
  unfold mP
  rw[if_neg (by omega)]
  rfl
 intro k τ H hk
 have hk:k≤xs.length:=hk
 conv=>whnf
 refine kbi (fun h=>?_) (fun h=>?_)
 ·have hlt:=yF h
  conv=>whnf
  refine⟨zD xs[k],zL zD hlt rfl,?_⟩
  conv=>whnf
  refine⟨_,oZ xs[k] (hx2 _ (List.getElem_mem hlt)),?_⟩
  rintro r rfl
  conv=>whnf
  refine⟨⟨by omega,by omega⟩,?_⟩
  conv=>whnf
  refine⟨k+1,_,kJ 905 900 k,by show k+1≤xs.length;omega,by show xs.length - (k+1)<xs.length - k;omega,⟨rfl,rfl,zF hlt (by omega),trivial⟩,⟨?_,trivial⟩,⟨fun j=>?_,trivial⟩⟩
  ·show some (Ob.rs 109 6 ((yZ ((vH xs k).map (scrPL fun κ=>(ownH [i64 xs[k].rt,i64 xs[k].pc,i64 xs[k].st,i64 xs[k].cond,i64 xs[k].lock,.uq 100 1 (stk xs[k])] κ).isSome)) 6 ((k:Int)).toNat 0 [i64 xs[k].rt,i64 xs[k].pc,i64 xs[k].st,i64 xs[k].cond,i64 xs[k].lock,.ref (.n 905) 0 (stk xs[k]).length]).map (renL (swp (.n 905) (.s 900 k)))))=_
   rw[eS _ _ (fun j=>rfl),Int.toNat_natCast,rowsH_put hlt]
  ·show(St.H _ (swp (.n 905) (.s 900 k) (.s 900 j))).map _=_
   by_cases hj:j=k
   ·subst hj
    have e:swp (.n 905) (.s 900 j) (.s 900 j)=.n 905:=by simp[swp,Key.beq]
    rw[e]
    unfold mP
    rw[if_pos (by omega),thFam_self hlt]
    rfl
   ·have e:swp (.n 905) (.s 900 k) (.s 900 j)=.s 900 j:=by simp[swp,Key.beq,nbeq_ne hj]
    rw[e]
    show Option.map _ (Option.map _ (mP xs k j))=_
    rw[famH_scr,famH_ren]
    unfold mP
    by_cases hjk:j<k
    ·rw[if_pos hjk,if_pos (by omega)]
    ·rw[if_neg hjk,if_neg (by omega)]
 ·have hkk:k=xs.length:=by
   have:¬ k<xs.length:=by simpa using h
   omega
  subst hkk
  conv=>whnf
  refine⟨_,Weak.refl,?_⟩
  conv=>whnf
  refine⟨lend9,?_,fun κ hκ=>?_⟩
  ·show AV.dref (.n 900) xs.length=AV.dref (.n 900) (xs.map _).length
   rw[List.length_map]
  ·cases κ with
   |l n=>exact absurd rfl hκ
   |n q =>
    by_cases hq:q=900
    ·subst hq
     show some (Ob.rs 109 6 ((vH xs xs.length).map (scrPL (fun o=>!lend9 o))))=some (Ob.rs 109 6 (ownRows 900 5 (xs.map vL) (xs.map stk)))
     rw[eS _ _ (fun j=>rfl),rowsH_end];rfl
    ·exact absurd (own1_n hq) hκ
   |s o j =>
    by_cases hq:o=900
    ·subst hq
     show Option.map _ (mP xs xs.length j)=((xs.map stk)[j]?).map (Ob.ds 100 1)
     rw[famH_scr,famH_end]
     simp[zP]
     rfl
    ·exact absurd (own1_s hq) hκ
theorem n9 (s:StL) (h:s.fit):CallsTo EE 35 [agg (zZ s)] (·=.own (vA s)):=by
 refine callsTo_of_AW (fn:=Tryz.f35) Tryz.func35 rfl (by kernel_rfl) rfl ?_
 conv=>whnf
 refine⟨_,aM s.ths h.ths h.st,?_⟩
 rintro r rfl
 conv=>whnf
 refine⟨_,jX s.cells h.cells,?_⟩
 rintro r rfl
 refine .inr ⟨_,rfl,?_⟩
 conv=>whnf
 refine⟨_,bR s.owner h.owner,?_⟩
 rintro r rfl
 refine .inr ⟨_,rfl,?_⟩
 conv=>whnf
 refine .inr (.inr ⟨vA s,_,(wI 10 901).trans (wI 14 902),?_,?_,gK ⟨⟨?_,fun j q hq=>?_⟩,?_,?_,trivial,trivial⟩,rfl⟩)
 ·rfl
 ·intro v hv
  simp only[vA,List.mem_cons,List.not_mem_nil,or_false] at hv
  rcases hv with rfl|rfl|rfl|rfl
  ·show(s.ths.map vL).length=(s.ths.map stk).length
   simp
  ·trivial
  ·trivial
  ·trivial
 ·show some (Ob.rs 109 6 (((((thRows 900 s.ths).map (scrPL (isK (.n 10)))).map (scrPL (isK (.n 14)))).map (renL (swp (.n 10) (.n 901)))).map (renL (swp (.n 14) (.n 902)))))=some (Ob.rs 109 6 (thRows 900 s.ths))
  rw[vG,vG,wL,wL]
 ·have hq:(s.ths.map stk)[j]?=some q:=hq
  have e:ownH [AV.uqd 109 6 5 100 1 (s.ths.map vL) (s.ths.map stk)] (.s 900 j)=some (.ds 100 1 q):=by
   show((s.ths.map stk)[j]?).map (Ob.ds 100 1)=_
   rw[hq];rfl
  show Option.map _ (Option.map _ (Option.map _ (Option.map _ (match ownH [AV.uqd 109 6 5 100 1 (s.ths.map vL) (s.ths.map stk)] (.s 900 j) with|some ob=>some ob|none=>_))))=_
  rw[e];rfl
 ·rfl
 ·rfl
def eZ (x:RunT):List AV:=[i64 x.c,.uq 107 5 (x.tr.map encEv),.uq 3 1 (x.tk.map encInt),.uqd 109 6 5 100 1 (x.s.ths.map vL) (x.s.ths.map stk),.uq 100 1 (x.s.cells.map encF),.uq 3 1 (x.s.owner.map encInt),.d (di x.s.fault)]
theorem toRun_own (x:RunT) (h:x.fit):CallsTo EE 11 [agg (encRT x)] (·=.own (eZ x)):=by
 refine callsTo_of_AW (fn:=Tryz.f11) Tryz.func11 rfl (by kernel_rfl) rfl ?_
 conv=>whnf
 refine⟨_,pN x.tr h.tr,?_⟩
 rintro r rfl
 refine .inr ⟨_,rfl,?_⟩
 conv=>whnf
 refine⟨_,bR x.tk h.tk,?_⟩
 rintro r rfl
 refine .inr ⟨_,rfl,?_⟩
 conv=>whnf
 refine⟨_,n9 x.s h.s,?_⟩
 rintro r rfl
 conv=>whnf
 refine .inr (.inr ⟨eZ x,_,(bP shA).trans ((wI 9 901).trans (wI 13 902)),?_,?_,gK ⟨trivial,?_,?_,⟨?_,fun j q hq=>?_⟩,?_,?_,trivial,trivial⟩,rfl⟩)
 ·rfl
 ·intro v hv
  simp only[eZ,List.mem_cons,List.not_mem_nil,or_false] at hv
  rcases hv with rfl|rfl|rfl|rfl|rfl|rfl|rfl
  ·trivial
  ·trivial
  ·trivial
  ·show(x.s.ths.map vL).length=(x.s.ths.map stk).length
   simp
  ·trivial
  ·trivial
  ·trivial
 ·rfl
 ·rfl
 ·show some (Ob.rs 109 6 ((((thRows 900 x.s.ths).map (renL shA.f)).map (renL (swp (.n 9) (.n 901)))).map (renL (swp (.n 13) (.n 902)))))=some (Ob.rs 109 6 (thRows 903 x.s.ths))
  rw[show(thRows 900 x.s.ths).map (renL shA.f)=thRows 903 x.s.ths from bS (g:=numA) (hg:=nO) 900 x.s.ths]
  show some (Ob.rs 109 6 (((thRows 903 x.s.ths).map (renL (swp (.n 9) (.n 901)))).map (renL (swp (.n 13) (.n 902)))))=_
  rw[wL,wL]
 ·have hq:(x.s.ths.map stk)[j]?=some q:=hq
  have e:ownH (vA x.s) (.s 900 j)=some (.ds 100 1 q):=by
   show((x.s.ths.map stk)[j]?).map (Ob.ds 100 1)=_
   rw[hq];rfl
  show Option.map _ (Option.map _ (Option.map _ (match ownH (vA x.s) (.s 900 j) with|some ob=>some ob|none=>_)))=_
  rw[e];rfl
 ·rfl
 ·rfl
end Ai
namespace Ai
set_option maxRecDepth 100000
open Go Go.Proofs
def totT (xs:List Th) (i:Nat):Nat:=((xs.take i).map fun t=>5+t.stack.length).sum
end Ai
namespace Ai
set_option maxRecDepth 100000
open Go Go.Proofs
theorem r3 {l:List Th} {p:Key→Bool} (h:∀ j,p (.s 903 j)=false):(thRows 903 l).map (scrPL p)=thRows 903 l:=yB fun j _=>h j
end Ai
namespace Ai
set_option maxRecDepth 100000
open Go Go.Proofs
theorem eqEvent_ok (x:Ev):CallsTo EE 74 [agg (encEv x),agg (encEv x)] (·=bv true):=by
 refine callsTo_of_AW (fn:=Tryz.f74) Tryz.func74 rfl (by kernel_rfl) rfl ?_
 conv=>whnf
 iterate 5
  refine⟨fun h=>(yK _ h).elim,fun _=>?_⟩
  conv=>whnf
theorem eqEventS_ok (xs:List Ev) (hx:xs.length≤1048576):CallsTo EE 39 [sl (xs.map encEv),sl (xs.map encEv)] (·=bv true):=by
 refine callsTo_of_AW (fn:=Tryz.f39) Tryz.func39 rfl (by kernel_rfl) rfl ?_
 conv=>whnf
 refine⟨fun h=>(yK _ h).elim,fun _=>?_⟩
 conv=>whnf
 refine yJ (fun k:Nat=>[(0,sl (xs.map encEv)),(1,sl (xs.map encEv)),(5,i64 k)]) (fun k=>[]) (fun k=>xs.length - k) (fun k=>k≤xs.length) 0 .refl ⟨rfl,rfl,rfl,trivial⟩ trivial (Nat.zero_le _) ?_
 intro k τ H hk
 conv=>whnf
 refine⟨fun h=>?_,fun h=>?_⟩
 ·have hlt:=yF h
  conv=>whnf
  refine⟨by kernel_rfl,?_⟩
  conv=>whnf
  refine⟨encEv xs[k],zL encEv hlt rfl,?_⟩
  conv=>whnf
  refine⟨encEv xs[k],zL encEv hlt rfl,?_⟩
  conv=>whnf
  refine⟨_,eqEvent_ok xs[k],?_⟩
  conv=>whnf
  refine⟨k+1,by omega,by show xs.length - (k+1)<xs.length - k;omega,⟨rfl,rfl,zF hlt (by omega),trivial⟩,trivial⟩
 ·conv=>whnf
theorem rF (xs:List Nat) (hx:xs.length≤1048576):CallsTo EE 76 [sl (xs.map encF),sl (xs.map encF)] (·=bv true):=by
 refine callsTo_of_AW (fn:=Tryz.f76) Tryz.func76 rfl (by kernel_rfl) rfl ?_
 conv=>whnf
 refine⟨fun h=>(yK _ h).elim,fun _=>?_⟩
 conv=>whnf
 refine yJ (fun k:Nat=>[(0,sl (xs.map encF)),(1,sl (xs.map encF)),(5,i64 k)]) (fun k=>[]) (fun k=>xs.length - k) (fun k=>k≤xs.length) 0 .refl ⟨rfl,rfl,rfl,trivial⟩ trivial (Nat.zero_le _) ?_
 intro k τ H hk
 conv=>whnf
 refine⟨fun h=>?_,fun h=>?_⟩
 ·have hlt:=yF h
  conv=>whnf
  refine⟨by kernel_rfl,?_⟩
  conv=>whnf
  refine⟨encF xs[k],zL encF hlt rfl,?_⟩
  conv=>whnf
  refine⟨encF xs[k],zL encF hlt rfl,?_⟩
  conv=>whnf
  refine⟨_,lP xs[k],?_⟩
  conv=>whnf
  refine⟨k+1,by omega,by show xs.length - (k+1)<xs.length - k;omega,⟨rfl,rfl,zF hlt (by omega),trivial⟩,trivial⟩
 ·conv=>whnf
theorem eqThread_ok (x:Th) (hx:x.stack.length≤1048576):CallsTo EE 114 [agg (zD x),agg (zD x)] (·=bv true):=by
 refine callsTo_of_AW (fn:=Tryz.f114) Tryz.func114 rfl (by kernel_rfl) rfl ?_
 conv=>whnf
 iterate 5
  refine⟨fun h=>(yK _ h).elim,fun _=>?_⟩
  conv=>whnf
 refine⟨_,rF x.stack hx,?_⟩
 rintro r rfl
 conv=>whnf
theorem j5 (xs:List Th) (hx:xs.length≤1048576) (h9:∀ t∈xs,t.stack.length≤1048576):CallsTo EE 75 [sl (xs.map zD),sl (xs.map zD)] (·=bv true):=by
 refine callsTo_of_AW (fn:=Tryz.f75) Tryz.func75 rfl (by kernel_rfl) rfl ?_
 conv=>whnf
 refine⟨fun h=>(yK _ h).elim,fun _=>?_⟩
 conv=>whnf
 refine yJ (fun k:Nat=>[(0,sl (xs.map zD)),(1,sl (xs.map zD)),(5,i64 k)]) (fun k=>[]) (fun k=>xs.length - k) (fun k=>k≤xs.length) 0 .refl ⟨rfl,rfl,rfl,trivial⟩ trivial (Nat.zero_le _) ?_
 intro k τ H hk
 conv=>whnf
 refine⟨fun h=>?_,fun h=>?_⟩
 ·have hlt:=yF h
  conv=>whnf
  refine⟨by kernel_rfl,?_⟩
  conv=>whnf
  refine⟨zD xs[k],zL zD hlt rfl,?_⟩
  conv=>whnf
  refine⟨zD xs[k],zL zD hlt rfl,?_⟩
  conv=>whnf
  refine⟨_,eqThread_ok xs[k] (h9 _ (List.getElem_mem hlt)),?_⟩
  conv=>whnf
  refine⟨k+1,by omega,by show xs.length - (k+1)<xs.length - k;omega,⟨rfl,rfl,zF hlt (by omega),trivial⟩,trivial⟩
 ·conv=>whnf
theorem eqState_ok (s:StL) (h:s.fit):CallsTo EE 41 [agg (zZ s),agg (zZ s)] (·=bv true):=by
 refine callsTo_of_AW (fn:=Tryz.f41) Tryz.func41 rfl (by kernel_rfl) rfl ?_
 conv=>whnf
 refine⟨_,j5 s.ths h.ths h.st,?_⟩
 rintro r rfl
 conv=>whnf
 refine⟨_,rF s.cells h.cells,?_⟩
 rintro r rfl
 conv=>whnf
 refine⟨_,oD s.owner h.owner,?_⟩
 rintro r rfl
 conv=>whnf
 refine⟨fun h=>(yK _ h).elim,fun _=>?_⟩
 conv=>whnf
theorem eqRun_ok (x:RunT) (h:x.fit):CallsTo EE 14 [agg (encRT x),agg (encRT x)] (·=bv true):=by
 refine callsTo_of_AW (fn:=Tryz.f14) Tryz.func14 rfl (by kernel_rfl) rfl ?_
 conv=>whnf
 refine⟨fun h=>(yK _ h).elim,fun _=>?_⟩
 conv=>whnf
 refine⟨_,eqEventS_ok x.tr h.tr,?_⟩
 rintro r rfl
 conv=>whnf
 refine⟨_,oD x.tk h.tk,?_⟩
 rintro r rfl
 conv=>whnf
 refine⟨_,eqState_ok x.s h.s,?_⟩
 rintro r rfl
 conv=>whnf
end Ai
namespace Ai
set_option maxRecDepth 100000
open Go Go.Proofs Cyc
section
open Classical
variable {ok:List Int→Prop} {l:Nat}
theorem j6 {xs:List Int} {i l:Nat} (h:i<xs.length∧0<l):(qY xs i (min xs.length (i+l))).length<xs.length:=by simp[qY];omega
noncomputable def inn (ok:List Int→Prop) (l:Nat) (xs:List Int) (i a:Nat) (w:Bool):List Int × Nat × Bool :=
 if h:i<xs.length∧0<l then
  if ok (qY xs i (min xs.length (i+l))) then inn ok l (qY xs i (min xs.length (i+l))) i (a+1) true else inn ok l xs (i+1) (a+1) w
 else (xs,a,w)
termination_by xs.length - i
decreasing_by
 ·have:=j6 h;omega
 ·omega
theorem inn_end {xs:List Int} {i a:Nat} {w:Bool} (h:¬ i<xs.length):inn ok l xs i a w=(xs,a,w):=by
 rw[inn,dif_neg (fun q=>h q.1)]
theorem inn_take {xs:List Int} {i a:Nat} {w:Bool} (h:i<xs.length) (h0:0<l) (hk:ok (qY xs i (min xs.length (i+l)))):inn ok l xs i a w=inn ok l (qY xs i (min xs.length (i+l))) i (a+1) true:=by
 rw[inn,dif_pos ⟨h,h0⟩,if_pos hk]
theorem inn_pass {xs:List Int} {i a:Nat} {w:Bool} (h:i<xs.length) (h0:0<l) (hk:¬ ok (qY xs i (min xs.length (i+l)))):inn ok l xs i a w=inn ok l xs (i+1) (a+1) w:=by
 rw[inn,dif_pos ⟨h,h0⟩,if_neg hk]
theorem nT:∀ (n:Nat) (xs:List Int) (i a:Nat) (w:Bool),xs.length - i≤n→(inn ok l xs i a w).1.length≤xs.length∧(inn ok l xs i a w).2.1≤a+n∧((inn ok l xs i a w).2.2=true→w=true∨(inn ok l xs i a w).1.length<xs.length)∧((∀ x∈xs,0≤x)→∀ x∈(inn ok l xs i a w).1,0≤x)
 | 0,xs,i,a,w,h=>by
  rw[inn_end (by omega)]
  exact⟨Nat.le_refl _,Nat.le_refl _,.inl,id⟩
 |n+1,xs,i,a,w,h=>by
  by_cases hi:i<xs.length∧0<l
  ·by_cases hk:ok (qY xs i (min xs.length (i+l)))
   ·rw[inn_take hi.1 hi.2 hk]
    have hd:=j6 hi
    obtain⟨h1,h2,h3,h4⟩:=nT n (qY xs i (min xs.length (i+l))) i (a+1) true (by omega)
    exact⟨by omega,by omega,fun _=>.inr (by omega),fun h=>h4 (drop_in h)⟩
   ·rw[inn_pass hi.1 hi.2 hk]
    obtain⟨h1,h2,h3,h4⟩:=nT n xs (i+1) (a+1) w (by omega)
    exact⟨h1,by omega,h3,h4⟩
  ·rw[inn,dif_neg hi]
   exact⟨Nat.le_refl _,by show a≤_;omega,.inl,id⟩
theorem inn_len (xs:List Int) (a:Nat):(inn ok l xs 0 a false).1.length≤xs.length:=(nT _ xs 0 a false (Nat.le_refl _)).1
noncomputable def shr (ok:List Int→Prop) (l:Nat) (xs:List Int) (a:Nat):List Int × Nat :=
 if h:1<l then shr ok (l / 2) (inn ok l xs 0 a false).1 (inn ok l xs 0 a false).2.1
 else if h:(inn ok l xs 0 a false).2.2=true∧(inn ok l xs 0 a false).1.length<xs.length then shr ok l (inn ok l xs 0 a false).1 (inn ok l xs 0 a false).2.1
 else ((inn ok l xs 0 a false).1,(inn ok l xs 0 a false).2.1)
termination_by l+xs.length
decreasing_by
 ·have:=inn_len (ok:=ok) (l:=l) xs a;omega
 ·omega
end
noncomputable def shrinkL (p:ProgL) (picks:List Int) (sign:List UInt8):List Int × Nat:=shr (fun xs=>rL p xs sign) (max 1 (picks.length / 2)) picks 0
structure ShrP (p:ProgL) (sign:List UInt8) (F:List Int × Nat) (l:Nat) (xs:List Int) (a:Nat):Prop where
 fin:shr (fun xs=>rL p xs sign) l xs a=F
 l0:1≤l
 l1:l≤60
 len:xs.length≤60
 nn:∀ x∈xs,0≤x
 asked:a+60*(l+xs.length)≤7260
structure InnP (p:ProgL) (sign:List UInt8) (l:Nat) (xs:List Int) (a:Nat) (c:List Int) (i b:Nat) (w:Bool):Prop where
 fin:inn (fun xs=>rL p xs sign) l c i b w=inn (fun xs=>rL p xs sign) l xs 0 a false
 len:c.length≤xs.length
 il:i≤c.length
 nn:∀ x∈c,0≤x
 asked:b+(c.length - i)≤a+xs.length
theorem InnP.take {p:ProgL} {sign:List UInt8} {l a i b:Nat} {xs c:List Int} {w:Bool} (h:InnP p sign l xs a c i b w) (h0:1≤l) (hi:i<c.length) (hk:rL p (qY c i (min c.length (i+l))) sign) :
  InnP p sign l xs a (qY c i (min c.length (i+l))) i (b+1) true∧(qY c i (min c.length (i+l))).length<c.length:=by
 have hd:=j6 ⟨hi,h0⟩
 have hdl:i≤(qY c i (min c.length (i+l))).length:=by simp[qY];omega
 refine⟨⟨by rw[← h.fin];exact(inn_take (ok:=fun xs=>rL p xs sign) hi h0 hk).symm,by have:=h.len;omega,hdl,drop_in h.nn,by have:=h.asked;omega⟩,hd⟩
theorem InnP.pass {p:ProgL} {sign:List UInt8} {l a i b:Nat} {xs c:List Int} {w:Bool} (h:InnP p sign l xs a c i b w) (h0:1≤l) (hi:i<c.length) (hk:¬ rL p (qY c i (min c.length (i+l))) sign) :
  InnP p sign l xs a c (i+1) (b+1) w :=
 ⟨by rw[← h.fin];exact(inn_pass (ok:=fun xs=>rL p xs sign) hi h0 hk).symm,h.len,hi,h.nn,by have:=h.asked;omega⟩
theorem ShrP.init (p:ProgL) (sign:List UInt8) {picks:List Int} (h:Picks6 picks):ShrP p sign (shrinkL p picks sign) (max 1 (picks.length / 2)) picks 0 :=
 ⟨rfl,by omega,by have:=h.1;omega,h.1,h.nn,by have:=h.1;omega⟩
end Ai
namespace Ai
set_option maxRecDepth 100000
open Go Go.Proofs Cyc
noncomputable def pB (p:ProgL) (r:RunT) (k:Nat):Nat:=(zA p r.s).getD k 0
noncomputable def runBy (p:ProgL) (r:RunT) (k:Nat):RunT:=⟨0,r.tr++[(zQ p r.s (pB p r k)).2],r.tk++[(k:Int)],(zQ p r.s (pB p r k)).1⟩
def leaf (p:ProgL) (b:Int) (c:Int) (r:RunT):RunT:=⟨c,r.tr,r.tk,r.s⟩
noncomputable def rR (p:ProgL) (tr:List Ev):Nat→StL
 | 0=>xY p
 |i+1=>(zQ p (rR p tr i) (tr.getD i jD).th.toNat).1
theorem sO (p:ProgL) (tr:List Ev) (e:Ev):∀ i,i≤tr.length→rR p (tr++[e]) i=rR p tr i
 | 0,_=>rfl
 |i+1,h=>by
  rw[rR,rR,sO p tr e i (by omega)]
  have:(tr++[e]).getD i jD=tr.getD i jD:=by
   rw[List.getD_eq_getElem?_getD,List.getD_eq_getElem?_getD,List.getElem?_append_left (by omega)]
  rw[this]
structure XR (p:ProgL) (b:Int) (r:RunT):Prop where
 inv:AInv p r.s
 tr:TrOK r.s r.tr
 len:r.tr.length=r.tk.length
 le:(r.tr.length:Int)≤b
 tk:∀ i∈r.tk,0≤i∧i<5
 at_:rR p r.tr r.tr.length=r.s
 en:∀ i,i<r.tr.length→(r.tr.getD i jD).th.toNat∈zA p (rR p r.tr i)∧0≤(r.tr.getD i jD).th
 run:∀ picks,r.tk <+: picks→fQ p picks b=rS p picks b (b.toNat+1 - r.tr.length) r.s r.tr r.tk
structure XEnd (p:ProgL) (b:Int) (x:RunT):Prop where
 fin:REnd p b x
 en:∀ i,i<x.tr.length→(x.tr.getD i jD).th.toNat∈zA p (rR p x.tr i)∧0≤(x.tr.getD i jD).th
 run:fQ p x.tk b=x
theorem XR.new {p:ProgL} (hg:p.goodS) {b:Int} (hb:0≤b):XR p b ⟨0,[],[],xY p⟩ :=
 ⟨cW hg,⟨fun e he=>(by cases he),fun h=>absurd rfl h⟩,rfl,hb,fun i hi=>(by cases hi),rfl,fun i hi=>(by cases hi),fun picks h=>rfl⟩
theorem XR.mem {p:ProgL} {b:Int} {r:RunT} {k:Nat} (hk:k<(zA p r.s).length):pB p r k∈zA p r.s:=by
 unfold pB
 rw[List.getD_eq_getElem?_getD,List.getElem?_eq_getElem hk];exact List.getElem_mem hk
theorem XR.step {p:ProgL} (hg:p.goodS) (hv:p.flt) {b:Int} {r:RunT} (h:XR p b r) (hc:¬ 0<yI p r.s r.tr.length b) {k:Nat} (hk:k<(zA p r.s).length):XR p b (runBy p r k):=by
 have hm:=XR.mem (b:=b) hk
 have h5:(zA p r.s).length≤5:=Nat.le_trans (jE) h.inv.si.len
 have hlb:=(en_ne hc).2
 have hle:=h.le
 have hth:(zQ p r.s (pB p r k)).2.th=(pB p r k:Nat):=(step_ev p r.s _).1
 refine⟨pF hg hv hm h.inv,tr_step hg hm h.inv h.tr,by simp[runBy,h.len],?_,fun i hi=>?_,?_,fun i hi=>?_,fun picks hp=>?_⟩
 ·show((r.tr++[_]).length:Int)≤b
  simp;omega
 ·rcases List.mem_append.1 hi with e|e
  ·exact h.tk i e
  ·simp only[List.mem_cons,List.not_mem_nil,or_false] at e
   subst e;omega
 ·show rR p (r.tr++[_]) (r.tr++[_]).length=(zQ p r.s _).1
  rw[List.length_append]
  show rR p (r.tr++[_]) (r.tr.length+1)=_
  rw[rR,sO _ _ _ _ (Nat.le_refl _),h.at_]
  have:(r.tr++[(zQ p r.s (pB p r k)).2]).getD r.tr.length jD=(zQ p r.s (pB p r k)).2:=by simp[List.getD_eq_getElem?_getD]
  rw[this,hth]
  rfl
 ·have hi:i<(r.tr++[(zQ p r.s (pB p r k)).2]).length:=hi
  show((r.tr++[_]).getD i jD).th.toNat∈zA p (rR p (r.tr++[_]) i)∧0≤((r.tr++[_]).getD i jD).th
  simp only[List.length_append,List.length_cons,List.length_nil] at hi
  rw[sO _ _ _ _ (by omega)]
  by_cases he:i=r.tr.length
  ·subst he
   have:(r.tr++[(zQ p r.s (pB p r k)).2]).getD r.tr.length jD=(zQ p r.s (pB p r k)).2:=by simp[List.getD_eq_getElem?_getD]
   rw[this,hth,h.at_]
   exact⟨by simpa using hm,by omega⟩
  ·have:(r.tr++[(zQ p r.s (pB p r k)).2]).getD i jD=r.tr.getD i jD:=by
    rw[List.getD_eq_getElem?_getD,List.getD_eq_getElem?_getD,List.getElem?_append_left (by omega)]
   rw[this]
   exact h.en i (by omega)
 ·have hp:r.tk++[(k:Int)] <+: picks:=hp
  obtain⟨more,rfl⟩:=hp
  rw[h.run _ ⟨[(k:Int)]++more,by simp⟩]
  have hn:b.toNat+1 - r.tr.length=(b.toNat - r.tr.length)+1:=by omega
  rw[hn,rS,if_neg hc]
  have hpk:wJ (r.tk++[(k:Int)]++more) r.tk (zA p r.s).length=(k:Int):=by
   unfold wJ
   rw[if_pos (by simp)]
   have:(r.tk++[(k:Int)]++more).getD r.tk.length 0=(k:Int):=by simp[List.getD_eq_getElem?_getD]
   rw[this]
   exact Int.tmod_eq_of_lt (by omega) (by omega)
  simp only[hpk]
  show _=rS p _ b (b.toNat+1 - (r.tr++[_]).length) _ _ _
  rw[show b.toNat+1 - (r.tr++[(zQ p r.s (pB p r k)).2]).length=b.toNat - r.tr.length by simp]
  rfl
theorem XR.leaf {p:ProgL} {b:Int} {r:RunT} (h:XR p b r) (hc:0<yI p r.s r.tr.length b):XEnd p b (leaf p b (yI p r.s r.tr.length b) r):=by
 refine⟨⟨h.inv,h.tr,rfl,hc,h.len,h.le,h.tk⟩,h.en,?_⟩
 show fQ p r.tk b=_
 rw[h.run _ (List.prefix_rfl)]
 have hle:=h.le
 have hn:b.toNat+1 - r.tr.length=(b.toNat - r.tr.length)+1:=by omega
 rw[hn,rS,if_pos hc]
 rfl
end Ai
namespace Ai
set_option maxRecDepth 100000
open Go Go.Proofs
def i6 (p:ProgL):List AV:=[i64 p.cells,i64 p.locks,i64 p.conds,.uqd 99 1 0 102 4 (p.rs.map fun _=>[.nil]) (yN p)]
theorem nL (o:Nat) (p:ProgL):ownRows o 0 (p.rs.map fun _=>[.nil]) (yN p)=(List.range p.rs.length).map fun j=>[.ref (.s o j) 0 ((yN p).getD j []).length]:=by
 unfold ownRows
 apply List.ext_getElem?
 intro j
 by_cases h:j<p.rs.length
 ·simp[h]
 ·rw[List.getElem?_eq_none (by simp;omega),List.getElem?_eq_none (by simp;omega)]
theorem e8 {o o':Nat} {p:ProgL} (f:List AV→List AV) (h:∀ j n,f [.ref (.s o j) 0 n]=[.ref (.s o' j) 0 n]):(ownRows o 0 (p.rs.map fun _=>[.nil]) (yN p)).map f=ownRows o' 0 (p.rs.map fun _=>[.nil]) (yN p):=by
 rw[nL,nL,List.map_map]
 exact List.map_congr_left fun j _=>h j _
theorem ownRows_M (p:ProgL):ownRows 903 0 (p.rs.map fun _=>[.nil]) (yN p)=qK (yN p) 0:=by
 rw[nL]
 unfold qK
 rw[show(yN p).length=p.rs.length by simp[yN]]
 refine List.map_congr_left fun j _=>?_
 unfold sY
 rw[if_neg (by omega)]
theorem toProg_own (p:ProgL) (h:p.rs.length≤1048576∧∀ x∈p.rs,x.length≤1048576):CallsTo EE 10 [agg (encProg p)] (·=.own (i6 p)):=by
 refine callsTo_of_AW (fn:=Tryz.f10) Tryz.func10 rfl (by kernel_rfl) rfl ?_
 conv=>whnf
 refine⟨_,toOpSS_own _ h.1 h.2,?_⟩
 rintro r rfl
 conv=>whnf
 refine .inr (.inr ⟨i6 p,_,bP shA,rfl,?_,gK ⟨trivial,trivial,trivial,⟨?_,fun j q hq=>?_⟩,trivial⟩,rfl⟩)
 ·intro v hv
  simp only[i6,List.mem_cons,List.not_mem_nil,or_false] at hv
  rcases hv with rfl|rfl|rfl|rfl
  ·trivial
  ·trivial
  ·trivial
  ·show(p.rs.map _).length=(yN p).length
   simp[yN]
 ·show some (Ob.rs 99 1 ((ownRows 900 0 (p.rs.map fun _=>[.nil]) (yN p)).map (renL shA.f)))=some (Ob.rs 99 1 (ownRows 903 0 (p.rs.map fun _=>[.nil]) (yN p)))
  exact congrArg (fun x=>some (Ob.rs 99 1 x)) (e8 _ fun j n=>rfl)
 ·have hq:(yN p)[j]?=some q:=hq
  have e:ownH [.uqd 99 1 0 102 4 (p.rs.map fun _=>[.nil]) (yN p)] (.s 900 j)=some (.ds 102 4 q):=by
   show((yN p)[j]?).map (Ob.ds 102 4)=_
   rw[hq]
   rfl
  show Option.map (renO shA.f) (match ownH [.uqd 99 1 0 102 4 (p.rs.map fun _=>[.nil]) (yN p)] (.s 900 j) with|some ob=>some ob|none=>_)=_
  rw[e]
  rfl
end Ai
namespace Ai
set_option maxRecDepth 100000
open Go Go.Proofs Cyc
theorem ownPg_fam {p:ProgL} {j:Nat}:ownH (i6 p) (.s 903 j)=lD (yN p) 0 j:=by
 show((yN p)[j]?).map (Ob.ds 102 4)=_
 unfold lD
 rw[if_neg (by omega)]
theorem fz_own {p:ProgL} {S:St} {n:Nat} (h1:S.H (.n 903)=some (.rs 99 1 (qK (yN p) 0))) (h2:∀ j,S.H (.s 903 j)=lD (yN p) 0 j) (hn:n=p.rs.length) :
  FzC S [i64 p.cells,i64 p.locks,i64 p.conds,.dref (.n 903) n] (encProg p):=by
 subst hn
 refine⟨di p.cells,_,rfl,rfl,di p.locks,_,rfl,rfl,di p.conds,_,rfl,rfl,.sl (p.rs.map zT),_,rfl,⟨_,rfl,n5 h1 (by simp) (by simp[qK,yN]) ?_⟩,rfl⟩
 intro j row d hr hd
 have hj:j<p.rs.length:=by
  have:=(List.getElem?_eq_some_iff.1 hd).1
  simpa using this
 have hjs:j<(yN p).length:=by simpa[yN] using hj
 rw[rowsM_get hjs] at hr
 rw[List.getElem?_map,List.getElem?_eq_getElem hj] at hd
 simp only[Option.map_some,Option.some.injEq] at hr hd
 subst hr hd
 have hg:(yN p)[j]=p.rs[j].map encOp:=by simp[yN,fH]
 have h3:=h2 j
 unfold lD at h3
 rw[if_neg (by omega),List.getElem?_eq_getElem hjs,hg] at h3
 unfold sY
 rw[if_neg (by omega)]
 simp[fz1s,fz1,h3,List.getD_eq_getElem?_getD,hjs,hg,zT,List.take_of_length_le]
end Ai
namespace Ai
open Go Go.RowKit
def Snd (E:Env) (N:Nat) (c:Code) (Q:AX→St→Prop) (s:St):Prop:=∀ (A:Fr) (w0:World) (m:Own) (a:Act) (w:World),SRel E N A w0 m s a w→c.wp E.P (vF E N A w0 Q) a w
section
variable {E:Env} {N:Nat} {s:St} {Q:AX→St→Prop}
theorem eL {c:Code} (h:AW E N c Q s):Snd E N c Q s:=fun A w0 m a w hs=>mZ c Q hs h
theorem snd_weak {c:Code} {s':St} (hw:Weak E N s s') (h:Snd E N c Q s'):Snd E N c Q s:=fun A w0 m a w hs=>by
 obtain⟨m',h'⟩:=hw A w0 m a w hs
 exact h A w0 m' a w h'
theorem snd_seq {x y:Code} {K:St→Prop} (h:AW E N x (fO K Q) s) (h2:∀ s,K s→Snd E N y Q s):Snd E N (.seq x y) Q s:=fun A w0 m a w hs=>by
 refine wp_seq (wp_mono (mZ x _ hs h) fun e a' w' hq=>?_)
 cases e with
 |normal =>
  obtain⟨m',s',hS,hk⟩:=hq
  exact h2 s' hk A w0 m' a' w' hS
 |exit id=>exact hq
 |ret=>exact hq
 |goto l=>exact hq.elim
 |panic ch=>exact hq.elim
 |outgrown=>exact hq.elim
theorem snd_pre {K:St→Prop}:∀ (n:Nat) (c:Code) (s:St),rT E N K Q n c s→(∀ s,K s→Snd E N (dropC n c) Q s)→Snd E N c Q s
 | 0,c,s,h,h2=>by
  have:=h2 s h
  cases c <;> exact this
 |n+1,c,s,h,h2=>by
  cases c with
  |seq x y=>exact snd_seq (K:=rT E N K Q n y) h fun s' hk=>snd_pre n y s' hk h2
  | _=>exact eL h
theorem snd_cut {c:Code} (n:Nat) (C:St→Prop) (h1:∀ K:St→Prop,(∀ s s',Weak E N s s'→C s'→K s)→rT E N K Q n c s) (h2:∀ s,C s→Snd E N (dropC n c) Q s):Snd E N c Q s :=
 snd_pre (K:=fun s=>∃ s',Weak E N s s'∧C s') n c s (h1 _ fun s s' hw hc=>⟨s',hw,hc⟩) fun s ⟨s',hw,hc⟩=>snd_weak hw (h2 s' hc)
end
section
variable {E:Env} {w:World}
theorem j8 {A:Nat→Prop} {f:FuncId} {fn:Func} {c:Code} {as1:List AV} {R:AV→Prop} {vs:Array Value} (hf:E.P.funcs[f]?=some fn) (hb:fn.body=some c) (hN:Nat.ble as1.length fn.ntmps=true)
  (h:Snd E fn.ntmps c (retQ E fn R) (St.init as1)) (hI:E.I w) (hr:ARel w A as1 vs) :
  Calls E.P f vs w fun e w'=>∃ v,e=.returned v∧∃ r,R r∧Below w.heap.size w w'∧pI w w' A r v:=by
 have hN':as1.length≤fn.ntmps:=Nat.le_of_ble_eq_true hN
 have hsz:vs.size≤fn.ntmps:=by rw[← hr.1];exact hN'
 refine calls_of_wp hf hb ?_
 have hS:SRel E fn.ntmps ⟨fun b=>A b∨w.heap.size≤b,fun _=>False,fun _=>none,fun _=>none⟩ w (fun _=>none) (St.init as1) { tmps:=vs++Array.replicate (fn.ntmps - vs.size) undef,defers:=[] } w:=by
  refine⟨by simp;omega,rfl,Below.refl _ _,hI,fun i hi=>?_,fun o ob ho=>by simp[St.init] at ho,fun o o' p p' ho=>by simp[St.init] at ho,fun b hb=>.inl (.inr hb),fun b hb=>hb.elim,fun n hn=>absurd rfl hn⟩
  by_cases hlt:i<as1.length
  ·have h1:as1[i]?=some as1[i]:=List.getElem?_eq_getElem hlt
   have hlv:i<vs.size:=by rw[← hr.1];exact hlt
   have:=hr.2 i as1[i] vs[i] h1 (Array.getElem?_eq_getElem hlv)
   have e1:(St.init as1).τ i=as1[i]:=by simp[St.init,List.getD,h1]
   have e2:(vs++Array.replicate (fn.ntmps - vs.size) undef).getD i undef=vs[i]:=by
    rw[Array.getD_eq_getD_getElem?,Array.getElem?_append_left hlv,Array.getElem?_eq_getElem hlv];rfl
   rw[e1]
   show VRel _ _ _ _ _ ((vs++Array.replicate (fn.ntmps - vs.size) undef).getD i undef)
   rw[e2]
   exact this.lift fun b hb=>⟨hb.1,fun o ho=>by simp[St.init] at ho,.inl hb.2⟩
  ·have e1:(St.init as1).τ i=.junk:=by simp[St.init,List.getD,List.getElem?_eq_none (Nat.le_of_not_lt hlt)]
   rw[e1];exact .junk _
 refine wp_mono (h _ _ _ _ _ hS) fun e a' w' hq=>?_
 cases e with
 |normal =>
  obtain⟨m',s',hS',hk⟩:=hq
  refine⟨hS'.defers,?_⟩
  have fin:(match wS E fn.ntmps s' fn.results.toList with|some r=>kv r R|none=>False)∨wQ E fn.ntmps s' fn.results.toList R∨lT E fn.ntmps s' fn.results.toList R:=by
   have hk2:(match dG E fn.ntmps s' fn.results.toList with
    |some [.agg cs]=>bif zV cs then (match wS E fn.ntmps s' fn.results.toList with|some r=>kv r R|none=>False)∨wQ E fn.ntmps s' fn.results.toList R
      else (match wS E fn.ntmps s' fn.results.toList with|some r=>kv r R|none=>wQ E fn.ntmps s' fn.results.toList R)
    |some (v1::v2::vs)=>bif zV (v1::v2::vs) || kG (v1::v2::vs) then (match wS E fn.ntmps s' fn.results.toList with|some r=>kv r R|none=>wQ E fn.ntmps s' fn.results.toList R)∨lT E fn.ntmps s' fn.results.toList R
      else (match wS E fn.ntmps s' fn.results.toList with|some r=>kv r R|none=>wQ E fn.ntmps s' fn.results.toList R)
    | _=>(match wS E fn.ntmps s' fn.results.toList with|some r=>kv r R|none=>wQ E fn.ntmps s' fn.results.toList R)):=hk
   have both:(match wS E fn.ntmps s' fn.results.toList with|some r=>kv r R|none=>wQ E fn.ntmps s' fn.results.toList R)→(match wS E fn.ntmps s' fn.results.toList with|some r=>kv r R|none=>False)∨wQ E fn.ntmps s' fn.results.toList R∨lT E fn.ntmps s' fn.results.toList R:=by
    intro h
    split at h
    ·exact .inl h
    ·exact .inr (.inl h)
   split at hk2
   ·rename_i cs _
    cases hq:zV cs with
    |true =>
     rw[hq] at hk2
     rcases hk2 with hk2|hk2
     ·exact .inl hk2
     ·exact .inr (.inl hk2)
    |false=>rw[hq] at hk2;exact both hk2
   ·rename_i v1 v2 vs _
    cases hq:zV (v1::v2::vs) || kG (v1::v2::vs) with
    |true =>
     rw[hq] at hk2
     rcases hk2 with hk2|hk2
     ·exact both hk2
     ·exact .inr (.inr hk2)
    |false=>rw[hq] at hk2;exact both hk2
   ·exact both hk2
  rcases fin with hk2|hk2|hk2
  ·split at hk2
   ·rename_i r ho
    rw[yR] at hk2
    obtain⟨v,hv,hrr⟩:=lZ hS' (B:=A) (fun b hb=>hb) fn ho
    exact⟨v,hv,v,rfl,r,hk2,hS'.below,hrr⟩
   ·exact hk2.elim
  ·obtain⟨v,r,hv,hR,hrr⟩:=lU hS' (B:=A) (fun b hb=>hb) fn hk2
   exact⟨v,hv,v,rfl,r,hR,hS'.below,hrr⟩
  ·obtain⟨v,r,hv,hR,hrr⟩:=lS hS' (B:=A) (fun b hb=>hb) fn hk2
   exact⟨v,hv,v,rfl,r,hR,hS'.below,hrr⟩
 |ret =>
  obtain⟨m',s',hS',hk⟩:=hq
  refine⟨hS'.defers,?_⟩
  have fin:(match wS E fn.ntmps s' fn.results.toList with|some r=>kv r R|none=>False)∨wQ E fn.ntmps s' fn.results.toList R∨lT E fn.ntmps s' fn.results.toList R:=by
   have hk2:(match dG E fn.ntmps s' fn.results.toList with
    |some [.agg cs]=>bif zV cs then (match wS E fn.ntmps s' fn.results.toList with|some r=>kv r R|none=>False)∨wQ E fn.ntmps s' fn.results.toList R
      else (match wS E fn.ntmps s' fn.results.toList with|some r=>kv r R|none=>wQ E fn.ntmps s' fn.results.toList R)
    |some (v1::v2::vs)=>bif zV (v1::v2::vs) || kG (v1::v2::vs) then (match wS E fn.ntmps s' fn.results.toList with|some r=>kv r R|none=>wQ E fn.ntmps s' fn.results.toList R)∨lT E fn.ntmps s' fn.results.toList R
      else (match wS E fn.ntmps s' fn.results.toList with|some r=>kv r R|none=>wQ E fn.ntmps s' fn.results.toList R)
    | _=>(match wS E fn.ntmps s' fn.results.toList with|some r=>kv r R|none=>wQ E fn.ntmps s' fn.results.toList R)):=hk
   have both:(match wS E fn.ntmps s' fn.results.toList with|some r=>kv r R|none=>wQ E fn.ntmps s' fn.results.toList R)→(match wS E fn.ntmps s' fn.results.toList with|some r=>kv r R|none=>False)∨wQ E fn.ntmps s' fn.results.toList R∨lT E fn.ntmps s' fn.results.toList R:=by
    intro h
    split at h
    ·exact .inl h
    ·exact .inr (.inl h)
   split at hk2
   ·rename_i cs _
    cases hq:zV cs with
    |true =>
     rw[hq] at hk2
     rcases hk2 with hk2|hk2
     ·exact .inl hk2
     ·exact .inr (.inl hk2)
    |false=>rw[hq] at hk2;exact both hk2
   ·rename_i v1 v2 vs _
    cases hq:zV (v1::v2::vs) || kG (v1::v2::vs) with
    |true =>
     rw[hq] at hk2
     rcases hk2 with hk2|hk2
     ·exact both hk2
     ·exact .inr (.inr hk2)
    |false=>rw[hq] at hk2;exact both hk2
   ·exact both hk2
  rcases fin with hk2|hk2|hk2
  ·split at hk2
   ·rename_i r ho
    rw[yR] at hk2
    obtain⟨v,hv,hrr⟩:=lZ hS' (B:=A) (fun b hb=>hb) fn ho
    exact⟨v,hv,v,rfl,r,hk2,hS'.below,hrr⟩
   ·exact hk2.elim
  ·obtain⟨v,r,hv,hR,hrr⟩:=lU hS' (B:=A) (fun b hb=>hb) fn hk2
   exact⟨v,hv,v,rfl,r,hR,hS'.below,hrr⟩
  ·obtain⟨v,r,hv,hR,hrr⟩:=lS hS' (B:=A) (fun b hb=>hb) fn hk2
   exact⟨v,hv,v,rfl,r,hR,hS'.below,hrr⟩
 |exit i =>
  obtain⟨m',s',hS',hk⟩:=hq
  exact hk.elim
 |goto l=>exact hq.elim
 |panic ch=>exact hq.elim
 |outgrown=>exact hq.elim
theorem cT {f : FuncId} {fn : Func} {c : Code} {as1 : List AV} {R : AV → Prop} (hf : E.P.funcs[f]? = some fn) (hb : fn.body = some c) (hn : (fn.name == "runtime.NumGoroutine") = false) (hN : Nat.ble as1.length fn.ntmps = true)
  (h:Snd E fn.ntmps c (retQ E fn R) (St.init as1)):CallsTo E f as1 R:=by
 intro w A vs hI hr
 have hrun:(callFunc f vs).run E.P w=.ok (.enter f vs) w:=by
  simp only[callFunc,Sem.run_bind,run_program,Result.andThen_ok,hf,hn,hb]
  rfl
 unfold Invokes
 rw[hrun]
 exact(j8 hf hb hN h hI hr).mono fun e w' ⟨v,he,hp⟩=>⟨v,he,hp⟩
end
end Ai
namespace Ai
set_option maxRecDepth 100000
open Go Go.Proofs Cyc
def refR (o:Nat) (x:RunT):List AV:=[i64 x.c,.ref (.n 901) 0 x.tr.length,.ref (.n 902) 0 x.tk.length,.dref (.n o) x.s.ths.length,.ref (.n 904) 0 x.s.cells.length,.ref (.n 905) 0 x.s.owner.length,i64 x.s.fault]
theorem fz_ownR {o:Nat} {x:RunT} {S:St} (h1:S.H (.n 901)=some (.ds 107 5 (x.tr.map encEv))) (h2:S.H (.n 902)=some (.ds 3 1 (x.tk.map encInt))) (h3:S.H (.n o)=some (.rs 109 6 (thRows o x.s.ths))) (h4:∀ j,S.H (.s o j)=zP x.s.ths j)
  (h5:S.H (.n 904)=some (.ds 100 1 (x.s.cells.map encF))) (h6:S.H (.n 905)=some (.ds 3 1 (x.s.owner.map encInt))):FzC S (refR o x) (encRT x):=by
 refine⟨di x.c,_,rfl,rfl,.sl (x.tr.map encEv),_,rfl,?_,.sl (x.tk.map encInt),_,rfl,?_,.sl (x.s.ths.map zD),_,rfl,⟨_,rfl,?_⟩,.sl (x.s.cells.map encF),_,rfl,?_,.sl (x.s.owner.map encInt),_,rfl,?_,di x.s.fault,[],rfl,rfl,rfl⟩
 ·simp[FzD,fz1,h1,List.take_of_length_le]
 ·simp[FzD,fz1,h2,List.take_of_length_le]
 ·unfold jU
  rw[h3]
  refine⟨by simp,fun j row hj hr=>?_⟩
  rw[yY hj] at hr
  simp only[Option.some.injEq] at hr
  subst hr
  exact⟨zD x.s.ths[j],by simp[hj],fz_row ((h4 j).trans (thFam_self hj))⟩
 ·simp[FzD,fz1,h5,List.take_of_length_le]
 ·simp[FzD,fz1,h6,List.take_of_length_le]
def numZ (k:Nat):Nat:=bif Nat.beq k 903 then 963 else bif Nat.beq k 963 then 903 else k
theorem iC (k:Nat):numZ (numZ k)=k:=by
 by_cases h1:k=903
 ·subst h1;rfl
 by_cases h2:k=963
 ·subst h2;rfl
 have e:numZ k=k:=by unfold numZ;rw[nbeq_ne h1,nbeq_ne h2];rfl
 rw[e,e]
def shZ:Sh:=mkSh numZ iC
def lQ (subs:List (List (List D))):List (List AV):=(List.range subs.length).map fun j=>[.ref (.s 963 j) 0 (subs.getD j []).length]
theorem rowsM_Z (subs:List (List (List D))):(qK subs 0).map (renL shZ.f)=lQ subs:=by
 unfold qK lQ
 rw[List.map_map]
 refine List.map_congr_left fun j _=>?_
 show renL _ (sY subs 0 j)=_
 unfold sY
 rw[if_neg (by omega)]
 rfl
theorem rowsZ_M (subs:List (List (List D))):(lQ subs).map (renL shZ.f)=qK subs 0:=by
 unfold qK lQ
 rw[List.map_map]
 refine List.map_congr_left fun j _=>?_
 show _=sY subs 0 j
 unfold sY
 rw[if_neg (by omega)]
 rfl
theorem eQ {p:Key→Bool} (subs:List (List (List D))) (hp:∀ j,p (.s 963 j)=false):(lQ subs).map (scrPL p)=lQ subs:=by
 unfold lQ
 rw[List.map_map]
 refine List.map_congr_left fun j _=>?_
 show scrPL p [_]=_
 simp[scrPL,scrP,hp j]
theorem totT_size {s:StL} (h:s.size≤1048576):totT s.ths s.ths.length≤8388608:=by
 unfold StL.size jI at h
 unfold totT
 rw[List.take_length]
 have:∀ l:List Th,(l.map fun t=>5+t.stack.length).sum=5*l.length+(l.map Th.stl).sum:=by
  intro l
  induction l with
  |nil=>rfl
  |cons a l ih=>simp only[List.map_cons,List.sum_cons,List.length_cons,ih,Th.stl];omega
 rw[this]
 omega
structure SmX (p:ProgL) (x:RunT):Prop where
 hs:p.rs.length≤1048576∧∀ x∈p.rs,x.length≤1048576
 hz:p.size≤1048576
 hx:x.fit
 ht:totT x.s.ths x.s.ths.length≤8388608
end Ai
namespace Ai
set_option maxRecDepth 100000
open Go Go.Proofs Cyc
def gdwL (x:RunT) (R:List UInt8) (b:AV):List (Nat × AV):=[(2,.ptr (.n 2) 0),(3,.ptr (.n 3) 0),(6,sv R),(7,b),(8,.ptr (.n 8) 0)]
def gdwO (p:ProgL) (x:RunT):List (Key × Ob):=[(.n 2,.vs 24 ((encProg p).map .d)),(.n 3,.vs 32 ((encRT x).map .d)),(.n 8,.vs 39 [i64 p.cells,i64 p.locks,i64 p.conds,.dref (.n 963) p.rs.length]),(.n 963,.rs 99 1 (lQ (yN p)))]
def gdwF (p:ProgL):List (Nat × (Nat→Option Ob)):=[(963,lD (yN p) 0),(903,fun _=>none)]
def gdwL1 (x:RunT) (R:List UInt8) (b:AV):List (Nat × AV):=[(2,.ptr (.n 2) 0),(3,.ptr (.n 3) 0),(6,sv R),(7,b),(8,.ptr (.n 8) 0),(9,.ptr (.n 9) 0)]
def gdwO1 (p:ProgL) (x:RunT):List (Key × Ob):=[(.n 2,.vs 24 ((encProg p).map .d)),(.n 3,.vs 32 ((encRT x).map .d)),(.n 8,.vs 39 [i64 p.cells,i64 p.locks,i64 p.conds,.dref (.n 903) p.rs.length]),(.n 903,.rs 99 1 (qK (yN p) 0)),
 (.n 9,.vs 46 (refR 963 x)),(.n 901,.ds 107 5 (x.tr.map encEv)),(.n 902,.ds 3 1 (x.tk.map encInt)),(.n 963,.rs 109 6 (thRows 963 x.s.ths)),(.n 904,.ds 100 1 (x.s.cells.map encF)),(.n 905,.ds 3 1 (x.s.owner.map encInt))]
def gdwF1 (p:ProgL) (x:RunT):List (Nat × (Nat→Option Ob)):=[(903,lD (yN p) 0),(963,zP x.s.ths)]
theorem lawSign1 (p:ProgL) (hp:p.wf) (hv:p.flt) (hc:p.cn) (x:RunT) (hx:x.wf) (hf:x.s.cf)
  (hL:SmX p x→∀ S,At (gdwL1 x (kL p x).1 (bv (kL p x).2)) (gdwO1 p x) (gdwF1 p x) S→AW EE Tryz.f3.ntmps (dropC 9 (Tryz.f3.body.getD .skip)) (retQ EE Tryz.f3 (·=bv true)) S) :
  CallsTo EE 3 [agg (encProg p),agg (encRT x)] (·=bv true):=by
 refine cT (fn:=Tryz.f3) (c:=Tryz.f3.body.getD .skip) Tryz.func3 rfl (by kernel_rfl) rfl ?_
 refine snd_cut 8 (fun S=>SmX p x∧At (gdwL x (kL p x).1 (bv (kL p x).2)) (gdwO p x) (gdwF p) S) (fun K hK=>?_) (fun S hS=>?_)
 ·conv=>whnf
  refine⟨_,szProg_ok p 1048576 (by omega) (by omega) hp,?_⟩
  rintro r ⟨n,rfl,hn1,hn2,hn3⟩
  conv=>whnf
  refine kbi (fun _=>?_) (fun h=>?_)
  ·conv=>whnf
   try rfl
  have h0:0≤n:=by simp at h;omega
  have hsz:p.size≤1048576:=by have:=hn3 h0;omega
  have hs:=size_le List.length p.rs 1048576 hsz
  conv=>whnf
  refine⟨_,szRun_ok x n h0 (by omega) hx,?_⟩
  rintro r ⟨n2,rfl,hm1,hm2,hm3⟩
  conv=>whnf
  refine kbi (fun _=>?_) (fun h=>?_)
  ·conv=>whnf
   try rfl
  have hxs:x.size≤1048576:=by
   have h:¬ n2<0:=fun e=>h (decide_eq_true e)
   have:=hm3 (by omega)
   omega
  have hft:=fit_of hxs
  have cS:=SignOfS_ok p hp hs hv hc x hft hf
  conv=>whnf
  refine .inr (.inl ⟨10,[],?_⟩)
  conv=>whnf
  refine⟨_,eF p hs,?_⟩
  conv=>whnf
  refine⟨_,p5 x hft,?_⟩
  conv=>whnf
  refine⟨_,cS,?_⟩
  conv=>whnf
  refine⟨by kernel_rfl,?_⟩
  conv=>whnf
  refine⟨_,toProg_own p hs,?_⟩
  rintro r rfl
  conv=>whnf
  refine hK _ _ (bP shZ) ⟨⟨hs,hsz,hft,totT_size (by unfold RunT.size at hxs;omega)⟩,⟨rfl,rfl,rfl,rfl,rfl,trivial⟩,⟨?_,?_,?_,?_,trivial⟩,⟨fun j=>?_,fun j=>rfl,trivial⟩⟩
  ·rfl
  ·rfl
  ·show some (Ob.vs 39 [i64 p.cells,i64 p.locks,i64 p.conds,.dref (.n 963) (p.rs.map fun _=>[D.nil]).length])=_
   rw[List.length_map]
  ·show some (Ob.rs 99 1 (((ownRows 903 0 (p.rs.map fun _=>[.nil]) (yN p)).map (scrPL (isK (.n 8)))).map (renL shZ.f)))=_
   rw[ownRows_M,sV _ (fun j=>rfl),rowsM_Z]
  ·show Option.map _ (Option.map _ (match ownH (i6 p) (.s 903 j) with|some ob=>some ob|none=>_))=_
   rw[ownPg_fam]
   cases hq:lD (yN p) 0 j with
   |none=>rfl
   |some ob =>
    show Option.map _ (Option.map _ (some ob))=some ob
    rw[← hq,mO,famM_ren]
 refine snd_cut 1 (fun S=>SmX p x∧At (gdwL1 x (kL p x).1 (bv (kL p x).2)) (gdwO1 p x) (gdwF1 p x) S) (fun K hK=>?_) (fun S hS=>eL (hL hS.1 S hS.2))
 obtain⟨hSm,hat⟩:=hS
 obtain⟨τ,H,rfl⟩:=hat.form
 clear hat
 conv=>whnf
 refine⟨_,toRun_own x hSm.hx,?_⟩
 rintro r rfl
 conv=>whnf
 refine hK _ _ (bP shZ) ⟨hSm,⟨rfl,rfl,rfl,rfl,rfl,rfl,trivial⟩,⟨?_,?_,?_,?_,?_,?_,?_,?_,?_,?_,trivial⟩,⟨fun j=>?_,fun j=>?_,trivial⟩⟩
 ·rfl
 ·rfl
 ·rfl
 ·show some (Ob.rs 99 1 ((((lQ (yN p)).map (scrPL fun κ=>(ownH (eZ x) κ).isSome)).map (scrPL (isK (.n 9)))).map (renL shZ.f)))=_
  rw[eQ _ (fun j=>rfl),eQ _ (fun j=>rfl),rowsZ_M]
 ·show some (Ob.vs 46 [i64 x.c,.ref (.n 901) 0 (x.tr.map encEv).length,.ref (.n 902) 0 (x.tk.map encInt).length,.dref (.n 963) (x.s.ths.map vL).length,.ref (.n 904) 0 (x.s.cells.map encF).length,.ref (.n 905) 0 (x.s.owner.map encInt).length,i64 x.s.fault])=_
  simp only[List.length_map]
  rfl
 ·rfl
 ·rfl
 ·show some (Ob.rs 109 6 (((thRows 903 x.s.ths).map (scrPL (isK (.n 9)))).map (renL shZ.f)))=_
  rw[r3 (fun j=>rfl),show(thRows 903 x.s.ths).map (renL shZ.f)=thRows 963 x.s.ths from bS (g:=numZ) (hg:=iC) 903 x.s.ths]
 ·rfl
 ·rfl
 ·show Option.map _ (Option.map _ (Option.map _ (lD (yN p) 0 j)))=_
  rw[mO,mO,famM_ren]
 ·have e:ownH (eZ x) (.s 903 j)=zP x.s.ths j:=by
   show((x.s.ths.map stk)[j]?).map (Ob.ds 100 1)=_
   unfold zP
   rw[List.getElem?_map,Option.map_map]
   rfl
  show Option.map _ (Option.map _ (match ownH (eZ x) (.s 903 j) with|some ob=>some ob|none=>_))=_
  rw[e]
  cases hq:zP x.s.ths j with
  |none =>
   rfl
  |some ob =>
   show Option.map _ (Option.map _ (some ob))=some ob
   rw[← hq,yE,thFam_ren]
end Ai
namespace Ai
set_option maxRecDepth 100000
open Go Go.Proofs Cyc
theorem fz_runV {S:St} (x:RunT):FzA S (agg (encRT x)) (agg (encRT x)):=⟨encRT x,rfl,_,_,rfl,rfl,_,_,rfl,rfl,_,_,rfl,rfl,_,_,rfl,rfl,_,_,rfl,rfl,_,_,rfl,rfl,_,_,rfl,rfl,rfl⟩
theorem sb_flat (s:List UInt8) (b:Bool):mY (.tup [sv s,bv b]):=by
 intro c hc
 simp only[List.mem_cons,List.not_mem_nil,or_false] at hc
 rcases hc with rfl|rfl
 ·exact .inl ⟨_,rfl,rfl⟩
 ·exact .inl ⟨_,rfl,rfl⟩
theorem lawSign (p:ProgL) (hp:p.wf) (hv:p.flt) (hc:p.cn) (x:RunT) (hx:x.wf) (hf:x.s.cf):CallsTo EE 3 [agg (encProg p),agg (encRT x)] (·=bv true):=by
 refine lawSign1 p hp hv hc x hx hf fun h S hS=>?_
 have cI:=SignOfI_ok p hp h.hs hv hc x h.hx hf
 generalize kL p x=X at cI hS
 obtain⟨R,b⟩:=X
 obtain⟨τ,H,rfl⟩:=hS.form
 clear hS
 conv=>whnf
 refine .inl ⟨[agg (encProg p),agg (encRT x)],[],_,⟨_,_,rfl,⟨_,rfl,fz_own rfl (fun j=>rfl) rfl⟩,_,_,rfl,⟨_,rfl,fz_ownR (o:=963) rfl rfl rfl (fun j=>rfl) rfl rfl⟩,rfl⟩,rfl,cI,?_⟩
 rintro r rfl
 refine⟨sb_flat R b,?_⟩
 conv=>whnf
 refine kbi (fun h=>absurd h (by simp)) (fun _=>?_)
 conv=>whnf
 refine kbi (fun h=>absurd h (by simp)) (fun _=>?_)
 conv=>whnf
 refine⟨by kernel_rfl,?_⟩
 conv=>whnf
 refine⟨_,eF p h.hs,?_⟩
 conv=>whnf
 refine⟨[agg (encProg p),agg (encProg p)],[],bv true,⟨_,_,rfl,⟨_,rfl,fz_own ?_ (fun j=>?_) rfl⟩,_,_,rfl,q6 p,rfl⟩,rfl,eqProg_ok p h.hs,rfl,?_⟩
 ·first|rfl|(show some (Ob.rs 99 1 ((qK (yN p) 0).map (scrPL _)))=_;rw[sV _ fun j=>rfl])
 ·first|rfl|(show Option.map _ (lD (yN p) 0 j)=_;exact mO _ _ _ _)
 conv=>whnf
 refine⟨by kernel_rfl,?_⟩
 conv=>whnf
 refine⟨_,p5 x h.hx,?_⟩
 conv=>whnf
 refine⟨[agg (encRT x),agg (encRT x)],[],bv true,⟨_,_,rfl,⟨_,rfl,fz_ownR (o:=963) rfl rfl ?_ (fun j=>?_) rfl rfl⟩,_,_,rfl,fz_runV x,rfl⟩,rfl,eqRun_ok x h.hx,rfl,?_⟩
 ·first|rfl|(show some (Ob.rs 109 6 ((thRows 963 x.s.ths).map (scrPL _)))=_;rw[yB fun _ _=>rfl])
 ·first|rfl|(show Option.map _ (zP x.s.ths j)=_;exact yE _ _ _)
 conv=>whnf
 try rfl
end Ai
