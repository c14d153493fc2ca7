import Derived.Test.YtbfdknfodpcdnaaGreatZE
set_option maxHeartbeats 8000000
set_option linter.unusedVariables false
set_option linter.unusedSimpArgs false
namespace Ai
set_option maxRecDepth 100000
open Go Go.Proofs
theorem yP {l:List Th} {p:Key→Bool} (h:∀ j,p (.s 903 j)=false):(thRows 903 l).map (scrPL p)=thRows 903 l:=zR fun j _=>h j
theorem zW {f:Key→Key} {o:Nat} {l:List Th} (h:∀ j,f (.s o j)=.s o j):(thRows o l).map (renL f)=thRows o l:=by
 apply List.ext_getElem?
 intro j
 rw[List.getElem?_map]
 by_cases hl:j<l.length
 ·rw[yR hl]
  show some [_,_,_,_,_,AV.ref (f (.s o j)) 0 _]=_
  rw[h j]
  rfl
 ·rw[List.getElem?_eq_none (by rw[zU];omega)]
  rfl
def lendS:Key→Bool
 | .n k=>Nat.beq k 903 || Nat.beq k 904 || Nat.beq k 905
 | .s o _=>Nat.beq o 903
 | .l _=>false
theorem i5 (s:StL) (k:Int) (h:s.fit) (ht:zT s.ths s.ths.length≤8388608) (h0:0≤k) (h1:k≤67108864) (H0:Key→Option Ob)
  (hH:H0 (.n 903)=some (.rs 158 6 (thRows 903 s.ths))) (hF:∀ j,H0 (.s 903 j)=zE s.ths j) (hC:H0 (.n 904)=some (.ds 74 1 (s.cells.map encF))) (hO:H0 (.n 905)=some (.ds 3 1 (s.owner.map encInt))) :
  IOCall EE 23 [.agg [.dref (.n 903) s.ths.length,.ref (.n 904) 0 s.cells.length,.ref (.n 905) 0 s.owner.length,i64 s.fault],i64 k] H0 (fun r H1=>(∃ n:Int,r=i64 n∧0≤n∧n≤268435456)∧∀ κ,H1 κ=none):=by
 have hc:=h.cells
 have ho:=h.owner
 refine xN (fn:=Tryz.f23) (c:=Tryz.f23.body.getD .skip) Tryz.func23 rfl (by kernel_rfl) rfl ?_
 have hat:At [(0,.agg [.dref (.n 903) s.ths.length,.ref (.n 904) 0 s.cells.length,.ref (.n 905) 0 s.owner.length,i64 s.fault]),(1,i64 k)] [(.n 903,.rs 158 6 (thRows 903 s.ths)),(.n 904,.ds 74 1 (s.cells.map encF)),(.n 905,.ds 3 1 (s.owner.map encInt))] [(903,zE s.ths)] ⟨fun i=>[AV.agg [.dref (.n 903) s.ths.length,.ref (.n 904) 0 s.cells.length,.ref (.n 905) 0 s.owner.length,i64 s.fault],i64 k].getD i .junk,H0⟩:=⟨⟨rfl,rfl,trivial⟩,⟨hH,hC,hO,trivial⟩,⟨hF,trivial⟩⟩
 obtain⟨τ,H,hf⟩:=hat.form
 rw[hf]
 conv=>whnf
 refine .inr (.inl ⟨999,0,lC,(fun r H1=>r=i64 (k+zT s.ths s.ths.length)∧∀ κ,H1 κ=none),?_,rfl,?_⟩)
 ·refine xO (iE s.ths k h.ths h.st ht h0 h1 _ ?_ fun j=>?_) rfl
  ·show some (Ob.rs 158 6 ((((thRows 903 s.ths).map (scrPL (isK (.n 2)))).map (renL (swp (.n 999) (.l 0)))).map (scrPL (fun o=>!lC o))))=_
   rw[yP (fun j=>rfl),zW (fun j=>rfl),yP (fun j=>rfl)]
  ·show Option.map _ (Option.map _ (Option.map _ (zE s.ths j)))=_
   rw[zH,thFam_ren,zH]
 rintro r H1 ⟨rfl,q⟩
 refine⟨fun κ _=>q κ,fun n hn=>(by cases hn),?_⟩
 generalize zT s.ths s.ths.length=T at ht ⊢
 conv=>whnf
 refine .inr (.inr (.inr (.inl ⟨_,68,[],wV 50 904,rfl,999,0,isK (.n 50),(fun r H1=>r=i64 (k+(T:Int)+(s.cells.length:Nat))∧∀ κ,H1 κ=none),?_,rfl,?_⟩)))
 ·exact xO (mZ (s.cells.map encF) (k+(T:Int)) s.cells.length (by simp) hc (by omega) (by omega) _ rfl) rfl
 rintro r H2 ⟨rfl,q2⟩
 refine⟨fun κ _=>q2 κ,fun n hn=>(by cases hn),?_⟩
 conv=>whnf
 refine .inr (.inl ⟨905,77,isK (.l 77),_,xO (kD (.l 77) (.inr rfl) s.owner (k+(T:Int)+(s.cells.length:Nat)) ho (by omega) (by omega) _ rfl) rfl,rfl,?_⟩)
 rintro r H3 ⟨rfl,e1,q3⟩
 refine⟨q3,fun n hn=>⟨.ds 3 1 (s.owner.map encInt),?_,(qY (k+(T:Int)+(s.cells.length:Nat)) s.owner.length).map encInt,?_,by simp[vY]⟩,?_⟩
 ·have:n=77:=Nat.eq_of_beq_eq_true hn
  subst this;rfl
 ·have:n=77:=Nat.eq_of_beq_eq_true hn
  subst this;exact e1
 conv=>whnf
 refine⟨_,Weak.refl,?_⟩
 conv=>whnf
 exact⟨fun _=>false,⟨_,rfl,by omega,by omega⟩,fun κ=>rfl⟩
end Ai
namespace Ai
set_option maxRecDepth 100000
open Go Go.Proofs
def lendX:Key→Bool
 | .n k=>Nat.beq k 901 || Nat.beq k 902 || Nat.beq k 903 || Nat.beq k 904 || Nat.beq k 905
 | .s o _=>Nat.beq o 903
 | .l _=>false
def refRn (x:RunT):List AV:=[i64 x.c,.ref (.n 901) 0 x.tr.length,.ref (.n 902) 0 x.tk.length,.dref (.n 903) x.s.ths.length,.ref (.n 904) 0 x.s.cells.length,.ref (.n 905) 0 x.s.owner.length,i64 x.s.fault]
theorem iG (x:RunT) (k:Int) (h:x.fit) (ht:zT x.s.ths x.s.ths.length≤8388608) (h0:0≤k) (h1:k≤8388608) (H0:Key→Option Ob)
  (hE:H0 (.n 901)=some (.ds 105 5 (x.tr.map encEv))) (hT:H0 (.n 902)=some (.ds 3 1 (x.tk.map encInt)))
  (hH:H0 (.n 903)=some (.rs 158 6 (thRows 903 x.s.ths))) (hF:∀ j,H0 (.s 903 j)=zE x.s.ths j) (hC:H0 (.n 904)=some (.ds 74 1 (x.s.cells.map encF))) (hO:H0 (.n 905)=some (.ds 3 1 (x.s.owner.map encInt))) :
  IOCall EE 21 [.agg (refRn x),i64 k] H0 (fun r H1=>(∃ n:Int,r=i64 n∧0≤n∧n≤268435456)∧∀ κ,H1 κ=none):=by
 have he:=h.tr
 have hk:=h.tk
 refine xN (fn:=Tryz.f21) (c:=Tryz.f21.body.getD .skip) Tryz.func21 rfl (by kernel_rfl) rfl ?_
 have hat:At [(0,.agg (refRn x)),(1,i64 k)] [(.n 901,.ds 105 5 (x.tr.map encEv)),(.n 902,.ds 3 1 (x.tk.map encInt)),(.n 903,.rs 158 6 (thRows 903 x.s.ths)),(.n 904,.ds 74 1 (x.s.cells.map encF)),(.n 905,.ds 3 1 (x.s.owner.map encInt))] [(903,zE x.s.ths)] ⟨fun i=>[AV.agg (refRn x),i64 k].getD i .junk,H0⟩:=⟨⟨rfl,rfl,trivial⟩,⟨hE,hT,hH,hC,hO,trivial⟩,⟨hF,trivial⟩⟩
 obtain⟨τ,H,hf⟩:=hat.form
 rw[hf]
 conv=>whnf
 refine .inr (.inr (.inl ⟨999,0,isK (.n 901),(fun r H1=>r=i64 (k+5*(x.tr.length:Nat))∧∀ κ,H1 κ=none),?_,rfl,?_⟩))
 ·exact xO (y6 (x.tr.map encEv) k x.tr.length (by simp) he (fun c hc=>by obtain⟨e,_,rfl⟩:=List.mem_map.1 hc;rfl) h0 (by omega) _ rfl) rfl
 rintro r H1 ⟨rfl,q⟩
 refine⟨fun κ _=>q κ,fun n hn=>(by cases hn),?_⟩
 conv=>whnf
 refine .inr (.inl ⟨902,77,isK (.l 77),_,xO (kD (.l 77) (.inr rfl) x.tk (k+5*(x.tr.length:Nat)) hk (by omega) (by omega) _ rfl) rfl,rfl,?_⟩)
 rintro r H3 ⟨rfl,e1,q3⟩
 refine⟨q3,fun n hn=>⟨.ds 3 1 (x.tk.map encInt),?_,(qY (k+5*(x.tr.length:Nat)) x.tk.length).map encInt,?_,by simp[vY]⟩,?_⟩
 ·have:n=77:=Nat.eq_of_beq_eq_true hn
  subst this;rfl
 ·have:n=77:=Nat.eq_of_beq_eq_true hn
  subst this;exact e1
 conv=>whnf
 refine .inr (.inl ⟨999,0,lendS,(fun r H1=>(∃ n:Int,r=i64 n∧0≤n∧n≤268435456)∧∀ κ,H1 κ=none),?_,rfl,?_⟩)
 ·refine xO (i5 x.s (k+5*(x.tr.length:Nat)+(x.tk.length:Nat)) h.s ht (by omega) (by omega) _ ?_ (fun j=>?_) ?_ ?_) ?_
  ·show some (Ob.rs 158 6 ((((((((((thRows 903 x.s.ths).map (scrPL (isK (.n 2)))).map (renL (swp (.n 999) (.l 0)))).map (scrPL (xQ (isK (.n 901))))).map (renL (swp (.n 999) (.l 0)))).map (renL (swp (.n 902) (.l 77)))).map (scrPL (xQ (isK (.l 77))))).map (renL (swp (.n 902) (.l 77)))).map (renL (swp (.n 999) (.l 0)))).map (scrPL (fun o=>!lendS o))))=_
   rw[yP (fun j=>rfl),zW (fun j=>rfl),yP (fun j=>rfl),zW (fun j=>rfl),zW (fun j=>rfl),yP (fun j=>rfl),zW (fun j=>rfl),zW (fun j=>rfl),yP (fun j=>rfl)]
  ·show Option.map _ (Option.map _ (Option.map _ (Option.map _ (Option.map _ (Option.map _ (Option.map _ (Option.map _ (Option.map _ (zE x.s.ths j)))))))))=_
   rw[zH,thFam_ren,zH,thFam_ren,thFam_ren,zH,thFam_ren,thFam_ren,zH]
  ·rfl
  ·rfl
  ·rfl
 rintro r H4 ⟨⟨n,rfl,hn1,hn2⟩,q4⟩
 refine⟨fun κ _=>q4 κ,fun n hn=>(by cases hn),?_⟩
 conv=>whnf
 refine⟨_,Weak.refl,?_⟩
 conv=>whnf
 exact⟨fun _=>false,⟨n,rfl,hn1,hn2⟩,fun κ=>rfl⟩
end Ai
namespace Ai
set_option maxRecDepth 100000
open Go Go.Proofs
theorem eqEvent_ok (x:Ev):CallsTo EE 122 [agg (encEv x),agg (encEv x)] (·=bv true):=by
 refine callsTo_of_AW (fn:=Tryz.f122) Tryz.func122 rfl (by kernel_rfl) rfl ?_
 conv=>whnf
 iterate 5
  refine⟨fun h=>(yU _ h).elim,fun _=>?_⟩
  conv=>whnf
theorem eqEventS_ok (xs:List Ev) (hx:xs.length≤1048576):CallsTo EE 64 [sl (xs.map encEv),sl (xs.map encEv)] (·=bv true):=by
 refine callsTo_of_AW (fn:=Tryz.f64) Tryz.func64 rfl (by kernel_rfl) rfl ?_
 conv=>whnf
 refine⟨fun h=>(yU _ h).elim,fun _=>?_⟩
 conv=>whnf
 refine yN (fun k:Nat=>[(0,sl (xs.map encEv)),(1,sl (xs.map encEv)),(5,i64 k)]) (fun k=>[]) (fun k=>xs.length - k) (fun k=>k≤xs.length) 0 .refl ⟨rfl,rfl,rfl,trivial⟩ trivial (Nat.zero_le _) ?_
 intro k τ H hk
 conv=>whnf
 refine⟨fun h=>?_,fun h=>?_⟩
 ·have hlt:=yK h
  conv=>whnf
  refine⟨by kernel_rfl,?_⟩
  conv=>whnf
  refine⟨encEv xs[k],zQ encEv hlt rfl,?_⟩
  conv=>whnf
  refine⟨encEv xs[k],zQ encEv hlt rfl,?_⟩
  conv=>whnf
  refine⟨_,eqEvent_ok xs[k],?_⟩
  conv=>whnf
  refine⟨k+1,by omega,by show xs.length - (k+1)<xs.length - k;omega,⟨rfl,rfl,zJ hlt (by omega),trivial⟩,trivial⟩
 ·conv=>whnf
theorem cO (xs:List Nat) (hx:xs.length≤1048576):CallsTo EE 62 [sl (xs.map encF),sl (xs.map encF)] (·=bv true):=by
 refine callsTo_of_AW (fn:=Tryz.f62) Tryz.func62 rfl (by kernel_rfl) rfl ?_
 conv=>whnf
 refine⟨fun h=>(yU _ h).elim,fun _=>?_⟩
 conv=>whnf
 refine yN (fun k:Nat=>[(0,sl (xs.map encF)),(1,sl (xs.map encF)),(5,i64 k)]) (fun k=>[]) (fun k=>xs.length - k) (fun k=>k≤xs.length) 0 .refl ⟨rfl,rfl,rfl,trivial⟩ trivial (Nat.zero_le _) ?_
 intro k τ H hk
 conv=>whnf
 refine⟨fun h=>?_,fun h=>?_⟩
 ·have hlt:=yK h
  conv=>whnf
  refine⟨by kernel_rfl,?_⟩
  conv=>whnf
  refine⟨encF xs[k],zQ encF hlt rfl,?_⟩
  conv=>whnf
  refine⟨encF xs[k],zQ encF hlt rfl,?_⟩
  conv=>whnf
  refine⟨_,pI xs[k],?_⟩
  conv=>whnf
  refine⟨k+1,by omega,by show xs.length - (k+1)<xs.length - k;omega,⟨rfl,rfl,zJ hlt (by omega),trivial⟩,trivial⟩
 ·conv=>whnf
theorem eqThread_ok (x:Th) (hx:x.stack.length≤1048576):CallsTo EE 119 [agg (zD x),agg (zD x)] (·=bv true):=by
 refine callsTo_of_AW (fn:=Tryz.f119) Tryz.func119 rfl (by kernel_rfl) rfl ?_
 conv=>whnf
 iterate 5
  refine⟨fun h=>(yU _ h).elim,fun _=>?_⟩
  conv=>whnf
 refine⟨_,cO x.stack hx,?_⟩
 rintro r rfl
 conv=>whnf
theorem eqThreadS_ok (xs:List Th) (hx:xs.length≤1048576) (h9:∀ t∈xs,t.stack.length≤1048576):CallsTo EE 61 [sl (xs.map zD),sl (xs.map zD)] (·=bv true):=by
 refine callsTo_of_AW (fn:=Tryz.f61) Tryz.func61 rfl (by kernel_rfl) rfl ?_
 conv=>whnf
 refine⟨fun h=>(yU _ h).elim,fun _=>?_⟩
 conv=>whnf
 refine yN (fun k:Nat=>[(0,sl (xs.map zD)),(1,sl (xs.map zD)),(5,i64 k)]) (fun k=>[]) (fun k=>xs.length - k) (fun k=>k≤xs.length) 0 .refl ⟨rfl,rfl,rfl,trivial⟩ trivial (Nat.zero_le _) ?_
 intro k τ H hk
 conv=>whnf
 refine⟨fun h=>?_,fun h=>?_⟩
 ·have hlt:=yK h
  conv=>whnf
  refine⟨by kernel_rfl,?_⟩
  conv=>whnf
  refine⟨zD xs[k],zQ zD hlt rfl,?_⟩
  conv=>whnf
  refine⟨zD xs[k],zQ zD hlt rfl,?_⟩
  conv=>whnf
  refine⟨_,eqThread_ok xs[k] (h9 _ (List.getElem_mem hlt)),?_⟩
  conv=>whnf
  refine⟨k+1,by omega,by show xs.length - (k+1)<xs.length - k;omega,⟨rfl,rfl,zJ hlt (by omega),trivial⟩,trivial⟩
 ·conv=>whnf
theorem qD (s:StL) (h:s.fit):CallsTo EE 16 [agg (zX s),agg (zX s)] (·=bv true):=by
 refine callsTo_of_AW (fn:=Tryz.f16) Tryz.func16 rfl (by kernel_rfl) rfl ?_
 conv=>whnf
 refine⟨_,eqThreadS_ok s.ths h.ths h.st,?_⟩
 rintro r rfl
 conv=>whnf
 refine⟨_,cO s.cells h.cells,?_⟩
 rintro r rfl
 conv=>whnf
 refine⟨_,mO s.owner h.owner,?_⟩
 rintro r rfl
 conv=>whnf
 refine⟨fun h=>(yU _ h).elim,fun _=>?_⟩
 conv=>whnf
theorem eqRun_ok (x:RunT) (h:x.fit):CallsTo EE 18 [agg (encRT x),agg (encRT x)] (·=bv true):=by
 refine callsTo_of_AW (fn:=Tryz.f18) Tryz.func18 rfl (by kernel_rfl) rfl ?_
 conv=>whnf
 refine⟨fun h=>(yU _ h).elim,fun _=>?_⟩
 conv=>whnf
 refine⟨_,eqEventS_ok x.tr h.tr,?_⟩
 rintro r rfl
 conv=>whnf
 refine⟨_,mO x.tk h.tk,?_⟩
 rintro r rfl
 conv=>whnf
 refine⟨_,qD x.s h.s,?_⟩
 rintro r rfl
 conv=>whnf
end Ai
namespace Ai
set_option maxRecDepth 100000
open Go Go.Proofs
def ownPg (p:ProgL):List AV:=[i64 p.cells,i64 p.locks,i64 p.conds,.uqd 133 1 0 135 4 (p.rs.map fun _=>[.nil]) (zN p)]
theorem sU (o:Nat) (p:ProgL):ownRows o 0 (p.rs.map fun _=>[.nil]) (zN p)=(List.range p.rs.length).map fun j=>[.ref (.s o j) 0 ((zN p).getD j []).length]:=by
 unfold ownRows
 apply List.ext_getElem?
 intro j
 by_cases h:j<p.rs.length
 ·simp[h]
 ·rw[List.getElem?_eq_none (by simp;omega),List.getElem?_eq_none (by simp;omega)]
theorem ownRows_map {o o':Nat} {p:ProgL} (f:List AV→List AV) (h:∀ j n,f [.ref (.s o j) 0 n]=[.ref (.s o' j) 0 n]):(ownRows o 0 (p.rs.map fun _=>[.nil]) (zN p)).map f=ownRows o' 0 (p.rs.map fun _=>[.nil]) (zN p):=by
 rw[sU,sU,List.map_map]
 exact List.map_congr_left fun j _=>h j _
theorem ownRows_M (p:ProgL):ownRows 903 0 (p.rs.map fun _=>[.nil]) (zN p)=vC (zN p) 0:=by
 rw[sU]
 unfold vC
 rw[show(zN p).length=p.rs.length by simp[zN]]
 refine List.map_congr_left fun j _=>?_
 unfold mR
 rw[if_neg (by omega)]
theorem toProg_own (p:ProgL) (h:p.rs.length≤1048576∧∀ x∈p.rs,x.length≤1048576):CallsTo EE 12 [agg (encProg p)] (·=.own (ownPg p)):=by
 refine callsTo_of_AW (fn:=Tryz.f12) Tryz.func12 rfl (by kernel_rfl) rfl ?_
 conv=>whnf
 refine⟨_,toOpSS_own _ h.1 h.2,?_⟩
 rintro r rfl
 conv=>whnf
 refine .inr (.inr ⟨ownPg p,_,uK shA,rfl,?_,gA ⟨trivial,trivial,trivial,⟨?_,fun j q hq=>?_⟩,trivial⟩,rfl⟩)
 ·intro v hv
  simp only[ownPg,List.mem_cons,List.not_mem_nil,or_false] at hv
  rcases hv with rfl|rfl|rfl|rfl
  ·trivial
  ·trivial
  ·trivial
  ·show(p.rs.map _).length=(zN p).length
   simp[zN]
 ·show some (Ob.rs 133 1 ((ownRows 900 0 (p.rs.map fun _=>[.nil]) (zN p)).map (renL shA.f)))=some (Ob.rs 133 1 (ownRows 903 0 (p.rs.map fun _=>[.nil]) (zN p)))
  exact congrArg (fun x=>some (Ob.rs 133 1 x)) (ownRows_map _ fun j n=>rfl)
 ·have hq:(zN p)[j]?=some q:=hq
  have e:ownH [.uqd 133 1 0 135 4 (p.rs.map fun _=>[.nil]) (zN p)] (.s 900 j)=some (.ds 135 4 q):=by
   show((zN p)[j]?).map (Ob.ds 135 4)=_
   rw[hq]
   rfl
  show Option.map (renO shA.f) (match ownH [.uqd 133 1 0 135 4 (p.rs.map fun _=>[.nil]) (zN p)] (.s 900 j) with|some ob=>some ob|none=>_)=_
  rw[e]
  rfl
end Ai
namespace Ai
set_option maxRecDepth 100000
open Go Go.Proofs Cyc
theorem ownPg_fam {p:ProgL} {j:Nat}:ownH (ownPg p) (.s 903 j)=vR (zN p) 0 j:=by
 show((zN p)[j]?).map (Ob.ds 135 4)=_
 unfold vR
 rw[if_neg (by omega)]
theorem fz_own {p:ProgL} {S:St} {n:Nat} (h1:S.H (.n 903)=some (.rs 133 1 (vC (zN p) 0))) (h2:∀ j,S.H (.s 903 j)=vR (zN p) 0 j) (hn:n=p.rs.length) :
  FzC S [i64 p.cells,i64 p.locks,i64 p.conds,.dref (.n 903) n] (encProg p):=by
 subst hn
 refine⟨di p.cells,_,rfl,rfl,di p.locks,_,rfl,rfl,di p.conds,_,rfl,rfl,.sl (p.rs.map yF),_,rfl,⟨_,rfl,v7 h1 (by simp) (by simp[vC,zN]) ?_⟩,rfl⟩
 intro j row d hr hd
 have hj:j<p.rs.length:=by
  have:=(List.getElem?_eq_some_iff.1 hd).1
  simpa using this
 have hjs:j<(zN p).length:=by simpa[zN] using hj
 rw[q8 hjs] at hr
 rw[List.getElem?_map,List.getElem?_eq_getElem hj] at hd
 simp only[Option.map_some,Option.some.injEq] at hr hd
 subst hr hd
 have hg:(zN p)[j]=p.rs[j].map encOp:=by simp[zN,gY]
 have h3:=h2 j
 unfold vR at h3
 rw[if_neg (by omega),List.getElem?_eq_getElem hjs,hg] at h3
 unfold mR
 rw[if_neg (by omega)]
 simp[fz1s,fz1,h3,List.getD_eq_getElem?_getD,hjs,hg,yF,List.take_of_length_le]
theorem tot_size {p:ProgL} (h:p.size≤1048576):tot (zN p) (zN p).length≤1048576:=by
 unfold ProgL.size kJ at h
 unfold tot zN
 rw[List.take_length,List.map_map]
 have e:(List.length ∘ gY:List OpL→Nat)=List.length:=by funext r;simp[gY]
 rw[e];omega
theorem ops4 (p:ProgL):∀ q∈zN p,∀ c∈q,c.length=4:=by
 intro q hq c hc
 obtain⟨r,_,rfl⟩:=List.mem_map.1 hq
 obtain⟨y,_,rfl⟩:=List.mem_map.1 hc
 rfl
end Ai
namespace Ai
open Go Go.RowKit
def Snd (E:Env) (N:Nat) (c:Code) (Q:AX→St→Prop) (s:St):Prop:=∀ (A:Fr) (w0:World) (m:Own) (a:Act) (w:World),SRel E N A w0 m s a w→c.wp E.P (uG E N A w0 Q) a w
section
variable {E:Env} {N:Nat} {s:St} {Q:AX→St→Prop}
theorem sL {c:Code} (h:AW E N c Q s):Snd E N c Q s:=fun A w0 m a w hs=>sC c Q hs h
theorem snd_weak {c:Code} {s':St} (hw:Weak E N s s') (h:Snd E N c Q s'):Snd E N c Q s:=fun A w0 m a w hs=>by
 obtain⟨m',h'⟩:=hw A w0 m a w hs
 exact h A w0 m' a w h'
theorem snd_seq {x y:Code} {K:St→Prop} (h:AW E N x (dS K Q) s) (h2:∀ s,K s→Snd E N y Q s):Snd E N (.seq x y) Q s:=fun A w0 m a w hs=>by
 refine wp_seq (wp_mono (sC x _ hs h) fun e a' w' hq=>?_)
 cases e with
 |normal =>
  obtain⟨m',s',hS,hk⟩:=hq
  exact h2 s' hk A w0 m' a' w' hS
 |exit id=>exact hq
 |ret=>exact hq
 |goto l=>exact hq.elim
 |panic ch=>exact hq.elim
 |outgrown=>exact hq.elim
theorem snd_pre {K:St→Prop}:∀ (n:Nat) (c:Code) (s:St),pR E N K Q n c s→(∀ s,K s→Snd E N (dropC n c) Q s)→Snd E N c Q s
 | 0,c,s,h,h2=>by
  have:=h2 s h
  cases c <;> exact this
 |n+1,c,s,h,h2=>by
  cases c with
  |seq x y=>exact snd_seq (K:=pR E N K Q n y) h fun s' hk=>snd_pre n y s' hk h2
  | _=>exact sL h
theorem p8 {c:Code} (n:Nat) (C:St→Prop) (h1:∀ K:St→Prop,(∀ s s',Weak E N s s'→C s'→K s)→pR E N K Q n c s) (h2:∀ s,C s→Snd E N (dropC n c) Q s):Snd E N c Q s :=
 snd_pre (K:=fun s=>∃ s',Weak E N s s'∧C s') n c s (h1 _ fun s s' hw hc=>⟨s',hw,hc⟩) fun s ⟨s',hw,hc⟩=>snd_weak hw (h2 s' hc)
end
section
variable {E:Env} {w:World}
theorem calls_of_snd {A:Nat→Prop} {f:FuncId} {fn:Func} {c:Code} {as1:List AV} {R:AV→Prop} {vs:Array Value} (hf:E.P.funcs[f]?=some fn) (hb:fn.body=some c) (hN:Nat.ble as1.length fn.ntmps=true)
  (h:Snd E fn.ntmps c (dI E fn R) (St.init as1)) (hI:E.I w) (hr:ARel w A as1 vs) :
  Calls E.P f vs w fun e w'=>∃ v,e=.returned v∧∃ r,R r∧Below w.heap.size w w'∧x9 w w' A r v:=by
 have hN':as1.length≤fn.ntmps:=Nat.le_of_ble_eq_true hN
 have hsz:vs.size≤fn.ntmps:=by rw[← hr.1];exact hN'
 refine calls_of_wp hf hb ?_
 have hS:SRel E fn.ntmps ⟨fun b=>A b∨w.heap.size≤b,fun _=>False,fun _=>none,fun _=>none⟩ w (fun _=>none) (St.init as1) { tmps:=vs++Array.replicate (fn.ntmps - vs.size) undef,defers:=[] } w:=by
  refine⟨by simp;omega,rfl,Below.refl _ _,hI,fun i hi=>?_,fun o ob ho=>by simp[St.init] at ho,fun o o' p p' ho=>by simp[St.init] at ho,fun b hb=>.inl (.inr hb),fun b hb=>hb.elim,fun n hn=>absurd rfl hn⟩
  by_cases hlt:i<as1.length
  ·have h1:as1[i]?=some as1[i]:=List.getElem?_eq_getElem hlt
   have hlv:i<vs.size:=by rw[← hr.1];exact hlt
   have:=hr.2 i as1[i] vs[i] h1 (Array.getElem?_eq_getElem hlv)
   have e1:(St.init as1).τ i=as1[i]:=by simp[St.init,List.getD,h1]
   have e2:(vs++Array.replicate (fn.ntmps - vs.size) undef).getD i undef=vs[i]:=by
    rw[Array.getD_eq_getD_getElem?,Array.getElem?_append_left hlv,Array.getElem?_eq_getElem hlv];rfl
   rw[e1]
   show VRel _ _ _ _ _ ((vs++Array.replicate (fn.ntmps - vs.size) undef).getD i undef)
   rw[e2]
   exact this.lift fun b hb=>⟨hb.1,fun o ho=>by simp[St.init] at ho,.inl hb.2⟩
  ·have e1:(St.init as1).τ i=.junk:=by simp[St.init,List.getD,List.getElem?_eq_none (Nat.le_of_not_lt hlt)]
   rw[e1];exact .junk _
 refine wp_mono (h _ _ _ _ _ hS) fun e a' w' hq=>?_
 cases e with
 |normal =>
  obtain⟨m',s',hS',hk⟩:=hq
  refine⟨hS'.defers,?_⟩
  have fin:(match vN E fn.ntmps s' fn.results.toList with|some r=>kv r R|none=>False)∨vL E fn.ntmps s' fn.results.toList R∨pN E fn.ntmps s' fn.results.toList R:=by
   have hk2:(match mS E fn.ntmps s' fn.results.toList with
    |some [.agg cs]=>bif yH cs then (match vN E fn.ntmps s' fn.results.toList with|some r=>kv r R|none=>False)∨vL E fn.ntmps s' fn.results.toList R
      else (match vN E fn.ntmps s' fn.results.toList with|some r=>kv r R|none=>vL E fn.ntmps s' fn.results.toList R)
    |some (v1::v2::vs)=>bif yH (v1::v2::vs) || fA (v1::v2::vs) then (match vN E fn.ntmps s' fn.results.toList with|some r=>kv r R|none=>vL E fn.ntmps s' fn.results.toList R)∨pN E fn.ntmps s' fn.results.toList R
      else (match vN E fn.ntmps s' fn.results.toList with|some r=>kv r R|none=>vL E fn.ntmps s' fn.results.toList R)
    | _=>(match vN E fn.ntmps s' fn.results.toList with|some r=>kv r R|none=>vL E fn.ntmps s' fn.results.toList R)):=hk
   have both:(match vN E fn.ntmps s' fn.results.toList with|some r=>kv r R|none=>vL E fn.ntmps s' fn.results.toList R)→(match vN E fn.ntmps s' fn.results.toList with|some r=>kv r R|none=>False)∨vL E fn.ntmps s' fn.results.toList R∨pN E fn.ntmps s' fn.results.toList R:=by
    intro h
    split at h
    ·exact .inl h
    ·exact .inr (.inl h)
   split at hk2
   ·rename_i cs _
    cases hq:yH cs with
    |true =>
     rw[hq] at hk2
     rcases hk2 with hk2|hk2
     ·exact .inl hk2
     ·exact .inr (.inl hk2)
    |false=>rw[hq] at hk2;exact both hk2
   ·rename_i v1 v2 vs _
    cases hq:yH (v1::v2::vs) || fA (v1::v2::vs) with
    |true =>
     rw[hq] at hk2
     rcases hk2 with hk2|hk2
     ·exact both hk2
     ·exact .inr (.inr hk2)
    |false=>rw[hq] at hk2;exact both hk2
   ·exact both hk2
  rcases fin with hk2|hk2|hk2
  ·split at hk2
   ·rename_i r ho
    rw[xE] at hk2
    obtain⟨v,hv,hrr⟩:=pT hS' (B:=A) (fun b hb=>hb) fn ho
    exact⟨v,hv,v,rfl,r,hk2,hS'.below,hrr⟩
   ·exact hk2.elim
  ·obtain⟨v,r,hv,hR,hrr⟩:=pO hS' (B:=A) (fun b hb=>hb) fn hk2
   exact⟨v,hv,v,rfl,r,hR,hS'.below,hrr⟩
  ·obtain⟨v,r,hv,hR,hrr⟩:=pM hS' (B:=A) (fun b hb=>hb) fn hk2
   exact⟨v,hv,v,rfl,r,hR,hS'.below,hrr⟩
 |ret =>
  obtain⟨m',s',hS',hk⟩:=hq
  refine⟨hS'.defers,?_⟩
  have fin:(match vN E fn.ntmps s' fn.results.toList with|some r=>kv r R|none=>False)∨vL E fn.ntmps s' fn.results.toList R∨pN E fn.ntmps s' fn.results.toList R:=by
   have hk2:(match mS E fn.ntmps s' fn.results.toList with
    |some [.agg cs]=>bif yH cs then (match vN E fn.ntmps s' fn.results.toList with|some r=>kv r R|none=>False)∨vL E fn.ntmps s' fn.results.toList R
      else (match vN E fn.ntmps s' fn.results.toList with|some r=>kv r R|none=>vL E fn.ntmps s' fn.results.toList R)
    |some (v1::v2::vs)=>bif yH (v1::v2::vs) || fA (v1::v2::vs) then (match vN E fn.ntmps s' fn.results.toList with|some r=>kv r R|none=>vL E fn.ntmps s' fn.results.toList R)∨pN E fn.ntmps s' fn.results.toList R
      else (match vN E fn.ntmps s' fn.results.toList with|some r=>kv r R|none=>vL E fn.ntmps s' fn.results.toList R)
    | _=>(match vN E fn.ntmps s' fn.results.toList with|some r=>kv r R|none=>vL E fn.ntmps s' fn.results.toList R)):=hk
   have both:(match vN E fn.ntmps s' fn.results.toList with|some r=>kv r R|none=>vL E fn.ntmps s' fn.results.toList R)→(match vN E fn.ntmps s' fn.results.toList with|some r=>kv r R|none=>False)∨vL E fn.ntmps s' fn.results.toList R∨pN E fn.ntmps s' fn.results.toList R:=by
    intro h
    split at h
    ·exact .inl h
    ·exact .inr (.inl h)
   split at hk2
   ·rename_i cs _
    cases hq:yH cs with
    |true =>
     rw[hq] at hk2
     rcases hk2 with hk2|hk2
     ·exact .inl hk2
     ·exact .inr (.inl hk2)
    |false=>rw[hq] at hk2;exact both hk2
   ·rename_i v1 v2 vs _
    cases hq:yH (v1::v2::vs) || fA (v1::v2::vs) with
    |true =>
     rw[hq] at hk2
     rcases hk2 with hk2|hk2
     ·exact both hk2
     ·exact .inr (.inr hk2)
    |false=>rw[hq] at hk2;exact both hk2
   ·exact both hk2
  rcases fin with hk2|hk2|hk2
  ·split at hk2
   ·rename_i r ho
    rw[xE] at hk2
    obtain⟨v,hv,hrr⟩:=pT hS' (B:=A) (fun b hb=>hb) fn ho
    exact⟨v,hv,v,rfl,r,hk2,hS'.below,hrr⟩
   ·exact hk2.elim
  ·obtain⟨v,r,hv,hR,hrr⟩:=pO hS' (B:=A) (fun b hb=>hb) fn hk2
   exact⟨v,hv,v,rfl,r,hR,hS'.below,hrr⟩
  ·obtain⟨v,r,hv,hR,hrr⟩:=pM hS' (B:=A) (fun b hb=>hb) fn hk2
   exact⟨v,hv,v,rfl,r,hR,hS'.below,hrr⟩
 |exit i =>
  obtain⟨m',s',hS',hk⟩:=hq
  exact hk.elim
 |goto l=>exact hq.elim
 |panic ch=>exact hq.elim
 |outgrown=>exact hq.elim
theorem oO {f : FuncId} {fn : Func} {c : Code} {as1 : List AV} {R : AV → Prop} (hf : E.P.funcs[f]? = some fn) (hb : fn.body = some c) (hn : (fn.name == "runtime.NumGoroutine") = false) (hN : Nat.ble as1.length fn.ntmps = true)
  (h:Snd E fn.ntmps c (dI E fn R) (St.init as1)):CallsTo E f as1 R:=by
 intro w A vs hI hr
 have hrun:(callFunc f vs).run E.P w=.ok (.enter f vs) w:=by
  simp only[callFunc,Sem.run_bind,run_program,Result.andThen_ok,hf,hn,hb]
  rfl
 unfold Invokes
 rw[hrun]
 exact(calls_of_snd hf hb hN h hI hr).mono fun e w' ⟨v,he,hp⟩=>⟨v,he,hp⟩
end
end Ai
namespace Ai
set_option maxRecDepth 100000
open Go Go.Proofs Cyc
def refR (o:Nat) (x:RunT):List AV:=[i64 x.c,.ref (.n 901) 0 x.tr.length,.ref (.n 902) 0 x.tk.length,.dref (.n o) x.s.ths.length,.ref (.n 904) 0 x.s.cells.length,.ref (.n 905) 0 x.s.owner.length,i64 x.s.fault]
theorem fz_ownR {o:Nat} {x:RunT} {S:St} (h1:S.H (.n 901)=some (.ds 105 5 (x.tr.map encEv))) (h2:S.H (.n 902)=some (.ds 3 1 (x.tk.map encInt))) (h3:S.H (.n o)=some (.rs 158 6 (thRows o x.s.ths))) (h4:∀ j,S.H (.s o j)=zE x.s.ths j)
  (h5:S.H (.n 904)=some (.ds 74 1 (x.s.cells.map encF))) (h6:S.H (.n 905)=some (.ds 3 1 (x.s.owner.map encInt))):FzC S (refR o x) (encRT x):=by
 refine⟨di x.c,_,rfl,rfl,.sl (x.tr.map encEv),_,rfl,?_,.sl (x.tk.map encInt),_,rfl,?_,.sl (x.s.ths.map zD),_,rfl,⟨_,rfl,?_⟩,.sl (x.s.cells.map encF),_,rfl,?_,.sl (x.s.owner.map encInt),_,rfl,?_,di x.s.fault,[],rfl,rfl,rfl⟩
 ·simp[FzD,fz1,h1,List.take_of_length_le]
 ·simp[FzD,fz1,h2,List.take_of_length_le]
 ·unfold kP
  rw[h3]
  refine⟨by simp,fun j row hj hr=>?_⟩
  rw[yR hj] at hr
  simp only[Option.some.injEq] at hr
  subst hr
  exact⟨zD x.s.ths[j],by simp[hj],fz_row ((h4 j).trans (thFam_self hj))⟩
 ·simp[FzD,fz1,h5,List.take_of_length_le]
 ·simp[FzD,fz1,h6,List.take_of_length_le]
def numZ (k:Nat):Nat:=bif Nat.beq k 903 then 963 else bif Nat.beq k 963 then 903 else k
theorem sX (k:Nat):numZ (numZ k)=k:=by
 by_cases h1:k=903
 ·subst h1;rfl
 by_cases h2:k=963
 ·subst h2;rfl
 have e:numZ k=k:=by unfold numZ;rw[nbeq_ne h1,nbeq_ne h2];rfl
 rw[e,e]
def shZ:Sh:=mkSh numZ sX
def qW (subs:List (List (List D))):List (List AV):=(List.range subs.length).map fun j=>[.ref (.s 963 j) 0 (subs.getD j []).length]
theorem rowsM_Z (subs:List (List (List D))):(vC subs 0).map (renL shZ.f)=qW subs:=by
 unfold vC qW
 rw[List.map_map]
 refine List.map_congr_left fun j _=>?_
 show renL _ (mR subs 0 j)=_
 unfold mR
 rw[if_neg (by omega)]
 rfl
theorem rowsZ_M (subs:List (List (List D))):(qW subs).map (renL shZ.f)=vC subs 0:=by
 unfold vC qW
 rw[List.map_map]
 refine List.map_congr_left fun j _=>?_
 show _=mR subs 0 j
 unfold mR
 rw[if_neg (by omega)]
 rfl
theorem kU {p:Key→Bool} (subs:List (List (List D))) (hp:∀ j,p (.s 963 j)=false):(qW subs).map (scrPL p)=qW subs:=by
 unfold qW
 rw[List.map_map]
 refine List.map_congr_left fun j _=>?_
 show scrPL p [_]=_
 simp[scrPL,scrP,hp j]
theorem totT_size {s:StL} (h:s.size≤1048576):zT s.ths s.ths.length≤8388608:=by
 unfold StL.size kJ at h
 unfold zT
 rw[List.take_length]
 have:∀ l:List Th,(l.map fun t=>5+t.stack.length).sum=5*l.length+(l.map Th.stl).sum:=by
  intro l
  induction l with
  |nil=>rfl
  |cons a l ih=>simp only[List.map_cons,List.sum_cons,List.length_cons,ih,Th.stl];omega
 rw[this]
 omega
structure SmX (p:ProgL) (x:RunT):Prop where
 hs:p.rs.length≤1048576∧∀ x∈p.rs,x.length≤1048576
 hz:p.size≤1048576
 hx:x.fit
 ht:zT x.s.ths x.s.ths.length≤8388608
end Ai
namespace Ai
set_option maxRecDepth 100000
open Go Go.Proofs Cyc
def PctL.fit (s:PctL):Prop:=s.ranks.length≤1048576∧s.changes.length≤1048576
end Ai
namespace Ai
set_option maxRecDepth 100000
open Go Go.Proofs
theorem near_ne (n:Int):fcmp .neq (FloatKind.f64.nearest n) (FloatKind.f64.nearest n)=false:=by
 rw[aS,eql_refl (x:=FloatKind.f64.nearest n) (jW (.number (n<0) n.natAbs 0) rfl)];rfl
end Ai
namespace Ai
set_option maxRecDepth 100000
open Go Go.Proofs
def wS (k:Int) (n:Nat):List Nat:=(List.range n).map fun (j:Nat)=>FloatKind.f64.nearest (k+(j:Int))
theorem jP (k:Int) (n:Nat):(wS k n).length=n:=by simp[wS]
theorem setEl_1 {els:List (List D)} {k:Nat} {x:D}:xY els 1 k 0 [x]=els.set k [x]:=by
 unfold xY
 rw[show Nat.beq ([x]:List D).length 1=true from rfl,show Nat.beq 0 0=true from rfl]
 rfl
def i4 {α:Type} (enc:α→List D) (ms:Nat→List α) (els:List (List D)) (n:Nat):List (List D):=(ms n).map enc++els.drop n
theorem mkTo_succ {α:Type} {enc:α→List D} {f:Nat→α} {els:List (List D)} {n:Nat} (h:n<els.length):(i4 enc (fun n=>(List.range n).map f) els n).set n (enc (f n))=i4 enc (fun n=>(List.range n).map f) els (n+1):=by
 unfold i4
 rw[List.drop_eq_getElem_cons h,List.set_append_right _ _ (by simp),List.length_map,List.length_map,List.length_range,Nat.sub_self,List.set_cons_zero]
 show((List.range n).map f).map enc++enc (f n)::_=((List.range (n+1)).map f).map enc++_
 rw[List.range_succ,List.map_append,List.map_append]
 simp
def lA (k:Int) (xs:List Th) (j:Nat):Th:=⟨k+(zT xs j:Int),k+(zT xs j:Int)+1,k+(zT xs j:Int)+2,k+(zT xs j:Int)+3,k+(zT xs j:Int)+4,wS (k+(zT xs j:Int)+5) (xs.getD j th0).stack.length⟩
def vF (k:Int) (xs:List Th):List Th:=(List.range xs.length).map (lA k xs)
theorem nA (els:List (List D)) (n:Nat) (k:Int) (hn:n=els.length) (hx:n≤1048576) (h0:0≤k) (h1:k≤1073741824) (H0:Key→Option Ob) (hH:H0 (.l 77)=some (.ds 74 1 els)) :
  IOCall EE 68 [.ref (.l 77) 0 n,i64 k] H0 (fun r H1=>r=i64 (k+(n:Int))∧H1 (.l 77)=some (.ds 74 1 ((wS k n).map encF))∧∀ κ',isK (.l 77) κ'=false→H1 κ'=none):=by
 refine xN (fn:=Tryz.f68) (c:=Tryz.f68.body.getD .skip) Tryz.func68 rfl (by kernel_rfl) rfl ?_
 have hat:At [(0,.ref (.l 77) 0 n),(1,i64 k)] [(.l 77,.ds 74 1 els)] [] ⟨fun i=>[AV.ref (.l 77) 0 n,i64 k].getD i .junk,H0⟩:=⟨⟨rfl,rfl,trivial⟩,⟨hH,trivial⟩,trivial⟩
 obtain⟨τ,H,hf⟩:=hat.form
 rw[hf]
 conv=>whnf
 refine yN (fun i:Nat=>[(0,.ref (.l 77) 0 n),(1,i64 (k+(i:Int))),(5,i64 i)]) (fun i=>[(.l 77,.ds 74 1 (i4 encF (wS k) els i))]) (fun i=>n - i) (fun i=>i≤n) 0
  Weak.refl ⟨rfl,?_,rfl,trivial⟩ ⟨rfl,trivial⟩ (Nat.zero_le _) ?_
 ·show i64 k=i64 (k+((0:Nat):Int))
  rw[show k+((0:Nat):Int)=k by omega]
 intro i τ H hi
 have hi:i≤n:=hi
 conv=>whnf
 refine kbi (fun h=>?_) (fun h=>?_)
 ·have hlt:i<n:=by simpa using h
  have hs2:(i4 encF (wS k) els i).set i (encF (FloatKind.f64.nearest (k+(i:Int))))=i4 encF (wS k) els (i+1):=mkTo_succ (f:=fun (j:Nat)=>FloatKind.f64.nearest (k+(j:Int))) (by omega)
  conv=>whnf
  refine⟨⟨by show 0≤(i:Int);omega,by show(i:Int)<n;omega⟩,?_⟩
  conv=>whnf
  refine⟨i+1,by show i+1≤n;omega,by show n - (i+1)<n - i;omega,⟨rfl,?_,?_,trivial⟩,⟨?_,trivial⟩⟩
  ·show AV.d (.int .i64 (IntKind.i64.wrap (k+(i:Int)+1)))=i64 (k+((i+1:Nat):Int))
   rw[zK (by omega) (by omega)]
   exact congrArg i64 (by omega)
  ·show AV.d (.int .i64 (IntKind.i64.wrap ((i:Int)+1)))=i64 ((i+1:Nat):Int)
   rw[zK (by omega) (by omega)]
   rfl
  ·show some (Ob.ds 74 1 (xY (i4 encF (wS k) els i) 1 (0+(i:Int).toNat) 0 [.flt (FloatKind.f64.nearest (k+(i:Int)))]))=_
   rw[setEl_1,Int.toNat_natCast,Nat.zero_add]
   exact congrArg (fun x=>some (Ob.ds 74 1 x)) hs2
 ·conv=>whnf
  have hkk:i=n:=by
   have:¬ i<n:=by simpa using h
   omega
  subst hkk
  refine⟨_,Weak.refl,?_⟩
  conv=>whnf
  refine⟨isK (.l 77),rfl,?_,fun κ hκ=>?_⟩
  ·show some (Ob.ds 74 1 (i4 encF (wS k) els i))=_
   unfold i4
   rw[hn,List.drop_length,List.append_nil]
  ·unfold xB
   rw[hκ];rfl
end Ai
namespace Ai
set_option maxRecDepth 100000
open Go Go.Proofs
def kL (k:Int) (xs:List Th) (i:Nat):List Th:=(List.range i).map (lA k xs)++xs.drop i
theorem mK {k:Int} {xs:List Th} {i j:Nat} (h:j<i):(kL k xs i)[j]?=some (lA k xs j):=by
 unfold kL
 rw[List.getElem?_append_left (by simpa using h)]
 simp[h]
theorem pY {k:Int} {xs:List Th} {i j:Nat} (h:i≤j):(kL k xs i)[j]?=xs[j]?:=by
 unfold kL
 rw[List.getElem?_append_right (by simpa using h),List.length_map,List.length_range,List.getElem?_drop]
 congr 1;omega
theorem mixT_end {k:Int} {xs:List Th}:kL k xs xs.length=vF k xs:=by simp[kL,vF]
theorem sG {o:Nat} {l:List Th} {j:Nat}:(thRows o l)[j]?=(l[j]?).map (thRow o j):=sF o l j
def lendT:Key→Bool
 | .l k=>Nat.beq k 76
 | .s o _=>Nat.beq o 903
 | .n _=>false
theorem pin_s {i:Nat}:∀ n,isK (.l 77) (swp (.s 903 i) (.l 77) (.l n))=true→∃ n',swp (.s 903 i) (.l 77) (.l n)=.l n':=by
 intro n hn
 unfold swp at hn ⊢
 have e0:Key.beq (.l n) (.s 903 i)=false:=rfl
 rw[e0] at hn ⊢
 simp only[cond_false] at hn ⊢
 cases hb:Key.beq (.l n) (.l 77) with
 |true=>rw[hb] at hn;cases hn
 |false=>exact⟨n,rfl⟩
theorem iF (xs:List Th) (k:Int) (hx:xs.length≤1048576) (hs:∀ t∈xs,t.stack.length≤1048576) (ht:zT xs xs.length≤8388608) (h0:0≤k) (h1:k≤67108864) (H0:Key→Option Ob)
  (hH:H0 (.l 76)=some (.rs 158 6 (thRows 903 xs))) (hF:∀ j,H0 (.s 903 j)=zE xs j) :
  IOCall EE 67 [.dref (.l 76) xs.length,i64 k] H0 (fun r H1=>r=i64 (k+zT xs xs.length)∧H1 (.l 76)=some (.rs 158 6 (thRows 903 (vF k xs)))∧(∀ j,H1 (.s 903 j)=zE (vF k xs) j)∧∀ κ,lendT κ=false→H1 κ=none):=by
 refine xN (fn:=Tryz.f67) (c:=Tryz.f67.body.getD .skip) Tryz.func67 rfl (by kernel_rfl) rfl ?_
 have hat:At [(0,.dref (.l 76) xs.length),(1,i64 k)] [(.l 76,.rs 158 6 (thRows 903 xs))] [(903,zE xs)] ⟨fun i=>[AV.dref (.l 76) xs.length,i64 k].getD i .junk,H0⟩:=⟨⟨rfl,rfl,trivial⟩,⟨hH,trivial⟩,⟨fun j=>(hF j).trans rfl,trivial⟩⟩
 obtain⟨τ,H,hf⟩:=hat.form
 rw[hf]
 conv=>whnf
 refine fD (fun i:Nat=>[(0,.dref (.l 76) xs.length),(1,i64 (k+(zT xs i:Int))),(5,i64 i)]) (fun i=>[(.l 76,.rs 158 6 (thRows 903 (kL k xs i)))]) (fun i=>[(903,zE (kL k xs i))]) (fun i=>xs.length - i) (fun i=>i≤xs.length) 0
  Weak.refl ⟨rfl,?_,rfl,trivial⟩ ⟨?_,trivial⟩ ⟨fun j=>?_,trivial⟩ (Nat.zero_le _) ?_
 ·show i64 k=i64 (k+((zT xs 0:Nat):Int))
  rw[show k+((zT xs 0:Nat):Int)=k by simp[zT]]
 ·rfl
 ·rfl
 intro i τ H hi
 have hi:i≤xs.length:=hi
 have hti:=lW xs i
 conv=>whnf
 refine kbi (fun h=>?_) (fun h=>?_)
 ·have hlt:i<xs.length:=by simpa using h
  have hgi:(kL k xs i)[i]?=some xs[i]:=by rw[pY (Nat.le_refl _),List.getElem?_eq_getElem hlt]
  have hrow:(thRows 903 (kL k xs i))[i]?=some (thRow 903 i xs[i]):=by rw[sG,hgi];rfl
  have hfi:zE (kL k xs i) i=some (.ds 74 1 (stk xs[i])):=by unfold zE;rw[hgi];rfl
  have w1:IntKind.i64.wrap (k+(zT xs i:Int)+1)=k+(zT xs i:Int)+1:=zK (by omega) (by omega)
  have w2:IntKind.i64.wrap (k+(zT xs i:Int)+1+1)=k+(zT xs i:Int)+2:=by rw[zK (by omega) (by omega)];omega
  have w3:IntKind.i64.wrap (k+(zT xs i:Int)+2+1)=k+(zT xs i:Int)+3:=by rw[zK (by omega) (by omega)];omega
  have w4:IntKind.i64.wrap (k+(zT xs i:Int)+3+1)=k+(zT xs i:Int)+4:=by rw[zK (by omega) (by omega)];omega
  have w5:IntKind.i64.wrap (k+(zT xs i:Int)+4+1)=k+(zT xs i:Int)+5:=by rw[zK (by omega) (by omega)];omega
  conv=>whnf
  iterate 5
   refine⟨⟨by omega,by omega⟩,?_⟩
   conv=>whnf
  refine⟨⟨by omega,by omega⟩,?_⟩
  conv=>whnf
  have hget:(eS (thRows 903 (kL k xs i)) i (i64 (k+(zT xs i:Int))) (i64 (k+(zT xs i:Int)+1)) (i64 (k+(zT xs i:Int)+2)) (i64 (k+(zT xs i:Int)+3)) (i64 (k+(zT xs i:Int)+4)))[i]?=some [i64 (k+(zT xs i:Int)),i64 (k+(zT xs i:Int)+1),i64 (k+(zT xs i:Int)+2),i64 (k+(zT xs i:Int)+3),i64 (k+(zT xs i:Int)+4),.ref (.s 903 i) 0 xs[i].stack.length] :=
   put5_eq hrow
  rw[w1,w2,w3,w4,w5]
  refine⟨[i64 (k+(zT xs i:Int)),i64 (k+(zT xs i:Int)+1),i64 (k+(zT xs i:Int)+2),i64 (k+(zT xs i:Int)+3),i64 (k+(zT xs i:Int)+4),.ref (.s 903 i) 0 xs[i].stack.length],⟨?_,by show 0+5+1≤6;omega⟩,?_⟩
  ·rw[← hget,Int.toNat_natCast];rfl
  conv=>whnf
  have hsw:swp (.s 903 i) (.l 77) (.s 903 i)=.l 77:=by simp[swp,Key.beq]
  have hswl:swp (.s 903 i) (.l 77) (.l 77)=.s 903 i:=by simp[swp,Key.beq]
  have hne:∀ j,j≠i→swp (.s 903 i) (.l 77) (.s 903 j)=.s 903 j:=fun j hj=>by simp[swp,Key.beq,nbeq_ne hj]
  have hts:=lV hlt
  have hti2:=lW xs (i+1)
  have hst:=hs _ (List.getElem_mem hlt)
  have hmk:lA k xs i=⟨k+(zT xs i:Int),k+(zT xs i:Int)+1,k+(zT xs i:Int)+2,k+(zT xs i:Int)+3,k+(zT xs i:Int)+4,wS (k+(zT xs i:Int)+5) xs[i].stack.length⟩:=by
   unfold lA;simp[List.getD_eq_getElem?_getD,hlt]
  split
  case' h_1=>conv=>whnf
  case' h_1=>refine .inr (.inr (.inr (.inr (.inr ?_))))
  case' h_2=>refine .inr (.inr (.inr (.inr ?_)))
  all_goals
   refine⟨_,68,[],swp (.s 903 i) (.l 77),Weak.refl,rfl,uF _ _,isK (.l 77),_,xO (nA (stk xs[i]) xs[i].stack.length (k+(zT xs i:Int)+5) (by simp[stk]) hst (by omega) (by omega) _ ?_) ?_,pin_s,?_⟩
   ·show Option.map _ (Option.map _ (zE (kL k xs i) i))=_
    rw[hfi]
    rfl
   ·show[scrP _ (.ref (swp (.s 903 i) (.l 77) (.s 903 i)) 0 xs[i].stack.length),_]=_
    rw[hsw]
    rfl
   ·rintro r H1 ⟨rfl,e1,q2⟩
    refine⟨q2,fun n hn=>⟨.ds 74 1 (stk xs[i]),?_,(wS (k+(zT xs i:Int)+5) xs[i].stack.length).map encF,?_,by simp[jP,stk]⟩,?_⟩
    ·have:n=77:=Nat.eq_of_beq_eq_true hn
     subst this
     show Option.map _ (zE (kL k xs i) i)=_
     rw[hfi];rfl
    ·have:n=77:=Nat.eq_of_beq_eq_true hn
     subst this;exact e1
    conv=>whnf
    refine⟨i+1,_,Weak.refl,by show i+1≤xs.length;omega,by show xs.length - (i+1)<xs.length - i;omega,⟨rfl,?_,?_,trivial⟩,⟨?_,trivial⟩,⟨fun j=>?_,trivial⟩⟩
    ·show i64 (k+((zT xs i:Nat):Int)+5+((xs[i].stack.length:Nat):Int))=i64 (k+((zT xs (i+1):Nat):Int))
     rw[hts]
     exact congrArg i64 (by omega)
    ·show AV.d (.int .i64 (IntKind.i64.wrap ((i:Int)+1)))=i64 ((i+1:Nat):Int)
     rw[zK (by omega) (by omega)]
     rfl
    ·show some (Ob.rs 158 6 ((((eS (thRows 903 (kL k xs i)) i (i64 (k+(zT xs i:Int))) (i64 (k+(zT xs i:Int)+1)) (i64 (k+(zT xs i:Int)+2)) (i64 (k+(zT xs i:Int)+3)) (i64 (k+(zT xs i:Int)+4))).map (renL (swp (.s 903 i) (.l 77)))).map (scrPL (xQ (isK (.l 77))))).map (renL (swp (.s 903 i) (.l 77)))))=some (Ob.rs 158 6 (thRows 903 (kL k xs (i+1))))
     rw[List.map_map,List.map_map]
     refine congrArg (fun x=>some (Ob.rs 158 6 x)) (List.ext_getElem? fun j=>?_)
     rw[List.getElem?_map,sG]
     by_cases hj:j=i
     ·subst hj
      rw[hget,mK (by omega),hmk]
      show some (renL _ (scrPL _ [_,_,_,_,_,AV.ref (swp (.s 903 j) (.l 77) (.s 903 j)) 0 _]))=_
      rw[hsw]
      show some [_,_,_,_,_,AV.ref (swp (.s 903 j) (.l 77) (.l 77)) 0 _]=some [_,_,_,_,_,AV.ref (.s 903 j) 0 (wS _ xs[j].stack.length).length]
      rw[hswl,jP]
      rfl
     ·have hmx:(kL k xs (i+1))[j]?=(kL k xs i)[j]?:=by
       rcases Nat.lt_or_ge j i with h1|h1
       ·rw[mK (by omega),mK h1]
       ·rw[pY (by omega),pY h1]
      rw[hmx]
      cases hq:(kL k xs i)[j]? with
      |none =>
       have:(eS (thRows 903 (kL k xs i)) i (i64 (k+(zT xs i:Int))) (i64 (k+(zT xs i:Int)+1)) (i64 (k+(zT xs i:Int)+2)) (i64 (k+(zT xs i:Int)+3)) (i64 (k+(zT xs i:Int)+4)))[j]?=none:=by
        rw[List.getElem?_eq_none_iff] at hq ⊢
        rw[put5_len,zU];exact hq
       rw[this];rfl
      |some t =>
       rw[put5_ne hj (show(thRows 903 (kL k xs i))[j]?=some (thRow 903 j t) by rw[sG,hq];rfl)]
       show some (renL _ (scrPL _ [_,_,_,_,_,AV.ref (swp (.s 903 i) (.l 77) (.s 903 j)) 0 _]))=_
       rw[hne j hj]
       show some [_,_,_,_,_,AV.ref (swp (.s 903 i) (.l 77) (.s 903 j)) 0 _]=_
       rw[hne j hj]
       rfl
    ·by_cases hj:j=i
     ·subst hj
      have hm2:zE (kL k xs (j+1)) j=some (.ds 74 1 ((wS (k+(zT xs j:Int)+5) xs[j].stack.length).map encF)):=by
       unfold zE;rw[mK (by omega),hmk];rfl
      show Option.map _ (St.H _ (swp (.s 903 j) (.l 77) (.s 903 j)))=_
      rw[hsw,hm2]
      show Option.map _ (H1 (.l 77))=_
      rw[e1];rfl
     ·have hmx:zE (kL k xs (i+1)) j=zE (kL k xs i) j:=by
       unfold zE
       rcases Nat.lt_or_ge j i with h1|h1
       ·rw[mK (by omega),mK h1]
       ·rw[pY (by omega),pY h1]
      show Option.map _ (St.H _ (swp (.s 903 i) (.l 77) (.s 903 j)))=_
      rw[hne j hj,hmx]
      show Option.map _ (Option.map _ (Option.map _ (St.H _ (swp (.s 903 i) (.l 77) (.s 903 j)))))=_
      rw[hne j hj]
      show Option.map _ (Option.map _ (Option.map _ (zE (kL k xs i) j)))=_
      rw[thFam_ren,zH,thFam_ren]
 ·conv=>whnf
  have hkk:i=xs.length:=by
   have:¬ i<xs.length:=by simpa using h
   omega
  subst hkk
  rw[mixT_end]
  refine⟨_,Weak.refl,?_⟩
  conv=>whnf
  refine⟨lendT,rfl,?_,fun j=>?_,fun κ hκ=>?_⟩
  ·show some (Ob.rs 158 6 ((thRows 903 (vF k xs)).map (scrPL (fun o=>!lendT o))))=_
   rw[yP (fun j=>rfl)]
  ·show Option.map _ (zE (vF k xs) j)=_
   exact zH _ _ _
  ·exact aO hκ
end Ai
namespace Ai
set_option maxRecDepth 100000
open Go Go.Proofs
theorem nD (k:Int) (n:Nat) (hx:n≤1048576) (h0:0≤k) (h1:k≤1073741824):CallsTo EE 70 [sl ((wS k n).map encF),i64 k] (·=i64 (k+(n:Int))):=by
 have hml:=jP k n
 refine callsTo_of_AW (fn:=Tryz.f70) Tryz.func70 rfl (by kernel_rfl) rfl ?_
 conv=>whnf
 refine yN (fun j:Nat=>[(0,sl ((wS k n).map encF)),(1,i64 (k+(j:Int))),(5,i64 j)]) (fun j=>[]) (fun j=>n - j) (fun j=>j≤n) 0
  Weak.refl ⟨rfl,?_,rfl,trivial⟩ trivial (Nat.zero_le _) ?_
 ·show i64 k=i64 (k+((0:Nat):Int))
  rw[show k+((0:Nat):Int)=k by omega]
 intro j τ H hj
 have hj:j≤n:=hj
 conv=>whnf
 refine kbi (fun h=>?_) (fun h=>?_)
 ·have hlt:=yK h
  rw[hml] at hlt
  have hgt:((wS k n).map encF)[(j:Int).toNat]?=some (encF (FloatKind.f64.nearest (k+(j:Int)))):=by simp[wS,hlt]
  conv=>whnf
  refine⟨encF (FloatKind.f64.nearest (k+(j:Int))),⟨by omega,hgt,rfl⟩,?_⟩
  conv=>whnf
  refine kbi (fun g=>absurd g (by rw[near_ne];simp)) (fun _=>?_)
  conv=>whnf
  refine⟨j+1,by show j+1≤n;omega,by show n - (j+1)<n - j;omega,⟨rfl,?_,?_,trivial⟩,trivial⟩
  ·show AV.d (.int .i64 (IntKind.i64.wrap (k+(j:Int)+1)))=i64 (k+((j+1:Nat):Int))
   rw[zK (by omega) (by omega)]
   exact congrArg i64 (by omega)
  ·show AV.d (.int .i64 (IntKind.i64.wrap ((j:Int)+1)))=i64 ((j+1:Nat):Int)
   rw[zK (by omega) (by omega)]
   rfl
 ·have hkk:j=n:=by
   have:¬ j<n:=by simpa[wS] using h
   omega
  subst hkk
  conv=>whnf
theorem iR (xs:List Th) (k:Int) (hx:xs.length≤1048576) (hs:∀ t∈xs,t.stack.length≤1048576) (ht:zT xs xs.length≤8388608) (h0:0≤k) (h1:k≤67108864) :
  CallsTo EE 69 [sl ((vF k xs).map zD),i64 k] (·=i64 (k+zT xs xs.length)):=by
 have hml:(vF k xs).length=xs.length:=by simp[vF]
 refine callsTo_of_AW (fn:=Tryz.f69) Tryz.func69 rfl (by kernel_rfl) rfl ?_
 conv=>whnf
 refine yN (fun j:Nat=>[(0,sl ((vF k xs).map zD)),(1,i64 (k+(zT xs j:Int))),(5,i64 j)]) (fun j=>[]) (fun j=>xs.length - j) (fun j=>j≤xs.length) 0
  Weak.refl ⟨rfl,?_,rfl,trivial⟩ trivial (Nat.zero_le _) ?_
 ·show i64 k=i64 (k+((zT xs 0:Nat):Int))
  rw[show k+((zT xs 0:Nat):Int)=k by simp[zT]]
 intro i τ H hi
 have hi:i≤xs.length:=hi
 conv=>whnf
 refine kbi (fun h=>?_) (fun h=>?_)
 ·have hlt:=yK h
  rw[hml] at hlt
  have hmk:lA k xs i=⟨k+(zT xs i:Int),k+(zT xs i:Int)+1,k+(zT xs i:Int)+2,k+(zT xs i:Int)+3,k+(zT xs i:Int)+4,wS (k+(zT xs i:Int)+5) xs[i].stack.length⟩:=by
   unfold lA;simp[List.getD_eq_getElem?_getD,hlt]
  have hgt:((vF k xs).map zD)[(i:Int).toNat]?=some (zD (lA k xs i)):=by simp[vF,hlt]
  rw[hmk] at hgt
  have hti:=lW xs i
  have hts:=lV hlt
  have hti2:=lW xs (i+1)
  have hst:=hs _ (List.getElem_mem hlt)
  generalize zT xs i=T at *
  have w1:IntKind.i64.wrap (k+(T:Int)+1)=k+(T:Int)+1:=zK (by omega) (by omega)
  have w2:IntKind.i64.wrap (k+(T:Int)+1+1)=k+(T:Int)+2:=by rw[zK (by omega) (by omega)];omega
  have w3:IntKind.i64.wrap (k+(T:Int)+2+1)=k+(T:Int)+3:=by rw[zK (by omega) (by omega)];omega
  have w4:IntKind.i64.wrap (k+(T:Int)+3+1)=k+(T:Int)+4:=by rw[zK (by omega) (by omega)];omega
  have w5:IntKind.i64.wrap (k+(T:Int)+4+1)=k+(T:Int)+5:=by rw[zK (by omega) (by omega)];omega
  conv=>whnf
  refine⟨_,⟨by omega,hgt,rfl⟩,?_⟩
  conv=>whnf
  refine kbi (fun h=>absurd h (by simp)) (fun _=>?_)
  conv=>whnf
  rw[w1]
  refine⟨_,⟨by omega,hgt,rfl⟩,?_⟩
  conv=>whnf
  refine kbi (fun h=>absurd h (by simp)) (fun _=>?_)
  conv=>whnf
  rw[w2]
  refine⟨_,⟨by omega,hgt,rfl⟩,?_⟩
  conv=>whnf
  refine kbi (fun h=>absurd h (by simp)) (fun _=>?_)
  conv=>whnf
  rw[w3]
  refine⟨_,⟨by omega,hgt,rfl⟩,?_⟩
  conv=>whnf
  refine kbi (fun h=>absurd h (by simp)) (fun _=>?_)
  conv=>whnf
  rw[w4]
  refine⟨_,⟨by omega,hgt,rfl⟩,?_⟩
  conv=>whnf
  refine kbi (fun h=>absurd h (by simp)) (fun _=>?_)
  conv=>whnf
  rw[w5]
  refine⟨_,⟨by omega,hgt,rfl⟩,?_⟩
  conv=>whnf
  refine⟨_,nD (k+(T:Int)+5) xs[i].stack.length hst (by omega) (by omega),?_⟩
  rintro r rfl
  conv=>whnf
  refine kbi (fun h=>absurd h (by simp;omega)) (fun _=>?_)
  conv=>whnf
  refine⟨i+1,by show i+1≤xs.length;omega,by show xs.length - (i+1)<xs.length - i;omega,⟨rfl,?_,?_,trivial⟩,trivial⟩
  ·show i64 (k+(T:Int)+5+(xs[i].stack.length:Nat))=i64 (k+((zT xs (i+1):Nat):Int))
   rw[hts]
   exact congrArg i64 (by omega)
  ·show AV.d (.int .i64 (IntKind.i64.wrap ((i:Int)+1)))=i64 ((i+1:Nat):Int)
   rw[zK (by omega) (by omega)]
   rfl
 ·have hkk:i=xs.length:=by
   have:¬ i<xs.length:=by simpa[vF] using h
   omega
  subst hkk
  conv=>whnf
end Ai
namespace Ai
set_option maxRecDepth 100000
open Go Go.Proofs
def xI (s:StL) (k:Int):StL:=⟨vF k s.ths,wS (k+(zT s.ths s.ths.length:Int)) s.cells.length,qY (k+(zT s.ths s.ths.length:Int)+(s.cells.length:Int)) s.owner.length,s.fault⟩
def gW (s:StL) (k:Int):Int:=k+(zT s.ths s.ths.length:Int)+(s.cells.length:Int)+(s.owner.length:Int)
theorem bQ (s:StL) (k:Int) (h:s.fit) (ht:zT s.ths s.ths.length≤8388608) (h0:0≤k) (h1:k≤67108864) :
  CallsTo EE 24 [agg (zX (xI s k)),i64 k] (·=i64 (gW s k)):=by
 have hc:=h.cells
 have ho:=h.owner
 refine callsTo_of_AW (fn:=Tryz.f24) Tryz.func24 rfl (by kernel_rfl) rfl ?_
 conv=>whnf
 refine⟨_,iR s.ths k h.ths h.st ht h0 h1,?_⟩
 rintro r rfl
 conv=>whnf
 refine kbi (fun h=>absurd h (by simp;omega)) (fun _=>?_)
 conv=>whnf
 refine⟨_,nD _ _ hc (by omega) (by omega),?_⟩
 rintro r rfl
 conv=>whnf
 refine kbi (fun h=>absurd h (by simp;omega)) (fun _=>?_)
 conv=>whnf
 refine⟨_,heldIntS_ok _ _ ho (by omega) (by omega),?_⟩
 rintro r rfl
 conv=>whnf
 refine kbi (fun h=>absurd h (by simp;omega)) (fun _=>?_)
 conv=>whnf
 try rfl
end Ai
namespace Ai
set_option maxRecDepth 100000
open Go Go.Proofs
theorem pin_ll {K:Key→Bool} {a b:Nat}:∀ n,K (swp (.l a) (.l b) (.l n))=true→∃ n',swp (.l a) (.l b) (.l n)=.l n':=by
 intro n hn
 clear hn
 unfold swp
 cases Key.beq (.l n) (.l a) with
 |true=>exact⟨b,rfl⟩
 |false =>
  cases Key.beq (.l n) (.l b) with
  |true=>exact⟨a,rfl⟩
  |false=>exact⟨n,rfl⟩
def lB:Key→Bool
 | .l k=>Nat.beq k 73 || Nat.beq k 74 || Nat.beq k 75
 | .s o _=>Nat.beq o 903
 | .n _=>false
structure StAtL (s:StL) (H:Key→Option Ob):Prop where
 hH:H (.l 73)=some (.rs 158 6 (thRows 903 s.ths))
 hF:∀ j,H (.s 903 j)=zE s.ths j
 hC:H (.l 74)=some (.ds 74 1 (s.cells.map encF))
 hO:H (.l 75)=some (.ds 3 1 (s.owner.map encInt))
theorem y5 (s:StL) (k:Int) (h:s.fit) (ht:zT s.ths s.ths.length≤8388608) (h0:0≤k) (h1:k≤67108864) (H0:Key→Option Ob) (hS:StAtL s H0) :
  IOCall EE 23 [.agg [.dref (.l 73) s.ths.length,.ref (.l 74) 0 s.cells.length,.ref (.l 75) 0 s.owner.length,i64 s.fault],i64 k] H0 (fun r H1=>r=i64 (gW s k)∧StAtL (xI s k) H1∧∀ κ,lB κ=false→H1 κ=none):=by
 have hc:=h.cells
 have ho:=h.owner
 refine xN (fn:=Tryz.f23) (c:=Tryz.f23.body.getD .skip) Tryz.func23 rfl (by kernel_rfl) rfl ?_
 have hat:At [(0,.agg [.dref (.l 73) s.ths.length,.ref (.l 74) 0 s.cells.length,.ref (.l 75) 0 s.owner.length,i64 s.fault]),(1,i64 k)] [(.l 73,.rs 158 6 (thRows 903 s.ths)),(.l 74,.ds 74 1 (s.cells.map encF)),(.l 75,.ds 3 1 (s.owner.map encInt))] [(903,zE s.ths)] ⟨fun i=>[AV.agg [.dref (.l 73) s.ths.length,.ref (.l 74) 0 s.cells.length,.ref (.l 75) 0 s.owner.length,i64 s.fault],i64 k].getD i .junk,H0⟩:=⟨⟨rfl,rfl,trivial⟩,⟨hS.hH,hS.hC,hS.hO,trivial⟩,⟨hS.hF,trivial⟩⟩
 obtain⟨τ,H,hf⟩:=hat.form
 rw[hf]
 conv=>whnf
 refine .inr (.inr (.inr (.inr ⟨_,67,[],swp (.l 73) (.l 76),Weak.refl,rfl,uF _ _,lendT,_,xO (iF s.ths k h.ths h.st ht h0 h1 _ ?_ fun j=>?_) rfl,pin_ll,?_⟩)))
 ·show some (Ob.rs 158 6 ((((thRows 903 s.ths).map (scrPL (isK (.n 2)))).map (renL (swp (.l 73) (.l 76)))).map (scrPL (fun o=>!lendT o))))=_
  rw[yP (fun j=>rfl),zW (fun j=>rfl),yP (fun j=>rfl)]
 ·show Option.map _ (Option.map _ (Option.map _ (zE s.ths j)))=_
  rw[zH,thFam_ren,zH]
 rintro r H1 ⟨rfl,e1,e2,q⟩
 refine⟨q,fun n hn=>⟨.rs 158 6 (thRows 903 s.ths),?_,thRows 903 (vF k s.ths),?_,by simp[zU,vF]⟩,?_⟩
 ·have:n=76:=Nat.eq_of_beq_eq_true hn
  subst this
  show some (Ob.rs 158 6 (((thRows 903 s.ths).map (scrPL (isK (.n 2)))).map (renL (swp (.l 73) (.l 76)))))=_
  rw[yP (fun j=>rfl),zW (fun j=>rfl)]
 ·have:n=76:=Nat.eq_of_beq_eq_true hn
  subst this;exact e1
 generalize hT:zT s.ths s.ths.length=T at ht
 conv=>whnf
 refine .inr (.inr (.inr (.inr (.inr ⟨_,68,[],swp (.l 74) (.l 77),Weak.refl,rfl,uF _ _,isK (.l 77),_,xO (nA (s.cells.map encF) s.cells.length (k+(T:Int)) (by simp) hc (by omega) (by omega) _ rfl) rfl,pin_ll,?_⟩))))
 rintro r H2 ⟨rfl,e3,q3⟩
 refine⟨q3,fun n hn=>⟨.ds 74 1 (s.cells.map encF),?_,(wS (k+(T:Int)) s.cells.length).map encF,?_,by simp[jP]⟩,?_⟩
 ·have:n=77:=Nat.eq_of_beq_eq_true hn
  subst this;rfl
 ·have:n=77:=Nat.eq_of_beq_eq_true hn
  subst this;exact e3
 conv=>whnf
 refine .inr (.inr (.inr (.inr (.inr ⟨_,22,[],swp (.l 75) (.l 77),Weak.refl,rfl,uF _ _,isK (.l 77),_,xO (kD (.l 77) (.inr rfl) s.owner (k+(T:Int)+(s.cells.length:Nat)) ho (by omega) (by omega) _ rfl) rfl,pin_ll,?_⟩))))
 rintro r H3 ⟨rfl,e4,q4⟩
 refine⟨q4,fun n hn=>⟨.ds 3 1 (s.owner.map encInt),?_,(qY (k+(T:Int)+(s.cells.length:Nat)) s.owner.length).map encInt,?_,by simp[vY]⟩,?_⟩
 ·have:n=77:=Nat.eq_of_beq_eq_true hn
  subst this;rfl
 ·have:n=77:=Nat.eq_of_beq_eq_true hn
  subst this;exact e4
 conv=>whnf
 refine⟨_,Weak.refl,?_⟩
 conv=>whnf
 refine⟨lB,?_,⟨?_,fun j=>?_,?_,?_⟩,fun κ hκ=>aO hκ⟩
 ·show i64 (k+(T:Int)+(s.cells.length:Nat)+(s.owner.length:Nat))=i64 (gW s k)
  unfold gW
  rw[hT]
 ·show Option.map _ (Option.map _ (Option.map _ (Option.map _ (Option.map _ (Option.map _ (Option.map _ (Option.map _ (H1 (.l 76)))))))))= _
  rw[e1]
  show some (Ob.rs 158 6 (((((((((thRows 903 (vF k s.ths)).map (renL _)).map (renL _)).map (scrPL _)).map (renL _)).map (renL _)).map (scrPL _)).map (renL _)).map (scrPL _)))=some (Ob.rs 158 6 (thRows 903 (vF k s.ths)))
  rw[zW (fun j=>rfl),zW (fun j=>rfl),yP (fun j=>rfl),zW (fun j=>rfl),zW (fun j=>rfl),yP (fun j=>rfl),zW (fun j=>rfl),yP (fun j=>rfl)]
 ·show Option.map _ (Option.map _ (Option.map _ (Option.map _ (Option.map _ (Option.map _ (Option.map _ (Option.map _ (H1 (.s 903 j)))))))))= _
  rw[e2,thFam_ren,thFam_ren,zH,thFam_ren,thFam_ren,zH,thFam_ren,zH]
  rfl
 ·show Option.map _ (Option.map _ (Option.map _ (Option.map _ (Option.map _ (H2 (.l 77))))))=some (Ob.ds 74 1 ((wS (k+(zT s.ths s.ths.length:Int)) s.cells.length).map encF))
  rw[e3,hT];rfl
 ·show Option.map _ (Option.map _ (H3 (.l 77)))=some (Ob.ds 3 1 ((qY (k+(zT s.ths s.ths.length:Int)+(s.cells.length:Int)) s.owner.length).map encInt))
  rw[e4,hT];rfl
def lendRn:Key→Bool
 | .l k=>Nat.beq k 71 || Nat.beq k 72 || Nat.beq k 73 || Nat.beq k 74 || Nat.beq k 75
 | .s o _=>Nat.beq o 903
 | .n _=>false
end Ai
namespace Ai
set_option maxRecDepth 100000
open Go Go.Proofs Cyc
def refO (o:Nat) (x:RunT):List AV:=[i64 x.c,.ref (.n (o+1)) 0 x.tr.length,.ref (.n (o+2)) 0 x.tk.length,.dref (.n (o+3)) x.s.ths.length,.ref (.n (o+4)) 0 x.s.cells.length,.ref (.n (o+5)) 0 x.s.owner.length,i64 x.s.fault]
structure RnAt (o:Nat) (x:RunT) (S:St):Prop where
 h1:S.H (.n (o+1))=some (.ds 105 5 (x.tr.map encEv))
 h2:S.H (.n (o+2))=some (.ds 3 1 (x.tk.map encInt))
 h3:S.H (.n (o+3))=some (.rs 158 6 (thRows (o+3) x.s.ths))
 h4:∀ j,S.H (.s (o+3) j)=zE x.s.ths j
 h5:S.H (.n (o+4))=some (.ds 74 1 (x.s.cells.map encF))
 h6:S.H (.n (o+5))=some (.ds 3 1 (x.s.owner.map encInt))
theorem fz_ownO {o:Nat} {x:RunT} {S:St} (h:RnAt o x S):FzC S (refO o x) (encRT x):=by
 obtain⟨h1,h2,h3,h4,h5,h6⟩:=h
 refine⟨di x.c,_,rfl,rfl,.sl (x.tr.map encEv),_,rfl,?_,.sl (x.tk.map encInt),_,rfl,?_,.sl (x.s.ths.map zD),_,rfl,⟨_,rfl,?_⟩,.sl (x.s.cells.map encF),_,rfl,?_,.sl (x.s.owner.map encInt),_,rfl,?_,di x.s.fault,[],rfl,rfl,rfl⟩
 ·simp[FzD,fz1,h1,List.take_of_length_le]
 ·simp[FzD,fz1,h2,List.take_of_length_le]
 ·unfold kP
  rw[h3]
  refine⟨by simp,fun j row hj hr=>?_⟩
  rw[yR hj] at hr
  simp only[Option.some.injEq] at hr
  subst hr
  exact⟨zD x.s.ths[j],by simp[hj],fz_row ((h4 j).trans (thFam_self hj))⟩
 ·simp[FzD,fz1,h5,List.take_of_length_le]
 ·simp[FzD,fz1,h6,List.take_of_length_le]
theorem fz_ownZ {p:ProgL} {S:St} {n:Nat} (h1:S.H (.n 963)=some (.rs 133 1 (qW (zN p)))) (h2:∀ j,S.H (.s 963 j)=vR (zN p) 0 j) (hn:n=p.rs.length) :
  FzC S [i64 p.cells,i64 p.locks,i64 p.conds,.dref (.n 963) n] (encProg p):=by
 subst hn
 refine⟨di p.cells,_,rfl,rfl,di p.locks,_,rfl,rfl,di p.conds,_,rfl,rfl,.sl (p.rs.map yF),_,rfl,⟨_,rfl,v7 h1 (by simp) (by simp[qW,zN]) ?_⟩,rfl⟩
 intro j row d hr hd
 have hj:j<p.rs.length:=by
  have:=(List.getElem?_eq_some_iff.1 hd).1
  simpa using this
 have hjs:j<(zN p).length:=by simpa[zN] using hj
 have hr0:(qW (zN p))[j]?=some [.ref (.s 963 j) 0 ((zN p).getD j []).length]:=by simp[qW,hjs]
 rw[hr0] at hr
 rw[List.getElem?_map,List.getElem?_eq_getElem hj] at hd
 simp only[Option.map_some,Option.some.injEq] at hr hd
 subst hr hd
 have hg:(zN p)[j]=p.rs[j].map encOp:=by simp[zN,gY]
 have h3:=h2 j
 unfold vR at h3
 rw[if_neg (by omega),List.getElem?_eq_getElem hjs,hg] at h3
 simp[fz1s,fz1,h3,List.getD_eq_getElem?_getD,hjs,hg,yF,List.take_of_length_le]
def zL (κ:Key):Key :=
 match κ with
 | .n k=>bif Nat.ble 921 k&&Nat.ble k 925 then .l (k - 850) else .n k
 | .l k=>bif Nat.ble 71 k&&Nat.ble k 75 then .n (k+850) else .l k
 | .s o j=>bif Nat.beq o 923 then .s 903 j else bif Nat.beq o 903 then .s 923 j else .s o j
theorem zL_zL (κ:Key):zL (zL κ)=κ:=by
 cases κ with
 |n k =>
  by_cases h:921≤k∧k≤925
  ·have:k=921∨k=922∨k=923∨k=924∨k=925:=by omega
   rcases this with rfl|rfl|rfl|rfl|rfl <;> rfl
  ·have a:(Nat.ble 921 k&&Nat.ble k 925)=false:=by
    rw[Bool.and_eq_false_iff]
    by_cases h1:921≤k
    ·right;rw[Bool.eq_false_iff];intro e;exact h ⟨h1,Nat.le_of_ble_eq_true e⟩
    ·left;rw[Bool.eq_false_iff];intro e;exact h1 (Nat.le_of_ble_eq_true e)
   have e:zL (.n k)=.n k:=by show(bif Nat.ble 921 k&&Nat.ble k 925 then _ else _)=_;rw[a];rfl
   rw[e,e]
 |l k =>
  by_cases h:71≤k∧k≤75
  ·have:k=71∨k=72∨k=73∨k=74∨k=75:=by omega
   rcases this with rfl|rfl|rfl|rfl|rfl <;> rfl
  ·have a:(Nat.ble 71 k&&Nat.ble k 75)=false:=by
    rw[Bool.and_eq_false_iff]
    by_cases h1:71≤k
    ·right;rw[Bool.eq_false_iff];intro e;exact h ⟨h1,Nat.le_of_ble_eq_true e⟩
    ·left;rw[Bool.eq_false_iff];intro e;exact h1 (Nat.le_of_ble_eq_true e)
   have e:zL (.l k)=.l k:=by show(bif Nat.ble 71 k&&Nat.ble k 75 then _ else _)=_;rw[a];rfl
   rw[e,e]
 |s o j =>
  by_cases h1:o=923
  ·subst h1;rfl
  by_cases h2:o=903
  ·subst h2;rfl
  have e:zL (.s o j)=.s o j:=by show(bif Nat.beq o 923 then _ else bif Nat.beq o 903 then _ else _)=_;rw[nbeq_ne h1,nbeq_ne h2];rfl
  rw[e,e]
theorem zL_pin:∀ n,lendRn (zL (.l n))=true→∃ n',zL (.l n)=.l n':=by
 intro n hn
 by_cases h:71≤n∧n≤75
 ·have:n=71∨n=72∨n=73∨n=74∨n=75:=by omega
  rcases this with rfl|rfl|rfl|rfl|rfl <;> cases hn
 ·have a:(Nat.ble 71 n&&Nat.ble n 75)=false:=by
   rw[Bool.and_eq_false_iff]
   by_cases h1:71≤n
   ·right;rw[Bool.eq_false_iff];intro e;exact h ⟨h1,Nat.le_of_ble_eq_true e⟩
   ·left;rw[Bool.eq_false_iff];intro e;exact h1 (Nat.le_of_ble_eq_true e)
  exact⟨n,by show(bif Nat.ble 71 n&&Nat.ble n 75 then _ else _)=_;rw[a];rfl⟩
theorem uL {f:Key→Key} {o o':Nat} {l:List Th} (h:∀ j,f (.s o j)=.s o' j):(thRows o l).map (renL f)=thRows o' l:=by
 apply List.ext_getElem?
 intro j
 rw[List.getElem?_map]
 by_cases hl:j<l.length
 ·rw[yR hl,yR hl]
  show some [_,_,_,_,_,AV.ref (f (.s o j)) 0 _]=_
  rw[h j]
  rfl
 ·rw[List.getElem?_eq_none (by rw[zU];omega),List.getElem?_eq_none (by rw[zU];omega)]
  rfl
end Ai
namespace Ai
set_option maxRecDepth 100000
open Go Go.Proofs Cyc
theorem bJ {f:Key→Key} {subs:List (List (List D))} (hf:∀ j,f (.s 963 j)=.s 963 j):(qW subs).map (renL f)=qW subs:=by
 unfold qW
 rw[List.map_map]
 refine List.map_congr_left fun j _=>?_
 show renL f [_]=_
 simp[renL,ren,hf j]
end Ai
namespace Ai
set_option maxRecDepth 100000
open Go Go.Proofs Cyc
theorem fz_runV {S:St} (x:RunT):FzA S (agg (encRT x)) (agg (encRT x)):=⟨encRT x,rfl,_,_,rfl,rfl,_,_,rfl,rfl,_,_,rfl,rfl,_,_,rfl,rfl,_,_,rfl,rfl,_,_,rfl,rfl,_,_,rfl,rfl,rfl⟩
end Ai
namespace Ai
set_option maxRecDepth 100000
open Go Go.Proofs Cyc
theorem totT_of {xs:List Th} {m:Nat} (h:∀ t∈xs,t.stack.length≤m):∀ i,zT xs i≤i*(5+m)
 | 0=>by simp[zT]
 |i+1=>by
  have ih:=totT_of h i
  rcases Nat.lt_or_ge i xs.length with h1|h1
  ·rw[lV h1]
   have:=h _ (List.getElem_mem h1)
   rw[Nat.add_mul];omega
  ·have e:zT xs (i+1)=zT xs i:=by
    unfold zT
    rw[List.take_of_length_le (by omega),List.take_of_length_le h1]
   rw[e,Nat.add_mul];omega
end Ai
namespace Ai
set_option maxRecDepth 100000
open Go Go.Proofs Cyc
theorem cR {E:Env} {g:FuncId} {xs:List AV} {R R':AV→Prop} (h:CallsTo E g xs R) (hr:∀ r,R r→R' r):CallsTo E g xs R' :=
 fun w A vs hI ha=>(h w A vs hI ha).mono fun _ _ ⟨r,h1,h2,h3⟩=>⟨r,hr r h1,h2,h3⟩
end Ai
namespace Ai
set_option maxRecDepth 100000
open Go Go.Proofs Cyc
theorem markI0 (m:Int):CallsTo EE 22 [sl [],i64 m] (·=i64 m):=by
 refine callsTo_of_AW (fn:=Tryz.f22) Tryz.func22 rfl (by kernel_rfl) rfl ?_
 conv=>whnf
 refine yN (fun k:Nat=>[(0,sl []),(1,i64 m),(5,i64 0)]) (fun k=>[]) (fun _=>0) (fun _=>True) 0 .refl ⟨rfl,rfl,rfl,trivial⟩ trivial trivial ?_
 intro k τ H hk
 conv=>whnf
 refine⟨fun h=>absurd h (by simp),fun _=>?_⟩
 conv=>whnf
theorem markF0 (m:Int):CallsTo EE 68 [sl [],i64 m] (·=i64 m):=by
 refine callsTo_of_AW (fn:=Tryz.f68) Tryz.func68 rfl (by kernel_rfl) rfl ?_
 conv=>whnf
 refine yN (fun k:Nat=>[(0,sl []),(1,i64 m),(5,i64 0)]) (fun k=>[]) (fun _=>0) (fun _=>True) 0 .refl ⟨rfl,rfl,rfl,trivial⟩ trivial trivial ?_
 intro k τ H hk
 conv=>whnf
 refine⟨fun h=>absurd h (by simp),fun _=>?_⟩
 conv=>whnf
theorem markT0 (m:Int):CallsTo EE 67 [sl [],i64 m] (·=i64 m):=by
 refine callsTo_of_AW (fn:=Tryz.f67) Tryz.func67 rfl (by kernel_rfl) rfl ?_
 conv=>whnf
 refine yN (fun k:Nat=>[(0,sl []),(1,i64 m),(5,i64 0)]) (fun k=>[]) (fun _=>0) (fun _=>True) 0 .refl ⟨rfl,rfl,rfl,trivial⟩ trivial trivial ?_
 intro k τ H hk
 conv=>whnf
 refine⟨fun h=>absurd h (by simp),fun _=>?_⟩
 conv=>whnf
theorem markSt0 (m:Int):CallsTo EE 23 [agg (zX ⟨[],[],[],0⟩),i64 m] (·=i64 m):=by
 refine callsTo_of_AW (fn:=Tryz.f23) Tryz.func23 rfl (by kernel_rfl) rfl ?_
 conv=>whnf
 refine⟨_,markT0 m,?_⟩
 rintro r rfl
 conv=>whnf
 refine⟨_,markF0 m,?_⟩
 rintro r rfl
 conv=>whnf
 refine⟨_,markI0 m,?_⟩
 rintro r rfl
 conv=>whnf
end Ai
namespace Ai
set_option maxRecDepth 100000
open Go Go.Proofs Cyc
def numW (k:Nat):Nat:=bif Nat.ble 901 k&&Nat.ble k 905 then k+40 else bif Nat.ble 941 k&&Nat.ble k 945 then k - 40 else k
theorem numW_numW (k:Nat):numW (numW k)=k:=by
 by_cases h1:901≤k∧k≤905
 ·have:k=901∨k=902∨k=903∨k=904∨k=905:=by omega
  rcases this with rfl|rfl|rfl|rfl|rfl <;> rfl
 by_cases h2:941≤k∧k≤945
 ·have:k=941∨k=942∨k=943∨k=944∨k=945:=by omega
  rcases this with rfl|rfl|rfl|rfl|rfl <;> rfl
 have e:numW k=k:=by
  unfold numW
  have a:(Nat.ble 901 k&&Nat.ble k 905)=false:=by
   rw[Bool.and_eq_false_iff]
   by_cases h:901≤k
   ·right;rw[Bool.eq_false_iff];intro e;exact h1 ⟨h,Nat.le_of_ble_eq_true e⟩
   ·left;rw[Bool.eq_false_iff];intro e;exact h (Nat.le_of_ble_eq_true e)
  have b:(Nat.ble 941 k&&Nat.ble k 945)=false:=by
   rw[Bool.and_eq_false_iff]
   by_cases h:941≤k
   ·right;rw[Bool.eq_false_iff];intro e;exact h2 ⟨h,Nat.le_of_ble_eq_true e⟩
   ·left;rw[Bool.eq_false_iff];intro e;exact h (Nat.le_of_ble_eq_true e)
  rw[a,b];rfl
 rw[e,e]
def shW:Sh:=mkSh numW numW_numW
theorem ownRn_fam0 {x:RunT} {j:Nat}:ownH (eW x) (.s 903 j)=zE x.s.ths j:=by
 show((x.s.ths.map stk)[j]?).map (Ob.ds 74 1)=zE x.s.ths j
 unfold zE
 rw[List.getElem?_map,Option.map_map]
 rfl
end Ai
namespace Ai
set_option maxRecDepth 100000
open Go Go.Proofs Cyc
def numU (k:Nat):Nat:=bif Nat.ble 900 k&&Nat.ble k 902 then k+23 else bif Nat.ble 923 k&&Nat.ble k 925 then k - 23 else k
theorem numU_numU (k:Nat):numU (numU k)=k:=by
 by_cases h1:900≤k∧k≤902
 ·have:k=900∨k=901∨k=902:=by omega
  rcases this with rfl|rfl|rfl <;> rfl
 by_cases h2:923≤k∧k≤925
 ·have:k=923∨k=924∨k=925:=by omega
  rcases this with rfl|rfl|rfl <;> rfl
 have e:numU k=k:=by
  unfold numU
  have a:(Nat.ble 900 k&&Nat.ble k 902)=false:=by
   rw[Bool.and_eq_false_iff]
   by_cases h:900≤k
   ·right;rw[Bool.eq_false_iff];intro e;exact h1 ⟨h,Nat.le_of_ble_eq_true e⟩
   ·left;rw[Bool.eq_false_iff];intro e;exact h (Nat.le_of_ble_eq_true e)
  have b:(Nat.ble 923 k&&Nat.ble k 925)=false:=by
   rw[Bool.and_eq_false_iff]
   by_cases h:923≤k
   ·right;rw[Bool.eq_false_iff];intro e;exact h2 ⟨h,Nat.le_of_ble_eq_true e⟩
   ·left;rw[Bool.eq_false_iff];intro e;exact h (Nat.le_of_ble_eq_true e)
  rw[a,b];rfl
 rw[e,e]
def shU:Sh:=mkSh numU numU_numU
theorem fz_rw {S:St} {κ:Key} {t:Nat} {els:List (List D)} {n:Nat} (h:S.H κ=some (.ds t 1 els)) (hn:n=els.length):FzA S (.ref κ 0 n) (sl els):=by
 subst hn
 show fz S (.ref κ 0 els.length)=some (sl els)
 simp[fz,fzp,fz1,h,sl]
def uA (cut:List Int) (v:AV):List (Nat × AV):=[(2,sl (cut.map encInt)),(3,.ptr (.n 3) 0),(4,.ptr (.n 4) 0),(8,.ptr (.n 8) 0),(9,v),(10,.ptr (.n 10) 0)]
def uAo (p:ProgL) (y:RunT) (X:StL):List (Key × Ob):=[(.n 3,.vs 24 ((encProg p).map .d)),(.n 4,.vs 32 ((encRT y).map .d)),(.n 8,.vs 37 ((zX X).map .d)),(.n 10,.vs 42 [i64 p.cells,i64 p.locks,i64 p.conds,.dref (.n 963) p.rs.length]),(.n 963,.rs 133 1 (qW (zN p)))]
def uB (cut:List Int) (v:AV):List (Nat × AV):=[(2,sl (cut.map encInt)),(3,.ptr (.n 3) 0),(4,.ptr (.n 4) 0),(8,.ptr (.n 8) 0),(9,v),(10,.ptr (.n 10) 0),(11,.ptr (.n 11) 0),(12,.ref (.n 48) 0 cut.length)]
def uBo (p:ProgL) (y:RunT) (cut:List Int) (X:StL):List (Key × Ob):=[(.n 3,.vs 24 ((encProg p).map .d)),(.n 4,.vs 32 ((encRT y).map .d)),(.n 8,.vs 37 ((zX X).map .d)),(.n 10,.vs 42 [i64 p.cells,i64 p.locks,i64 p.conds,.dref (.n 963) p.rs.length]),(.n 963,.rs 133 1 (qW (zN p))),
 (.n 11,.vs 46 (refO 940 y)),(.n 941,.ds 105 5 (y.tr.map encEv)),(.n 942,.ds 3 1 (y.tk.map encInt)),(.n 943,.rs 158 6 (thRows 943 y.s.ths)),(.n 944,.ds 74 1 (y.s.cells.map encF)),(.n 945,.ds 3 1 (y.s.owner.map encInt)),(.n 48,.ds 3 1 (cut.map encInt))]
def uW (p:ProgL) (y:RunT):List (Nat × (Nat→Option Ob)):=[(963,vR (zN p) 0),(943,zE y.s.ths),(903,fun _=>none),(900,fun _=>none)]
def uV (p:ProgL):List (Nat × (Nat→Option Ob)):=[(963,vR (zN p) 0),(903,fun _=>none),(943,fun _=>none),(900,fun _=>none)]
theorem lawCut1 (p:ProgL) (hp:p.wf) (hv:p.flt) (hc:p.cn) (y:RunT) (hx:y.wf) (hf:y.s.cf) (cut:List Int) (hl:cut.length≤9223372036854775807)
  (hL:SmX p y→cut.length≤1048576→∀ S,At (uB cut (bv (gH p y cut).2)) (uBo p y cut (gH p y cut).1) (uW p y) S→Snd EE Tryz.f3.ntmps (dropC 11 (Tryz.f3.body.getD .skip)) (dI EE Tryz.f3 (·=bv true)) S) :
  CallsTo EE 3 [agg (encProg p),agg (encRT y),sl (cut.map encInt)] (·=bv true):=by
 refine oO (fn:=Tryz.f3) (c:=Tryz.f3.body.getD .skip) Tryz.func3 rfl (by kernel_rfl) rfl ?_
 refine p8 9 (fun S=>(SmX p y∧cut.length≤1048576)∧At (uA cut (bv (gH p y cut).2)) (uAo p y (gH p y cut).1) (uV p) S) (fun K hK=>?_) (fun S hS=>?_)
 ·conv=>whnf
  refine kbi (fun _=>?_) (fun h1=>?_)
  ·conv=>whnf
   try rfl
  have h1:cut.length≤1048576:=by simp at h1;omega
  conv=>whnf
  refine⟨_,szProg_ok p 1048576 (by omega) (by omega) hp,?_⟩
  rintro r ⟨n,rfl,hn1,hn2,hn3⟩
  conv=>whnf
  refine kbi (fun _=>?_) (fun h=>?_)
  ·conv=>whnf
   try rfl
  have h0:0≤n:=by simp at h;omega
  have hsz:p.size≤1048576:=by have:=hn3 h0;omega
  have hs:=size_le List.length p.rs 1048576 hsz
  conv=>whnf
  refine⟨_,szRun_ok y n h0 (by omega) hx,?_⟩
  rintro r ⟨n2,rfl,hm1,hm2,hm3⟩
  conv=>whnf
  refine kbi (fun _=>?_) (fun h=>?_)
  ·conv=>whnf
   try rfl
  have hxs:y.size≤1048576:=by
   have h:¬ n2<0:=fun e=>h (decide_eq_true e)
   have:=hm3 (by omega)
   omega
  have hft:=fit_of hxs
  have cS:=CutAfterS_ok p hp hs hv hc y hft hf cut h1
  conv=>whnf
  refine .inr (.inl ⟨13,[],?_⟩)
  conv=>whnf
  refine⟨_,fI p hs,?_⟩
  conv=>whnf
  refine⟨_,dQ y hft,?_⟩
  conv=>whnf
  refine⟨_,vW cut h1,?_⟩
  refine .inl ?_
  conv=>whnf
  refine⟨_,cS,?_⟩
  conv=>whnf
  refine⟨by kernel_rfl,?_⟩
  conv=>whnf
  refine⟨_,toProg_own p hs,?_⟩
  rintro r rfl
  conv=>whnf
  refine hK _ _ (uK shZ) ⟨⟨⟨hs,hsz,hft,totT_size (by unfold RunT.size at hxs;omega)⟩,h1⟩,⟨rfl,rfl,rfl,rfl,rfl,rfl,trivial⟩,⟨?_,?_,?_,?_,?_,trivial⟩,⟨fun j=>?_,fun j=>rfl,fun j=>rfl,fun j=>rfl,trivial⟩⟩
  ·rfl
  ·rfl
  ·rfl
  ·show some (Ob.vs 42 [i64 p.cells,i64 p.locks,i64 p.conds,.dref (.n 963) (p.rs.map fun _=>[D.nil]).length])=_
   rw[List.length_map]
  ·show some (Ob.rs 133 1 (((ownRows 903 0 (p.rs.map fun _=>[.nil]) (zN p)).map (scrPL (isK (.n 10)))).map (renL shZ.f)))=_
   rw[ownRows_M,jK _ (fun j=>rfl),rowsM_Z]
  ·show Option.map _ (Option.map _ (match ownH (ownPg p) (.s 903 j) with|some ob=>some ob|none=>_))=_
   rw[ownPg_fam]
   cases hq:vR (zN p) 0 j with
   |none=>rfl
   |some ob =>
    show Option.map _ (Option.map _ (some ob))=some ob
    rw[← hq,vG,wZ]
 refine p8 2 (fun S=>(SmX p y∧cut.length≤1048576)∧At (uB cut (bv (gH p y cut).2)) (uBo p y cut (gH p y cut).1) (uW p y) S) (fun K hK=>?_) (fun S hS=>hL hS.1.1 hS.1.2 S hS.2)
 obtain⟨⟨hSm,h1⟩,hat⟩:=hS
 obtain⟨τ,H,rfl⟩:=hat.form
 clear hat
 conv=>whnf
 refine⟨_,toRun_own y hSm.hx,?_⟩
 rintro r rfl
 conv=>whnf
 refine⟨_,vW cut h1,?_⟩
 rintro r rfl
 refine .inr ⟨_,rfl,?_⟩
 conv=>whnf
 refine hK _ _ (uK shW) ⟨⟨hSm,h1⟩,⟨rfl,rfl,rfl,rfl,rfl,rfl,rfl,?_,trivial⟩,⟨?_,?_,?_,?_,?_,?_,?_,?_,?_,?_,?_,?_,trivial⟩,⟨fun j=>?_,fun j=>?_,fun j=>rfl,fun j=>rfl,trivial⟩⟩
 ·show AV.ref (.n 48) 0 (cut.map encInt).length=_
  rw[List.length_map]
 ·rfl
 ·rfl
 ·rfl
 ·rfl
 ·show some (Ob.rs 133 1 (((((qW (zN p)).map (scrPL fun κ=>(ownH (eW y) κ).isSome)).map (scrPL (isK (.n 11)))).map (scrPL (isK (.n 48)))).map (renL shW.f)))=_
  rw[kU _ (fun j=>rfl),kU _ (fun j=>rfl),kU _ (fun j=>rfl),bJ (fun j=>rfl)]
 ·show some (Ob.vs 46 [i64 y.c,.ref (.n 941) 0 (y.tr.map encEv).length,.ref (.n 942) 0 (y.tk.map encInt).length,.dref (.n 943) (y.s.ths.map wI).length,.ref (.n 944) 0 (y.s.cells.map encF).length,.ref (.n 945) 0 (y.s.owner.map encInt).length,i64 y.s.fault])=_
  simp only[List.length_map]
  rfl
 ·rfl
 ·rfl
 ·show some (Ob.rs 158 6 ((((thRows 903 y.s.ths).map (scrPL (isK (.n 11)))).map (scrPL (isK (.n 48)))).map (renL shW.f)))=_
  rw[yP (fun j=>rfl),yP (fun j=>rfl),uL (o':=943) (fun j=>rfl)]
 ·rfl
 ·rfl
 ·rfl
 ·show Option.map _ (Option.map _ (Option.map _ (Option.map _ (vR (zN p) 0 j))))=_
  rw[vG,vG,vG,wZ]
 ·have e:ownH (eW y) (.s 903 j)=zE y.s.ths j:=ownRn_fam0
  show Option.map _ (Option.map _ (Option.map _ (match ownH (eW y) (.s 903 j) with|some ob=>some ob|none=>_)))=_
  rw[e]
  cases hq:zE y.s.ths j with
  |none=>rfl
  |some ob =>
   show Option.map _ (Option.map _ (Option.map _ (some ob)))=some ob
   rw[← hq,zH,zH,thFam_ren]
end Ai
namespace Ai
set_option maxRecDepth 100000
open Go Go.Proofs Cyc
theorem ownStB_flat (s:StL):nY (.ownF 5 (xH s++[bv true])):=by
 intro c hc
 simp only[xH,List.mem_append,List.mem_cons,List.not_mem_nil,or_false] at hc
 rcases hc with (rfl|rfl|rfl|rfl)|rfl
 ·refine⟨fun c hc=>?_,fun q hq c hc=>?_⟩
  ·obtain⟨t,_,rfl⟩:=List.mem_map.1 hc;rfl
  ·obtain⟨t,_,rfl⟩:=List.mem_map.1 hq
   obtain⟨y,_,rfl⟩:=List.mem_map.1 hc;rfl
 ·intro c hc
  obtain⟨y,_,rfl⟩:=List.mem_map.1 hc;rfl
 ·intro c hc
  obtain⟨y,_,rfl⟩:=List.mem_map.1 hc;rfl
 ·rfl
 ·rfl
theorem st0_flat:nY (.tup [agg (zX st0),bv false]):=by
 intro c hc
 simp only[List.mem_cons,List.not_mem_nil,or_false] at hc
 rcases hc with rfl|rfl
 ·exact .inr ⟨zX st0,rfl,rfl⟩
 ·exact .inl ⟨_,rfl,rfl⟩
theorem eV {s:StL} {j:Nat}:ownH (xH s++[bv true]) (.s 900 j)=zE s.ths j:=by
 show((s.ths.map stk)[j]?).map (Ob.ds 74 1)=_
 unfold zE
 rw[List.getElem?_map,Option.map_map]
 rfl
def gM (o:Nat) (s:StL):List AV:=[.dref (.n o) s.ths.length,.ref (.n (o+1)) 0 s.cells.length,.ref (.n (o+2)) 0 s.owner.length,i64 s.fault]
def kX (s:StL):List (Key × Ob):=[(.n 923,.rs 158 6 (thRows 923 s.ths)),(.n 924,.ds 74 1 (s.cells.map encF)),(.n 925,.ds 3 1 (s.owner.map encInt))]
def uC (cut:List Int) (v:AV):List (Nat × AV):=[(2,sl (cut.map encInt)),(3,.ptr (.n 3) 0),(4,.ptr (.n 4) 0),(8,.ptr (.n 8) 0),(9,v),(10,.ptr (.n 10) 0),(11,.ptr (.n 11) 0),(12,.ref (.n 48) 0 cut.length),(13,.ptr (.n 13) 0),(14,v)]
def uCo (p:ProgL) (y:RunT) (cut:List Int) (X:StL) (r:List AV) (more:List (Key × Ob)):List (Key × Ob):=[(.n 3,.vs 24 ((encProg p).map .d)),(.n 4,.vs 32 ((encRT y).map .d)),(.n 8,.vs 37 ((zX X).map .d)),(.n 10,.vs 42 [i64 p.cells,i64 p.locks,i64 p.conds,.dref (.n 903) p.rs.length]),(.n 903,.rs 133 1 (vC (zN p) 0)),
 (.n 11,.vs 46 (refR 963 y)),(.n 901,.ds 105 5 (y.tr.map encEv)),(.n 902,.ds 3 1 (y.tk.map encInt)),(.n 963,.rs 158 6 (thRows 963 y.s.ths)),(.n 904,.ds 74 1 (y.s.cells.map encF)),(.n 905,.ds 3 1 (y.s.owner.map encInt)),(.n 48,.ds 3 1 (cut.map encInt)),(.n 13,.vs 37 r)]++more
theorem lawCut2 (p:ProgL) (hp:p.wf) (hv:p.flt) (hc:p.cn) (y:RunT) (cut:List Int) (h1:cut.length≤1048576) (hf:y.s.cf) (h:SmX p y)
  (hT:∀ s,gH p y cut=(s,true)→∀ S,At (uC cut (bv true)) (uCo p y cut s (gM 923 s) (kX s)) [(903,vR (zN p) 0),(963,zE y.s.ths),(923,zE s.ths)] S→Snd EE Tryz.f3.ntmps (dropC 12 (Tryz.f3.body.getD .skip)) (dI EE Tryz.f3 (·=bv true)) S)
  (hF:gH p y cut=(st0,false)→∀ S,At (uC cut (bv false)) (uCo p y cut st0 ((zX st0).map .d) []) [(903,vR (zN p) 0),(963,zE y.s.ths)] S→Snd EE Tryz.f3.ntmps (dropC 12 (Tryz.f3.body.getD .skip)) (dI EE Tryz.f3 (·=bv true)) S)
  {S:St} (hS:At (uB cut (bv (gH p y cut).2)) (uBo p y cut (gH p y cut).1) (uW p y) S):Snd EE Tryz.f3.ntmps (dropC 11 (Tryz.f3.body.getD .skip)) (dI EE Tryz.f3 (·=bv true)) S:=by
 have cI:=dD p hp h.hs hv hc y h.hx hf cut h1
 refine p8 1 (fun S=>(∃ s,gH p y cut=(s,true)∧At (uC cut (bv true)) (uCo p y cut s (gM 923 s) (kX s)) [(903,vR (zN p) 0),(963,zE y.s.ths),(923,zE s.ths)] S)∨(gH p y cut=(st0,false)∧At (uC cut (bv false)) (uCo p y cut st0 ((zX st0).map .d) []) [(903,vR (zN p) 0),(963,zE y.s.ths)] S)) (fun K hK=>?_) (fun S hS=>?_)
 rotate_left 1
 ·rcases hS with ⟨x,hx,hS⟩|hS
  ·exact hT x hx S hS
  ·exact hF hS.1 S hS.2
 obtain⟨τ,H,rfl⟩:=hS.form
 clear hS hT hF
 conv=>whnf
 refine .inl ⟨[agg (encProg p),agg (encRT y),sl (cut.map encInt)],[],_,⟨_,_,rfl,⟨_,rfl,fz_ownZ rfl (fun j=>rfl) rfl⟩,_,_,rfl,⟨_,rfl,fz_ownO (o:=940) ⟨rfl,rfl,rfl,fun j=>rfl,rfl,rfl⟩⟩,_,_,rfl,fz_rw rfl (by rw[List.length_map]),rfl⟩,rfl,cI,?_⟩
 rintro r (⟨x,hx,rfl⟩|⟨hx,rfl⟩)
 ·refine⟨ownStB_flat x,?_⟩
  rw[hx]
  conv=>whnf
  refine hK _ _ ((uK shU).trans ((uK shW).trans (uK shZ))) (.inl ⟨x,hx,⟨rfl,rfl,rfl,rfl,rfl,rfl,rfl,rfl,rfl,rfl,trivial⟩,⟨?_,?_,?_,?_,?_,?_,?_,?_,?_,?_,?_,?_,?_,?_,?_,?_,trivial⟩,⟨fun j=>?_,fun j=>?_,fun j=>?_,trivial⟩⟩)
  ·rfl
  ·rfl
  ·rfl
  ·rfl
  ·show some (Ob.rs 133 1 ((((((qW (zN p)).map (scrPL _)).map (scrPL (isK (.n 13)))).map (renL shU.f)).map (renL shW.f)).map (renL shZ.f)))=_
   rw[kU _ (fun j=>rfl),kU _ (fun j=>rfl),bJ (fun j=>rfl),bJ (fun j=>rfl),rowsZ_M]
  ·rfl
  ·rfl
  ·rfl
  ·show some (Ob.rs 158 6 ((((((thRows 943 y.s.ths).map (scrPL _)).map (scrPL (isK (.n 13)))).map (renL shU.f)).map (renL shW.f)).map (renL shZ.f)))=_
   rw[zR (o:=943) (fun _ _=>rfl),zR (o:=943) (fun _ _=>rfl),zW (o:=943) (fun j=>rfl),uL (o':=903) (fun j=>rfl),uL (o':=963) (fun j=>rfl)]
  ·rfl
  ·rfl
  ·rfl
  ·show some (Ob.vs 37 [.dref (.n 923) (x.ths.map wI).length,.ref (.n 924) 0 (x.cells.map encF).length,.ref (.n 925) 0 (x.owner.map encInt).length,i64 x.fault])=_
   simp only[List.length_map]
   rfl
  ·show some (Ob.rs 158 6 (((((thRows 900 x.ths).map (scrPL (isK (.n 13)))).map (renL shU.f)).map (renL shW.f)).map (renL shZ.f)))=_
   rw[zR (o:=900) (fun _ _=>rfl),uL (o':=923) (fun j=>rfl),zW (o:=923) (fun j=>rfl),zW (o:=923) (fun j=>rfl)]
  ·rfl
  ·rfl
  ·show Option.map _ (Option.map _ (Option.map _ (Option.map _ (Option.map _ (vR (zN p) 0 j)))))=_
   rw[vG,vG,wZ,wZ,wZ]
  ·show Option.map _ (Option.map _ (Option.map _ (Option.map _ (Option.map _ (zE y.s.ths j)))))=_
   rw[zH,zH,thFam_ren,thFam_ren,thFam_ren]
  ·have e:ownH (xH x++[bv true]) (.s 900 j)=zE x.ths j:=eV
   show Option.map _ (Option.map _ (Option.map _ (Option.map _ (match ownH (xH x++[bv true]) (.s 900 j) with|some ob=>some ob|none=>_))))=_
   rw[e]
   cases hq:zE x.ths j with
   |none=>rfl
   |some ob =>
    show Option.map _ (Option.map _ (Option.map _ (Option.map _ (some ob))))=some ob
    rw[← hq,zH,thFam_ren,thFam_ren,thFam_ren]
 ·refine⟨st0_flat,?_⟩
  rw[hx]
  conv=>whnf
  refine hK _ _ ((uK shW).trans (uK shZ)) (.inr ⟨hx,⟨rfl,rfl,rfl,rfl,rfl,rfl,rfl,rfl,rfl,rfl,trivial⟩,⟨?_,?_,?_,?_,?_,?_,?_,?_,?_,?_,?_,?_,?_,trivial⟩,⟨fun j=>?_,fun j=>?_,trivial⟩⟩)
  ·rfl
  ·rfl
  ·rfl
  ·rfl
  ·show some (Ob.rs 133 1 ((((qW (zN p)).map (scrPL (isK (.n 13)))).map (renL shW.f)).map (renL shZ.f)))=_
   rw[kU _ (fun j=>rfl),bJ (fun j=>rfl),rowsZ_M]
  ·rfl
  ·rfl
  ·rfl
  ·show some (Ob.rs 158 6 ((((thRows 943 y.s.ths).map (scrPL (isK (.n 13)))).map (renL shW.f)).map (renL shZ.f)))=_
   rw[zR (o:=943) (fun _ _=>rfl),uL (o':=903) (fun j=>rfl),uL (o':=963) (fun j=>rfl)]
  ·rfl
  ·rfl
  ·rfl
  ·rfl
  ·show Option.map _ (Option.map _ (Option.map _ (vR (zN p) 0 j)))=_
   rw[vG,wZ,wZ]
  ·show Option.map _ (Option.map _ (Option.map _ (zE y.s.ths j)))=_
   rw[zH,thFam_ren,thFam_ren]
end Ai
namespace Ai
set_option maxRecDepth 100000
open Go Go.Proofs Cyc
theorem fz_stV {S:St} (s:StL):FzA S (agg (zX s)) (agg (zX s)):=⟨zX s,rfl,_,_,rfl,rfl,_,_,rfl,rfl,_,_,rfl,rfl,_,_,rfl,rfl,rfl⟩
theorem stAt_of {o:Nat} {s:StL} {S:St} (h1:S.H (.n o)=some (.rs 158 6 (thRows o s.ths))) (h2:∀ j,S.H (.s o j)=zE s.ths j) (h3:S.H (.n (o+1))=some (.ds 74 1 (s.cells.map encF))) (h4:S.H (.n (o+2))=some (.ds 3 1 (s.owner.map encInt))):StAt o s S :=
 ⟨h1,fun j hj=>by rw[h2 j];exact thFam_self hj,h3,h4⟩
theorem aP {o:Nat} {s:StL} {S:St} (h1:S.H (.n o)=some (.rs 158 6 (thRows o s.ths))) (h2:∀ j,S.H (.s o j)=zE s.ths j) (h3:S.H (.n (o+1))=some (.ds 74 1 (s.cells.map encF))) (h4:S.H (.n (o+2))=some (.ds 3 1 (s.owner.map encInt))):FzC S (gM o s) (zX s) :=
 iY (stAt_of h1 h2 h3 h4) rfl rfl rfl
def F3 (p:ProgL) (y:RunT) (s:StL):List (Nat × (Nat→Option Ob)):=[(903,vR (zN p) 0),(963,zE y.s.ths),(923,zE s.ths)]
theorem lawCut3 (p:ProgL) (y:RunT) (cut:List Int) (h1:cut.length≤1048576) (h:SmX p y) (x:StL) (hx:x.fit)
  (hL:∀ S,At (uC cut (bv true)) (uCo p y cut x (gM 923 x) (kX x)) (F3 p y x) S→AW EE Tryz.f3.ntmps (dropC 16 (Tryz.f3.body.getD .skip)) (dI EE Tryz.f3 (·=bv true)) S)
  {S:St} (hS:At (uC cut (bv true)) (uCo p y cut x (gM 923 x) (kX x)) (F3 p y x) S):AW EE Tryz.f3.ntmps (dropC 12 (Tryz.f3.body.getD .skip)) (dI EE Tryz.f3 (·=bv true)) S:=by
 refine fF 4 (At (uC cut (bv true)) (uCo p y cut x (gM 923 x) (kX x)) (F3 p y x)) (fun K hK=>?_) hL
 obtain⟨τ,H,rfl⟩:=hS.form
 clear hS hL
 conv=>whnf
 refine .inl ⟨[agg (zX x),agg (zX x)],[],_,⟨_,_,rfl,⟨_,rfl,aP (o:=923) rfl (fun j=>rfl) rfl rfl⟩,_,_,rfl,fz_stV x,rfl⟩,rfl,qD x hx,?_⟩
 rintro r rfl
 refine⟨rfl,?_⟩
 conv=>whnf
 refine kbi (fun h=>absurd h (by simp)) (fun _=>?_)
 conv=>whnf
 refine⟨by kernel_rfl,?_⟩
 conv=>whnf
 refine⟨_,fI p h.hs,?_⟩
 conv=>whnf
 refine⟨[agg (encProg p),agg (encProg p)],[],bv true,⟨_,_,rfl,⟨_,rfl,fz_own rfl (fun j=>rfl) rfl⟩,_,_,rfl,aQ p,rfl⟩,rfl,m3 p h.hs,rfl,?_⟩
 conv=>whnf
 refine⟨by kernel_rfl,?_⟩
 conv=>whnf
 refine⟨_,dQ y h.hx,?_⟩
 conv=>whnf
 refine⟨[agg (encRT y),agg (encRT y)],[],bv true,⟨_,_,rfl,⟨_,rfl,fz_ownR (o:=963) rfl rfl rfl (fun j=>rfl) rfl rfl⟩,_,_,rfl,fz_runV y,rfl⟩,rfl,eqRun_ok y h.hx,rfl,?_⟩
 conv=>whnf
 refine⟨_,vW cut h1,?_⟩
 rintro r rfl
 refine .inl ?_
 conv=>whnf
 have heq:CallsTo EE 19 [sl (((cut.map encInt).drop 0).take cut.length),sl (cut.map encInt)] (·=bv true):=by
  rw[List.drop_zero,List.take_of_length_le (by simp)]
  exact mO cut h1
 refine .inl ⟨_,heq,?_⟩
 rintro r rfl
 refine⟨rfl,?_⟩
 conv=>whnf
 refine hK _ ⟨⟨rfl,rfl,rfl,rfl,rfl,rfl,rfl,rfl,rfl,rfl,trivial⟩,⟨rfl,rfl,rfl,rfl,?_,rfl,rfl,rfl,?_,rfl,rfl,rfl,rfl,?_,rfl,rfl,trivial⟩,⟨fun j=>?_,fun j=>?_,fun j=>?_,trivial⟩⟩
 ·first|rfl|(show some (Ob.rs 133 1 ((vC (zN p) 0).map (scrPL _)))=_;rw[jK _ fun j=>rfl])
 ·first|rfl|(show some (Ob.rs 158 6 ((thRows 963 y.s.ths).map (scrPL _)))=_;rw[zR fun _ _=>rfl])
 ·first|rfl|(show some (Ob.rs 158 6 ((thRows 923 x.ths).map (scrPL _)))=_;rw[zR fun _ _=>rfl])
 ·first|rfl|(show Option.map _ (vR (zN p) 0 j)=_;exact vG _ _ _ _)
 ·first|rfl|(show Option.map _ (zE y.s.ths j)=_;exact zH _ _ _)
 ·first|rfl|(show Option.map _ (zE x.ths j)=_;exact zH _ _ _)
end Ai
namespace Ai
set_option maxRecDepth 100000
open Go Go.Proofs Cyc
def uD (cut:List Int) (v:AV) (k:Int):List (Nat × AV):=[(2,sl (cut.map encInt)),(3,.ptr (.n 3) 0),(4,.ptr (.n 4) 0),(8,.ptr (.n 8) 0),(9,v),(13,.ptr (.n 13) 0),(14,v),(15,i64 k)]
def uDo (p:ProgL) (y:RunT) (X:StL) (r:List AV) (more:List (Key × Ob)):List (Key × Ob):=[(.n 3,.vs 24 ((encProg p).map .d)),(.n 4,.vs 32 ((encRT y).map .d)),(.n 8,.vs 37 ((zX X).map .d)),(.n 13,.vs 37 r)]++more
theorem lawCut4 (p:ProgL) (y:RunT) (cut:List Int) (h1:cut.length≤1048576) (h:SmX p y) (x:StL) (hx:x.fit)
  (hL:∀ S,(∃ k:Int,0≤k∧At (uD cut (bv true) k) (uDo p y x (gM 923 x) (kX x)) [(923,zE x.ths)] S)→AW EE Tryz.f3.ntmps (dropC 20 (Tryz.f3.body.getD .skip)) (dI EE Tryz.f3 (·=bv true)) S)
  {S:St} (hS:At (uC cut (bv true)) (uCo p y cut x (gM 923 x) (kX x)) (F3 p y x) S):AW EE Tryz.f3.ntmps (dropC 16 (Tryz.f3.body.getD .skip)) (dI EE Tryz.f3 (·=bv true)) S:=by
 refine fF 4 (fun S=>∃ k:Int,0≤k∧At (uD cut (bv true) k) (uDo p y x (gM 923 x) (kX x)) [(923,zE x.ths)] S) (fun K hK=>?_) hL
 obtain⟨τ,H,rfl⟩:=hS.form
 clear hS hL
 have hsl:(zN p).length=p.rs.length:=by simp[zN]
 have ht:=tot_size h.hz
 conv=>whnf
 refine .inr (.inr (.inl ⟨_,20,[],Weak.refl,rfl,999,0,lC,(fun r H1=>r=i64 (1+4*tot (zN p) (zN p).length)∧∀ κ,H1 κ=none),?_,rfl,?_⟩))
 ·refine xO (cC p.cells p.locks p.conds (zN p) 1 (by rw[hsl];exact h.hs.1) (ops4 p) ht (by omega) (by omega) _ ?_ fun j=>?_) ?_
  ·show some (Ob.rs 133 1 (((vC (zN p) 0).map (renL (swp (.n 999) (.l 0)))).map (scrPL (fun o=>!lC o))))=_
   rw[nM _ (fun j=>rfl),jK _ (fun j=>rfl)]
  ·show Option.map _ (Option.map _ (vR (zN p) 0 j))=_
   rw[wZ,vG]
  ·rw[hsl];rfl
 rintro r H1 ⟨rfl,q⟩
 refine⟨fun κ _=>q κ,fun n hn=>(by cases hn),?_⟩
 generalize tot (zN p) (zN p).length=T at ht ⊢
 conv=>whnf
 refine .inr (.inr (.inl ⟨_,21,[],uK shZ,rfl,999,0,lendX,(fun r H1=>(∃ n:Int,r=i64 n∧0≤n∧n≤268435456)∧∀ κ,H1 κ=none),?_,rfl,?_⟩))
 ·refine xO (iG y (1+4*(T:Int)) h.hx h.ht (by omega) ?_ _ ?_ ?_ ?_ (fun j=>?_) ?_ ?_) ?_
  ·omega
  ·rfl
  ·rfl
  ·show some (Ob.rs 158 6 (((((((thRows 963 y.s.ths).map (renL (swp (.n 999) (.l 0)))).map (scrPL (xQ lC))).map (renL (swp (.n 999) (.l 0)))).map (renL shZ.f)).map (renL (swp (.n 999) (.l 0)))).map (scrPL (fun o=>!lendX o))))=_
   rw[zW (o:=963) (fun j=>rfl),zR (o:=963) (fun _ _=>rfl),zW (o:=963) (fun j=>rfl),show(thRows 963 y.s.ths).map (renL shZ.f)=thRows 903 y.s.ths from fJ (g:=numZ) (hg:=sX) 963 y.s.ths,zW (fun j=>rfl),yP (fun j=>rfl)]
  ·show Option.map _ (Option.map _ (Option.map _ (Option.map _ (Option.map _ (Option.map _ (zE y.s.ths j))))))=_
   rw[thFam_ren,zH,thFam_ren,thFam_ren,thFam_ren,zH]
  ·rfl
  ·rfl
  ·rfl
 rintro r H2 ⟨⟨n,rfl,hn1,hn2⟩,q2⟩
 refine⟨fun κ _=>q2 κ,fun n hn=>(by cases hn),?_⟩
 conv=>whnf
 refine .inr (.inl ⟨48,77,isK (.l 77),_,xO (kD (.l 77) (.inr rfl) cut n h1 hn1 (by omega) _ rfl) rfl,rfl,?_⟩)
 rintro r H3 ⟨rfl,e3,q3⟩
 refine⟨q3,fun n_1 hn=>⟨.ds 3 1 (cut.map encInt),?_,(qY n cut.length).map encInt,?_,by simp[vY]⟩,?_⟩
 ·have:n_1=77:=Nat.eq_of_beq_eq_true hn
  subst this;rfl
 ·have:n_1=77:=Nat.eq_of_beq_eq_true hn
  subst this;exact e3
 conv=>whnf
 refine hK _ ⟨n+(cut.length:Int),by omega,⟨rfl,rfl,rfl,rfl,rfl,rfl,rfl,rfl,trivial⟩,⟨rfl,rfl,rfl,rfl,?_,rfl,rfl,trivial⟩,⟨fun j=>?_,trivial⟩⟩
 ·show some (Ob.rs 158 6 ((((((((((thRows 923 x.ths).map (renL (swp (.n 999) (.l 0)))).map (scrPL (xQ lC))).map (renL (swp (.n 999) (.l 0)))).map (renL shZ.f)).map (renL (swp (.n 999) (.l 0)))).map (scrPL (xQ lendX)) |>.map (renL (swp (.n 999) (.l 0)))).map (renL (swp (.n 48) (.l 77)))).map (scrPL (xQ (isK (.l 77))))).map (renL (swp (.n 48) (.l 77)))))=_
  rw[zW (o:=923) (fun j=>rfl),zR (o:=923) (fun _ _=>rfl),zW (o:=923) (fun j=>rfl),zW (o:=923) (fun j=>rfl),zW (o:=923) (fun j=>rfl),zR (o:=923) (fun _ _=>rfl),zW (o:=923) (fun j=>rfl),zW (o:=923) (fun j=>rfl),zR (o:=923) (fun _ _=>rfl),zW (o:=923) (fun j=>rfl)]
 ·show Option.map _ (Option.map _ (Option.map _ (Option.map _ (Option.map _ (Option.map _ (Option.map _ (Option.map _ (Option.map _ (Option.map _ (zE x.ths j))))))))))=_
  rw[thFam_ren,zH,thFam_ren,thFam_ren,thFam_ren,zH,thFam_ren,thFam_ren,zH,thFam_ren]
end Ai
namespace Ai
set_option maxRecDepth 100000
open Go Go.Proofs Cyc
theorem lendSt_Rn {κ:Key} (h:lB κ=true):lendRn κ=true:=by
 cases κ with
 |l k =>
  simp only[lB,Bool.or_eq_true] at h
  rcases h with (h|h)|h
  all_goals (have:=Nat.eq_of_beq_eq_true h;subst this;rfl)
 |s o j=>exact h
 |n k=>cases h
theorem zL_pinS:∀ n,lB (zL (.l n))=true→∃ n',zL (.l n)=.l n':=fun n h=>zL_pin n (lendSt_Rn h)
theorem refS_mark (o:Nat) (x:StL) (k:Int):gM o (xI x k)=gM o x:=by
 simp[gM,xI,vY,jP,vF]
theorem fz_markS {S:St} (x:StL) (k:Int) (h1:S.H (.n 923)=some (.rs 158 6 (thRows 923 (xI x k).ths))) (h2:∀ j,S.H (.s 923 j)=zE (xI x k).ths j) (h3:S.H (.n 924)=some (.ds 74 1 ((xI x k).cells.map encF))) (h4:S.H (.n 925)=some (.ds 3 1 ((xI x k).owner.map encInt))):FzC S (gM 923 x) (zX (xI x k)):=by
 have:=aP (o:=923) h1 h2 h3 h4
 rw[refS_mark] at this
 exact this
def uE (cut:List Int) (v:AV) (m:Int):List (Nat × AV):=[(2,sl (cut.map encInt)),(3,.ptr (.n 3) 0),(4,.ptr (.n 4) 0),(8,.ptr (.n 8) 0),(9,v),(13,.ptr (.n 13) 0),(14,v),(16,i64 m)]
theorem lawCut5 (p:ProgL) (y:RunT) (cut:List Int) (h1:cut.length≤1048576) (h:SmX p y) (x:StL) (hx:x.fit) (ht:zT x.ths x.ths.length≤8388608)
  (hL:∀ S,At (uE cut (bv true) (gW x 1)) (uDo p y x (gM 923 x) (kX (xI x 1))) [(923,zE (xI x 1).ths)] S→AW EE Tryz.f3.ntmps (dropC 23 (Tryz.f3.body.getD .skip)) (dI EE Tryz.f3 (·=bv true)) S)
  {S:St} (hS:∃ k:Int,0≤k∧At (uD cut (bv true) k) (uDo p y x (gM 923 x) (kX x)) [(923,zE x.ths)] S):AW EE Tryz.f3.ntmps (dropC 20 (Tryz.f3.body.getD .skip)) (dI EE Tryz.f3 (·=bv true)) S:=by
 refine fF 3 (At (uE cut (bv true) (gW x 1)) (uDo p y x (gM 923 x) (kX (xI x 1))) [(923,zE (xI x 1).ths)]) (fun K hK=>?_) hL
 obtain⟨k,hk,hS⟩:=hS
 obtain⟨τ,H,rfl⟩:=hS.form
 clear hS hL
 conv=>whnf
 refine⟨fun h=>absurd h (by simp;omega),fun _=>?_⟩
 conv=>whnf
 refine .inl ⟨[agg (zX x),agg (zX x)],[],_,⟨_,_,rfl,⟨_,rfl,aP (o:=923) rfl (fun j=>rfl) rfl rfl⟩,_,_,rfl,fz_stV x,rfl⟩,rfl,qD x hx,?_⟩
 rintro r rfl
 refine⟨rfl,?_⟩
 conv=>whnf
 refine kbi (fun h=>absurd h (by simp)) (fun _=>?_)
 conv=>whnf
 refine .inr (.inr (.inr (.inr ⟨_,23,[],zL,Weak.refl,rfl,zL_zL,lB,_,xO (y5 x 1 hx ht (by omega) (by omega) _ ⟨?_,fun j=>?_,?_,?_⟩) ?_,zL_pinS,?_⟩)))
 ·show some (Ob.rs 158 6 (((thRows 923 x.ths).map (renL zL)).map (scrPL (fun o=>!lB o))))=_
  rw[uL (o':=903) (fun j=>rfl),yP (fun j=>rfl)]
 ·show Option.map _ (Option.map _ (zE x.ths j))=_
  rw[thFam_ren,zH]
 ·rfl
 ·rfl
 ·rfl
 rintro r H1 ⟨rfl,e,q⟩
 refine⟨q,fun n hn=>?_,?_⟩
 ·simp only[lB,Bool.or_eq_true] at hn
  rcases hn with (hn|hn)|hn
  ·have:=Nat.eq_of_beq_eq_true hn
   subst this
   refine⟨.rs 158 6 (thRows 903 x.ths),?_,thRows 903 (xI x 1).ths,e.hH,by simp[zU,xI,vF]⟩
   show some (Ob.rs 158 6 ((thRows 923 x.ths).map (renL zL)))=_
   rw[uL (o':=903) (fun j=>rfl)]
  ·have:=Nat.eq_of_beq_eq_true hn
   subst this
   exact⟨.ds 74 1 (x.cells.map encF),rfl,_,e.hC,by simp[xI,jP]⟩
  ·have:=Nat.eq_of_beq_eq_true hn
   subst this
   exact⟨.ds 3 1 (x.owner.map encInt),rfl,_,e.hO,by simp[xI,vY]⟩
 conv=>whnf
 refine hK _ ⟨⟨rfl,rfl,rfl,rfl,rfl,rfl,rfl,?_,trivial⟩,⟨rfl,rfl,rfl,?_,?_,?_,?_,trivial⟩,⟨fun j=>?_,trivial⟩⟩
 ·rfl
 ·rfl
 ·show Option.map _ (H1 (.l 73))=_
  rw[e.hH]
  show some (Ob.rs 158 6 ((thRows 903 (xI x 1).ths).map (renL zL)))=_
  rw[uL (o':=923) (fun j=>rfl)]
 ·show Option.map _ (H1 (.l 74))=_
  rw[e.hC];rfl
 ·show Option.map _ (H1 (.l 75))=_
  rw[e.hO];rfl
 ·show Option.map _ (H1 (.s 903 j))=_
  rw[e.hF,thFam_ren]
theorem lawCut6 (p:ProgL) (y:RunT) (cut:List Int) (h:SmX p y) (x:StL) (hx:x.fit) (ht:zT x.ths x.ths.length≤8388608)
  (hL:∀ S,At (uE cut (bv true) (gW x 1)) (uDo p y x (gM 923 x) (kX (xI x 1))) [(923,zE (xI x 1).ths)] S→AW EE Tryz.f3.ntmps (dropC 27 (Tryz.f3.body.getD .skip)) (dI EE Tryz.f3 (·=bv true)) S)
  {S:St} (hS:At (uE cut (bv true) (gW x 1)) (uDo p y x (gM 923 x) (kX (xI x 1))) [(923,zE (xI x 1).ths)] S):AW EE Tryz.f3.ntmps (dropC 23 (Tryz.f3.body.getD .skip)) (dI EE Tryz.f3 (·=bv true)) S:=by
 refine fF 4 (At (uE cut (bv true) (gW x 1)) (uDo p y x (gM 923 x) (kX (xI x 1))) [(923,zE (xI x 1).ths)]) (fun K hK=>?_) hL
 obtain⟨τ,H,rfl⟩:=hS.form
 clear hS hL
 have he:0≤gW x 1:=by unfold gW;omega
 conv=>whnf
 refine .inl ⟨[agg (zX (xI x 1)),i64 1],[],_,⟨_,_,rfl,⟨_,rfl,fz_markS x 1 rfl (fun j=>rfl) rfl rfl⟩,_,_,rfl,rfl,rfl⟩,rfl,bQ x 1 hx ht (by omega) (by omega),?_⟩
 rintro r rfl
 refine⟨rfl,?_⟩
 conv=>whnf
 refine kbi (fun h=>absurd h (by simp;try omega)) (fun _=>?_)
 conv=>whnf
 refine⟨fun h=>absurd h (by simp),fun _=>?_⟩
 conv=>whnf
 refine hK _ ⟨⟨rfl,rfl,rfl,rfl,rfl,rfl,rfl,rfl,trivial⟩,⟨rfl,rfl,rfl,rfl,?_,rfl,rfl,trivial⟩,⟨fun j=>?_,trivial⟩⟩
 ·first|rfl|(show some (Ob.rs 158 6 ((thRows 923 (xI x 1).ths).map (scrPL _)))=_;rw[zR fun _ _=>rfl])
 ·first|rfl|(show Option.map _ (zE (xI x 1).ths j)=_;exact zH _ _ _)
end Ai
namespace Ai
set_option maxRecDepth 100000
open Go Go.Proofs Cyc
theorem oK {p:ProgL} (hg:p.goodS) (hv:p.flt):∀ (t:List Ev) (ws:List Bool) (s:StL),AInv p s→dK p s t ws→AInv p (fC p s t ws)
 | [],ws,s,hi,_=>by unfold fC;exact hi
 |e::es,[],s,hi,_=>by unfold fC;exact hi
 |e::es,w::ws,s,hi,hr=>by
  unfold fC
  unfold dK at hr
  cases w with
  |true=>exact oK hg hv es ws _ (uN hg hv hr.1 hi) hr.2
  |false=>exact oK hg hv es ws _ hi hr
theorem cutV_fit {p:ProgL} (hv:p.flt) {y:RunT} {cut:List Int} {x:StL} (h:gH p y cut=(x,true)):x.fit∧zT x.ths x.ths.length≤8388608:=by
 classical
 unfold gH at h
 split at h
 ·rename_i hc
  have hx:fC p (xC p) y.tr (wsL y.tr cut)=x:=congrArg Prod.fst h
  subst hx
  have hg:=hc.1.1
  have h1:=oK hg hv y.tr (wsL y.tr cut) _ (jE hg) (eQ hv hc.1 hc.2.2.2)
  have hs:=((pJ hg).small _ h1.si).1
  have hl:=h1.si.len
  generalize fC p (xC p) y.tr (wsL y.tr cut)=x at *
  refine⟨⟨hs.1,hs.2.1,hs.2.2.1,hs.2.2.2⟩,?_⟩
  have:=totT_of hs.2.1 x.ths.length
  have h6:x.ths.length*(5+1048576)≤5*(5+1048576):=Nat.mul_le_mul_right _ hl
  omega
 ·cases h
theorem lawCut7 (p:ProgL) (hp:p.wf) (hv:p.flt) (hc:p.cn) (y:RunT) (cut:List Int) (h1:cut.length≤1048576) (hf:y.s.cf) (h:SmX p y) (x:StL) (hx:x.fit) (ht:zT x.ths x.ths.length≤8388608) (hq:gH p y cut=(x,true))
  {S:St} (hS:At (uE cut (bv true) (gW x 1)) (uDo p y x (gM 923 x) (kX (xI x 1))) [(923,zE (xI x 1).ths)] S):AW EE Tryz.f3.ntmps (dropC 27 (Tryz.f3.body.getD .skip)) (dI EE Tryz.f3 (·=bv true)) S:=by
 have cI:CallsTo EE 15 [agg (encProg p),agg (encRT y),sl (cut.map encInt)] (·=.ownF 5 (xH x++[bv true])):=by
  refine cR (dD p hp h.hs hv hc y h.hx hf cut h1) ?_
  rintro r (⟨y,hy,rfl⟩|⟨hy,rfl⟩)
  ·rw[hq] at hy
   cases hy;rfl
  ·rw[hq] at hy
   cases hy
 obtain⟨τ,H,rfl⟩:=hS.form
 clear hS
 have he:0≤gW x 1:=by unfold gW;omega
 conv=>whnf
 refine .inr (.inl ⟨13,[2700,2701,2703,2706],?_⟩)
 conv=>whnf
 refine⟨_,fI p h.hs,?_⟩
 conv=>whnf
 refine⟨_,dQ y h.hx,?_⟩
 conv=>whnf
 refine⟨_,vW cut h1,?_⟩
 refine .inl ?_
 conv=>whnf
 refine⟨_,cI,?_⟩
 conv=>whnf
 refine⟨by kernel_rfl,?_⟩
 conv=>whnf
 refine .inl ⟨[agg (zX x),agg (zX x)],[],_,⟨_,_,rfl,⟨_,rfl,?_⟩,_,_,rfl,fz_stV x,rfl⟩,rfl,qD x hx,?_⟩
 ·have e:[AV.dref (.n 900) (x.ths.map wI).length,.ref (.n 901) 0 (x.cells.map encF).length,.ref (.n 902) 0 (x.owner.map encInt).length,i64 x.fault]=gM 900 x:=by simp only[gM,List.length_map]
  show FzC _ [AV.dref (.n 900) (x.ths.map wI).length,.ref (.n 901) 0 (x.cells.map encF).length,.ref (.n 902) 0 (x.owner.map encInt).length,i64 x.fault] _
  rw[e]
  refine aP (o:=900) ?_ (fun j=>?_) ?_ ?_
  ·first|rfl|(show some (Ob.rs 158 6 ((thRows 900 x.ths).map (scrPL _)))=_;rw[zR fun _ _=>rfl])
  ·have e:ownH (xH x++[bv true]) (.s 900 j)=zE x.ths j:=eV
   show(match ownH (xH x++[bv true]) (.s 900 j) with|some ob=>some ob|none=>_)=_
   rw[e]
   cases hq:zE x.ths j with
   |none=>rfl
   |some ob=>rfl
  ·rfl
  ·rfl
 rintro r rfl
 refine⟨rfl,?_⟩
 conv=>whnf
 refine kbi (fun h=>absurd h (by simp)) (fun _=>?_)
 conv=>whnf
 refine .inl ⟨[agg (zX (xI x 1)),i64 1],[],_,⟨_,_,rfl,⟨_,rfl,fz_markS x 1 ?_ (fun j=>?_) ?_ ?_⟩,_,_,rfl,rfl,rfl⟩,rfl,bQ x 1 hx ht (by omega) (by omega),?_⟩
 ·first|rfl|(show some (Ob.rs 158 6 ((thRows 923 (xI x 1).ths).map (scrPL _)))=_;rw[zR fun _ _=>rfl])
 ·first|rfl|(show Option.map _ (zE (xI x 1).ths j)=_;exact zH _ _ _)
 ·rfl
 ·rfl
 rintro r rfl
 refine⟨rfl,?_⟩
 conv=>whnf
 refine kbi (fun h=>absurd h (by simp;try omega)) (fun _=>?_)
 conv=>whnf
 refine⟨fun h=>absurd h (by simp),fun _=>?_⟩
 conv=>whnf
end Ai
namespace Ai
set_option maxRecDepth 100000
open Go Go.Proofs Cyc
theorem aK:st0.fit:=by
 refine⟨by simp[st0],by simp[st0],by simp[st0],by simp[st0]⟩
theorem lawCutF (p:ProgL) (hp:p.wf) (hv:p.flt) (hc:p.cn) (y:RunT) (cut:List Int) (h1:cut.length≤1048576) (hf:y.s.cf) (h:SmX p y) (hq:gH p y cut=(st0,false))
  {S:St} (hS:At (uC cut (bv false)) (uCo p y cut st0 ((zX st0).map .d) []) [(903,vR (zN p) 0),(963,zE y.s.ths)] S):AW EE Tryz.f3.ntmps (dropC 12 (Tryz.f3.body.getD .skip)) (dI EE Tryz.f3 (·=bv true)) S:=by
 have cI:CallsTo EE 15 [agg (encProg p),agg (encRT y),sl (cut.map encInt)] (·=.tup [agg (zX st0),bv false]):=by
  refine cR (dD p hp h.hs hv hc y h.hx hf cut h1) ?_
  rintro r (⟨y,hy,rfl⟩|⟨hy,rfl⟩)
  ·rw[hq] at hy
   cases hy
  ·rfl
 obtain⟨τ,H,rfl⟩:=hS.form
 clear hS
 have hsl:(zN p).length=p.rs.length:=by simp[zN]
 have ht:=tot_size h.hz
 conv=>whnf
 refine⟨_,qD st0 aK,?_⟩
 rintro r rfl
 conv=>whnf
 refine kbi (fun h=>absurd h (by simp)) (fun _=>?_)
 conv=>whnf
 refine⟨by kernel_rfl,?_⟩
 conv=>whnf
 refine⟨_,fI p h.hs,?_⟩
 conv=>whnf
 refine⟨[agg (encProg p),agg (encProg p)],[],bv true,⟨_,_,rfl,⟨_,rfl,fz_own rfl (fun j=>rfl) rfl⟩,_,_,rfl,aQ p,rfl⟩,rfl,m3 p h.hs,rfl,?_⟩
 conv=>whnf
 refine⟨by kernel_rfl,?_⟩
 conv=>whnf
 refine⟨_,dQ y h.hx,?_⟩
 conv=>whnf
 refine⟨[agg (encRT y),agg (encRT y)],[],bv true,⟨_,_,rfl,⟨_,rfl,fz_ownR (o:=963) rfl rfl rfl (fun j=>rfl) rfl rfl⟩,_,_,rfl,fz_runV y,rfl⟩,rfl,eqRun_ok y h.hx,rfl,?_⟩
 conv=>whnf
 refine⟨_,vW cut h1,?_⟩
 rintro r rfl
 refine .inl ?_
 conv=>whnf
 have heq:CallsTo EE 19 [sl (((cut.map encInt).drop 0).take cut.length),sl (cut.map encInt)] (·=bv true):=by
  rw[List.drop_zero,List.take_of_length_le (by simp)]
  exact mO cut h1
 refine .inl ⟨_,heq,?_⟩
 rintro r rfl
 refine⟨rfl,?_⟩
 conv=>whnf
 refine .inr (.inr (.inl ⟨_,20,[],Weak.refl,rfl,999,0,lC,(fun r H1=>r=i64 (1+4*tot (zN p) (zN p).length)∧∀ κ,H1 κ=none),?_,rfl,?_⟩))
 ·refine xO (cC p.cells p.locks p.conds (zN p) 1 (by rw[hsl];exact h.hs.1) (ops4 p) ht (by omega) (by omega) _ ?_ fun j=>?_) ?_
  ·show some (Ob.rs 133 1 (((vC (zN p) 0).map (renL (swp (.n 999) (.l 0)))).map (scrPL (fun o=>!lC o))))=_
   rw[nM _ (fun j=>rfl),jK _ (fun j=>rfl)]
  ·show Option.map _ (Option.map _ (vR (zN p) 0 j))=_
   rw[wZ,vG]
  ·rw[hsl];rfl
 rintro r H1 ⟨rfl,q⟩
 refine⟨fun κ _=>q κ,fun n hn=>(by cases hn),?_⟩
 generalize tot (zN p) (zN p).length=T at ht ⊢
 conv=>whnf
 refine .inr (.inr (.inl ⟨_,21,[],uK shZ,rfl,999,0,lendX,(fun r H1=>(∃ n:Int,r=i64 n∧0≤n∧n≤268435456)∧∀ κ,H1 κ=none),?_,rfl,?_⟩))
 ·refine xO (iG y (1+4*(T:Int)) h.hx h.ht (by omega) ?_ _ ?_ ?_ ?_ (fun j=>?_) ?_ ?_) ?_
  ·omega
  ·rfl
  ·rfl
  ·show some (Ob.rs 158 6 (((((((thRows 963 y.s.ths).map (renL (swp (.n 999) (.l 0)))).map (scrPL (xQ lC))).map (renL (swp (.n 999) (.l 0)))).map (renL shZ.f)).map (renL (swp (.n 999) (.l 0)))).map (scrPL (fun o=>!lendX o))))=_
   rw[zW (o:=963) (fun j=>rfl),zR (o:=963) (fun _ _=>rfl),zW (o:=963) (fun j=>rfl),show(thRows 963 y.s.ths).map (renL shZ.f)=thRows 903 y.s.ths from fJ (g:=numZ) (hg:=sX) 963 y.s.ths,zW (fun j=>rfl),yP (fun j=>rfl)]
  ·show Option.map _ (Option.map _ (Option.map _ (Option.map _ (Option.map _ (Option.map _ (zE y.s.ths j))))))=_
   rw[thFam_ren,zH,thFam_ren,thFam_ren,thFam_ren,zH]
  ·rfl
  ·rfl
  ·rfl
 rintro r H2 ⟨⟨n,rfl,hn1,hn2⟩,q2⟩
 refine⟨fun κ _=>q2 κ,fun n hn=>(by cases hn),?_⟩
 conv=>whnf
 refine .inr (.inl ⟨48,77,isK (.l 77),_,xO (kD (.l 77) (.inr rfl) cut n h1 hn1 (by omega) _ rfl) rfl,rfl,?_⟩)
 rintro r H3 ⟨rfl,e3,q3⟩
 refine⟨q3,fun n_1 hn=>⟨.ds 3 1 (cut.map encInt),?_,(qY n cut.length).map encInt,?_,by simp[vY]⟩,?_⟩
 ·have:n_1=77:=Nat.eq_of_beq_eq_true hn
  subst this;rfl
 ·have:n_1=77:=Nat.eq_of_beq_eq_true hn
  subst this;exact e3
 conv=>whnf
 refine⟨fun h=>absurd h (by simp;omega),fun _=>?_⟩
 conv=>whnf
 refine⟨_,qD st0 aK,?_⟩
 rintro r rfl
 conv=>whnf
 refine kbi (fun h=>absurd h (by simp)) (fun _=>?_)
 conv=>whnf
 refine⟨_,markSt0 1,?_⟩
 rintro r rfl
 conv=>whnf
 have hh:CallsTo EE 24 [agg (zX st0),i64 1] (·=i64 1):=bQ st0 1 aK (by simp[st0,zT]) (by omega) (by omega)
 refine⟨_,hh,?_⟩
 rintro r rfl
 conv=>whnf
 refine⟨fun h=>absurd h (by simp),fun _=>?_⟩
 conv=>whnf
 refine⟨fun h=>absurd h (by simp),fun _=>?_⟩
 conv=>whnf
 refine .inr (.inl ⟨13,[],?_⟩)
 conv=>whnf
 refine⟨_,fI p h.hs,?_⟩
 conv=>whnf
 refine⟨_,dQ y h.hx,?_⟩
 conv=>whnf
 refine⟨_,vW cut h1,?_⟩
 refine .inl ?_
 conv=>whnf
 refine⟨_,cI,?_⟩
 conv=>whnf
 refine⟨by kernel_rfl,?_⟩
 conv=>whnf
 refine⟨_,qD st0 aK,?_⟩
 rintro r rfl
 conv=>whnf
 refine kbi (fun h=>absurd h (by simp)) (fun _=>?_)
 conv=>whnf
 refine⟨_,hh,?_⟩
 rintro r rfl
 conv=>whnf
 refine⟨fun h=>absurd h (by simp),fun _=>?_⟩
 conv=>whnf
 refine⟨fun h=>absurd h (by simp),fun _=>?_⟩
 conv=>whnf
theorem lawCut (p:ProgL) (hp:p.wf) (hv:p.flt) (hc:p.cn) (y:RunT) (hx:y.wf) (hf:y.s.cf) (cut:List Int) (hl:cut.length≤9223372036854775807):CallsTo EE 3 [agg (encProg p),agg (encRT y),sl (cut.map encInt)] (·=bv true):=by
 refine lawCut1 p hp hv hc y hx hf cut hl fun h h1 S hS=>?_
 refine lawCut2 p hp hv hc y cut h1 hf h (fun x hq S hS=>sL ?_) (fun hq S hS=>sL (lawCutF p hp hv hc y cut h1 hf h hq hS)) hS
 obtain⟨hx,ht⟩:=cutV_fit hv hq
 exact lawCut3 p y cut h1 h x hx (fun S hS=>lawCut4 p y cut h1 h x hx (fun S hS=>lawCut5 p y cut h1 h x hx ht (fun S hS=>lawCut6 p y cut h x hx ht (fun S hS=>lawCut7 p hp hv hc y cut h1 hf h x hx ht hq hS) hS) hS) hS) hS
end Ai
namespace Ai
set_option maxRecDepth 100000
open Go Go.Proofs Go.Deep
section
variable {H:Type} {enc':TypeId × Value→H} {w:World} {sp:Nat→Bool} {held:Bool}
theorem rd_fltC {n:Nat} {cs:List Value} {x:DataW H × List MemPlace} (h:DataW.trod enc' Tryz.prog w 0 sp held n 74 cs=some x):∃ v:Nat,CF v∧Fits w [.flt v] cs:=by
 cases n with
 |zero=>simp[DataW.trod] at h
 |succ n =>
  unfold DataW.trod at h
  rw[Tryz.underlying74] at h
  split at h <;> simp_all
  rename_i kk b e2
  obtain⟨⟨e1,hb⟩,_⟩:=h
  subst e2
  have hb0:(Lit.float FloatKind.f64 b).wf=true:=hb
  refine⟨canon b,⟨?_,?_⟩,rfl,fun i d u hd hu=>?_⟩
  ·exact canon_canon b
  ·show canon b<18446744073709551616
   have hb2:b<18446744073709551616:=by simpa[Lit.wf] using hb0
   unfold canon nanC
   cases zY b <;> simp <;> omega
  match i,hd,hu with
  | 0,hd,hu=>simp at hd hu;subst hd;subst hu;exact .flt _
  |i+1,hd,hu=>simp at hd
theorem rd_opC {n:Nat} {cs:List Value} {x:DataW H × List MemPlace} (h:DataW.trod enc' Tryz.prog w 0 sp held n 199 cs=some x):∃ o:OpL,CF o.v∧Fits w (encOp o) cs:=by
 obtain⟨xs,m,_,_,hcl,hxl,hf⟩:=DataW.trod_struct Tryz.underlying199 h
 have c3:Tryz.prog.cellsOf 3=1:=by kernel_rfl
 have c105:Tryz.prog.cellsOf 74=1:=by kernel_rfl
 have c151:Tryz.prog.cellsOf 199=4:=by kernel_rfl
 have hxl4:xs.length=4:=hxl
 have g0:DataW.trod enc' Tryz.prog w 0 sp held m 3 ((cs.drop 0).take (Tryz.prog.cellsOf 3))=xs[0]?:=hf 0 _ rfl
 have g1:DataW.trod enc' Tryz.prog w 0 sp held m 3 ((cs.drop 1).take (Tryz.prog.cellsOf 3))=xs[1]?:=hf 1 _ rfl
 have g2:DataW.trod enc' Tryz.prog w 0 sp held m 3 ((cs.drop 2).take (Tryz.prog.cellsOf 3))=xs[2]?:=hf 2 _ rfl
 have g3:DataW.trod enc' Tryz.prog w 0 sp held m 74 ((cs.drop 3).take (Tryz.prog.cellsOf 74))=xs[3]?:=hf 3 _ rfl
 simp only[c3,c105] at g0 g1 g2 g3
 rw[List.getElem?_eq_getElem (by omega)] at g0 g1 g2 g3
 obtain⟨k0,f0⟩:=vM g0
 obtain⟨k1,f1⟩:=vM g1
 obtain⟨k2,f2⟩:=vM g2
 obtain⟨v,hv,f3⟩:=rd_fltC g3
 exact⟨⟨k0,k1,k2,v⟩,hv,yL (k:=0) f0 (yL (k:=1) f1 (yL (k:=2) f2 (yL (k:=3) f3 (lI (by omega)))))⟩
theorem rd_rowC {n:Nat} {cs:List Value} {x:DataW H × List MemPlace} (h:DataW.trod enc' Tryz.prog w 0 sp held n 131 cs=some x):∃ l:List OpL,(l.length≤9223372036854775807∧∀ o∈l,CF o.v)∧Fits w (yF l) cs:=by
 obtain⟨xs,hw,hl,hf⟩:=fS (α:=OpL) Tryz.underlying131 4 (by kernel_rfl) (by omega) encOp (fun o=>CF o.v) (fun n cs x h=>rd_opC h) h
 exact⟨xs,⟨hl,hw⟩,hf⟩
theorem rd_rowsC {n:Nat} {cs:List Value} {x:DataW H × List MemPlace} (h:DataW.trod enc' Tryz.prog w 0 sp held n 22 cs=some x):∃ l:List (List OpL),(l.length≤9223372036854775807∧∀ r∈l,r.length≤9223372036854775807∧∀ o∈r,CF o.v)∧Fits w [.sl (l.map yF)] cs:=by
 obtain⟨xs,hw,hl,hf⟩:=fS (α:=List OpL) Tryz.underlying22 1 (by kernel_rfl) (by omega) yF (fun r=>r.length≤9223372036854775807∧∀ o∈r,CF o.v) (fun n cs x h=>rd_rowC h) h
 exact⟨xs,⟨hl,hw⟩,hf⟩
theorem rd_progC {n:Nat} {cs:List Value} {x:DataW H × List MemPlace} (h:DataW.trod enc' Tryz.prog w 0 sp held n 24 cs=some x):∃ p:ProgL,(p.wf∧p.flt∧p.cn)∧Fits w (encProg p) cs:=by
 obtain⟨xs,m,_,_,hcl,hxl,hf⟩:=DataW.trod_struct Tryz.underlying24 h
 have c22:Tryz.prog.cellsOf 22=1:=by kernel_rfl
 have c24:Tryz.prog.cellsOf 24=4:=by kernel_rfl
 have hxl4:xs.length=4:=hxl
 have g0:DataW.trod enc' Tryz.prog w 0 sp held m 3 ((cs.drop 0).take (Tryz.prog.cellsOf 3))=xs[0]?:=hf 0 _ rfl
 have g1:DataW.trod enc' Tryz.prog w 0 sp held m 3 ((cs.drop 1).take (Tryz.prog.cellsOf 3))=xs[1]?:=hf 1 _ rfl
 have g2:DataW.trod enc' Tryz.prog w 0 sp held m 3 ((cs.drop 2).take (Tryz.prog.cellsOf 3))=xs[2]?:=hf 2 _ rfl
 have g3:DataW.trod enc' Tryz.prog w 0 sp held m 22 ((cs.drop 3).take (Tryz.prog.cellsOf 22))=xs[3]?:=hf 3 _ rfl
 simp only[c3,c22] at g0 g1 g2 g3
 rw[List.getElem?_eq_getElem (by omega)] at g0 g1 g2 g3
 obtain⟨k0,f0⟩:=vM g0
 obtain⟨k1,f1⟩:=vM g1
 obtain⟨k2,f2⟩:=vM g2
 obtain⟨v,⟨hv1,hv2⟩,f3⟩:=rd_rowsC g3
 exact⟨⟨k0,k1,k2,v⟩,⟨⟨hv1,fun r hr=>(hv2 r hr).1⟩,fun r hr o ho=>((hv2 r hr).2 o ho).2,fun r hr o ho=>((hv2 r hr).2 o ho).1⟩,yL (k:=0) f0 (yL (k:=1) f1 (yL (k:=2) f2 (yL (k:=3) f3 (lI (by omega)))))⟩
theorem rd_ev {n:Nat} {cs:List Value} {x:DataW H × List MemPlace} (h:DataW.trod enc' Tryz.prog w 0 sp held n 144 cs=some x):∃ o:Ev,True∧Fits w (encEv o) cs:=by
 obtain⟨xs,m,_,_,hcl,hxl,hf⟩:=DataW.trod_struct Tryz.underlying144 h
 have e3:Tryz.prog.cellsOf 3=1:=by kernel_rfl
 have e128:Tryz.prog.cellsOf 144=5:=by kernel_rfl
 have hxl4:xs.length=5:=hxl
 have g0:DataW.trod enc' Tryz.prog w 0 sp held m 3 ((cs.drop 0).take (Tryz.prog.cellsOf 3))=xs[0]?:=hf 0 _ rfl
 have g1:DataW.trod enc' Tryz.prog w 0 sp held m 3 ((cs.drop 1).take (Tryz.prog.cellsOf 3))=xs[1]?:=hf 1 _ rfl
 have g2:DataW.trod enc' Tryz.prog w 0 sp held m 3 ((cs.drop 2).take (Tryz.prog.cellsOf 3))=xs[2]?:=hf 2 _ rfl
 have g3:DataW.trod enc' Tryz.prog w 0 sp held m 3 ((cs.drop 3).take (Tryz.prog.cellsOf 3))=xs[3]?:=hf 3 _ rfl
 have g4:DataW.trod enc' Tryz.prog w 0 sp held m 3 ((cs.drop 4).take (Tryz.prog.cellsOf 3))=xs[4]?:=hf 4 _ rfl
 simp only[e3] at g0 g1 g2 g3 g4
 rw[List.getElem?_eq_getElem (by omega)] at g0 g1 g2 g3 g4
 obtain⟨k0,f0⟩:=vM g0
 obtain⟨k1,f1⟩:=vM g1
 obtain⟨k2,f2⟩:=vM g2
 obtain⟨k3,f3⟩:=vM g3
 obtain⟨k4,f4⟩:=vM g4
 exact⟨⟨k0,k1,k2,k3,k4⟩,trivial,yL (k:=0) f0 (yL (k:=1) f1 (yL (k:=2) f2 (yL (k:=3) f3 (yL (k:=4) f4 (lI (by omega))))))⟩
theorem rd_evs {n:Nat} {cs:List Value} {x:DataW H × List MemPlace} (h:DataW.trod enc' Tryz.prog w 0 sp held n 25 cs=some x):∃ l:List Ev,l.length≤9223372036854775807∧Fits w [.sl (l.map encEv)] cs:=by
 obtain⟨xs,_,hl,hf⟩:=fS (α:=Ev) Tryz.underlying25 5 (by kernel_rfl) (by omega) encEv (fun _=>True) (fun n cs x h=>rd_ev h) h
 exact⟨xs,hl,hf⟩
theorem rd_flts {n:Nat} {cs:List Value} {x:DataW H × List MemPlace} (h:DataW.trod enc' Tryz.prog w 0 sp held n 28 cs=some x):∃ l:List Nat,(l.length≤9223372036854775807∧∀ y∈l,CF y)∧Fits w [.sl (l.map encF)] cs:=by
 obtain⟨xs,hw,hl,hf⟩:=fS (α:=Nat) Tryz.underlying28 1 (by kernel_rfl) (by omega) encF CF (fun n cs x h=>rd_fltC h) h
 exact⟨xs,⟨hl,hw⟩,hf⟩
theorem rd_th {n:Nat} {cs:List Value} {x:DataW H × List MemPlace} (h:DataW.trod enc' Tryz.prog w 0 sp held n 189 cs=some x):∃ o:Th,(o.stack.length≤9223372036854775807∧o.cf)∧Fits w (zD o) cs:=by
 obtain⟨xs,m,_,_,hcl,hxl,hf⟩:=DataW.trod_struct Tryz.underlying189 h
 have e3:Tryz.prog.cellsOf 3=1:=by kernel_rfl
 have e43:Tryz.prog.cellsOf 28=1:=by kernel_rfl
 have e175:Tryz.prog.cellsOf 189=6:=by kernel_rfl
 have hxl4:xs.length=6:=hxl
 have g0:DataW.trod enc' Tryz.prog w 0 sp held m 3 ((cs.drop 0).take (Tryz.prog.cellsOf 3))=xs[0]?:=hf 0 _ rfl
 have g1:DataW.trod enc' Tryz.prog w 0 sp held m 3 ((cs.drop 1).take (Tryz.prog.cellsOf 3))=xs[1]?:=hf 1 _ rfl
 have g2:DataW.trod enc' Tryz.prog w 0 sp held m 3 ((cs.drop 2).take (Tryz.prog.cellsOf 3))=xs[2]?:=hf 2 _ rfl
 have g3:DataW.trod enc' Tryz.prog w 0 sp held m 3 ((cs.drop 3).take (Tryz.prog.cellsOf 3))=xs[3]?:=hf 3 _ rfl
 have g4:DataW.trod enc' Tryz.prog w 0 sp held m 3 ((cs.drop 4).take (Tryz.prog.cellsOf 3))=xs[4]?:=hf 4 _ rfl
 have g5:DataW.trod enc' Tryz.prog w 0 sp held m 28 ((cs.drop 5).take (Tryz.prog.cellsOf 28))=xs[5]?:=hf 5 _ rfl
 simp only[e3,e43] at g0 g1 g2 g3 g4 g5
 rw[List.getElem?_eq_getElem (by omega)] at g0 g1 g2 g3 g4 g5
 obtain⟨k0,f0⟩:=vM g0
 obtain⟨k1,f1⟩:=vM g1
 obtain⟨k2,f2⟩:=vM g2
 obtain⟨k3,f3⟩:=vM g3
 obtain⟨k4,f4⟩:=vM g4
 obtain⟨l,⟨hl1,hl2⟩,f5⟩:=rd_flts g5
 exact⟨⟨k0,k1,k2,k3,k4,l⟩,⟨hl1,hl2⟩,yL (k:=0) f0 (yL (k:=1) f1 (yL (k:=2) f2 (yL (k:=3) f3 (yL (k:=4) f4 (yL (k:=5) f5 (lI (by omega)))))))⟩
theorem rd_ths {n:Nat} {cs:List Value} {x:DataW H × List MemPlace} (h:DataW.trod enc' Tryz.prog w 0 sp held n 27 cs=some x):∃ l:List Th,(l.length≤9223372036854775807∧∀ t∈l,t.stack.length≤9223372036854775807∧t.cf)∧Fits w [.sl (l.map zD)] cs:=by
 obtain⟨xs,hw,hl,hf⟩:=fS (α:=Th) Tryz.underlying27 6 (by kernel_rfl) (by omega) zD (fun t=>t.stack.length≤9223372036854775807∧t.cf) (fun n cs x h=>rd_th h) h
 exact⟨xs,⟨hl,hw⟩,hf⟩
theorem rd_st {n:Nat} {cs:List Value} {x:DataW H × List MemPlace} (h:DataW.trod enc' Tryz.prog w 0 sp held n 30 cs=some x):∃ o:StL,(o.wf∧o.cf)∧Fits w (zX o) cs:=by
 obtain⟨xs,m,_,_,hcl,hxl,hf⟩:=DataW.trod_struct Tryz.underlying30 h
 have e3:Tryz.prog.cellsOf 3=1:=by kernel_rfl
 have e41:Tryz.prog.cellsOf 26=1:=by kernel_rfl
 have e43:Tryz.prog.cellsOf 28=1:=by kernel_rfl
 have e52:Tryz.prog.cellsOf 27=1:=by kernel_rfl
 have e54:Tryz.prog.cellsOf 30=4:=by kernel_rfl
 have hxl4:xs.length=4:=hxl
 have g0:DataW.trod enc' Tryz.prog w 0 sp held m 27 ((cs.drop 0).take (Tryz.prog.cellsOf 27))=xs[0]?:=hf 0 _ rfl
 have g1:DataW.trod enc' Tryz.prog w 0 sp held m 28 ((cs.drop 1).take (Tryz.prog.cellsOf 28))=xs[1]?:=hf 1 _ rfl
 have g2:DataW.trod enc' Tryz.prog w 0 sp held m 26 ((cs.drop 2).take (Tryz.prog.cellsOf 26))=xs[2]?:=hf 2 _ rfl
 have g3:DataW.trod enc' Tryz.prog w 0 sp held m 3 ((cs.drop 3).take (Tryz.prog.cellsOf 3))=xs[3]?:=hf 3 _ rfl
 simp only[e3,e41,e43,e52] at g0 g1 g2 g3
 rw[List.getElem?_eq_getElem (by omega)] at g0 g1 g2 g3
 obtain⟨a,⟨ha1,ha2⟩,f0⟩:=rd_ths g0
 obtain⟨c,⟨hc1,hc2⟩,f1⟩:=rd_flts g1
 obtain⟨b,hb,f2⟩:=rd_ints g2
 obtain⟨k3,f3⟩:=vM g3
 exact⟨⟨a,c,b,k3⟩,⟨⟨ha1,fun t ht=>(ha2 t ht).1,hc1,hb⟩,hc2,fun t ht=>(ha2 t ht).2⟩,yL (k:=0) f0 (yL (k:=1) f1 (yL (k:=2) f2 (yL (k:=3) f3 (lI (by omega)))))⟩
theorem rd_run {n:Nat} {cs:List Value} {x:DataW H × List MemPlace} (h:DataW.trod enc' Tryz.prog w 0 sp held n 32 cs=some x):∃ o:RunT,(o.wf∧o.s.cf)∧Fits w (encRT o) cs:=by
 obtain⟨xs,m,_,_,hcl,hxl,hf⟩:=DataW.trod_struct Tryz.underlying32 h
 have e3:Tryz.prog.cellsOf 3=1:=by kernel_rfl
 have e41:Tryz.prog.cellsOf 26=1:=by kernel_rfl
 have e51:Tryz.prog.cellsOf 25=1:=by kernel_rfl
 have e54:Tryz.prog.cellsOf 30=4:=by kernel_rfl
 have e56:Tryz.prog.cellsOf 32=7:=by kernel_rfl
 have hxl4:xs.length=4:=hxl
 have g0:DataW.trod enc' Tryz.prog w 0 sp held m 3 ((cs.drop 0).take (Tryz.prog.cellsOf 3))=xs[0]?:=hf 0 _ rfl
 have g1:DataW.trod enc' Tryz.prog w 0 sp held m 25 ((cs.drop 1).take (Tryz.prog.cellsOf 25))=xs[1]?:=hf 1 _ rfl
 have g2:DataW.trod enc' Tryz.prog w 0 sp held m 26 ((cs.drop 2).take (Tryz.prog.cellsOf 26))=xs[2]?:=hf 2 _ rfl
 have g3:DataW.trod enc' Tryz.prog w 0 sp held m 30 ((cs.drop 3).take (Tryz.prog.cellsOf 30))=xs[3]?:=hf 3 _ rfl
 simp only[e3,e41,e51,e54] at g0 g1 g2 g3
 rw[List.getElem?_eq_getElem (by omega)] at g0 g1 g2 g3
 obtain⟨k0,f0⟩:=vM g0
 obtain⟨a,ha,f1⟩:=rd_evs g1
 obtain⟨b,hb,f2⟩:=rd_ints g2
 obtain⟨s,⟨hs1,hs2⟩,f3⟩:=rd_st g3
 exact⟨⟨k0,a,b,s⟩,⟨⟨ha,hb,hs1⟩,hs2⟩,yL (k:=0) f0 (yL (k:=1) f1 (yL (k:=2) f2 (by rw[List.take_of_length_le (by rw[List.length_drop];omega)] at f3;exact f3)))⟩
end
end Ai
