import Derived.Test.YtdnffjbcmimnnaaGreatZE
set_option maxHeartbeats 8000000
set_option linter.unusedVariables false
set_option linter.unusedSimpArgs false
namespace Ai
set_option maxRecDepth 100000
open Go Go.Proofs
def lendX:Key→Bool
 | .n k=>Nat.beq k 901 || Nat.beq k 902 || Nat.beq k 903 || Nat.beq k 904 || Nat.beq k 905
 | .s o _=>Nat.beq o 903
 | .l _=>false
def refRn (x:RunT):List AV:=[i64 x.c,.ref (.n 901) 0 x.tr.length,.ref (.n 902) 0 x.tk.length,.dref (.n 903) x.s.ths.length,.ref (.n 904) 0 x.s.cells.length,.ref (.n 905) 0 x.s.owner.length,i64 x.s.fault]
theorem markRun_ok (x:RunT) (k:Int) (h:x.fit) (ht:xH x.s.ths x.s.ths.length≤8388608) (h0:0≤k) (h1:k≤8388608) (H0:Key→Option Ob)
  (hE:H0 (.n 901)=some (.ds 128 5 (x.tr.map encEv))) (hT:H0 (.n 902)=some (.ds 3 1 (x.tk.map encInt)))
  (hH:H0 (.n 903)=some (.rs 175 6 (thRows 903 x.s.ths))) (hF:∀ j,H0 (.s 903 j)=zO x.s.ths j) (hC:H0 (.n 904)=some (.ds 132 1 (x.s.cells.map encF))) (hO:H0 (.n 905)=some (.ds 3 1 (x.s.owner.map encInt))) :
  IOCall EE 30 [.agg (refRn x),i64 k] H0 (fun r H1=>(∃ n:Int,r=i64 n∧0≤n∧n≤268435456)∧∀ κ,H1 κ=none):=by
 have he:=h.tr
 have hk:=h.tk
 refine wC (fn:=Tryz.f30) (c:=Tryz.f30.body.getD .skip) Tryz.func30 rfl (by kernel_rfl) rfl ?_
 have hat:At [(0,.agg (refRn x)),(1,i64 k)] [(.n 901,.ds 128 5 (x.tr.map encEv)),(.n 902,.ds 3 1 (x.tk.map encInt)),(.n 903,.rs 175 6 (thRows 903 x.s.ths)),(.n 904,.ds 132 1 (x.s.cells.map encF)),(.n 905,.ds 3 1 (x.s.owner.map encInt))] [(903,zO x.s.ths)] ⟨fun i=>[AV.agg (refRn x),i64 k].getD i .junk,H0⟩:=⟨⟨rfl,rfl,trivial⟩,⟨hE,hT,hH,hC,hO,trivial⟩,⟨hF,trivial⟩⟩
 obtain⟨τ,H,hf⟩:=hat.form
 rw[hf]
 conv=>whnf
 refine .inr (.inr (.inl ⟨999,0,isK (.n 901),(fun r H1=>r=i64 (k+5*(x.tr.length:Nat))∧∀ κ,H1 κ=none),?_,rfl,?_⟩))
 ·exact vJ (eM (x.tr.map encEv) k x.tr.length (by simp) he (fun c hc=>by obtain⟨e,_,rfl⟩:=List.mem_map.1 hc;rfl) h0 (by omega) _ rfl) rfl
 rintro r H1 ⟨rfl,q⟩
 refine⟨fun κ _=>q κ,fun n hn=>(by cases hn),?_⟩
 conv=>whnf
 refine .inr (.inl ⟨902,77,isK (.l 77),_,vJ (bK (.l 77) (.inr rfl) x.tk (k+5*(x.tr.length:Nat)) hk (by omega) (by omega) _ rfl) rfl,rfl,?_⟩)
 rintro r H3 ⟨rfl,e1,q3⟩
 refine⟨q3,fun n hn=>⟨.ds 3 1 (x.tk.map encInt),?_,(jB (k+5*(x.tr.length:Nat)) x.tk.length).map encInt,?_,by simp[qQ]⟩,?_⟩
 ·have:n=77:=Nat.eq_of_beq_eq_true hn
  subst this;rfl
 ·have:n=77:=Nat.eq_of_beq_eq_true hn
  subst this;exact e1
 conv=>whnf
 refine .inr (.inl ⟨999,0,lendS,(fun r H1=>(∃ n:Int,r=i64 n∧0≤n∧n≤268435456)∧∀ κ,H1 κ=none),?_,rfl,?_⟩)
 ·refine vJ (q8 x.s (k+5*(x.tr.length:Nat)+(x.tk.length:Nat)) h.s ht (by omega) (by omega) _ ?_ (fun j=>?_) ?_ ?_) ?_
  ·show some (Ob.rs 175 6 ((((((((((thRows 903 x.s.ths).map (scrPL (isK (.n 2)))).map (renL (swp (.n 999) (.l 0)))).map (scrPL (xJ (isK (.n 901))))).map (renL (swp (.n 999) (.l 0)))).map (renL (swp (.n 902) (.l 77)))).map (scrPL (xJ (isK (.l 77))))).map (renL (swp (.n 902) (.l 77)))).map (renL (swp (.n 999) (.l 0)))).map (scrPL (fun o=>!lendS o))))=_
   rw[wT (fun j=>rfl),xX (fun j=>rfl),wT (fun j=>rfl),xX (fun j=>rfl),xX (fun j=>rfl),wT (fun j=>rfl),xX (fun j=>rfl),xX (fun j=>rfl),wT (fun j=>rfl)]
  ·show Option.map _ (Option.map _ (Option.map _ (Option.map _ (Option.map _ (Option.map _ (Option.map _ (Option.map _ (Option.map _ (zO x.s.ths j)))))))))=_
   rw[zS,thFam_ren,zS,thFam_ren,thFam_ren,zS,thFam_ren,thFam_ren,zS]
  ·rfl
  ·rfl
  ·rfl
 rintro r H4 ⟨⟨n,rfl,hn1,hn2⟩,q4⟩
 refine⟨fun κ _=>q4 κ,fun n hn=>(by cases hn),?_⟩
 conv=>whnf
 refine⟨_,Weak.refl,?_⟩
 conv=>whnf
 exact⟨fun _=>false,⟨n,rfl,hn1,hn2⟩,fun κ=>rfl⟩
end Ai
namespace Ai
set_option maxRecDepth 100000
open Go Go.Proofs
theorem eqEvent_ok (x:Ev):CallsTo EE 149 [agg (encEv x),agg (encEv x)] (·=bv true):=by
 refine callsTo_of_AW (fn:=Tryz.f149) Tryz.func149 rfl (by kernel_rfl) rfl ?_
 conv=>whnf
 iterate 5
  refine⟨fun h=>(yK _ h).elim,fun _=>?_⟩
  conv=>whnf
theorem eqEventS_ok (xs:List Ev) (hx:xs.length≤1048576):CallsTo EE 80 [sl (xs.map encEv),sl (xs.map encEv)] (·=bv true):=by
 refine callsTo_of_AW (fn:=Tryz.f80) Tryz.func80 rfl (by kernel_rfl) rfl ?_
 conv=>whnf
 refine⟨fun h=>(yK _ h).elim,fun _=>?_⟩
 conv=>whnf
 refine yE (fun k:Nat=>[(0,sl (xs.map encEv)),(1,sl (xs.map encEv)),(5,i64 k)]) (fun k=>[]) (fun k=>xs.length - k) (fun k=>k≤xs.length) 0 .refl ⟨rfl,rfl,rfl,trivial⟩ trivial (Nat.zero_le _) ?_
 intro k τ H hk
 conv=>whnf
 refine⟨fun h=>?_,fun h=>?_⟩
 ·have hlt:=yH h
  conv=>whnf
  refine⟨by kernel_rfl,?_⟩
  conv=>whnf
  refine⟨encEv xs[k],zM encEv hlt rfl,?_⟩
  conv=>whnf
  refine⟨encEv xs[k],zM encEv hlt rfl,?_⟩
  conv=>whnf
  refine⟨_,eqEvent_ok xs[k],?_⟩
  conv=>whnf
  refine⟨k+1,by omega,by show xs.length - (k+1)<xs.length - k;omega,⟨rfl,rfl,zH hlt (by omega),trivial⟩,trivial⟩
 ·conv=>whnf
theorem sC (xs:List Nat) (hx:xs.length≤1048576):CallsTo EE 104 [sl (xs.map encF),sl (xs.map encF)] (·=bv true):=by
 refine callsTo_of_AW (fn:=Tryz.f104) Tryz.func104 rfl (by kernel_rfl) rfl ?_
 conv=>whnf
 refine⟨fun h=>(yK _ h).elim,fun _=>?_⟩
 conv=>whnf
 refine yE (fun k:Nat=>[(0,sl (xs.map encF)),(1,sl (xs.map encF)),(5,i64 k)]) (fun k=>[]) (fun k=>xs.length - k) (fun k=>k≤xs.length) 0 .refl ⟨rfl,rfl,rfl,trivial⟩ trivial (Nat.zero_le _) ?_
 intro k τ H hk
 conv=>whnf
 refine⟨fun h=>?_,fun h=>?_⟩
 ·have hlt:=yH h
  conv=>whnf
  refine⟨by kernel_rfl,?_⟩
  conv=>whnf
  refine⟨encF xs[k],zM encF hlt rfl,?_⟩
  conv=>whnf
  refine⟨encF xs[k],zM encF hlt rfl,?_⟩
  conv=>whnf
  refine⟨_,mH xs[k],?_⟩
  conv=>whnf
  refine⟨k+1,by omega,by show xs.length - (k+1)<xs.length - k;omega,⟨rfl,rfl,zH hlt (by omega),trivial⟩,trivial⟩
 ·conv=>whnf
theorem eqThread_ok (x:Th) (hx:x.stack.length≤1048576):CallsTo EE 178 [agg (zD x),agg (zD x)] (·=bv true):=by
 refine callsTo_of_AW (fn:=Tryz.f178) Tryz.func178 rfl (by kernel_rfl) rfl ?_
 conv=>whnf
 iterate 5
  refine⟨fun h=>(yK _ h).elim,fun _=>?_⟩
  conv=>whnf
 refine⟨_,sC x.stack hx,?_⟩
 rintro r rfl
 conv=>whnf
theorem d5 (xs:List Th) (hx:xs.length≤1048576) (h9:∀ t∈xs,t.stack.length≤1048576):CallsTo EE 103 [sl (xs.map zD),sl (xs.map zD)] (·=bv true):=by
 refine callsTo_of_AW (fn:=Tryz.f103) Tryz.func103 rfl (by kernel_rfl) rfl ?_
 conv=>whnf
 refine⟨fun h=>(yK _ h).elim,fun _=>?_⟩
 conv=>whnf
 refine yE (fun k:Nat=>[(0,sl (xs.map zD)),(1,sl (xs.map zD)),(5,i64 k)]) (fun k=>[]) (fun k=>xs.length - k) (fun k=>k≤xs.length) 0 .refl ⟨rfl,rfl,rfl,trivial⟩ trivial (Nat.zero_le _) ?_
 intro k τ H hk
 conv=>whnf
 refine⟨fun h=>?_,fun h=>?_⟩
 ·have hlt:=yH h
  conv=>whnf
  refine⟨by kernel_rfl,?_⟩
  conv=>whnf
  refine⟨zD xs[k],zM zD hlt rfl,?_⟩
  conv=>whnf
  refine⟨zD xs[k],zM zD hlt rfl,?_⟩
  conv=>whnf
  refine⟨_,eqThread_ok xs[k] (h9 _ (List.getElem_mem hlt)),?_⟩
  conv=>whnf
  refine⟨k+1,by omega,by show xs.length - (k+1)<xs.length - k;omega,⟨rfl,rfl,zH hlt (by omega),trivial⟩,trivial⟩
 ·conv=>whnf
theorem eqState_ok (s:StL) (h:s.fit):CallsTo EE 48 [agg (yC s),agg (yC s)] (·=bv true):=by
 refine callsTo_of_AW (fn:=Tryz.f48) Tryz.func48 rfl (by kernel_rfl) rfl ?_
 conv=>whnf
 refine⟨_,d5 s.ths h.ths h.st,?_⟩
 rintro r rfl
 conv=>whnf
 refine⟨_,sC s.cells h.cells,?_⟩
 rintro r rfl
 conv=>whnf
 refine⟨_,gQ s.owner h.owner,?_⟩
 rintro r rfl
 conv=>whnf
 refine⟨fun h=>(yK _ h).elim,fun _=>?_⟩
 conv=>whnf
theorem eqRun_ok (x:RunT) (h:x.fit):CallsTo EE 29 [agg (encRT x),agg (encRT x)] (·=bv true):=by
 refine callsTo_of_AW (fn:=Tryz.f29) Tryz.func29 rfl (by kernel_rfl) rfl ?_
 conv=>whnf
 refine⟨fun h=>(yK _ h).elim,fun _=>?_⟩
 conv=>whnf
 refine⟨_,eqEventS_ok x.tr h.tr,?_⟩
 rintro r rfl
 conv=>whnf
 refine⟨_,gQ x.tk h.tk,?_⟩
 rintro r rfl
 conv=>whnf
 refine⟨_,eqState_ok x.s h.s,?_⟩
 rintro r rfl
 conv=>whnf
end Ai
namespace Ai
set_option maxRecDepth 100000
open Go Go.Proofs
def PkRn (x:RunT):Prop:=x.tk.length≤200∧y3 x.tk 0 999
def IsRn (p:ProgL) (x:RunT):Prop:=p.goodS∧x.tr.length≤200∧PkRn x∧hJ p x.tk x.tk.length=x
theorem cf_run {p:ProgL} (hg:p.goodS) (hv:p.flt) (hc:p.cn) (x:RunT) (h:PkRn x):(hJ p x.tk x.tk.length).s.cf∧(hJ p x.tk x.tk.length).fit:=by
 have hpk:∀ i∈x.tk,0≤i:=fun i hi=>(h.2 i hi).1
 have he:=iI hg hv x.tk x.tk.length hpk (by omega)
 have hcn:=runOf_cn hg hv hc x.tk x.tk.length hpk
 have hs:=((rN hg).small _ he.inv.si).1
 have hle:=he.le
 have hln:=he.len
 have h200:=h.1
 refine⟨⟨fun c hc=>⟨hcn.1 c hc,he.inv.fl.1 c hc⟩,fun t ht c hc=>⟨hcn.2 t ht c hc,he.inv.fl.2 t ht c hc⟩⟩,by omega,by omega,⟨hs.1,hs.2.1,hs.2.2.1,hs.2.2.2⟩⟩
theorem IsRunI_ok (p:ProgL) (hp:p.wf) (hs:p.rs.length≤1048576∧∀ x∈p.rs,x.length≤1048576) (hv:p.flt) (hc:p.cn) (x:RunT) (hx:x.fit) (hf:x.s.cf) :
  CallsTo EE 146 [agg (encProg p),agg (encRT x)] (fun r=>(IsRn p x∧r=.tup [bv true,bv true])∨(¬ IsRn p x∧(r=.tup [bv false,bv true]∨r=.tup [bv false,bv false]))):=by
 refine callsTo_of_AW (fn:=Tryz.f146) Tryz.func146 rfl (by kernel_rfl) rfl ?_
 conv=>whnf
 refine ocase (n0 p hs) (fun hg=>?_) (fun hg=>?_)
 rotate_left 1
 ·conv=>whnf
  exact .inr ⟨fun e=>hg ((iR p).1 e.1),.inr rfl⟩
 have hg:p.goodS:=(iR p).2 hg
 conv=>whnf
 refine kbi (fun h=>?_) (fun h=>?_)
 ·have h:¬ x.tr.length≤200:=by simp at h;omega
  conv=>whnf
  exact .inr ⟨fun e=>h e.2.1,.inr rfl⟩
 have htr:x.tr.length≤200:=by simp at h;omega
 conv=>whnf
 refine ocase (arePicks_ok x.tk 200 hx.tk) (fun hpk=>?_) (fun hpk=>?_)
 rotate_left 1
 ·conv=>whnf
  exact .inr ⟨fun e=>hpk e.2.2.1,.inr rfl⟩
 have hpk:PkRn x:=hpk
 obtain⟨c1,c2⟩:=cf_run hg hv hc x hpk
 have hrun:=s6 p hp hg hv x.tk x.tk.length (fun i hi=>(hpk.2 i hi).1) hx.tk ⟨by omega,by have:=hpk.1;omega⟩
 have e0:((x.tk.map encInt).length:Int)=(x.tk.length:Int):=by simp
 rw[← e0] at hrun
 have hsame:=sameRun_ok _ x c2 c1 hf
 rw[← e0] at hsame
 conv=>whnf
 refine⟨by kernel_rfl,?_⟩
 conv=>whnf
 refine⟨_,hrun,?_⟩
 conv=>whnf
 refine qcase hsame (fun h=>?_) (fun h=>?_)
 all_goals rw[e0] at h
 ·conv=>whnf
  exact .inl ⟨⟨hg,htr,hpk,h⟩,rfl⟩
 ·conv=>whnf
  exact .inr ⟨fun e=>h e.2.2.2,.inl rfl⟩
theorem isRunI_ok (p:ProgL) (hp:p.wf) (hs:p.rs.length≤1048576∧∀ x∈p.rs,x.length≤1048576) (hv:p.flt) (hc:p.cn) (x:RunT) (hx:x.fit) (hf:x.s.cf) :
  CallsTo EE 77 [agg (encProg p),agg (encRT x)] (·=bp (IsRn p x)):=by
 refine callsTo_of_AW (fn:=Tryz.f77) Tryz.func77 rfl (by kernel_rfl) rfl ?_
 conv=>whnf
 refine⟨_,IsRunI_ok p hp hs hv hc x hx hf,?_⟩
 rintro r (⟨h,rfl⟩|⟨h,rfl|rfl⟩)
 ·conv=>whnf
  exact bpt h
 ·conv=>whnf
  exact bpf h
 ·conv=>whnf
  exact bpf h
end Ai
namespace Ai
set_option maxRecDepth 100000
open Go Go.Proofs
theorem sQ (a b:List Ev) (hx:a.length≤1048576):CallsTo EE 201 [sl (a.map encEv),sl (b.map encEv)] (·=bp (a=b)):=by
 refine callsTo_of_AW (fn:=Tryz.f201) Tryz.func201 rfl (by kernel_rfl) rfl ?_
 conv=>whnf
 refine kbi (fun h=>?_) (fun h=>?_)
 ·have h:¬ a.length=b.length:=by simp at h;omega
  conv=>whnf
  exact bpf fun e=>h (by rw[e])
 have h:a.length=b.length:=by simp at h;omega
 conv=>whnf
 refine yE (fun k:Nat=>[(0,sl (a.map encEv)),(1,sl (b.map encEv)),(12,i64 (a.map encEv).length),(13,i64 k)]) (fun k=>[]) (fun k=>a.length - k) (fun k=>k≤a.length∧a.take k=b.take k) 0
  Weak.refl ⟨rfl,rfl,rfl,rfl,trivial⟩ trivial ⟨Nat.zero_le _,by simp⟩ ?_
 rintro k τ H ⟨hk,he⟩
 have hk:k≤a.length:=hk
 conv=>whnf
 refine kbi (fun h2=>?_) (fun h2=>?_)
 ·have hlt:=yH h2
  have hltb:k<b.length:=by omega
  conv=>whnf
  refine⟨by kernel_rfl,?_⟩
  conv=>whnf
  refine⟨encEv a[k],zM encEv hlt rfl,?_⟩
  conv=>whnf
  refine⟨encEv b[k],zM encEv hltb rfl,?_⟩
  conv=>whnf
  refine kbi (fun h3=>?_) (fun h3=>?_)
  ·have h3:¬ a[k]=b[k]:=fun e=>by
    rw[e] at h3
    simp at h3
   conv=>whnf
   exact bpf (cD hlt hltb h3)
  ·have h3:a[k]=b[k]:=ev_eq.2 (by simpa using h3)
   conv=>whnf
   exact⟨k+1,⟨hlt,wM hlt hltb he h3⟩,by show a.length - (k+1)<a.length - k;omega,⟨rfl,rfl,rfl,zH hlt (by omega),trivial⟩,trivial⟩
 ·have hge:a.length≤k:=by simpa using h2
  conv=>whnf
  exact bpt (wV (by omega) (by omega) he)
theorem oF (a b:List Int) (hx:a.length≤1048576):CallsTo EE 202 [sl (a.map encInt),sl (b.map encInt)] (·=bp (a=b)):=by
 refine callsTo_of_AW (fn:=Tryz.f202) Tryz.func202 rfl (by kernel_rfl) rfl ?_
 conv=>whnf
 refine kbi (fun h=>?_) (fun h=>?_)
 ·have h:¬ a.length=b.length:=by simp at h;omega
  conv=>whnf
  exact bpf fun e=>h (by rw[e])
 have h:a.length=b.length:=by simp at h;omega
 conv=>whnf
 refine yE (fun k:Nat=>[(0,sl (a.map encInt)),(1,sl (b.map encInt)),(12,i64 (a.map encInt).length),(13,i64 k)]) (fun k=>[]) (fun k=>a.length - k) (fun k=>k≤a.length∧a.take k=b.take k) 0
  Weak.refl ⟨rfl,rfl,rfl,rfl,trivial⟩ trivial ⟨Nat.zero_le _,by simp⟩ ?_
 rintro k τ H ⟨hk,he⟩
 have hk:k≤a.length:=hk
 conv=>whnf
 refine kbi (fun h2=>?_) (fun h2=>?_)
 ·have hlt:=yH h2
  have hltb:k<b.length:=by omega
  conv=>whnf
  refine⟨by kernel_rfl,?_⟩
  conv=>whnf
  refine⟨encInt a[k],zM encInt hlt rfl,?_⟩
  conv=>whnf
  refine⟨encInt b[k],zM encInt hltb rfl,?_⟩
  conv=>whnf
  refine kbi (fun h3=>?_) (fun h3=>?_)
  ·have h3:¬ a[k]=b[k]:=by simpa using h3
   conv=>whnf
   exact bpf (cD hlt hltb h3)
  ·have h3:a[k]=b[k]:=by simpa using h3
   conv=>whnf
   exact⟨k+1,⟨hlt,wM hlt hltb he h3⟩,by show a.length - (k+1)<a.length - k;omega,⟨rfl,rfl,rfl,zH hlt (by omega),trivial⟩,trivial⟩
 ·have hge:a.length≤k:=by simpa using h2
  conv=>whnf
  exact bpt (wV (by omega) (by omega) he)
theorem lE (a b:List Nat) (hx:a.length≤1048576) (ha:∀ x∈a,CF x) (hb:∀ x∈b,CF x):CallsTo EE 250 [sl (a.map encF),sl (b.map encF)] (·=bp (a=b)):=by
 refine callsTo_of_AW (fn:=Tryz.f250) Tryz.func250 rfl (by kernel_rfl) rfl ?_
 conv=>whnf
 refine kbi (fun h=>?_) (fun h=>?_)
 ·have h:¬ a.length=b.length:=by simp at h;omega
  conv=>whnf
  exact bpf fun e=>h (by rw[e])
 have h:a.length=b.length:=by simp at h;omega
 conv=>whnf
 refine yE (fun k:Nat=>[(0,sl (a.map encF)),(1,sl (b.map encF)),(12,i64 (a.map encF).length),(13,i64 k)]) (fun k=>[]) (fun k=>a.length - k) (fun k=>k≤a.length∧a.take k=b.take k) 0
  Weak.refl ⟨rfl,rfl,rfl,rfl,trivial⟩ trivial ⟨Nat.zero_le _,by simp⟩ ?_
 rintro k τ H ⟨hk,he⟩
 have hk:k≤a.length:=hk
 conv=>whnf
 refine kbi (fun h2=>?_) (fun h2=>?_)
 ·have hlt:=yH h2
  have hltb:k<b.length:=by omega
  have c1:=ha _ (List.getElem_mem hlt)
  have c2:=hb _ (List.getElem_mem hltb)
  conv=>whnf
  refine⟨by kernel_rfl,?_⟩
  conv=>whnf
  refine⟨encF a[k],zM encF hlt rfl,?_⟩
  conv=>whnf
  refine⟨encF b[k],zM encF hltb rfl,?_⟩
  conv=>whnf
  refine qcase (nC a[k] b[k]) (fun h3=>?_) (fun h3=>?_)
  ·have h3:a[k]=b[k]:=(mF c1.1 c2.1 c1.2 c2.2).1 h3
   conv=>whnf
   exact⟨k+1,⟨hlt,wM hlt hltb he h3⟩,by show a.length - (k+1)<a.length - k;omega,⟨rfl,rfl,rfl,zH hlt (by omega),trivial⟩,trivial⟩
  ·have h3:¬ a[k]=b[k]:=fun e=>h3 ((mF c1.1 c2.1 c1.2 c2.2).2 e)
   conv=>whnf
   exact bpf (cD hlt hltb h3)
 ·have hge:a.length≤k:=by simpa using h2
  conv=>whnf
  exact bpt (wV (by omega) (by omega) he)
end Ai
namespace Ai
set_option maxRecDepth 100000
open Go Go.Proofs
theorem th_eq {x y:Th} (a1:x.rt=y.rt) (a2:x.pc=y.pc) (a3:x.st=y.st) (a4:x.cond=y.cond) (a5:x.lock=y.lock) (a6:x.stack=y.stack):x=y:=by
 cases x;cases y
 simp only at a1 a2 a3 a4 a5 a6
 subst a1 a2 a3 a4 a5 a6
 rfl
theorem eU (x y:StL) (hx:x.fit) (h1:x.cf) (h9:y.cf):CallsTo EE 203 [agg (yC x),agg (yC y)] (·=bp (x=y)):=by
 refine callsTo_of_AW (fn:=Tryz.f203) Tryz.func203 rfl (by kernel_rfl) rfl ?_
 conv=>whnf
 refine kbi (fun h=>?_) (fun h=>?_)
 ·have h:¬ x.ths.length=y.ths.length:=by simp at h;omega
  conv=>whnf
  exact bpf fun e=>h (by rw[e])
 have h:x.ths.length=y.ths.length:=by simp at h;omega
 conv=>whnf
 refine ocase (lE x.cells y.cells hx.cells h1.1 h9.1) (fun e3=>?_) (fun h=>?_)
 rotate_left 1
 ·conv=>whnf
  exact bpf fun e=>h (by rw[e])
 conv=>whnf
 refine ocase (oF x.owner y.owner hx.owner) (fun e2=>?_) (fun h=>?_)
 rotate_left 1
 ·conv=>whnf
  exact bpf fun e=>h (by rw[e])
 conv=>whnf
 refine kbi (fun h=>?_) (fun h=>?_)
 ·have h:¬ x.fault=y.fault:=by simpa using h
  conv=>whnf
  exact bpf fun e=>h (by rw[e])
 have e1:x.fault=y.fault:=by simpa using h
 conv=>whnf
 refine yE (fun k:Nat=>[(2,.ptr (.n 2) 0),(3,.ptr (.n 3) 0),(39,sl (x.ths.map zD)),(40,i64 (x.ths.map zD).length),(41,i64 k)]) (fun k=>[(.n 2,.vs 54 ((yC x).map .d)),(.n 3,.vs 54 ((yC y).map .d))]) (fun k=>x.ths.length - k) (fun k=>k≤x.ths.length∧x.ths.take k=y.ths.take k) 0
  Weak.refl ⟨rfl,rfl,rfl,rfl,rfl,trivial⟩ ⟨rfl,rfl,trivial⟩ ⟨Nat.zero_le _,by simp⟩ ?_
 rintro k τ H ⟨hk,he⟩
 have hk:k≤x.ths.length:=hk
 conv=>whnf
 refine kbi (fun h2=>?_) (fun h2=>?_)
 ·have hlt:=yH h2
  have hltb:k<y.ths.length:=by omega
  have c1:=h1.2 _ (List.getElem_mem hlt)
  have c2:=h9.2 _ (List.getElem_mem hltb)
  conv=>whnf
  refine⟨zD x.ths[k],zM zD hlt rfl,?_⟩
  conv=>whnf
  refine⟨zD y.ths[k],zM zD hltb rfl,?_⟩
  conv=>whnf
  refine kbi (fun h=>?_) (fun h=>?_)
  ·have h:¬ x.ths[k].rt=y.ths[k].rt:=by simpa using h
   conv=>whnf
   exact bpf fun e=>h (by subst e;rfl)
  have a1:x.ths[k].rt=y.ths[k].rt:=by simpa using h
  conv=>whnf
  refine kbi (fun h=>?_) (fun h=>?_)
  ·have h:¬ x.ths[k].pc=y.ths[k].pc:=by simpa using h
   conv=>whnf
   exact bpf fun e=>h (by subst e;rfl)
  have a2:x.ths[k].pc=y.ths[k].pc:=by simpa using h
  conv=>whnf
  refine kbi (fun h=>?_) (fun h=>?_)
  ·have h:¬ x.ths[k].st=y.ths[k].st:=by simpa using h
   conv=>whnf
   exact bpf fun e=>h (by subst e;rfl)
  have a3:x.ths[k].st=y.ths[k].st:=by simpa using h
  conv=>whnf
  refine kbi (fun h=>?_) (fun h=>?_)
  ·have h:¬ x.ths[k].cond=y.ths[k].cond:=by simpa using h
   conv=>whnf
   exact bpf fun e=>h (by subst e;rfl)
  have a4:x.ths[k].cond=y.ths[k].cond:=by simpa using h
  conv=>whnf
  refine kbi (fun h=>?_) (fun h=>?_)
  ·have h:¬ x.ths[k].lock=y.ths[k].lock:=by simpa using h
   conv=>whnf
   exact bpf fun e=>h (by subst e;rfl)
  have a5:x.ths[k].lock=y.ths[k].lock:=by simpa using h
  conv=>whnf
  refine ocase (lE x.ths[k].stack y.ths[k].stack (hx.st _ (List.getElem_mem hlt)) c1 c2) (fun a6=>?_) (fun h=>?_)
  rotate_left 1
  ·conv=>whnf
   exact bpf fun e=>h (by subst e;rfl)
  have a7:x.ths[k]=y.ths[k]:=th_eq a1 a2 a3 a4 a5 a6
  conv=>whnf
  exact⟨k+1,⟨hlt,wM hlt hltb he a7⟩,by show x.ths.length - (k+1)<x.ths.length - k;have:=hlt;omega,⟨rfl,rfl,rfl,rfl,zH hlt (Nat.le_trans hx.ths (by omega)),trivial⟩,⟨rfl,rfl,trivial⟩⟩
 ·have hge:x.ths.length≤k:=by simpa using h2
  have e4:=wV (by omega) (by omega) he
  conv=>whnf
  refine bpt ?_
  clear h1 h9 hx
  cases x;cases y
  simp only at e1 e2 e3 e4
  subst e1 e2 e3 e4
  rfl
theorem j1 (x y:RunT) (hx:x.fit) (h1:x.s.cf) (h2:y.s.cf):CallsTo EE 140 [agg (encRT x),agg (encRT y)] (·=bp (x=y)):=by
 refine callsTo_of_AW (fn:=Tryz.f140) Tryz.func140 rfl (by kernel_rfl) rfl ?_
 conv=>whnf
 refine kbi (fun h=>?_) (fun h=>?_)
 rotate_left 1
 ·have h:¬ x.c=y.c:=by simpa using h
  conv=>whnf
  exact bpf fun e=>h (by rw[e])
 have e1:x.c=y.c:=by simpa using h
 conv=>whnf
 refine ocase (sQ x.tr y.tr hx.tr) (fun e2=>?_) (fun h=>?_)
 rotate_left 1
 ·conv=>whnf
  exact bpf fun e=>h (by rw[e])
 conv=>whnf
 refine ocase (oF x.tk y.tk hx.tk) (fun e3=>?_) (fun h=>?_)
 rotate_left 1
 ·conv=>whnf
  exact bpf fun e=>h (by rw[e])
 conv=>whnf
 refine ocase (eU x.s y.s hx.s h1 h2) (fun e4=>?_) (fun h=>?_)
 rotate_left 1
 ·conv=>whnf
  exact bpf fun e=>h (by rw[e])
 conv=>whnf
 refine bpt ?_
 cases x;cases y
 simp only at e1 e2 e3 e4
 subst e1 e2 e3 e4
 rfl
end Ai
namespace Ai
set_option maxRecDepth 100000
open Go Go.Proofs
theorem l4Is_ok (p:ProgL) (hp:p.wf) (hg:p.goodS) (hv:p.flt) (hc:p.cn) (x:RunT) (hx:x.fit) (hf:x.s.cf) :
  CallsTo EE 73 [agg (encProg p),agg (encRT x)] (·=bp (IsRn p x)):=by
 refine callsTo_of_AW (fn:=Tryz.f73) Tryz.func73 rfl (by kernel_rfl) rfl ?_
 conv=>whnf
 refine⟨by kernel_rfl,?_⟩
 conv=>whnf
 refine kbi (fun h=>?_) (fun h=>?_)
 rotate_left 1
 ·have h:¬ x.tr.length≤200:=by simp at h;omega
  conv=>whnf
  exact bpf fun e=>h e.2.1
 have htr:x.tr.length≤200:=by simp at h;omega
 conv=>whnf
 refine qcase (l4Picks_ok x.tk hx.tk) (fun hpk=>?_) (fun hpk=>?_)
 rotate_left 1
 ·conv=>whnf
  exact bpf fun e=>hpk e.2.2.1
 have hpk:PkRn x:=hpk
 obtain⟨c1,c2⟩:=cf_run hg hv hc x hpk
 have hrun:=l4Run_of p hp hg x.tk x.tk.length (fun i hi=>(hpk.2 i hi).1) hx.tk ⟨by omega,by have:=hpk.1;omega⟩
 have e0:((x.tk.map encInt).length:Int)=(x.tk.length:Int):=by simp
 rw[← e0] at hrun
 have hsame:=j1 _ x c2 c1 hf
 rw[← e0] at hsame
 conv=>whnf
 refine⟨_,hrun,?_⟩
 conv=>whnf
 refine qcase hsame (fun h=>?_) (fun h=>?_)
 all_goals rw[e0] at h
 ·conv=>whnf
  exact bpt ⟨hg,htr,hpk,h⟩
 ·conv=>whnf
  exact bpf fun e=>h e.2.2.2
end Ai
namespace Ai
set_option maxRecDepth 100000
open Go Go.Proofs Cyc
theorem cycleI_own (edges:List (Nat × Nat)) (hl:edges.length≤5) (he:∀ e∈edges,e.1<100∧e.2<100) (hr:∀ n,n<100→(jD n edges 7 0 (bs0 n)).isSome=true) :
  CallsTo EE 78 [sl (edges.map uC)] (·=.ownF 1 [.uq 3 1 ((sD edges).map xM),bv (!(sD edges).isEmpty)]):=by
 refine callsTo_of_AW (fn:=Tryz.f78) Tryz.func78 rfl (by kernel_rfl) rfl ?_
 conv=>whnf
 refine yE (fun n:Nat=>[(0,sl (edges.map uC)),(12,i64 n)]) (fun n=>[]) (fun n=>100 - n) (fun n=>n≤100∧∀ k,k<n→fW edges k=some []) 0
  Weak.refl ⟨rfl,rfl,trivial⟩ trivial ⟨Nat.zero_le _,fun k hk=>by omega⟩ ?_
 rintro n τ H ⟨hn,hno⟩
 conv=>whnf
 refine kbi (fun h=>?_) (fun h=>?_)
 ·have h:n<100:=by
   have:=of_decide_eq_true h
   omega
  obtain⟨fin,hfin⟩:=Option.isSome_iff_exists.1 (hr n h)
  have hlen:=z5 (fun e h=>(he e h).1) 7 0 0 (bs0 n) fin (bs0_ok n) hfin
  have hcy:fW edges n=if fin.out.getD n 0=0 then some [] else some (y7 edges fin.out n (fin.out.getD n 0 - 1) [n] n):=by
   unfold fW;rw[hfin]
  conv=>whnf
  refine⟨_,d9 edges n hl (fun e h=>(he e h).1) fin hfin,?_⟩
  rintro r rfl
  obtain⟨out,queue,far⟩:=fin
  have hlen:out.length=100:=hlen
  obtain⟨g,hg⟩:=range_form hlen
  subst hg
  conv=>whnf
  have hnl:n<((List.range 100).map g).length:=by simp;omega
  refine⟨⟨by omega,by show(n:Int)<100;omega⟩,?_⟩
  conv=>whnf
  split
  rotate_left 1
  ·rename_i hld
   exact absurd (hld.symm.trans (lD (out:=(List.range 100).map g) (k:=n) rfl rfl hnl)) (by simp)
  rename_i cs hld
  obtain rfl:=Option.some.inj (hld.symm.trans (lD (out:=(List.range 100).map g) (k:=n) rfl rfl hnl))
  clear hld
  have hcy:fW edges n=if ((List.range 100).map g).getD n 0=0 then some [] else some (y7 edges ((List.range 100).map g) n (((List.range 100).map g).getD n 0 - 1) [n] n):=hcy
  generalize hfn:((List.range 100).map g).getD n 0=fn at *
  conv=>whnf
  refine kbi (fun h0=>?_) (fun h0=>?_)
  ·have h0:fn=0:=by
    have h1:((fn:Int)==0)=true:=h0
    rw[beq_iff_eq] at h1
    omega
   rw[if_pos h0] at hcy
   conv=>whnf
   refine⟨n+1,⟨by omega,fun k hk=>?_⟩,by show 100 - (n+1)<100 - n;omega,⟨rfl,?_,trivial⟩,trivial⟩
   ·by_cases hkn:k=n
    ·rw[hkn];exact hcy
    ·exact hno k (by omega)
   ·show AV.d (.int .i64 (IntKind.i64.wrap ((n:Int)+1)))=i64 ((n+1:Nat):Int)
    rw[zF (by omega) (by omega)]
    rfl
  have h0:fn≠0:=by
   intro e
   subst e
   exact h0 rfl
  rw[if_neg h0] at hcy
  have hfb:fn≤35:=by
   have:=z4 hl (fun e h=>(he e h).1) 7 0 0 (bs0 n) _ (bs0_ok n) (by intro x hx;simp[bs0] at hx;omega) hfin fn (by
    rw[← hfn,List.getD_eq_getElem?_getD,List.getElem?_eq_getElem hnl]
    exact List.getElem_mem hnl)
   omega
  conv=>whnf
  refine⟨⟨by omega,by show(n:Int)<100;omega⟩,?_⟩
  conv=>whnf
  split
  rotate_left 1
  ·rename_i hld
   exact absurd (hld.symm.trans (lD (out:=(List.range 100).map g) (k:=n) rfl rfl hnl)) (by simp)
  rename_i cs hld
  obtain rfl:=Option.some.inj (hld.symm.trans (lD (out:=(List.range 100).map g) (k:=n) rfl rfl hnl))
  clear hld
  rw[hfn]
  conv=>whnf
  have ew:IntKind.i64.wrap ((fn:Int) - 1)=((fn - 1:Nat):Int):=by rw[zF (by omega) (by omega)];omega
  refine yE (fun y:Nat × List Nat × Nat=>[(0,sl (edges.map uC)),(4,i64 n),(5,.ptr (.n 5) 0),(6,.ref (.n 23) 0 y.2.1.length),(7,i64 y.2.2),(8,i64 y.1),(12,i64 n)])
   (fun y=>[(.n 5,.vs 193 ((arr ((List.range 100).map g)).map .d)),(.n 23,.ds 3 1 (y.2.1.map xM))]) (fun y=>y.1)
   (fun y=>y7 edges ((List.range 100).map g) n y.1 y.2.1 y.2.2=y7 edges ((List.range 100).map g) n (fn - 1) [n] n∧y.1+y.2.1.length=fn∧y.2.1.length≥1) (fn - 1,[n],n)
   Weak.refl ?_ ?_ ⟨rfl,by show fn - 1+1=fn;omega,Nat.le_refl _⟩ ?_
  ·refine⟨rfl,rfl,rfl,rfl,rfl,?_,rfl,trivial⟩
   show AV.d (.int .i64 (IntKind.i64.wrap ((fn:Int) - 1)))=i64 ((fn - 1:Nat):Int)
   rw[ew]
  ·exact⟨rfl,rfl,trivial⟩
  rintro⟨left,o,a⟩ τ2 H2 ⟨hw,hlo,ho1⟩
  have hw:y7 edges ((List.range 100).map g) n left o a=y7 edges ((List.range 100).map g) n (fn - 1) [n] n:=hw
  have hlo:left+o.length=fn:=hlo
  conv=>whnf
  refine kbi (fun h5=>?_) (fun h5=>?_)
  ·have h5:0<left:=by
    have:=of_decide_eq_true h5
    omega
   obtain⟨l,rfl⟩:∃ l,left=l+1:=⟨left - 1,by omega⟩
   conv=>whnf
   refine yE (fun z:Nat × Nat=>[(0,sl (edges.map uC)),(4,i64 n),(5,.ptr (.n 5) 0),(6,.ref (.n 23) 0 o.length),(7,i64 a),(8,i64 (l+1:Nat)),(9,i64 z.2),(12,i64 n),(33,sl (edges.map uC)),(34,i64 (edges.map uC).length),(35,i64 z.1)])
    (fun z=>[(.n 5,.vs 193 ((arr ((List.range 100).map g)).map .d)),(.n 23,.ds 3 1 (o.map xM))]) (fun z=>edges.length - z.1)
    (fun z=>z.1≤edges.length∧z.2=(edges.take z.1).foldl (fun nx e=>if (e.1==a&&e.2 != n&&((List.range 100).map g).getD e.2 0==l+1)=true then min nx e.2 else nx) 100) (0,100)
    Weak.refl ⟨rfl,rfl,rfl,rfl,rfl,rfl,rfl,rfl,rfl,rfl,rfl,trivial⟩ ⟨rfl,rfl,trivial⟩ ⟨Nat.zero_le _,rfl⟩ ?_
   rintro⟨j,nx⟩ τ3 H3 ⟨hj,hnx⟩
   have hj:j≤edges.length:=hj
   have hnx:nx=(edges.take j).foldl (fun nx e=>if (e.1==a&&e.2 != n&&((List.range 100).map g).getD e.2 0==l+1)=true then min nx e.2 else nx) 100:=hnx
   conv=>whnf
   refine kbi (fun h6=>?_) (fun h6=>?_)
   ·have hje:j<edges.length:=by simpa using h6
    obtain⟨he1,he2⟩:=he _ (List.getElem_mem hje)
    have hnext:(edges.take (j+1)).foldl (fun nx e=>if (e.1==a&&e.2 != n&&((List.range 100).map g).getD e.2 0==l+1)=true then min nx e.2 else nx) 100=if (edges[j].1==a&&edges[j].2 != n&&((List.range 100).map g).getD edges[j].2 0==l+1)=true then min nx edges[j].2 else nx:=by
     rw[List.take_succ_eq_append_getElem hje,List.foldl_append,← hnx];rfl
    conv=>whnf
    refine⟨uC edges[j],⟨by omega,by simp[hje],rfl⟩,?_⟩
    conv=>whnf
    refine⟨[di edges[j].1],⟨by decide,rfl,rfl⟩,?_⟩
    conv=>whnf
    refine kbi (fun h7=>?_) (fun h7=>?_)
    ·have h7:edges[j].1=a:=by
      have h8:((edges[j].1:Int)==(a:Int))=true:=h7
      rw[beq_iff_eq] at h8
      omega
     conv=>whnf
     refine⟨[di edges[j].2],⟨by decide,rfl,rfl⟩,?_⟩
     conv=>whnf
     refine kbi (fun h9=>?_) (fun h9=>?_)
     ·have h9:edges[j].2≠n:=by
       have h8:((edges[j].2:Int) != (n:Int))=true:=h9
       rw[bne_iff_ne] at h8
       omega
      conv=>whnf
      refine⟨[di edges[j].2],⟨by decide,rfl,rfl⟩,?_⟩
      conv=>whnf
      have he2l:edges[j].2<((List.range 100).map g).length:=by simp;omega
      refine⟨⟨by omega,by show(edges[j].2:Int)<100;omega⟩,?_⟩
      conv=>whnf
      split
      rotate_left 1
      ·rename_i hld
       exact absurd (hld.symm.trans (lD (out:=(List.range 100).map g) (k:=edges[j].2) rfl rfl he2l)) (by simp)
      rename_i cs hld
      obtain rfl:=Option.some.inj (hld.symm.trans (lD (out:=(List.range 100).map g) (k:=edges[j].2) rfl rfl he2l))
      clear hld
      conv=>whnf
      refine kbi (fun h10=>?_) (fun h10=>?_)
      ·have h10:((List.range 100).map g).getD edges[j].2 0=l+1:=by
        have h8:(((((List.range 100).map g).getD edges[j].2 0:Nat):Int)==((l+1:Nat):Int))=true:=h10
        rw[beq_iff_eq] at h8
        omega
       conv=>whnf
       refine⟨[di edges[j].2],⟨by decide,rfl,rfl⟩,?_⟩
       conv=>whnf
       refine⟨(j+1,min nx edges[j].2),⟨by show j+1≤edges.length;omega,by rw[hnext,if_pos (by simp only[Bool.and_eq_true,beq_iff_eq,bne_iff_ne];exact⟨⟨h7,h9⟩,h10⟩)]⟩,by show edges.length - (j+1)<edges.length - j;omega,⟨rfl,rfl,rfl,rfl,rfl,rfl,?_,rfl,rfl,rfl,?_,trivial⟩,⟨rfl,rfl,trivial⟩⟩
       ·show AV.d (.int .i64 (if (edges[j].2:Int)<(nx:Int) then (edges[j].2:Int) else (nx:Int)))=i64 ((min nx edges[j].2:Nat):Int)
        by_cases hlt:edges[j].2<nx
        ·rw[if_pos (by omega),Nat.min_eq_right (by omega)]
        ·rw[if_neg (by omega),Nat.min_eq_left (by omega)]
       ·show AV.d (.int .i64 (IntKind.i64.wrap ((j:Int)+1)))=i64 ((j+1:Nat):Int)
        rw[zF (by omega) (by omega)]
        rfl
      ·have h10:((List.range 100).map g).getD edges[j].2 0≠l+1:=by
        intro e
        apply h10
        show(((((List.range 100).map g).getD edges[j].2 0:Nat):Int)==((l+1:Nat):Int))=true
        rw[beq_iff_eq,e]
       conv=>whnf
       refine⟨(j+1,nx),⟨by show j+1≤edges.length;omega,by rw[hnext];rw[if_neg (by simp only[Bool.and_eq_true,beq_iff_eq,bne_iff_ne];rintro⟨⟨q1,q2⟩,q3⟩;exact h10 q3)]⟩,by show edges.length - (j+1)<edges.length - j;omega,⟨rfl,rfl,rfl,rfl,rfl,rfl,rfl,rfl,rfl,rfl,?_,trivial⟩,⟨rfl,rfl,trivial⟩⟩
       show AV.d (.int .i64 (IntKind.i64.wrap ((j:Int)+1)))=i64 ((j+1:Nat):Int)
       rw[zF (by omega) (by omega)]
       rfl
     ·have h9:edges[j].2=n:=by
       have h8:¬ ((edges[j].2:Int) != (n:Int))=true:=h9
       rw[bne_iff_ne,ne_eq,Classical.not_not] at h8
       omega
      conv=>whnf
      refine⟨(j+1,nx),⟨by show j+1≤edges.length;omega,by rw[hnext];rw[if_neg (by simp only[Bool.and_eq_true,beq_iff_eq,bne_iff_ne];rintro⟨⟨q1,q2⟩,q3⟩;exact q2 h9)]⟩,by show edges.length - (j+1)<edges.length - j;omega,⟨rfl,rfl,rfl,rfl,rfl,rfl,rfl,rfl,rfl,rfl,?_,trivial⟩,⟨rfl,rfl,trivial⟩⟩
      show AV.d (.int .i64 (IntKind.i64.wrap ((j:Int)+1)))=i64 ((j+1:Nat):Int)
      rw[zF (by omega) (by omega)]
      rfl
    ·have h7:edges[j].1≠a:=by
      intro e
      apply h7
      show((edges[j].1:Int)==(a:Int))=true
      rw[beq_iff_eq,e]
     conv=>whnf
     refine⟨(j+1,nx),⟨by show j+1≤edges.length;omega,by rw[hnext];rw[if_neg (by simp only[Bool.and_eq_true,beq_iff_eq,bne_iff_ne];rintro⟨⟨q1,q2⟩,q3⟩;exact h7 q1)]⟩,by show edges.length - (j+1)<edges.length - j;omega,⟨rfl,rfl,rfl,rfl,rfl,rfl,rfl,rfl,rfl,rfl,?_,trivial⟩,⟨rfl,rfl,trivial⟩⟩
     show AV.d (.int .i64 (IntKind.i64.wrap ((j:Int)+1)))=i64 ((j+1:Nat):Int)
     rw[zF (by omega) (by omega)]
     rfl
   ·have hje:edges.length≤j:=by simpa using h6
    have hjj:j=edges.length:=by omega
    rw[hjj,List.take_length] at hnx
    have hnx:nx=nextI edges ((List.range 100).map g) n a (l+1):=hnx
    conv=>whnf
    refine⟨⟨rfl,by show(o.length+1)*8≤_;omega,by show o.length+1≤_;omega⟩,?_⟩
    conv=>whnf
    refine⟨(l,o++[nx],nx),⟨by show y7 edges ((List.range 100).map g) n l (o++[nx]) nx=_;rw[← hw,hnx];rfl,by show l+(o++[nx]).length=fn;simp;omega,by show(o++[nx]).length≥1;simp⟩,by show l<l+1;omega,⟨rfl,rfl,rfl,?_,rfl,?_,rfl,trivial⟩,⟨rfl,?_,trivial⟩⟩
    ·show AV.ref (.n 23) 0 (o.length+1)=.ref (.n 23) 0 (o++[nx]).length
     rw[List.length_append];rfl
    ·show AV.d (.int .i64 (IntKind.i64.wrap (((l+1:Nat):Int) - 1)))=i64 ((l:Nat):Int)
     rw[zF (by omega) (by omega)]
     congr 2
     omega
    ·show some (Ob.ds 3 1 ((o.map xM).take o.length++[xM nx]))=some (Ob.ds 3 1 ((o++[nx]).map xM))
     rw[List.take_of_length_le (by simp)]
     simp
  ·have h5:left=0:=by
    have:¬ (left:Int) > 0:=fun e=>h5 (decide_eq_true e)
    omega
   subst h5
   conv=>whnf
   have hoe:fW edges n=some o:=by rw[hcy,← hw];rfl
   rw[cycOf_at h hno hoe (by have:1≤o.length:=ho1;intro e;rw[e] at this;simp at this)]
   have ho1:1≤o.length:=ho1
   refine .inr ⟨1,[.uq 3 1 (o.map xM),bv true],_,[.ref (.n 900) 0 o.length,bv true],xT 23 900,?_,by simp,?_,?_,uZ ⟨?_,trivial,trivial⟩,?_⟩
   ·rfl
   ·show AV.tup [.ref (.n 900) 0 (o.map xM).length,bv true]=_
    rw[List.length_map]
   ·intro v hv
    simp only[List.mem_cons,List.not_mem_nil,or_false] at hv
    rcases hv with rfl|rfl <;> trivial
   ·rfl
   ·cases o with
    |nil=>simp at ho1
    |cons x xs=>rfl
 ·have h:n=100:=by
   have:¬ (n:Int)<100:=fun e=>h (decide_eq_true e)
   omega
  subst h
  have h0:sD edges=[]:=by
   unfold sD
   rw[List.findSome?_eq_none_iff.2 fun k hk=>by rw[hno k (by simpa using hk)]]
   rfl
  conv=>whnf
  rw[h0]
  refine .inr ⟨1,[.uq 3 1 [],bv false],_,[.ref (.n 900) 0 0,bv false],gB 2 (.n 900) 3 1 rfl,rfl,by simp,rfl,?_,uZ ⟨rfl,trivial,trivial⟩,rfl⟩
  intro v hv
  simp only[List.mem_cons,List.not_mem_nil,or_false] at hv
  rcases hv with rfl|rfl <;> trivial
theorem cycleG_own (edges:List (Nat × Nat)) (hG:Graph edges):CallsTo EE 78 [sl (edges.map uC)] (·=.ownF 1 [.uq 3 1 ((wE edges).map xM),bv (!(wE edges).isEmpty)]):=by
 rw[← cyc_same hG]
 exact cycleI_own edges hG.len (fun e he=>by have:=hG.small e he;omega) fun n _=>hG.run n
end Ai
namespace Ai
set_option maxRecDepth 100000
open Go Go.Proofs
open Classical in
/-- the answer of DeadIn -/
noncomputable def wI (p:ProgL) (x:RunT):List Int × Bool:=if IsRn p x∧x.c=3∧kG p x.s≠[] then (kG p x.s,true) else ([],false)
theorem cQ {p:ProgL} (hv:p.flt) {x:RunT} (h:IsRn p x):AInv p x.s:=by
 have:=(iI h.1 hv x.tk x.tk.length (fun i hi=>(h.2.2.1.2 i hi).1) (by omega)).inv
 rwa [h.2.2.2] at this
theorem DeadIn_ok (p:ProgL) (hp:p.wf) (hs:p.rs.length≤1048576∧∀ x∈p.rs,x.length≤1048576) (hv:p.flt) (hc:p.cn) (x:RunT) (hx:x.fit) (hf:x.s.cf) :
  CallsTo EE 25 [agg (encProg p),agg (encRT x)] (·=.tup [sl ((wI p x).1.map encInt),bv (wI p x).2]):=by
 unfold wI
 refine callsTo_of_AW (fn:=Tryz.f25) Tryz.func25 rfl (by kernel_rfl) rfl ?_
 conv=>whnf
 refine ocase (nR p hs hv) (fun hg=>?_) (fun hg=>?_)
 rotate_left 1
 ·rw[if_neg fun e=>hg e.1.1]
  conv=>whnf
  refine .inl ?_
  conv=>whnf
  rfl
 conv=>whnf
 refine ocase (l4Is_ok p hp hg hv hc x hx hf) (fun hi=>?_) (fun hi=>?_)
 rotate_left 1
 ·rw[if_neg fun e=>hi e.1]
  conv=>whnf
  refine .inl ?_
  conv=>whnf
  rfl
 conv=>whnf
 refine kbi (fun h=>?_) (fun h=>?_)
 ·have h:¬ x.c=3:=by simpa using h
  rw[if_neg fun e=>h e.2.1]
  conv=>whnf
  refine .inl ?_
  conv=>whnf
  rfl
 have h3:x.c=3:=by simpa using h
 have hd:=l4Dead_ok p hp hg hv x.c x.tr x.tk x.s (cQ hv hi)
 conv=>whnf
 refine⟨_,hd,?_⟩
 rintro r rfl
 conv=>whnf
 refine kbi (fun h=>?_) (fun h=>?_)
 ·have h:kG p x.s=[]:=by simpa using h
  rw[if_neg fun e=>e.2.2 h]
  conv=>whnf
  refine .inl ?_
  conv=>whnf
  rfl
 have h4:¬ kG p x.s=[]:=by simpa using h
 rw[if_pos ⟨hi,h3,h4⟩]
 conv=>whnf
 refine⟨_,hd,?_⟩
 rintro r rfl
 conv=>whnf
theorem aL (p:ProgL) (hp:p.wf) (hs:p.rs.length≤1048576∧∀ x∈p.rs,x.length≤1048576) (hv:p.flt) (hc:p.cn) (x:RunT) (hx:x.fit) (hf:x.s.cf) :
  CallsTo EE 27 [agg (encProg p),agg (encRT x)] (·=.ownF 1 [.uq 3 1 ((wI p x).1.map encInt),bv (wI p x).2]):=by
 classical
 refine callsTo_of_AW (fn:=Tryz.f27) Tryz.func27 rfl (by kernel_rfl) rfl ?_
 conv=>whnf
 refine ocase (isRunI_ok p hp hs hv hc x hx hf) (fun hi=>?_) (fun hi=>?_)
 rotate_left 1
 ·rw[show wI p x=([],false) from if_neg fun e=>hi e.1]
  conv=>whnf
  refine .inr ⟨1,[.uq 3 1 [],bv false],_,[.ref (.n 900) 0 0,bv false],gB 4 (.n 900) 3 1 rfl,rfl,by simp,rfl,?_,uZ ⟨rfl,trivial,trivial⟩,rfl⟩
  intro v hv
  simp only[List.mem_cons,List.not_mem_nil,or_false] at hv
  rcases hv with rfl|rfl <;> trivial
 conv=>whnf
 refine kbi (fun h=>?_) (fun h=>?_)
 ·have h:¬ x.c=3:=by simpa using h
  rw[show wI p x=([],false) from if_neg fun e=>h e.2.1]
  conv=>whnf
  refine .inr ⟨1,[.uq 3 1 [],bv false],_,[.ref (.n 900) 0 0,bv false],gB 4 (.n 900) 3 1 rfl,rfl,by simp,rfl,?_,uZ ⟨rfl,trivial,trivial⟩,rfl⟩
  intro v hv
  simp only[List.mem_cons,List.not_mem_nil,or_false] at hv
  rcases hv with rfl|rfl <;> trivial
 have h3:x.c=3:=by simpa using h
 have hiv:=cQ hv hi
 conv=>whnf
 refine .inr (.inr (.inr (.inl ⟨_,79,[],weak_frz (isK (.n 3)),rfl,999,99,fun _=>false,_,io_of_calls (y8 r5 p x.s hp (lW hi.1 hiv) (z8 hi.1 hiv)),rfl,?_⟩)))
 rintro r H1 ⟨⟨r0,rfl,hr⟩,rfl⟩
 have hr:r=sl ((bV p x.s).map pX):=by
  rcases hr with hr|hr
  ·cases hr
  ·exact(Option.some.inj hr).symm
 subst hr
 refine⟨fun _ _=>rfl,fun n hn=>(by cases hn),?_⟩
 conv=>whnf
 rw[oX]
 refine⟨_,cycleG_own (vW p x.s) (lX hiv),?_⟩
 rintro r rfl
 have hR:wI p x=(kG p x.s,!(wE (vW p x.s)).isEmpty):=by
  by_cases h4:kG p x.s=[]
  ·have h5:wE (vW p x.s)=[]:=by simpa[kG] using h4
   rw[show wI p x=([],false) from if_neg fun e=>e.2.2 h4,h4,h5];rfl
  ·have h5:(!(wE (vW p x.s)).isEmpty)=true:=by
    cases h:wE (vW p x.s) with
    |nil=>exact absurd (by simp[kG,h]) h4
    |cons a b=>rfl
   rw[show wI p x=(kG p x.s,true) from if_pos ⟨hi,h3,h4⟩,h5]
 rw[hR,← dead_enc]
 conv=>whnf
 refine .inr ⟨1,[.uq 3 1 ((wE (vW p x.s)).map xM),bv (!(wE (vW p x.s)).isEmpty)],_,[.ref (.n 900) 0 ((wE (vW p x.s)).map xM).length,bv (!(wE (vW p x.s)).isEmpty)],Weak.refl,rfl,by simp,rfl,?_,uZ ⟨rfl,trivial,trivial⟩,rfl⟩
 intro v hv
 simp only[List.mem_cons,List.not_mem_nil,or_false] at hv
 rcases hv with rfl|rfl <;> trivial
end Ai
namespace Ai
set_option maxRecDepth 100000
open Go Go.Proofs Cyc
noncomputable def pY (p:ProgL) (r:RunT) (k:Nat):Nat:=(zA p r.s).getD k 0
noncomputable def runBy (p:ProgL) (r:RunT) (k:Nat):RunT:=⟨0,r.tr++[(zR p r.s (pY p r k)).2],r.tk++[(k:Int)],(zR p r.s (pY p r k)).1⟩
def leaf (p:ProgL) (b:Int) (c:Int) (r:RunT):RunT:=⟨c,r.tr,r.tk,r.s⟩
noncomputable def sN (p:ProgL) (tr:List Ev):Nat→StL
 | 0=>wG p
 |i+1=>(zR p (sN p tr i) (tr.getD i pW).th.toNat).1
theorem tK (p:ProgL) (tr:List Ev) (e:Ev):∀ i,i≤tr.length→sN p (tr++[e]) i=sN p tr i
 | 0,_=>rfl
 |i+1,h=>by
  rw[sN,sN,tK p tr e i (by omega)]
  have:(tr++[e]).getD i pW=tr.getD i pW:=by
   rw[List.getD_eq_getElem?_getD,List.getD_eq_getElem?_getD,List.getElem?_append_left (by omega)]
  rw[this]
structure XR (p:ProgL) (b:Int) (r:RunT):Prop where
 inv:AInv p r.s
 tr:TrOK r.s r.tr
 len:r.tr.length=r.tk.length
 le:(r.tr.length:Int)≤b
 tk:∀ i∈r.tk,0≤i∧i<5
 at_:sN p r.tr r.tr.length=r.s
 en:∀ i,i<r.tr.length→(r.tr.getD i pW).th.toNat∈zA p (sN p r.tr i)∧0≤(r.tr.getD i pW).th
 run:∀ picks,r.tk <+: picks→hJ p picks b=sO p picks b (b.toNat+1 - r.tr.length) r.s r.tr r.tk
structure XEnd (p:ProgL) (b:Int) (x:RunT):Prop where
 fin:REnd p b x
 en:∀ i,i<x.tr.length→(x.tr.getD i pW).th.toNat∈zA p (sN p x.tr i)∧0≤(x.tr.getD i pW).th
 run:hJ p x.tk b=x
theorem XR.new {p:ProgL} (hg:p.goodS) {b:Int} (hb:0≤b):XR p b ⟨0,[],[],wG p⟩ :=
 ⟨aR hg,⟨fun e he=>(by cases he),fun h=>absurd rfl h⟩,rfl,hb,fun i hi=>(by cases hi),rfl,fun i hi=>(by cases hi),fun picks h=>rfl⟩
theorem XR.mem {p:ProgL} {b:Int} {r:RunT} {k:Nat} (hk:k<(zA p r.s).length):pY p r k∈zA p r.s:=by
 unfold pY
 rw[List.getD_eq_getElem?_getD,List.getElem?_eq_getElem hk];exact List.getElem_mem hk
theorem XR.step {p:ProgL} (hg:p.goodS) (hv:p.flt) {b:Int} {r:RunT} (h:XR p b r) (hc:¬ 0<yU p r.s r.tr.length b) {k:Nat} (hk:k<(zA p r.s).length):XR p b (runBy p r k):=by
 have hm:=XR.mem (b:=b) hk
 have h5:(zA p r.s).length≤5:=Nat.le_trans (jU) h.inv.si.len
 have hlb:=(en_ne hc).2
 have hle:=h.le
 have hth:(zR p r.s (pY p r k)).2.th=(pY p r k:Nat):=(step_ev p r.s _).1
 refine⟨rB hg hv hm h.inv,tr_step hg hm h.inv h.tr,by simp[runBy,h.len],?_,fun i hi=>?_,?_,fun i hi=>?_,fun picks hp=>?_⟩
 ·show((r.tr++[_]).length:Int)≤b
  simp;omega
 ·rcases List.mem_append.1 hi with e|e
  ·exact h.tk i e
  ·simp only[List.mem_cons,List.not_mem_nil,or_false] at e
   subst e;omega
 ·show sN p (r.tr++[_]) (r.tr++[_]).length=(zR p r.s _).1
  rw[List.length_append]
  show sN p (r.tr++[_]) (r.tr.length+1)=_
  rw[sN,tK _ _ _ _ (Nat.le_refl _),h.at_]
  have:(r.tr++[(zR p r.s (pY p r k)).2]).getD r.tr.length pW=(zR p r.s (pY p r k)).2:=by simp[List.getD_eq_getElem?_getD]
  rw[this,hth]
  rfl
 ·have hi:i<(r.tr++[(zR p r.s (pY p r k)).2]).length:=hi
  show((r.tr++[_]).getD i pW).th.toNat∈zA p (sN p (r.tr++[_]) i)∧0≤((r.tr++[_]).getD i pW).th
  simp only[List.length_append,List.length_cons,List.length_nil] at hi
  rw[tK _ _ _ _ (by omega)]
  by_cases he:i=r.tr.length
  ·subst he
   have:(r.tr++[(zR p r.s (pY p r k)).2]).getD r.tr.length pW=(zR p r.s (pY p r k)).2:=by simp[List.getD_eq_getElem?_getD]
   rw[this,hth,h.at_]
   exact⟨by simpa using hm,by omega⟩
  ·have:(r.tr++[(zR p r.s (pY p r k)).2]).getD i pW=r.tr.getD i pW:=by
    rw[List.getD_eq_getElem?_getD,List.getD_eq_getElem?_getD,List.getElem?_append_left (by omega)]
   rw[this]
   exact h.en i (by omega)
 ·have hp:r.tk++[(k:Int)] <+: picks:=hp
  obtain⟨more,rfl⟩:=hp
  rw[h.run _ ⟨[(k:Int)]++more,by simp⟩]
  have hn:b.toNat+1 - r.tr.length=(b.toNat - r.tr.length)+1:=by omega
  rw[hn,sO,if_neg hc]
  have hpk:wR (r.tk++[(k:Int)]++more) r.tk (zA p r.s).length=(k:Int):=by
   unfold wR
   rw[if_pos (by simp)]
   have:(r.tk++[(k:Int)]++more).getD r.tk.length 0=(k:Int):=by simp[List.getD_eq_getElem?_getD]
   rw[this]
   exact Int.tmod_eq_of_lt (by omega) (by omega)
  simp only[hpk]
  show _=sO p _ b (b.toNat+1 - (r.tr++[_]).length) _ _ _
  rw[show b.toNat+1 - (r.tr++[(zR p r.s (pY p r k)).2]).length=b.toNat - r.tr.length by simp]
  rfl
theorem XR.leaf {p:ProgL} {b:Int} {r:RunT} (h:XR p b r) (hc:0<yU p r.s r.tr.length b):XEnd p b (leaf p b (yU p r.s r.tr.length b) r):=by
 refine⟨⟨h.inv,h.tr,rfl,hc,h.len,h.le,h.tk⟩,h.en,?_⟩
 show hJ p r.tk b=_
 rw[h.run _ (List.prefix_rfl)]
 have hle:=h.le
 have hn:b.toNat+1 - r.tr.length=(b.toNat - r.tr.length)+1:=by omega
 rw[hn,sO,if_pos hc]
 rfl
end Ai
namespace Ai
set_option maxRecDepth 100000
open Go Go.Proofs
def i6 (p:ProgL):List AV:=[i64 p.cells,i64 p.locks,i64 p.conds,.uqd 157 1 0 183 4 (p.rs.map fun _=>[.nil]) (zU p)]
theorem pH (o:Nat) (p:ProgL):ownRows o 0 (p.rs.map fun _=>[.nil]) (zU p)=(List.range p.rs.length).map fun j=>[.ref (.s o j) 0 ((zU p).getD j []).length]:=by
 unfold ownRows
 apply List.ext_getElem?
 intro j
 by_cases h:j<p.rs.length
 ·simp[h]
 ·rw[List.getElem?_eq_none (by simp;omega),List.getElem?_eq_none (by simp;omega)]
theorem i5 {o o':Nat} {p:ProgL} (f:List AV→List AV) (h:∀ j n,f [.ref (.s o j) 0 n]=[.ref (.s o' j) 0 n]):(ownRows o 0 (p.rs.map fun _=>[.nil]) (zU p)).map f=ownRows o' 0 (p.rs.map fun _=>[.nil]) (zU p):=by
 rw[pH,pH,List.map_map]
 exact List.map_congr_left fun j _=>h j _
theorem ownRows_M (p:ProgL):ownRows 903 0 (p.rs.map fun _=>[.nil]) (zU p)=wA (zU p) 0:=by
 rw[pH]
 unfold wA
 rw[show(zU p).length=p.rs.length by simp[zU]]
 refine List.map_congr_left fun j _=>?_
 unfold dS
 rw[if_neg (by omega)]
theorem toProg_own (p:ProgL) (h:p.rs.length≤1048576∧∀ x∈p.rs,x.length≤1048576):CallsTo EE 13 [agg (encProg p)] (·=.own (i6 p)):=by
 refine callsTo_of_AW (fn:=Tryz.f13) Tryz.func13 rfl (by kernel_rfl) rfl ?_
 conv=>whnf
 refine⟨_,toOpSS_own _ h.1 h.2,?_⟩
 rintro r rfl
 conv=>whnf
 refine .inr (.inr ⟨i6 p,_,gW shA,rfl,?_,uZ ⟨trivial,trivial,trivial,⟨?_,fun j q hq=>?_⟩,trivial⟩,rfl⟩)
 ·intro v hv
  simp only[i6,List.mem_cons,List.not_mem_nil,or_false] at hv
  rcases hv with rfl|rfl|rfl|rfl
  ·trivial
  ·trivial
  ·trivial
  ·show(p.rs.map _).length=(zU p).length
   simp[zU]
 ·show some (Ob.rs 157 1 ((ownRows 900 0 (p.rs.map fun _=>[.nil]) (zU p)).map (renL shA.f)))=some (Ob.rs 157 1 (ownRows 903 0 (p.rs.map fun _=>[.nil]) (zU p)))
  exact congrArg (fun x=>some (Ob.rs 157 1 x)) (i5 _ fun j n=>rfl)
 ·have hq:(zU p)[j]?=some q:=hq
  have e:ownH [.uqd 157 1 0 183 4 (p.rs.map fun _=>[.nil]) (zU p)] (.s 900 j)=some (.ds 183 4 q):=by
   show((zU p)[j]?).map (Ob.ds 183 4)=_
   rw[hq]
   rfl
  show Option.map (renO shA.f) (match ownH [.uqd 157 1 0 183 4 (p.rs.map fun _=>[.nil]) (zU p)] (.s 900 j) with|some ob=>some ob|none=>_)=_
  rw[e]
  rfl
end Ai
namespace Ai
set_option maxRecDepth 100000
open Go Go.Proofs Cyc
theorem ownPg_fam {p:ProgL} {j:Nat}:ownH (i6 p) (.s 903 j)=qF (zU p) 0 j:=by
 show((zU p)[j]?).map (Ob.ds 183 4)=_
 unfold qF
 rw[if_neg (by omega)]
theorem fz_own {p:ProgL} {S:St} {n:Nat} (h1:S.H (.n 903)=some (.rs 157 1 (wA (zU p) 0))) (h2:∀ j,S.H (.s 903 j)=qF (zU p) 0 j) (hn:n=p.rs.length) :
  FzC S [i64 p.cells,i64 p.locks,i64 p.conds,.dref (.n 903) n] (encProg p):=by
 subst hn
 refine⟨di p.cells,_,rfl,rfl,di p.locks,_,rfl,rfl,di p.conds,_,rfl,rfl,.sl (p.rs.map zV),_,rfl,⟨_,rfl,p6 h1 (by simp) (by simp[wA,zU]) ?_⟩,rfl⟩
 intro j row d hr hd
 have hj:j<p.rs.length:=by
  have:=(List.getElem?_eq_some_iff.1 hd).1
  simpa using this
 have hjs:j<(zU p).length:=by simpa[zU] using hj
 rw[iL hjs] at hr
 rw[List.getElem?_map,List.getElem?_eq_getElem hj] at hd
 simp only[Option.map_some,Option.some.injEq] at hr hd
 subst hr hd
 have hg:(zU p)[j]=p.rs[j].map encOp:=by simp[zU,gL]
 have h3:=h2 j
 unfold qF at h3
 rw[if_neg (by omega),List.getElem?_eq_getElem hjs,hg] at h3
 unfold dS
 rw[if_neg (by omega)]
 simp[fz1s,fz1,h3,List.getD_eq_getElem?_getD,hjs,hg,zV,List.take_of_length_le]
theorem rowsM_ren0 (subs:List (List (List D))) (a b:Nat):(wA subs 0).map (renL (swp (.n a) (.n b)))=wA subs 0:=lL subs fun j=>rfl
theorem tot_size {p:ProgL} (h:p.size≤1048576):tot (zU p) (zU p).length≤1048576:=by
 unfold ProgL.size jK at h
 unfold tot zU
 rw[List.take_length,List.map_map]
 have e:(List.length ∘ gL:List OpL→Nat)=List.length:=by funext r;simp[gL]
 rw[e];omega
theorem ops4 (p:ProgL):∀ q∈zU p,∀ c∈q,c.length=4:=by
 intro q hq c hc
 obtain⟨r,_,rfl⟩:=List.mem_map.1 hq
 obtain⟨y,_,rfl⟩:=List.mem_map.1 hc
 rfl
end Ai
namespace Ai
open Go Go.RowKit
def Snd (E:Env) (N:Nat) (c:Code) (Q:AX→St→Prop) (s:St):Prop:=∀ (A:Fr) (w0:World) (m:Own) (a:Act) (w:World),SRel E N A w0 m s a w→c.wp E.P (vO E N A w0 Q) a w
section
variable {E:Env} {N:Nat} {s:St} {Q:AX→St→Prop}
theorem iF {c:Code} (h:AW E N c Q s):Snd E N c Q s:=fun A w0 m a w hs=>nS c Q hs h
theorem snd_weak {c:Code} {s':St} (hw:Weak E N s s') (h:Snd E N c Q s'):Snd E N c Q s:=fun A w0 m a w hs=>by
 obtain⟨m',h'⟩:=hw A w0 m a w hs
 exact h A w0 m' a w h'
theorem snd_seq {x y:Code} {K:St→Prop} (h:AW E N x (bB K Q) s) (h2:∀ s,K s→Snd E N y Q s):Snd E N (.seq x y) Q s:=fun A w0 m a w hs=>by
 refine wp_seq (wp_mono (nS x _ hs h) fun e a' w' hq=>?_)
 cases e with
 |normal =>
  obtain⟨m',s',hS,hk⟩:=hq
  exact h2 s' hk A w0 m' a' w' hS
 |exit id=>exact hq
 |ret=>exact hq
 |goto l=>exact hq.elim
 |panic ch=>exact hq.elim
 |outgrown=>exact hq.elim
theorem snd_pre {K:St→Prop}:∀ (n:Nat) (c:Code) (s:St),sP E N K Q n c s→(∀ s,K s→Snd E N (dropC n c) Q s)→Snd E N c Q s
 | 0,c,s,h,h2=>by
  have:=h2 s h
  cases c <;> exact this
 |n+1,c,s,h,h2=>by
  cases c with
  |seq x y=>exact snd_seq (K:=sP E N K Q n y) h fun s' hk=>snd_pre n y s' hk h2
  | _=>exact iF h
theorem snd_cut {c:Code} (n:Nat) (C:St→Prop) (h1:∀ K:St→Prop,(∀ s s',Weak E N s s'→C s'→K s)→sP E N K Q n c s) (h2:∀ s,C s→Snd E N (dropC n c) Q s):Snd E N c Q s :=
 snd_pre (K:=fun s=>∃ s',Weak E N s s'∧C s') n c s (h1 _ fun s s' hw hc=>⟨s',hw,hc⟩) fun s ⟨s',hw,hc⟩=>snd_weak hw (h2 s' hc)
end
section
variable {E:Env} {w:World}
theorem d7 {A:Nat→Prop} {f:FuncId} {fn:Func} {c:Code} {as1:List AV} {R:AV→Prop} {vs:Array Value} (hf:E.P.funcs[f]?=some fn) (hb:fn.body=some c) (hN:Nat.ble as1.length fn.ntmps=true)
  (h:Snd E fn.ntmps c (eK E fn R) (St.init as1)) (hI:E.I w) (hr:ARel w A as1 vs) :
  Calls E.P f vs w fun e w'=>∃ v,e=.returned v∧∃ r,R r∧Below w.heap.size w w'∧aZ w w' A r v:=by
 have hN':as1.length≤fn.ntmps:=Nat.le_of_ble_eq_true hN
 have hsz:vs.size≤fn.ntmps:=by rw[← hr.1];exact hN'
 refine calls_of_wp hf hb ?_
 have hS:SRel E fn.ntmps ⟨fun b=>A b∨w.heap.size≤b,fun _=>False,fun _=>none,fun _=>none⟩ w (fun _=>none) (St.init as1) { tmps:=vs++Array.replicate (fn.ntmps - vs.size) undef,defers:=[] } w:=by
  refine⟨by simp;omega,rfl,Below.refl _ _,hI,fun i hi=>?_,fun o ob ho=>by simp[St.init] at ho,fun o o' p p' ho=>by simp[St.init] at ho,fun b hb=>.inl (.inr hb),fun b hb=>hb.elim,fun n hn=>absurd rfl hn⟩
  by_cases hlt:i<as1.length
  ·have h1:as1[i]?=some as1[i]:=List.getElem?_eq_getElem hlt
   have hlv:i<vs.size:=by rw[← hr.1];exact hlt
   have:=hr.2 i as1[i] vs[i] h1 (Array.getElem?_eq_getElem hlv)
   have e1:(St.init as1).τ i=as1[i]:=by simp[St.init,List.getD,h1]
   have e2:(vs++Array.replicate (fn.ntmps - vs.size) undef).getD i undef=vs[i]:=by
    rw[Array.getD_eq_getD_getElem?,Array.getElem?_append_left hlv,Array.getElem?_eq_getElem hlv];rfl
   rw[e1]
   show VRel _ _ _ _ _ ((vs++Array.replicate (fn.ntmps - vs.size) undef).getD i undef)
   rw[e2]
   exact this.lift fun b hb=>⟨hb.1,fun o ho=>by simp[St.init] at ho,.inl hb.2⟩
  ·have e1:(St.init as1).τ i=.junk:=by simp[St.init,List.getD,List.getElem?_eq_none (Nat.le_of_not_lt hlt)]
   rw[e1];exact .junk _
 refine wp_mono (h _ _ _ _ _ hS) fun e a' w' hq=>?_
 cases e with
 |normal =>
  obtain⟨m',s',hS',hk⟩:=hq
  refine⟨hS'.defers,?_⟩
  have fin:(match vB E fn.ntmps s' fn.results.toList with|some r=>kv r R|none=>False)∨wZ E fn.ntmps s' fn.results.toList R∨mM E fn.ntmps s' fn.results.toList R:=by
   have hk2:(match dT E fn.ntmps s' fn.results.toList with
    |some [.agg cs]=>bif zX cs then (match vB E fn.ntmps s' fn.results.toList with|some r=>kv r R|none=>False)∨wZ E fn.ntmps s' fn.results.toList R
      else (match vB E fn.ntmps s' fn.results.toList with|some r=>kv r R|none=>wZ E fn.ntmps s' fn.results.toList R)
    |some (v1::v2::vs)=>bif zX (v1::v2::vs) || kX (v1::v2::vs) then (match vB E fn.ntmps s' fn.results.toList with|some r=>kv r R|none=>wZ E fn.ntmps s' fn.results.toList R)∨mM E fn.ntmps s' fn.results.toList R
      else (match vB E fn.ntmps s' fn.results.toList with|some r=>kv r R|none=>wZ E fn.ntmps s' fn.results.toList R)
    | _=>(match vB E fn.ntmps s' fn.results.toList with|some r=>kv r R|none=>wZ E fn.ntmps s' fn.results.toList R)):=hk
   have both:(match vB E fn.ntmps s' fn.results.toList with|some r=>kv r R|none=>wZ E fn.ntmps s' fn.results.toList R)→(match vB E fn.ntmps s' fn.results.toList with|some r=>kv r R|none=>False)∨wZ E fn.ntmps s' fn.results.toList R∨mM E fn.ntmps s' fn.results.toList R:=by
    intro h
    split at h
    ·exact .inl h
    ·exact .inr (.inl h)
   split at hk2
   ·rename_i cs _
    cases hq:zX cs with
    |true =>
     rw[hq] at hk2
     rcases hk2 with hk2|hk2
     ·exact .inl hk2
     ·exact .inr (.inl hk2)
    |false=>rw[hq] at hk2;exact both hk2
   ·rename_i v1 v2 vs _
    cases hq:zX (v1::v2::vs) || kX (v1::v2::vs) with
    |true =>
     rw[hq] at hk2
     rcases hk2 with hk2|hk2
     ·exact both hk2
     ·exact .inr (.inr hk2)
    |false=>rw[hq] at hk2;exact both hk2
   ·exact both hk2
  rcases fin with hk2|hk2|hk2
  ·split at hk2
   ·rename_i r ho
    rw[yT] at hk2
    obtain⟨v,hv,hrr⟩:=mS hS' (B:=A) (fun b hb=>hb) fn ho
    exact⟨v,hv,v,rfl,r,hk2,hS'.below,hrr⟩
   ·exact hk2.elim
  ·obtain⟨v,r,hv,hR,hrr⟩:=mN hS' (B:=A) (fun b hb=>hb) fn hk2
   exact⟨v,hv,v,rfl,r,hR,hS'.below,hrr⟩
  ·obtain⟨v,r,hv,hR,hrr⟩:=mL hS' (B:=A) (fun b hb=>hb) fn hk2
   exact⟨v,hv,v,rfl,r,hR,hS'.below,hrr⟩
 |ret =>
  obtain⟨m',s',hS',hk⟩:=hq
  refine⟨hS'.defers,?_⟩
  have fin:(match vB E fn.ntmps s' fn.results.toList with|some r=>kv r R|none=>False)∨wZ E fn.ntmps s' fn.results.toList R∨mM E fn.ntmps s' fn.results.toList R:=by
   have hk2:(match dT E fn.ntmps s' fn.results.toList with
    |some [.agg cs]=>bif zX cs then (match vB E fn.ntmps s' fn.results.toList with|some r=>kv r R|none=>False)∨wZ E fn.ntmps s' fn.results.toList R
      else (match vB E fn.ntmps s' fn.results.toList with|some r=>kv r R|none=>wZ E fn.ntmps s' fn.results.toList R)
    |some (v1::v2::vs)=>bif zX (v1::v2::vs) || kX (v1::v2::vs) then (match vB E fn.ntmps s' fn.results.toList with|some r=>kv r R|none=>wZ E fn.ntmps s' fn.results.toList R)∨mM E fn.ntmps s' fn.results.toList R
      else (match vB E fn.ntmps s' fn.results.toList with|some r=>kv r R|none=>wZ E fn.ntmps s' fn.results.toList R)
    | _=>(match vB E fn.ntmps s' fn.results.toList with|some r=>kv r R|none=>wZ E fn.ntmps s' fn.results.toList R)):=hk
   have both:(match vB E fn.ntmps s' fn.results.toList with|some r=>kv r R|none=>wZ E fn.ntmps s' fn.results.toList R)→(match vB E fn.ntmps s' fn.results.toList with|some r=>kv r R|none=>False)∨wZ E fn.ntmps s' fn.results.toList R∨mM E fn.ntmps s' fn.results.toList R:=by
    intro h
    split at h
    ·exact .inl h
    ·exact .inr (.inl h)
   split at hk2
   ·rename_i cs _
    cases hq:zX cs with
    |true =>
     rw[hq] at hk2
     rcases hk2 with hk2|hk2
     ·exact .inl hk2
     ·exact .inr (.inl hk2)
    |false=>rw[hq] at hk2;exact both hk2
   ·rename_i v1 v2 vs _
    cases hq:zX (v1::v2::vs) || kX (v1::v2::vs) with
    |true =>
     rw[hq] at hk2
     rcases hk2 with hk2|hk2
     ·exact both hk2
     ·exact .inr (.inr hk2)
    |false=>rw[hq] at hk2;exact both hk2
   ·exact both hk2
  rcases fin with hk2|hk2|hk2
  ·split at hk2
   ·rename_i r ho
    rw[yT] at hk2
    obtain⟨v,hv,hrr⟩:=mS hS' (B:=A) (fun b hb=>hb) fn ho
    exact⟨v,hv,v,rfl,r,hk2,hS'.below,hrr⟩
   ·exact hk2.elim
  ·obtain⟨v,r,hv,hR,hrr⟩:=mN hS' (B:=A) (fun b hb=>hb) fn hk2
   exact⟨v,hv,v,rfl,r,hR,hS'.below,hrr⟩
  ·obtain⟨v,r,hv,hR,hrr⟩:=mL hS' (B:=A) (fun b hb=>hb) fn hk2
   exact⟨v,hv,v,rfl,r,hR,hS'.below,hrr⟩
 |exit i =>
  obtain⟨m',s',hS',hk⟩:=hq
  exact hk.elim
 |goto l=>exact hq.elim
 |panic ch=>exact hq.elim
 |outgrown=>exact hq.elim
theorem aP {f : FuncId} {fn : Func} {c : Code} {as1 : List AV} {R : AV → Prop} (hf : E.P.funcs[f]? = some fn) (hb : fn.body = some c) (hn : (fn.name == "runtime.NumGoroutine") = false) (hN : Nat.ble as1.length fn.ntmps = true)
  (h:Snd E fn.ntmps c (eK E fn R) (St.init as1)):CallsTo E f as1 R:=by
 intro w A vs hI hr
 have hrun:(callFunc f vs).run E.P w=.ok (.enter f vs) w:=by
  simp only[callFunc,Sem.run_bind,run_program,Result.andThen_ok,hf,hn,hb]
  rfl
 unfold Invokes
 rw[hrun]
 exact(d7 hf hb hN h hI hr).mono fun e w' ⟨v,he,hp⟩=>⟨v,he,hp⟩
end
end Ai
namespace Ai
set_option maxRecDepth 100000
open Go Go.Proofs Cyc
def refR (o:Nat) (x:RunT):List AV:=[i64 x.c,.ref (.n 901) 0 x.tr.length,.ref (.n 902) 0 x.tk.length,.dref (.n o) x.s.ths.length,.ref (.n 904) 0 x.s.cells.length,.ref (.n 905) 0 x.s.owner.length,i64 x.s.fault]
theorem fz_ownR {o:Nat} {x:RunT} {S:St} (h1:S.H (.n 901)=some (.ds 128 5 (x.tr.map encEv))) (h2:S.H (.n 902)=some (.ds 3 1 (x.tk.map encInt))) (h3:S.H (.n o)=some (.rs 175 6 (thRows o x.s.ths))) (h4:∀ j,S.H (.s o j)=zO x.s.ths j)
  (h5:S.H (.n 904)=some (.ds 132 1 (x.s.cells.map encF))) (h6:S.H (.n 905)=some (.ds 3 1 (x.s.owner.map encInt))):FzC S (refR o x) (encRT x):=by
 refine⟨di x.c,_,rfl,rfl,.sl (x.tr.map encEv),_,rfl,?_,.sl (x.tk.map encInt),_,rfl,?_,.sl (x.s.ths.map zD),_,rfl,⟨_,rfl,?_⟩,.sl (x.s.cells.map encF),_,rfl,?_,.sl (x.s.owner.map encInt),_,rfl,?_,di x.s.fault,[],rfl,rfl,rfl⟩
 ·simp[FzD,fz1,h1,List.take_of_length_le]
 ·simp[FzD,fz1,h2,List.take_of_length_le]
 ·unfold kK
  rw[h3]
  refine⟨by simp,fun j row hj hr=>?_⟩
  rw[yP hj] at hr
  simp only[Option.some.injEq] at hr
  subst hr
  exact⟨zD x.s.ths[j],by simp[hj],fz_row ((h4 j).trans (thFam_self hj))⟩
 ·simp[FzD,fz1,h5,List.take_of_length_le]
 ·simp[FzD,fz1,h6,List.take_of_length_le]
def numZ (k:Nat):Nat:=bif Nat.beq k 903 then 963 else bif Nat.beq k 963 then 903 else k
theorem pK (k:Nat):numZ (numZ k)=k:=by
 by_cases h1:k=903
 ·subst h1;rfl
 by_cases h2:k=963
 ·subst h2;rfl
 have e:numZ k=k:=by unfold numZ;rw[nbeq_ne h1,nbeq_ne h2];rfl
 rw[e,e]
def shZ:Sh:=mkSh numZ pK
def mI (subs:List (List (List D))):List (List AV):=(List.range subs.length).map fun j=>[.ref (.s 963 j) 0 (subs.getD j []).length]
theorem rowsM_Z (subs:List (List (List D))):(wA subs 0).map (renL shZ.f)=mI subs:=by
 unfold wA mI
 rw[List.map_map]
 refine List.map_congr_left fun j _=>?_
 show renL _ (dS subs 0 j)=_
 unfold dS
 rw[if_neg (by omega)]
 rfl
theorem rowsZ_M (subs:List (List (List D))):(mI subs).map (renL shZ.f)=wA subs 0:=by
 unfold wA mI
 rw[List.map_map]
 refine List.map_congr_left fun j _=>?_
 show _=dS subs 0 j
 unfold dS
 rw[if_neg (by omega)]
 rfl
theorem iJ {p:Key→Bool} (subs:List (List (List D))) (hp:∀ j,p (.s 963 j)=false):(mI subs).map (scrPL p)=mI subs:=by
 unfold mI
 rw[List.map_map]
 refine List.map_congr_left fun j _=>?_
 show scrPL p [_]=_
 simp[scrPL,scrP,hp j]
theorem totT_size {s:StL} (h:s.size≤1048576):xH s.ths s.ths.length≤8388608:=by
 unfold StL.size jK at h
 unfold xH
 rw[List.take_length]
 have:∀ l:List Th,(l.map fun t=>5+t.stack.length).sum=5*l.length+(l.map Th.stl).sum:=by
  intro l
  induction l with
  |nil=>rfl
  |cons a l ih=>simp only[List.map_cons,List.sum_cons,List.length_cons,ih,Th.stl];omega
 rw[this]
 omega
structure SmX (p:ProgL) (x:RunT):Prop where
 hs:p.rs.length≤1048576∧∀ x∈p.rs,x.length≤1048576
 hz:p.size≤1048576
 hx:x.fit
 ht:xH x.s.ths x.s.ths.length≤8388608
end Ai
namespace Ai
set_option maxRecDepth 100000
open Go Go.Proofs Cyc
def dwL (x:RunT) (R:List Int) (b:AV):List (Nat × AV):=[(2,.ptr (.n 2) 0),(3,.ptr (.n 3) 0),(6,sl (R.map encInt)),(7,b),(8,.ptr (.n 8) 0)]
def dwO (p:ProgL) (x:RunT):List (Key × Ob):=[(.n 2,.vs 24 ((encProg p).map .d)),(.n 3,.vs 47 ((encRT x).map .d)),(.n 8,.vs 31 [i64 p.cells,i64 p.locks,i64 p.conds,.dref (.n 963) p.rs.length]),(.n 963,.rs 157 1 (mI (zU p)))]
def dwF (p:ProgL):List (Nat × (Nat→Option Ob)):=[(963,qF (zU p) 0),(903,fun _=>none)]
def dwL1 (x:RunT) (R:List Int) (b:AV):List (Nat × AV):=[(2,.ptr (.n 2) 0),(3,.ptr (.n 3) 0),(6,sl (R.map encInt)),(7,b),(8,.ptr (.n 8) 0),(9,.ptr (.n 9) 0)]
def dwO1 (p:ProgL) (x:RunT):List (Key × Ob):=[(.n 2,.vs 24 ((encProg p).map .d)),(.n 3,.vs 47 ((encRT x).map .d)),(.n 8,.vs 31 [i64 p.cells,i64 p.locks,i64 p.conds,.dref (.n 903) p.rs.length]),(.n 903,.rs 157 1 (wA (zU p) 0)),
 (.n 9,.vs 56 (refR 963 x)),(.n 901,.ds 128 5 (x.tr.map encEv)),(.n 902,.ds 3 1 (x.tk.map encInt)),(.n 963,.rs 175 6 (thRows 963 x.s.ths)),(.n 904,.ds 132 1 (x.s.cells.map encF)),(.n 905,.ds 3 1 (x.s.owner.map encInt))]
def dwF1 (p:ProgL) (x:RunT):List (Nat × (Nat→Option Ob)):=[(903,qF (zU p) 0),(963,zO x.s.ths)]
theorem lawDead1 (p:ProgL) (hp:p.wf) (hv:p.flt) (hc:p.cn) (x:RunT) (hx:x.wf) (hf:x.s.cf)
  (hL:SmX p x→∀ S,At (dwL1 x (wI p x).1 (bv (wI p x).2)) (dwO1 p x) (dwF1 p x) S→AW EE Tryz.f6.ntmps (dropC 9 (Tryz.f6.body.getD .skip)) (eK EE Tryz.f6 (·=bv true)) S) :
  CallsTo EE 6 [agg (encProg p),agg (encRT x)] (·=bv true):=by
 refine aP (fn:=Tryz.f6) (c:=Tryz.f6.body.getD .skip) Tryz.func6 rfl (by kernel_rfl) rfl ?_
 refine snd_cut 8 (fun S=>SmX p x∧At (dwL x (wI p x).1 (bv (wI p x).2)) (dwO p x) (dwF p) S) (fun K hK=>?_) (fun S hS=>?_)
 ·conv=>whnf
  refine⟨_,szProg_ok p 1048576 (by omega) (by omega) hp,?_⟩
  rintro r ⟨n,rfl,hn1,hn2,hn3⟩
  conv=>whnf
  refine kbi (fun _=>?_) (fun h=>?_)
  ·conv=>whnf
   try rfl
  have h0:0≤n:=by simp at h;omega
  have hsz:p.size≤1048576:=by have:=hn3 h0;omega
  have hs:=size_le List.length p.rs 1048576 hsz
  conv=>whnf
  refine⟨_,szRun_ok x n h0 (by omega) hx,?_⟩
  rintro r ⟨n2,rfl,hm1,hm2,hm3⟩
  conv=>whnf
  refine kbi (fun _=>?_) (fun h=>?_)
  ·conv=>whnf
   try rfl
  have hxs:x.size≤1048576:=by
   have h:¬ n2<0:=fun e=>h (decide_eq_true e)
   have:=hm3 (by omega)
   omega
  have hft:=fit_of hxs
  have cS:=DeadIn_ok p hp hs hv hc x hft hf
  conv=>whnf
  refine .inr (.inl ⟨10,[],?_⟩)
  conv=>whnf
  refine⟨_,nV p hs,?_⟩
  conv=>whnf
  refine⟨_,tF x hft,?_⟩
  conv=>whnf
  refine⟨_,cS,?_⟩
  conv=>whnf
  refine⟨by kernel_rfl,?_⟩
  conv=>whnf
  refine⟨_,toProg_own p hs,?_⟩
  rintro r rfl
  conv=>whnf
  refine hK _ _ (gW shZ) ⟨⟨hs,hsz,hft,totT_size (by unfold RunT.size at hxs;omega)⟩,⟨rfl,rfl,rfl,rfl,rfl,trivial⟩,⟨?_,?_,?_,?_,trivial⟩,⟨fun j=>?_,fun j=>rfl,trivial⟩⟩
  ·rfl
  ·rfl
  ·show some (Ob.vs 31 [i64 p.cells,i64 p.locks,i64 p.conds,.dref (.n 963) (p.rs.map fun _=>[D.nil]).length])=_
   rw[List.length_map]
  ·show some (Ob.rs 157 1 (((ownRows 903 0 (p.rs.map fun _=>[.nil]) (zU p)).map (scrPL (isK (.n 8)))).map (renL shZ.f)))=_
   rw[ownRows_M,qL _ (fun j=>rfl),rowsM_Z]
  ·show Option.map _ (Option.map _ (match ownH (i6 p) (.s 903 j) with|some ob=>some ob|none=>_))=_
   rw[ownPg_fam]
   cases hq:qF (zU p) 0 j with
   |none=>rfl
   |some ob =>
    show Option.map _ (Option.map _ (some ob))=some ob
    rw[← hq,qD,qE]
 refine snd_cut 1 (fun S=>SmX p x∧At (dwL1 x (wI p x).1 (bv (wI p x).2)) (dwO1 p x) (dwF1 p x) S) (fun K hK=>?_) (fun S hS=>iF (hL hS.1 S hS.2))
 obtain⟨hSm,hat⟩:=hS
 obtain⟨τ,H,rfl⟩:=hat.form
 clear hat
 conv=>whnf
 refine⟨_,toRun_own x hSm.hx,?_⟩
 rintro r rfl
 conv=>whnf
 refine hK _ _ (gW shZ) ⟨hSm,⟨rfl,rfl,rfl,rfl,rfl,rfl,trivial⟩,⟨?_,?_,?_,?_,?_,?_,?_,?_,?_,?_,trivial⟩,⟨fun j=>?_,fun j=>?_,trivial⟩⟩
 ·rfl
 ·rfl
 ·rfl
 ·show some (Ob.rs 157 1 ((((mI (zU p)).map (scrPL fun κ=>(ownH (iS x) κ).isSome)).map (scrPL (isK (.n 9)))).map (renL shZ.f)))=_
  rw[iJ _ (fun j=>rfl),iJ _ (fun j=>rfl),rowsZ_M]
 ·show some (Ob.vs 56 [i64 x.c,.ref (.n 901) 0 (x.tr.map encEv).length,.ref (.n 902) 0 (x.tk.map encInt).length,.dref (.n 963) (x.s.ths.map vV).length,.ref (.n 904) 0 (x.s.cells.map encF).length,.ref (.n 905) 0 (x.s.owner.map encInt).length,i64 x.s.fault])=_
  simp only[List.length_map]
  rfl
 ·rfl
 ·rfl
 ·show some (Ob.rs 175 6 (((thRows 903 x.s.ths).map (scrPL (isK (.n 9)))).map (renL shZ.f)))=_
  rw[wT (fun j=>rfl),show(thRows 903 x.s.ths).map (renL shZ.f)=thRows 963 x.s.ths from gC (g:=numZ) (hg:=pK) 903 x.s.ths]
 ·rfl
 ·rfl
 ·show Option.map _ (Option.map _ (Option.map _ (qF (zU p) 0 j)))=_
  rw[qD,qD,qE]
 ·have e:ownH (iS x) (.s 903 j)=zO x.s.ths j:=by
   show((x.s.ths.map stk)[j]?).map (Ob.ds 132 1)=_
   unfold zO
   rw[List.getElem?_map,Option.map_map]
   rfl
  show Option.map _ (Option.map _ (match ownH (iS x) (.s 903 j) with|some ob=>some ob|none=>_))=_
  rw[e]
  cases hq:zO x.s.ths j with
  |none =>
   rfl
  |some ob =>
   show Option.map _ (Option.map _ (some ob))=some ob
   rw[← hq,zS,thFam_ren]
end Ai
namespace Ai
set_option maxRecDepth 100000
open Go Go.Proofs Cyc
def dwL2 (x:RunT) (R:List Int) (b:AV):List (Nat × AV):=[(2,.ptr (.n 2) 0),(3,.ptr (.n 3) 0),(6,sl (R.map encInt)),(7,b),(8,.ptr (.n 8) 0),(9,.ptr (.n 9) 0),(10,.ref (.n 900) 0 R.length),(11,b)]
def dwO2 (p:ProgL) (x:RunT) (R:List Int):List (Key × Ob):=[(.n 2,.vs 24 ((encProg p).map .d)),(.n 3,.vs 47 ((encRT x).map .d)),(.n 8,.vs 31 [i64 p.cells,i64 p.locks,i64 p.conds,.dref (.n 903) p.rs.length]),(.n 903,.rs 157 1 (wA (zU p) 0)),
 (.n 9,.vs 56 (refR 963 x)),(.n 901,.ds 128 5 (x.tr.map encEv)),(.n 902,.ds 3 1 (x.tk.map encInt)),(.n 963,.rs 175 6 (thRows 963 x.s.ths)),(.n 904,.ds 132 1 (x.s.cells.map encF)),(.n 905,.ds 3 1 (x.s.owner.map encInt)),(.n 900,.ds 3 1 (R.map encInt))]
theorem fz_runV {S:St} (x:RunT):FzA S (agg (encRT x)) (agg (encRT x)):=⟨encRT x,rfl,_,_,rfl,rfl,_,_,rfl,rfl,_,_,rfl,rfl,_,_,rfl,rfl,_,_,rfl,rfl,_,_,rfl,rfl,_,_,rfl,rfl,rfl⟩
theorem lawDead2 (p:ProgL) (hp:p.wf) (hv:p.flt) (hc:p.cn) (x:RunT) (hf:x.s.cf) (h:SmX p x) (hR:(wI p x).1.length≤1048576)
  (hL:∀ S,At (dwL2 x (wI p x).1 (bv (wI p x).2)) (dwO2 p x (wI p x).1) (dwF1 p x) S→AW EE Tryz.f6.ntmps (dropC 13 (Tryz.f6.body.getD .skip)) (eK EE Tryz.f6 (·=bv true)) S)
  {S:St} (hS:At (dwL1 x (wI p x).1 (bv (wI p x).2)) (dwO1 p x) (dwF1 p x) S):AW EE Tryz.f6.ntmps (dropC 9 (Tryz.f6.body.getD .skip)) (eK EE Tryz.f6 (·=bv true)) S:=by
 have cI:=aL p hp h.hs hv hc x h.hx hf
 generalize wI p x=X at cI hR hL hS
 obtain⟨R,b⟩:=X
 have hR:R.length≤1048576:=hR
 refine lY 4 (At (dwL2 x R (bv b)) (dwO2 p x R) (dwF1 p x)) (fun K hK=>?_) hL
 obtain⟨τ,H,rfl⟩:=hS.form
 clear hS hL
 conv=>whnf
 refine .inl ⟨[agg (encProg p),agg (encRT x)],[],_,⟨_,_,rfl,⟨_,rfl,fz_own rfl (fun j=>rfl) rfl⟩,_,_,rfl,⟨_,rfl,fz_ownR (o:=963) rfl rfl rfl (fun j=>rfl) rfl rfl⟩,rfl⟩,rfl,cI,?_⟩
 rintro r rfl
 refine⟨fun c hc=>?_,?_⟩
 ·simp only[List.mem_cons,List.not_mem_nil,or_false] at hc
  rcases hc with rfl|rfl
  ·intro c hc
   obtain⟨y,_,rfl⟩:=List.mem_map.1 hc;rfl
  ·rfl
 have heq:CallsTo EE 28 [sl (((R.map encInt).drop 0).take (R.map encInt).length),sl (R.map encInt)] (·=bv true):=by
  rw[List.drop_zero,List.take_length]
  exact gQ R hR
 conv=>whnf
 refine .inl ⟨_,heq,?_⟩
 rintro r rfl
 refine⟨rfl,?_⟩
 conv=>whnf
 refine kbi (fun h=>absurd h (by simp)) (fun _=>?_)
 conv=>whnf
 refine⟨by kernel_rfl,?_⟩
 conv=>whnf
 refine⟨_,nV p h.hs,?_⟩
 conv=>whnf
 refine⟨[agg (encProg p),agg (encProg p)],[],bv true,⟨_,_,rfl,⟨_,rfl,fz_own ?_ (fun j=>?_) rfl⟩,_,_,rfl,g9 p,rfl⟩,rfl,eqProg_ok p h.hs,rfl,?_⟩
 ·show some (Ob.rs 157 1 ((wA (zU p) 0).map (scrPL _)))=_
  rw[qL _ fun j=>rfl]
 ·show Option.map _ (qF (zU p) 0 j)=_
  exact qD _ _ _ _
 conv=>whnf
 refine⟨by kernel_rfl,?_⟩
 conv=>whnf
 refine⟨_,tF x h.hx,?_⟩
 conv=>whnf
 refine⟨[agg (encRT x),agg (encRT x)],[],bv true,⟨_,_,rfl,⟨_,rfl,fz_ownR (o:=963) rfl rfl ?_ (fun j=>?_) rfl rfl⟩,_,_,rfl,fz_runV x,rfl⟩,rfl,eqRun_ok x h.hx,rfl,?_⟩
 ·show some (Ob.rs 175 6 ((thRows 963 x.s.ths).map (scrPL _)))=_
  rw[yA fun _ _=>rfl]
 ·show Option.map _ (zO x.s.ths j)=_
  exact zS _ _ _
 conv=>whnf
 refine hK _ ⟨⟨rfl,rfl,rfl,rfl,rfl,rfl,?_,rfl,trivial⟩,⟨rfl,rfl,rfl,?_,rfl,rfl,rfl,?_,rfl,rfl,rfl,trivial⟩,⟨fun j=>?_,fun j=>?_,trivial⟩⟩
 ·show AV.ref (.n 900) 0 (R.map encInt).length=_
  rw[List.length_map]
 ·show some (Ob.rs 157 1 ((wA (zU p) 0).map (scrPL _)))=_
  rw[qL _ fun j=>rfl]
 ·show some (Ob.rs 175 6 ((thRows 963 x.s.ths).map (scrPL _)))=_
  rw[yA fun _ _=>rfl]
 ·show Option.map _ (qF (zU p) 0 j)=_
  exact qD _ _ _ _
 ·show Option.map _ (zO x.s.ths j)=_
  exact zS _ _ _
end Ai
namespace Ai
set_option maxRecDepth 100000
open Go Go.Proofs Cyc
def dwL3 (R:List Int) (b:AV) (k:Int):List (Nat × AV):=[(2,.ptr (.n 2) 0),(3,.ptr (.n 3) 0),(6,sl (R.map encInt)),(7,b),(10,.ref (.n 43) 0 R.length),(11,b),(12,i64 k)]
def dwO3 (p:ProgL) (x:RunT) (R:List Int):List (Key × Ob):=[(.n 2,.vs 24 ((encProg p).map .d)),(.n 3,.vs 47 ((encRT x).map .d)),(.n 43,.ds 3 1 (R.map encInt))]
theorem lawDead3 (p:ProgL) (x:RunT) (h:SmX p x) (R:List Int) (b:Bool)
  (hL:∀ S,(∃ k:Int,0≤k∧At (dwL3 R (bv b) k) (dwO3 p x R) [] S)→AW EE Tryz.f6.ntmps (dropC 16 (Tryz.f6.body.getD .skip)) (eK EE Tryz.f6 (·=bv true)) S)
  {S:St} (hS:At (dwL2 x R (bv b)) (dwO2 p x R) (dwF1 p x) S):AW EE Tryz.f6.ntmps (dropC 13 (Tryz.f6.body.getD .skip)) (eK EE Tryz.f6 (·=bv true)) S:=by
 refine lY 3 (fun S=>∃ k:Int,0≤k∧At (dwL3 R (bv b) k) (dwO3 p x R) [] S) (fun K hK=>?_) hL
 obtain⟨τ,H,rfl⟩:=hS.form
 clear hS hL
 have hsl:(zU p).length=p.rs.length:=by simp[zU]
 have ht:=tot_size h.hz
 conv=>whnf
 refine .inr (.inr (.inl ⟨_,17,[],xT 900 43,rfl,999,0,cM,(fun r H1=>r=i64 (1+4*tot (zU p) (zU p).length)∧∀ κ,H1 κ=none),?_,rfl,?_⟩))
 ·refine vJ (markProg_ok p.cells p.locks p.conds (zU p) 1 (by rw[hsl];exact h.hs.1) (ops4 p) ht (by omega) (by omega) _ ?_ fun j=>?_) ?_
  ·show some (Ob.rs 157 1 ((((wA (zU p) 0).map (renL (swp (.n 900) (.n 43)))).map (renL (swp (.n 999) (.l 0)))).map (scrPL (fun o=>!cM o))))=_
   rw[rowsM_ren0,lL _ (fun j=>rfl),qL _ (fun j=>rfl)]
  ·show Option.map _ (Option.map _ (Option.map _ (qF (zU p) 0 j)))=_
   rw[qE,qE,qD]
  ·rw[hsl];rfl
 rintro r H1 ⟨rfl,q⟩
 refine⟨fun κ _=>q κ,fun n hn=>(by cases hn),?_⟩
 generalize tot (zU p) (zU p).length=T at ht ⊢
 conv=>whnf
 refine .inr (.inr (.inl ⟨_,30,[],gW shZ,rfl,999,0,lendX,(fun r H1=>(∃ n:Int,r=i64 n∧0≤n∧n≤268435456)∧∀ κ,H1 κ=none),?_,rfl,?_⟩))
 ·refine vJ (markRun_ok x (1+4*(T:Int)) h.hx h.ht (by omega) ?_ _ ?_ ?_ ?_ (fun j=>?_) ?_ ?_) ?_
  ·omega
  ·rfl
  ·rfl
  ·show some (Ob.rs 175 6 ((((((((thRows 963 x.s.ths).map (renL (swp (.n 900) (.n 43)))).map (renL (swp (.n 999) (.l 0)))).map (scrPL (xJ cM))).map (renL (swp (.n 999) (.l 0)))).map (renL shZ.f)).map (renL (swp (.n 999) (.l 0)))).map (scrPL (fun o=>!lendX o))))=_
   rw[xX (o:=963) (fun j=>rfl),xX (o:=963) (fun j=>rfl),yA (o:=963) (fun _ _=>rfl),xX (o:=963) (fun j=>rfl),show(thRows 963 x.s.ths).map (renL shZ.f)=thRows 903 x.s.ths from gC (g:=numZ) (hg:=pK) 963 x.s.ths,xX (fun j=>rfl),wT (fun j=>rfl)]
  ·show Option.map _ (Option.map _ (Option.map _ (Option.map _ (Option.map _ (Option.map _ (Option.map _ (zO x.s.ths j)))))))=_
   rw[thFam_ren,thFam_ren,zS,thFam_ren,thFam_ren,thFam_ren,zS]
  ·rfl
  ·rfl
  ·rfl
 rintro r H2 ⟨⟨n,rfl,hn1,hn2⟩,q2⟩
 refine⟨fun κ _=>q2 κ,fun n hn=>(by cases hn),?_⟩
 conv=>whnf
 refine hK _ ⟨n,hn1,⟨rfl,rfl,rfl,rfl,rfl,rfl,rfl,trivial⟩,⟨rfl,rfl,rfl,trivial⟩,trivial⟩
end Ai
namespace Ai
set_option maxRecDepth 100000
open Go Go.Proofs Cyc
def dwL4 (R:List Int) (b:AV):List (Nat × AV):=[(2,.ptr (.n 2) 0),(3,.ptr (.n 3) 0),(6,sl (R.map encInt)),(7,b),(10,.ref (.n 43) 0 R.length),(11,b),(13,i64 (1+(R.length:Int)))]
def dwO4 (p:ProgL) (x:RunT) (R:List Int):List (Key × Ob):=[(.n 2,.vs 24 ((encProg p).map .d)),(.n 3,.vs 47 ((encRT x).map .d)),(.n 43,.ds 3 1 ((jB 1 R.length).map encInt))]
theorem lawDead4 (p:ProgL) (hp:p.wf) (hv:p.flt) (hc:p.cn) (x:RunT) (hf:x.s.cf) (h:SmX p x) (hR:(wI p x).1.length≤1048576)
  {S:St} (hS:∃ k:Int,0≤k∧At (dwL3 (wI p x).1 (bv (wI p x).2) k) (dwO3 p x (wI p x).1) [] S):AW EE Tryz.f6.ntmps (dropC 16 (Tryz.f6.body.getD .skip)) (eK EE Tryz.f6 (·=bv true)) S:=by
 have cI:=aL p hp h.hs hv hc x h.hx hf
 generalize wI p x=X at cI hR hS
 obtain⟨R,b⟩:=X
 have hR:R.length≤1048576:=hR
 obtain⟨k,hk,hS3⟩:=hS
 refine lY 3 (At (dwL4 R (bv b)) (dwO4 p x R) []) (fun K hK=>?_) (fun S4 hS4=>?_)
 ·obtain⟨τ,H,rfl⟩:=hS3.form
  clear hS3
  have heq:CallsTo EE 28 [sl (((R.map encInt).drop 0).take R.length),sl (R.map encInt)] (·=bv true):=by
   rw[List.drop_zero,List.take_of_length_le (by simp)]
   exact gQ R hR
  conv=>whnf
  refine kbi (fun h=>absurd h (by simp;omega)) (fun _=>?_)
  conv=>whnf
  refine .inl ⟨_,heq,?_⟩
  rintro r rfl
  refine⟨rfl,?_⟩
  conv=>whnf
  refine kbi (fun h=>absurd h (by simp)) (fun _=>?_)
  conv=>whnf
  refine .inr (.inl ⟨43,77,isK (.l 77),_,vJ (bK (.l 77) (.inr rfl) R 1 hR (by omega) (by omega) _ rfl) rfl,rfl,?_⟩)
  rintro r H1 ⟨rfl,e1,q2⟩
  refine⟨q2,fun n hn=>⟨.ds 3 1 (R.map encInt),?_,(jB 1 R.length).map encInt,?_,by simp[qQ]⟩,?_⟩
  ·have:n=77:=Nat.eq_of_beq_eq_true hn
   subst this;rfl
  ·have:n=77:=Nat.eq_of_beq_eq_true hn
   subst this;exact e1
  conv=>whnf
  refine hK _ ⟨⟨rfl,rfl,rfl,rfl,rfl,rfl,rfl,trivial⟩,⟨rfl,rfl,?_,trivial⟩,trivial⟩
  show Option.map _ (H1 (.l 77))=_
  rw[e1];rfl
 ·clear hS3
  obtain⟨τ,H,rfl⟩:=hS4.form
  clear hS4
  have hh:CallsTo EE 32 [sl ((((jB 1 R.length).map encInt).drop 0).take R.length),i64 1] (·=i64 (1+(R.length:Int))):=by
   rw[List.drop_zero,List.take_of_length_le (by simp[qQ])]
   exact heldIntS_ok 1 R.length hR (by omega) (by omega)
  conv=>whnf
  refine .inl ⟨_,hh,?_⟩
  rintro r rfl
  refine⟨rfl,?_⟩
  conv=>whnf
  refine kbi (fun h=>absurd h (by simp;omega)) (fun _=>?_)
  conv=>whnf
  refine kbi (fun h=>absurd h (by simp)) (fun _=>?_)
  conv=>whnf
  refine .inr (.inl ⟨10,[2700],?_⟩)
  conv=>whnf
  refine⟨_,nV p h.hs,?_⟩
  conv=>whnf
  refine⟨_,tF x h.hx,?_⟩
  conv=>whnf
  refine⟨_,cI,?_⟩
  conv=>whnf
  refine⟨by kernel_rfl,?_⟩
  have heq:CallsTo EE 28 [sl (((R.map encInt).drop 0).take (R.map encInt).length),sl (R.map encInt)] (·=bv true):=by
   rw[List.drop_zero,List.take_length]
   exact gQ R hR
  conv=>whnf
  refine .inl ⟨_,heq,?_⟩
  rintro r rfl
  refine⟨rfl,?_⟩
  conv=>whnf
  refine kbi (fun h=>absurd h (by simp)) (fun _=>?_)
  conv=>whnf
  refine .inl ⟨_,hh,?_⟩
  rintro r rfl
  refine⟨rfl,?_⟩
  conv=>whnf
  refine kbi (fun h=>absurd h (by simp;omega)) (fun _=>?_)
  conv=>whnf
  refine kbi (fun h=>absurd h (by simp)) (fun _=>?_)
  conv=>whnf
  try rfl
theorem oY {p:ProgL} (hv:p.flt) {x:RunT}:(wI p x).1.length≤1048576:=by
 classical
 unfold wI
 split
 ·rename_i h
  have:=(dead_picks (cQ hv h.1)).1
  show(kG p x.s).length≤_
  omega
 ·exact Nat.zero_le _
theorem lawDead (p:ProgL) (hp:p.wf) (hv:p.flt) (hc:p.cn) (x:RunT) (hx:x.wf) (hf:x.s.cf):CallsTo EE 6 [agg (encProg p),agg (encRT x)] (·=bv true) :=
 lawDead1 p hp hv hc x hx hf fun h S hS=>lawDead2 p hp hv hc x hf h (oY hv) (fun S2 h2=>lawDead3 p x h _ _ (fun S3 h3=>lawDead4 p hp hv hc x hf h (oY hv) h3) h2) hS
end Ai
