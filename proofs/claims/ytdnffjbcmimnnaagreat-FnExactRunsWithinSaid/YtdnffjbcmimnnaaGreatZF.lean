import Derived.Test.YtdnffjbcmimnnaaGreatZE
set_option maxHeartbeats 8000000
set_option linter.unusedVariables false
set_option linter.unusedSimpArgs false
namespace Ai
set_option maxRecDepth 100000
open Go Go.Proofs Cyc
noncomputable def wV (p:ProgL) (most:Int) (x:RunT):Bool:=decide (most<(preL p x:Nat))
def capsW (p:ProgL) (most:Int):List AV:=[.fp (encProg p),.fp [di most]]
theorem within1_ok (p:ProgL) (hp:p.wf) (hg:p.goodS) (hv:p.flt) (b most:Int) (hb:b≤1000) (x:RunT) (hx:XEnd p b x):CallsTo EE 134 (agg (yO x)::capsW p most) (·=bv (wV p most x)):=by
 refine callsTo_of_AW (fn:=Tryz.f134) Tryz.func134 rfl (by kernel_rfl) rfl ?_
 conv=>whnf
 refine⟨by kernel_rfl,?_⟩
 conv=>whnf
 refine⟨_,preI_ok p hp hg hv b hb x hx,?_⟩
 conv=>whnf
 refine kbi (fun h=>?_) (fun h=>?_)
 ·have h:most<(preL p x:Nat):=of_decide_eq_true h
  conv=>whnf
  show _=bv (wV p most x)
  rw[wV,decide_eq_true h]
 ·have h:¬ most<(preL p x:Nat):=fun e=>h (decide_eq_true e)
  conv=>whnf
  show _=bv (wV p most x)
  rw[wV,decide_eq_false h]
theorem iT (l:List RunT) (hl:l.length≤1048576) (c1 c2:List D) (f:RunT→Bool) (hg:∀ t∈l,CallsTo EE 134 (agg (yO t)::[.fp c1,.fp c2]) (·=bv (f t))) :
  CallsTo EE 198 [sl (l.map yO),.fn 134 [.fp c1,.fp c2]] (·=i64 (dR (l.findIdx? f))):=by
 refine callsTo_of_AW (fn:=Tryz.f198) Tryz.func198 rfl (by kernel_rfl) rfl ?_
 conv=>whnf
 refine yV (fun k:Nat=>[(0,sl (l.map yO)),(1,.fn 134 [.fp c1,.fp c2]),(7,i64 (l.map yO).length),(8,i64 k)]) (fun k=>[]) (fun k=>l.length - k) (fun k=>k≤l.length∧∀ x∈l.take k,f x=false) 0
  Weak.refl ⟨rfl,rfl,rfl,rfl,trivial⟩ trivial ⟨Nat.zero_le _,by simp⟩ ?_
 rintro k τ H ⟨hk,hall⟩
 conv=>whnf
 refine kbi (fun h=>?_) (fun h=>?_)
 ·have hlt:=xF h
  conv=>whnf
  refine⟨yO l[k],yA yO hlt rfl,?_⟩
  conv=>whnf
  refine⟨_,hg _ (List.getElem_mem hlt),?_⟩
  rintro r rfl
  cases hf:f l[k] with
  |true =>
   conv=>whnf
   rw[kR hlt hall hf];rfl
  |false =>
   conv=>whnf
   exact⟨k+1,⟨by omega,qG hall hlt hf⟩,by show l.length - (k+1)<l.length - k;omega,⟨rfl,rfl,rfl,next_i64 hlt (by omega),trivial⟩,trivial⟩
 ·have hge:l.length≤k:=by simpa using h
  conv=>whnf
  rw[kS (kE hall hge)];rfl
end Ai
namespace Ai
set_option maxRecDepth 100000
open Go Go.Proofs Cyc
theorem iO {els:List (List D)} {sz i:Nat} {c:List D} (hc:c.length=sz):wR els sz i 0 c=els.set i c:=by
 unfold wR
 rw[hc,nbeq_self,nbeq_self]
 rfl
structure DelI (xs:List RunT) (g:RunT→Bool) (i j:Nat) (els:List (List D)):Prop where
 len:els.length=xs.length
 i_eq:i=((xs.take j).filter g).length
 lt:i<j
 le:j≤xs.length
 pre:els.take i=((xs.take j).filter g).map yO
 post:∀ q,j≤q→∀ h:q<xs.length,els[q]?=some (yO xs[q])
theorem DelI.keep {xs:List RunT} {g:RunT→Bool} {i j:Nat} {els:List (List D)} (h:DelI xs g i j els) (hj:j<xs.length) (hg:g xs[j]=true):DelI xs g (i+1) (j+1) (els.set i (yO xs[j])):=by
 have e:(xs.take (j+1)).filter g=(xs.take j).filter g++[xs[j]]:=by
  rw[List.take_succ_eq_append_getElem hj,List.filter_append]
  simp[hg]
 have hi:i<els.length:=by rw[h.len];have:=h.lt;omega
 refine⟨by simp[h.len],by rw[e,List.length_append];simp[h.i_eq],by have:=h.lt;omega,hj,?_,fun q hq hl=>?_⟩
 ·rw[e,List.map_append,← h.pre]
  rw[List.take_add_one,List.getElem?_set_self hi]
  rw[List.take_set_of_le (Nat.le_refl _)]
  rfl
 ·rw[List.getElem?_set_ne (by have:=h.lt;omega)]
  exact h.post q (by omega) hl
theorem DelI.drop {xs:List RunT} {g:RunT→Bool} {i j:Nat} {els:List (List D)} (h:DelI xs g i j els) (hj:j<xs.length) (hg:g xs[j]=false):DelI xs g i (j+1) els:=by
 have e:(xs.take (j+1)).filter g=(xs.take j).filter g:=by
  rw[List.take_succ_eq_append_getElem hj,List.filter_append]
  simp[hg]
 exact⟨h.len,by rw[e];exact h.i_eq,by have:=h.lt;omega,hj,by rw[e];exact h.pre,fun q hq hl=>h.post q (by omega) hl⟩
theorem DeleteR_ok (l:List RunT) (hl:l.length≤1048576) (c1 c2:List D) (f:RunT→Bool) (hg:∀ t∈l,CallsTo EE 134 (agg (yO t)::[.fp c1,.fp c2]) (·=bv (f t))) (H0:Key→Option Ob) (hH:H0 (.l 77)=some (.ds 56 7 (l.map yO))) :
  IOCall EE 133 [.ref (.l 77) 0 l.length,.fn 134 [.fp c1,.fp c2]] H0 (fun r H1=>∃ (els:List (List D)),r=.ref (.l 77) 0 (l.filter fun x=>!f x).length∧H1 (.l 77)=some (.ds 56 7 els)∧els.length=l.length∧els.take (l.filter fun x=>!f x).length=(l.filter fun x=>!f x).map yO∧∀ κ',isK (.l 77) κ'=false→H1 κ'=none):=by
 refine io_of_AW (fn:=Tryz.f133) (c:=Tryz.f133.body.getD .skip) Tryz.func133 rfl (by kernel_rfl) rfl ?_
 have hat:At [(0,.ref (.l 77) 0 l.length),(1,.fn 134 [.fp c1,.fp c2])] [(.l 77,.ds 56 7 (l.map yO))] [] ⟨fun i=>[AV.ref (.l 77) 0 l.length,.fn 134 [.fp c1,.fp c2]].getD i .junk,H0⟩:=⟨⟨rfl,rfl,trivial⟩,⟨hH,trivial⟩,trivial⟩
 obtain⟨τ,H,hf⟩:=hat.form
 rw[hf]
 have hix:CallsTo EE 198 [sl (((l.map yO).drop 0).take l.length),.fn 134 [.fp c1,.fp c2]] (·=i64 (dR (l.findIdx? f))):=by
  rw[List.drop_zero,List.take_of_length_le (by simp)]
  exact iT l hl c1 c2 f hg
 conv=>whnf
 refine .inl ⟨_,hix,?_⟩
 rintro r rfl
 refine⟨rfl,?_⟩
 cases hfi:l.findIdx? f with
 |none =>
  have hno:∀ x∈l,f x=false:=List.findIdx?_eq_none_iff.1 hfi
  have hfl:(l.filter fun x=>!f x)=l:=List.filter_eq_self.2 fun x hx=>by simp[hno x hx]
  conv=>whnf
  refine kbi (fun _=>?_) (fun h=>absurd (by rfl) h)
  conv=>whnf
  refine⟨_,Weak.refl,?_⟩
  conv=>whnf
  refine⟨isK (.l 77),l.map yO,by rw[hfl];rfl,rfl,by simp,by rw[hfl,List.take_of_length_le (by simp)],fun κ hκ=>?_⟩
  unfold yL
  rw[hκ];rfl
 |some i0 =>
  obtain⟨hi0,hfi0,hfj⟩:=List.findIdx?_eq_some_iff_getElem.1 hfi
  conv=>whnf
  refine kbi (fun h=>absurd h (by show ¬ decide ((i0:Int)=-1)=true;simp)) (fun _=>?_)
  have hI0:DelI l (fun x=>!f x) i0 (i0+1) (l.map yO):=by
   have e1:(l.take i0).filter (fun x=>!f x)=l.take i0:=List.filter_eq_self.2 fun x hx=>by
    obtain⟨q,hq,rfl⟩:=List.mem_iff_getElem.1 hx
    have hq2:q<i0:=by simp at hq;omega
    have:=hfj q hq2
    simp at this
    simp[this]
   have e:(l.take (i0+1)).filter (fun x=>!f x)=l.take i0:=by
    rw[List.take_succ_eq_append_getElem hi0,List.filter_append,e1]
    simp[hfi0]
   refine⟨by simp,by rw[e,List.length_take];omega,by omega,by omega,by rw[e,List.map_take],fun q hq h=>by simp[h]⟩
  conv=>whnf
  refine yV (fun x:Nat × Nat × List (List D)=>[(0,.ref (.l 77) 0 l.length),(1,.fn 134 [.fp c1,.fp c2]),(5,i64 (x.1:Int)),(6,i64 (x.2.1:Int))]) (fun x=>[(.l 77,.ds 56 7 x.2.2)]) (fun x=>l.length - x.2.1) (fun x=>DelI l (fun x=>!f x) x.1 x.2.1 x.2.2) (i0,i0+1,l.map yO)
   Weak.refl ⟨rfl,rfl,rfl,?_,trivial⟩ ⟨rfl,trivial⟩ hI0 ?_
  ·show AV.d (.int .i64 (IntKind.i64.wrap ((i0:Int)+1)))=i64 ((i0+1:Nat):Int)
   rw[zG (by omega) (by omega)];rfl
  rintro⟨i,j,els⟩ τ H hI
  have hI:DelI l (fun x=>!f x) i j els:=hI
  have hlen:=hI.len
  have hlt:=hI.lt
  have hle:=hI.le
  conv=>whnf
  refine kbi (fun h=>?_) (fun h=>?_)
  ·have hj:j<l.length:=by simpa using h
   have hej:=hI.post j (Nat.le_refl _) hj
   conv=>whnf
   refine⟨⟨by show 0≤(j:Int);omega,by show(j:Int)<l.length;omega⟩,?_⟩
   conv=>whnf
   refine⟨yO l[j],⟨by rw[Nat.zero_add,Int.toNat_natCast];exact hej,Nat.le_refl _⟩,?_⟩
   conv=>whnf
   refine⟨_,hg _ (List.getElem_mem hj),?_⟩
   rintro r rfl
   cases hfx:f l[j] with
   |true =>
    conv=>whnf
    refine⟨(i,j+1,els),hI.drop hj (by simp[hfx]),by show l.length - (j+1)<l.length - j;omega,⟨rfl,rfl,rfl,next_i64 hj (by omega),trivial⟩,⟨rfl,trivial⟩⟩
   |false =>
    conv=>whnf
    refine⟨⟨by show 0≤(i:Int);omega,by show(i:Int)<l.length;omega⟩,?_⟩
    conv=>whnf
    refine⟨(i+1,j+1,els.set i (yO l[j])),hI.keep hj (by simp[hfx]),by show l.length - (j+1)<l.length - j;omega,⟨rfl,rfl,?_,next_i64 hj (by omega),trivial⟩,⟨?_,trivial⟩⟩
    ·show AV.d (.int .i64 (IntKind.i64.wrap ((i:Int)+1)))=i64 ((i+1:Nat):Int)
     rw[zG (by omega) (by omega)];rfl
    ·show some (Ob.ds 56 7 (wR els 7 (0+(i:Int).toNat) 0 (yO l[j])))=_
     rw[iO (sz:=7) rfl,Nat.zero_add,Int.toNat_natCast]
  ·have hjj:j=l.length:=by
    have:¬ j<l.length:=by simpa using h
    omega
   have hpre:=hI.pre
   have hii:=hI.i_eq
   rw[hjj,List.take_length] at hpre hii
   conv=>whnf
   refine .inl ⟨⟨by show 0≤(i:Int);omega,by show(i:Int)≤l.length;omega,by show(l.length:Int)≤l.length;omega,.inr (by show(i:Int)<l.length;omega)⟩,?_⟩
   conv=>whnf
   refine⟨by show 0<(l.length:Int).toNat - (i:Int).toNat;omega,?_⟩
   conv=>whnf
   refine .inl ⟨⟨by omega,by show 0≤(i:Int);omega,by show(i:Int)≤l.length;omega,.inl rfl⟩,?_⟩
   conv=>whnf
   refine⟨_,Weak.refl,?_⟩
   conv=>whnf
   refine⟨isK (.l 77),_,?_,rfl,?_,?_,fun κ hκ=>?_⟩
   ·show AV.ref (.l 77) (0+(0:Int).toNat) ((i:Int).toNat - (0:Int).toNat)=AV.ref (.l 77) 0 _
    rw[← hii]
    congr 1
   ·rw[rP];exact hlen
   ·rw[← hii,← hpre]
    apply List.ext_getElem?
    intro q
    by_cases hq:q<i
    ·have hno:¬ (0+(i:Int).toNat≤q∧q<0+(i:Int).toNat+((l.length:Int).toNat - (i:Int).toNat)):=by omega
     rw[List.getElem?_take_of_lt hq,List.getElem?_take_of_lt hq,w3]
     show Option.map (fun c=>if (0+(i:Int).toNat≤q∧q<0+(i:Int).toNat+((l.length:Int).toNat - (i:Int).toNat)) then ti56.zero else c) els[q]?=els[q]?
     simp only[if_neg hno]
     cases els[q]? <;> rfl
    ·rw[List.getElem?_eq_none (by simp;omega),List.getElem?_eq_none (by simp;omega)]
   ·unfold yL
    rw[hκ];rfl
end Ai
namespace Ai
set_option maxRecDepth 100000
open Go Go.Proofs Cyc
theorem allI_own (p:ProgL) (hp:p.wf) (hs:p.rs.length≤1048576∧∀ x∈p.rs,x.length≤1048576) (hv:p.flt) (b:Int) :
  CallsTo EE 59 [agg (encProg p),i64 b] (fun r=>(OkX p b∧r=.ownF 1 [.uq 56 7 ((qV p b).1.map yO),bv (qV p b).2])∨(¬ OkX p b∧r=.tup [sl [],bv false])):=by
 refine callsTo_of_AW (fn:=Tryz.f59) Tryz.func59 rfl (by kernel_rfl) rfl ?_
 conv=>whnf
 refine ocase (pG p hs) (fun hg=>?_) (fun hg=>?_)
 rotate_left 1
 ·conv=>whnf
  refine .inl ?_
  conv=>whnf
  exact .inr ⟨fun e=>hg ((lI p).1 e.1),rfl⟩
 have hg:p.goodS:=(lI p).2 hg
 conv=>whnf
 refine ocase (in_ok b 0 14) (fun hk=>?_) (fun hk=>?_)
 rotate_left 1
 ·conv=>whnf
  refine .inl ?_
  conv=>whnf
  exact .inr ⟨fun e=>hk e.2,rfl⟩
 obtain⟨b1,b2,b3,b4⟩:=hg.1
 have hr0:XR p b ⟨0,[],[],xC p⟩:=XR.new hg hk.1
 conv=>whnf
 refine⟨_,mV p ⟨b1.1,by have:=b1.2;omega⟩ ⟨b2.1,by have:=b2.2;omega⟩,?_⟩
 rintro r rfl
 conv=>whnf
 refine .inr (.inr (.inl ⟨_,63,[],(weak_frz (fun κ=>isSt κ || isK (.n 21) κ || isK (.n 22) κ)).trans ((weak_cvt (.n 900) (e:=175) (sz:=6) (els:=(xC p).ths.map zH) ?_).trans ((weak_frz (isK (.n 900))).trans
  ((wX (.n 19) (.n 950) 107 56 7 5 [i64 p.cells,i64 p.locks,i64 p.conds,.d (.sl (p.rs.map zS)),i64 b,.d .nil,bv false] (by intro n h;cases h) (by intro h;cases h) ?_ rfl).trans (weak_cvt (.n 950) (e:=56) (sz:=7) (els:=[]) ?_)))),rfl,19,0,dL,_,
   b7 (io_congr (tK p hp hg hv b ⟨hk.1,by have:=hk.2;omega⟩ false (b.toNat+1) ⟨0,[],[],xC p⟩ 0 [] [] hr0 (by simp) (by simp) (by simp) _ ?_) ?_),rfl,?_⟩))
 ·exact congrArg (fun x=>some (Ob.rs 175 6 x)) (fR (fun _=>rfl) fun j=>fV (xC p) j)
 ·rfl
 ·rfl
 ·exact⟨rfl,rfl⟩
 ·show[AV.ptr (.l 0) 0,AV.agg [i64 0,sl _,sl _,sl _,sl _,sl _,i64 (xC p).fault],sl []]=[AV.ptr (.l 0) 0,AV.agg [i64 0,sl _,sl _,sl _,sl _,sl _,i64 (xC p).fault],sl []]
  refine args5 ?_ ?_ ?_ ?_ ?_ rfl
  all_goals simp[List.take_of_length_le]
 rintro q H1 ⟨rfl,rfl⟩
 refine⟨bU,fun n hn=>?_,?_⟩
 ·have:n=0:=Nat.eq_of_beq_eq_true hn
  subst this
  exact⟨107,_,_,rfl,rfl⟩
 rw[allI_eq]
 generalize qV p b=X
 obtain⟨xs,okk⟩:=X
 conv=>whnf
 refine .inr ⟨1,[.uq 56 7 (xs.map yO),bv okk],_,[.ref (.n 900) 0 xs.length,bv okk],vV 950 900,rfl,by simp,?_,?_,dI ⟨rfl,trivial,trivial⟩,.inl ⟨⟨hg,hk⟩,rfl⟩⟩
 ·show AV.tup [.ref (.n 900) 0 (xs.map yO).length,bv okk]=_
  rw[List.length_map]
 ·intro v hv
  simp only[List.mem_cons,List.not_mem_nil,or_false] at hv
  rcases hv with rfl|rfl <;> trivial
noncomputable def dD (p:ProgL) (b most:Int):List RunT:=(qV p b).1.filter fun x=>!wV p most x
def OkW (p:ProgL) (b most:Int):Prop:=OkA p b∧InR most 0 20
theorem withinI_ok (p:ProgL) (hp:p.wf) (hs:p.rs.length≤1048576∧∀ x∈p.rs,x.length≤1048576) (hv:p.flt) (b most:Int) :
  CallsTo EE 68 [agg (encProg p),i64 b,i64 most] (fun r=>(OkW p b most∧r=.tup [sl ((dD p b most).map yO),bv true])∨(¬ OkW p b most∧r=.tup [sl [],bv false])):=by
 refine callsTo_of_AW (fn:=Tryz.f68) Tryz.func68 rfl (by kernel_rfl) rfl ?_
 conv=>whnf
 refine⟨_,allI_own p hp hs hv b,?_⟩
 rintro r (⟨hok,rfl⟩|⟨hn,rfl⟩)
 rotate_left 1
 ·conv=>whnf
  refine .inl ?_
  conv=>whnf
  exact .inr ⟨fun e=>hn e.1.1,rfl⟩
 have hall:=eQ hok.1 hv hok.2.1
 have hA:OkA p b↔(qV p b).2=true:=⟨fun e=>e.2,fun e=>⟨hok,e⟩⟩
 have hlen:=eP p b
 have hW:dD p b most=(qV p b).1.filter fun x=>!wV p most x:=rfl
 rw[hW]
 clear hW
 generalize qV p b=X at *
 obtain⟨xs,okk⟩:=X
 have hall:∀ x∈xs,XEnd p b x:=hall
 have hlen:xs.length≤401:=hlen
 cases okk with
 |false =>
  conv=>whnf
  refine .inl ?_
  conv=>whnf
  exact .inr ⟨fun e=>absurd (hA.1 e.1) (by simp),rfl⟩
 |true =>
  conv=>whnf
  refine ocase (in_ok most 0 20) (fun hk=>?_) (fun hk=>?_)
  rotate_left 1
  ·conv=>whnf
   refine .inl ?_
   conv=>whnf
   exact .inr ⟨fun e=>hk e.2,rfl⟩
  have hg1:∀ t∈xs,CallsTo EE 134 (agg (yO t)::[.fp (encProg p),.fp [di most]]) (·=bv (wV p most t)):=fun t ht=>within1_ok p hp hok.1 hv b most (by have:=hok.2.2;omega) t (hall t ht)
  conv=>whnf
  refine .inr (.inr (.inr (.inr (.inr ⟨_,133,[],weak_frz (fun κ=>isK (.n 3) κ || isK (.n 5) κ),rfl,900,77,isK (.l 77),_,io_congr (DeleteR_ok xs (by omega) (encProg p) [di most] (wV p most) hg1 _ ?_) ?_,rfl,?_⟩))))
  ·rfl
  ·show[AV.ref (.l 77) 0 (xs.map yO).length,_]=_
   rw[List.length_map];rfl
  rintro r H1 ⟨els,rfl,e1,e2,e3,q⟩
  refine⟨q,fun n hn=>⟨.ds 56 7 (xs.map yO),?_,els,?_,by simp[e2]⟩,?_⟩
  ·have:n=77:=Nat.eq_of_beq_eq_true hn
   subst this;rfl
  ·have:n=77:=Nat.eq_of_beq_eq_true hn
   subst this;exact e1
  have hq:H1=fun κ=>bif isK (.l 77) κ then some (.ds 56 7 els) else none:=by
   funext κ
   cases hκ:isK (.l 77) κ with
   |false=>rw[q κ hκ];rfl
   |true =>
    have:κ=.l 77:=yM hκ
    subst this
    rw[e1];rfl
  subst hq
  conv=>whnf
  refine .inl ?_
  conv=>whnf
  refine .inl ⟨⟨hA.2 rfl,hk⟩,?_⟩
  show AV.tup [sl ((els.drop 0).take (xs.filter fun x=>!wV p most x).length),bv true]=_
  rw[List.drop_zero,e3]
end Ai
namespace Ai
set_option maxRecDepth 100000
open Go Go.Proofs Cyc
theorem lawSlA (p:ProgL) (hp:p.wf) (hv:p.flt) (m:Int) (w:List (List Int)) (hw:PkOK w)
  (cS:(p.rs.length≤1048576∧∀ x∈p.rs,x.length≤1048576)→CallsTo EE 20 [agg (encProg p),i64 m] (·=.tup [sl (w.map xG),bv true]))
  (cI:(p.rs.length≤1048576∧∀ x∈p.rs,x.length≤1048576)→CallsTo EE 21 [agg (encProg p),i64 m] (·=.ownF 1 [nD w,bv true])):CallsTo EE 4 [agg (encProg p),i64 m] (·=bv true):=by
 refine callsTo_of_AW (fn:=Tryz.f4) Tryz.func4 rfl (by kernel_rfl) rfl ?_
 refine wN 6 (fun S=>SmC p∧At (qL m w) (qO p) (qF p) S) (fun K hK=>?_) (fun S hS=>?_)
 ·conv=>whnf
  refine⟨_,lB p 1048576 (by omega) (by omega) hp,?_⟩
  rintro r ⟨n,rfl,hn1,hn2,hn3⟩
  conv=>whnf
  refine kbi (fun _=>?_) (fun h=>?_)
  ·conv=>whnf
   try rfl
  have hsz:p.size≤1048576:=by
   have:=hn3 (by simp at h;omega)
   simp at h
   omega
  have hs:=tM List.length p.rs 1048576 hsz
  have cS:=cS hs
  conv=>whnf
  refine⟨_,wO p hs,?_⟩
  rintro r rfl
  conv=>whnf
  refine⟨_,cS,?_⟩
  rintro r rfl
  conv=>whnf
  refine⟨_,fQ p hs,?_⟩
  rintro r rfl
  conv=>whnf
  refine hK _ ⟨⟨hs,hsz⟩,⟨rfl,rfl,rfl,rfl,rfl,trivial⟩,⟨rfl,?_,?_,trivial⟩,⟨fun j=>?_,fun j=>rfl,fun j=>rfl,trivial⟩⟩
  ·show some (Ob.vs 31 [i64 p.cells,i64 p.locks,i64 p.conds,.dref (.n 903) (p.rs.map fun _=>[D.nil]).length])=_
   rw[List.length_map]
  ·show some (Ob.rs 157 1 ((ownRows 903 0 (p.rs.map fun _=>[.nil]) (zE p)).map (scrPL (isK (.n 8)))))=_
   rw[lJ,xI _ (fun j=>rfl)]
  ·show Option.map _ (match ownH (sG p) (.s 903 j) with|some ob=>some ob|none=>_)=_
   rw[lK]
   cases hq:vN (zE p) 0 j with
   |none=>rfl
   |some ob =>
    show Option.map _ (some ob)=some ob
    rw[← hq,wL]
 obtain⟨⟨hs,hsz⟩,hat⟩:=hS
 have cI:=cI hs
 refine wN 3 (At (qL2 m w) (qO2 p w) (qF2 p w)) (fun K hK=>?_) (fun S2 hS2=>?_)
 rotate_left 1
 ·clear hat
  have hsl:(zE p).length=p.rs.length:=by simp[zE]
  have ht:=mT hsz
  refine wN 2 (fun S=>∃ k:Int,0≤k∧At (qL3 m w k) (qO3 p w) (qF3 w) S) (fun K hK=>?_) (fun S3 hS3=>?_)
  ·obtain⟨τ,H,rfl⟩:=hS2.form
   clear hS2
   conv=>whnf
   refine .inr (.inl ⟨999,0,bN,(fun r H1=>r=i64 (1+4*tot (zE p) (zE p).length)∧∀ κ,H1 κ=none),?_,rfl,?_⟩)
   ·refine io_congr (gH p.cells p.locks p.conds (zE p) 1 (by omega) (ops4 p) ht (by omega) (by omega) _ ?_ fun j=>?_) ?_
    ·show some (Ob.rs 157 1 (((wE (zE p) 0).map (renL (swp (.n 999) (.l 0)))).map (scrPL (fun o=>!bN o))))=_
     rw[kG _ (fun j=>rfl),xI _ (fun j=>rfl)]
    ·show Option.map _ (Option.map _ (vN (zE p) 0 j))=_
     rw[qQ,wL]
    ·rw[hsl];rfl
   rintro r H1 ⟨rfl,q⟩
   refine⟨fun κ _=>q κ,fun n hn=>(by cases hn),?_⟩
   generalize tot (zE p) (zE p).length=T at ht ⊢
   conv=>whnf
   refine hK _ ⟨1+4*(T:Int),by omega,⟨rfl,rfl,rfl,rfl,rfl,rfl,rfl,trivial⟩,⟨rfl,?_,trivial⟩,⟨fun j=>?_,fun j=>rfl,trivial⟩⟩
   ·show some (Ob.rs 41 1 ((((xW 900 w w.length).map (renL (swp (.n 999) (.l 0)))).map (scrPL (qI bN))).map (renL (swp (.n 999) (.l 0)))))=_
    rw[wH (o2:=900) _ _ (fun j _=>rfl),vJ _ _ (fun j=>rfl),wH (o2:=900) _ _ (fun j _=>rfl)]
   ·show Option.map _ (Option.map _ (Option.map _ (fmQ w w.length j)))=_
    rw[vE,vY,vE]
  ·clear hS2
   obtain⟨k,hk,hS3⟩:=hS3
   refine wN 3 (At (qL4 m w) (qO4 p w) (qF4 w)) (fun K hK=>?_) (fun S4 hS4=>?_)
   ·obtain⟨τ,H,rfl⟩:=hS3.form
    clear hS3
    conv=>whnf
    refine kbi (fun h=>absurd h (by simp;omega)) (fun _=>?_)
    conv=>whnf
    refine .inl ⟨[sl (w.map xG),sl (w.map xG)],[],_,⟨_,_,rfl,⟨_,rfl,rZ (q:=900) rfl (fun j=>rfl)⟩,_,_,rfl,rfl,rfl⟩,rfl,uM w hw.len hw.row,?_⟩
    rintro r rfl
    refine⟨rfl,?_⟩
    conv=>whnf
    refine kbi (fun h=>absurd h (by simp)) (fun _=>?_)
    conv=>whnf
    refine .inr (.inr (.inr (.inr ⟨_,18,[],q5 shQ,rfl,943,76,aL,_,io_congr (nK w 1 hw.len hw.tot (by omega) (by omega) _ ?_ (fun j=>?_)) rfl,rfl,?_⟩)))
    ·show some (Ob.rs 41 1 ((((xW 900 w w.length).map (renL shQ.f)).map (renL (swp (.n 943) (.l 76)))).map (scrPL (fun o=>!aL o))))=_
     rw[wH (o2:=943) _ _ (fun j _=>rfl),wH (o2:=943) _ _ (fun j _=>rfl),vJ _ _ (fun j=>rfl)]
    ·show Option.map _ (Option.map _ (Option.map _ (fmQ w w.length j)))=_
     rw[vE,vE,vY]
    rintro r H1 ⟨rfl,e1,e2,q⟩
    refine⟨q,fun n hn=>⟨.rs 41 1 (xW 943 w w.length),?_,xW 943 w w.length,?_,rfl⟩,?_⟩
    ·have:n=76:=Nat.eq_of_beq_eq_true hn
     subst this
     show some (Ob.rs 41 1 (((xW 900 w w.length).map (renL shQ.f)).map (renL (swp (.n 943) (.l 76)))))=_
     rw[wH (o2:=943) _ _ (fun j _=>rfl),wH (o2:=943) _ _ (fun j _=>rfl)]
    ·have:n=76:=Nat.eq_of_beq_eq_true hn
     subst this;exact e1
    conv=>whnf
    refine hK _ ⟨⟨rfl,rfl,rfl,rfl,rfl,rfl,trivial⟩,⟨rfl,?_,trivial⟩,⟨fun j=>?_,fun j=>rfl,trivial⟩⟩
    ·show Option.map _ (H1 (.l 76))=_
     rw[e1]
     show some (Ob.rs 41 1 ((xW 943 w w.length).map (renL (swp (.n 943) (.l 76)))))=_
     rw[wH (o2:=943) _ _ (fun j _=>rfl)]
    ·show Option.map _ (H1 (.s 943 j))=_
     rw[e2,vE]
   ·clear hS3
    obtain⟨τ,H,rfl⟩:=hS4.form
    clear hS4
    have hh:=nQ w 1 hw.len hw.tot (by omega) (by omega)
    conv=>whnf
    refine .inl ⟨[sl ((uF w 1 w.length).map xG),i64 1],[],_,⟨_,_,rfl,⟨_,rfl,tL rfl (fun j=>rfl)⟩,_,_,rfl,rfl,rfl⟩,rfl,hh,?_⟩
    rintro r rfl
    refine⟨rfl,?_⟩
    conv=>whnf
    refine kbi (fun h=>absurd h (by simp;omega)) (fun _=>?_)
    conv=>whnf
    refine kbi (fun h=>absurd h (by simp)) (fun _=>?_)
    conv=>whnf
    refine⟨_,wO p hs,?_⟩
    rintro r rfl
    conv=>whnf
    refine⟨_,cI,?_⟩
    rintro r rfl
    conv=>whnf
    have e0:(w.map fun _=>[D.nil]).length=w.length:=by simp
    refine .inl ⟨[sl (w.map xG),sl (w.map xG)],[],_,⟨_,_,rfl,⟨_,rfl,?_⟩,_,_,rfl,rfl,rfl⟩,rfl,uM w hw.len hw.row,?_⟩
    ·rw[e0]
     refine rZ (q:=900) ?_ (fun j=>?_)
     ·show some (Ob.rs 41 1 (ownRows 900 0 (w.map fun _=>[.nil]) (w.map fun x=>x.map encInt)))=_
      rw[kF]
     ·exact gW rfl j
    rintro r rfl
    refine⟨rfl,?_⟩
    conv=>whnf
    refine kbi (fun h=>absurd h (by simp)) (fun _=>?_)
    conv=>whnf
    refine .inl ⟨[sl ((uF w 1 w.length).map xG),i64 1],[],_,⟨_,_,rfl,⟨_,rfl,tL ?_ (fun j=>?_)⟩,_,_,rfl,rfl,rfl⟩,rfl,hh,?_⟩
    ·show some (Ob.rs 41 1 ((xW 943 w w.length).map (scrPL _)))=_
     rw[vJ _ _ (fun j=>rfl)]
    ·show Option.map _ (fmQ (uF w 1 w.length) w.length j)=_
     rw[vY]
    rintro r rfl
    refine⟨rfl,?_⟩
    conv=>whnf
    refine kbi (fun h=>absurd h (by simp;omega)) (fun _=>?_)
    conv=>whnf
    refine kbi (fun h=>absurd h (by simp)) (fun _=>?_)
    conv=>whnf
    try rfl
 obtain⟨τ,H,rfl⟩:=hat.form
 clear hat
 conv=>whnf
 refine .inl ⟨[agg (encProg p),i64 m],[],_,⟨_,_,rfl,⟨_,rfl,dP rfl (fun j=>rfl) rfl⟩,_,_,rfl,rfl,rfl⟩,rfl,cI,?_⟩
 rintro r rfl
 refine⟨fun c hc=>?_,?_⟩
 ·simp only[List.mem_cons,List.not_mem_nil,or_false] at hc
  rcases hc with rfl|rfl
  ·refine⟨fun c hc=>?_,fun q hq c hc=>?_⟩
   ·obtain⟨y,_,rfl⟩:=List.mem_map.1 hc;rfl
   ·obtain⟨r,_,rfl⟩:=List.mem_map.1 hq
    obtain⟨y,_,rfl⟩:=List.mem_map.1 hc;rfl
  ·rfl
 conv=>whnf
 have e0:(w.map fun _=>[D.nil]).length=w.length:=by simp
 refine .inl ⟨[sl (w.map xG),sl (w.map xG)],[],_,⟨_,_,rfl,⟨_,rfl,?_⟩,_,_,rfl,rfl,rfl⟩,rfl,uM w hw.len hw.row,?_⟩
 ·rw[e0]
  refine rZ (q:=900) ?_ (fun j=>?_)
  ·show some (Ob.rs 41 1 (ownRows 900 0 (w.map fun _=>[.nil]) (w.map fun x=>x.map encInt)))=_
   rw[kF]
  ·exact gW rfl j
 rintro r rfl
 refine⟨rfl,?_⟩
 conv=>whnf
 refine kbi (fun h=>absurd h (by simp)) (fun _=>?_)
 conv=>whnf
 refine⟨by kernel_rfl,?_⟩
 conv=>whnf
 refine⟨_,wO p hs,?_⟩
 conv=>whnf
 refine⟨[agg (encProg p),agg (encProg p)],[],bv true,⟨_,_,rfl,⟨_,rfl,dP ?_ (fun j=>?_) rfl⟩,_,_,rfl,nU p,rfl⟩,rfl,lR p hs,rfl,?_⟩
 ·show some (Ob.rs 157 1 ((wE (zE p) 0).map (scrPL _)))=_
  rw[xI _ fun j=>rfl]
 ·show Option.map _ (vN (zE p) 0 j)=_
  exact wL _ _ _ _
 conv=>whnf
 refine hK _ ⟨⟨rfl,rfl,rfl,rfl,rfl,?_,rfl,trivial⟩,⟨rfl,rfl,?_,?_,trivial⟩,⟨fun j=>?_,fun j=>?_,fun j=>rfl,trivial⟩⟩
 ·show AV.dref (.n 900) (w.map fun _=>[D.nil]).length=_
  rw[e0]
 ·show some (Ob.rs 157 1 ((wE (zE p) 0).map (scrPL _)))=_
  rw[xI _ fun j=>rfl]
 ·show some (Ob.rs 41 1 (ownRows 900 0 (w.map fun _=>[.nil]) (w.map fun x=>x.map encInt)))=_
  rw[kF]
 ·show Option.map _ (vN (zE p) 0 j)=_
  exact wL _ _ _ _
 ·exact gW rfl j
theorem lawSlB (p:ProgL) (hp:p.wf) (hv:p.flt) (m:Int)
  (cS:(p.rs.length≤1048576∧∀ x∈p.rs,x.length≤1048576)→CallsTo EE 20 [agg (encProg p),i64 m] (·=.tup [sl [],bv false]))
  (cI:(p.rs.length≤1048576∧∀ x∈p.rs,x.length≤1048576)→CallsTo EE 21 [agg (encProg p),i64 m] (·=.tup [sl [],bv false])):CallsTo EE 4 [agg (encProg p),i64 m] (·=bv true):=by
 refine callsTo_of_AW (fn:=Tryz.f4) Tryz.func4 rfl (by kernel_rfl) rfl ?_
 refine wN 6 (fun S=>SmC p∧At (zL m) (qO p) (zF p) S) (fun K hK=>?_) (fun S hS=>?_)
 ·conv=>whnf
  refine⟨_,lB p 1048576 (by omega) (by omega) hp,?_⟩
  rintro r ⟨n,rfl,hn1,hn2,hn3⟩
  conv=>whnf
  refine kbi (fun _=>?_) (fun h=>?_)
  ·conv=>whnf
   try rfl
  have hsz:p.size≤1048576:=by
   have:=hn3 (by simp at h;omega)
   simp at h
   omega
  have hs:=tM List.length p.rs 1048576 hsz
  have cS:=cS hs
  conv=>whnf
  refine⟨_,wO p hs,?_⟩
  rintro r rfl
  conv=>whnf
  refine⟨_,cS,?_⟩
  rintro r rfl
  conv=>whnf
  refine⟨_,fQ p hs,?_⟩
  rintro r rfl
  conv=>whnf
  refine hK _ ⟨⟨hs,hsz⟩,⟨rfl,rfl,rfl,rfl,rfl,trivial⟩,⟨rfl,?_,?_,trivial⟩,⟨fun j=>?_,trivial⟩⟩
  ·show some (Ob.vs 31 [i64 p.cells,i64 p.locks,i64 p.conds,.dref (.n 903) (p.rs.map fun _=>[D.nil]).length])=_
   rw[List.length_map]
  ·show some (Ob.rs 157 1 ((ownRows 903 0 (p.rs.map fun _=>[.nil]) (zE p)).map (scrPL (isK (.n 8)))))=_
   rw[lJ,xI _ (fun j=>rfl)]
  ·show Option.map _ (match ownH (sG p) (.s 903 j) with|some ob=>some ob|none=>_)=_
   rw[lK]
   cases hq:vN (zE p) 0 j with
   |none=>rfl
   |some ob =>
    show Option.map _ (some ob)=some ob
    rw[← hq,wL]
 obtain⟨⟨hs,hsz⟩,hat⟩:=hS
 have cI:=cI hs
 refine wN 3 (At (zL2 m) (qO p) (zF p)) (fun K hK=>?_) (fun S2 hS2=>?_)
 rotate_left 1
 ·clear hat
  have hsl:(zE p).length=p.rs.length:=by simp[zE]
  have ht:=mT hsz
  refine wN 2 (fun S=>∃ k:Int,0≤k∧At (zL3 m k) (zO p) [] S) (fun K hK=>?_) (fun S3 hS3=>?_)
  ·obtain⟨τ,H,rfl⟩:=hS2.form
   clear hS2
   conv=>whnf
   refine .inr (.inl ⟨999,0,bN,(fun r H1=>r=i64 (1+4*tot (zE p) (zE p).length)∧∀ κ,H1 κ=none),?_,rfl,?_⟩)
   ·refine io_congr (gH p.cells p.locks p.conds (zE p) 1 (by omega) (ops4 p) ht (by omega) (by omega) _ ?_ fun j=>?_) ?_
    ·show some (Ob.rs 157 1 (((wE (zE p) 0).map (renL (swp (.n 999) (.l 0)))).map (scrPL (fun o=>!bN o))))=_
     rw[kG _ (fun j=>rfl),xI _ (fun j=>rfl)]
    ·show Option.map _ (Option.map _ (vN (zE p) 0 j))=_
     rw[qQ,wL]
    ·rw[hsl];rfl
   rintro r H1 ⟨rfl,q⟩
   refine⟨fun κ _=>q κ,fun n hn=>(by cases hn),?_⟩
   generalize tot (zE p) (zE p).length=T at ht ⊢
   conv=>whnf
   refine hK _ ⟨1+4*(T:Int),by omega,⟨rfl,rfl,rfl,rfl,rfl,rfl,rfl,trivial⟩,⟨rfl,trivial⟩,trivial⟩
  ·clear hS2
   obtain⟨k,hk,hS3⟩:=hS3
   refine wN 3 (At (zL4 m) (zO p) []) (fun K hK=>?_) (fun S4 hS4=>?_)
   ·obtain⟨τ,H,rfl⟩:=hS3.form
    clear hS3
    conv=>whnf
    refine kbi (fun h=>absurd h (by simp;omega)) (fun _=>?_)
    conv=>whnf
    refine⟨_,fI,?_⟩
    rintro r rfl
    conv=>whnf
    refine kbi (fun h=>absurd h (by simp)) (fun _=>?_)
    conv=>whnf
    refine⟨_,aF 1,?_⟩
    rintro r rfl
    conv=>whnf
    exact hK _ ⟨⟨rfl,rfl,rfl,rfl,rfl,rfl,trivial⟩,⟨rfl,trivial⟩,trivial⟩
   ·clear hS3
    obtain⟨τ,H,rfl⟩:=hS4.form
    clear hS4
    conv=>whnf
    refine⟨_,fZ 1,?_⟩
    rintro r rfl
    conv=>whnf
    refine kbi (fun h=>absurd h (by simp)) (fun _=>?_)
    conv=>whnf
    refine kbi (fun h=>absurd h (by simp)) (fun _=>?_)
    conv=>whnf
    refine⟨_,wO p hs,?_⟩
    rintro r rfl
    conv=>whnf
    refine⟨_,cI,?_⟩
    rintro r rfl
    conv=>whnf
    refine⟨_,fI,?_⟩
    rintro r rfl
    conv=>whnf
    refine kbi (fun h=>absurd h (by simp)) (fun _=>?_)
    conv=>whnf
    refine⟨_,fZ 1,?_⟩
    rintro r rfl
    conv=>whnf
    refine kbi (fun h=>absurd h (by simp)) (fun _=>?_)
    conv=>whnf
    refine kbi (fun h=>absurd h (by simp)) (fun _=>?_)
    conv=>whnf
    try rfl
 obtain⟨τ,H,rfl⟩:=hat.form
 clear hat
 conv=>whnf
 refine .inl ⟨[agg (encProg p),i64 m],[],_,⟨_,_,rfl,⟨_,rfl,dP rfl (fun j=>rfl) rfl⟩,_,_,rfl,rfl,rfl⟩,rfl,cI,?_⟩
 rintro r rfl
 refine⟨fun c hc=>?_,?_⟩
 ·simp only[List.mem_cons,List.not_mem_nil,or_false] at hc
  rcases hc with rfl|rfl
  ·exact .inl ⟨_,rfl,rfl⟩
  ·exact .inl ⟨_,rfl,rfl⟩
 conv=>whnf
 refine⟨_,fI,?_⟩
 rintro r rfl
 conv=>whnf
 refine kbi (fun h=>absurd h (by simp)) (fun _=>?_)
 conv=>whnf
 refine⟨by kernel_rfl,?_⟩
 conv=>whnf
 refine⟨_,wO p hs,?_⟩
 conv=>whnf
 refine⟨[agg (encProg p),agg (encProg p)],[],bv true,⟨_,_,rfl,⟨_,rfl,dP rfl (fun j=>rfl) rfl⟩,_,_,rfl,nU p,rfl⟩,rfl,lR p hs,rfl,?_⟩
 conv=>whnf
 exact hK _ ⟨⟨rfl,rfl,rfl,rfl,rfl,rfl,rfl,trivial⟩,⟨rfl,rfl,rfl,trivial⟩,⟨fun j=>rfl,trivial⟩⟩
end Ai
namespace Ai
set_option maxRecDepth 100000
open Go Go.Proofs Cyc
theorem w9 (p:ProgL) (hp:p.wf) (hs:p.rs.length≤1048576∧∀ x∈p.rs,x.length≤1048576) (hv:p.flt) (b:Int) :
  CallsTo EE 20 [agg (encProg p),i64 b] (fun r=>(OkA p b∧r=.tup [sl ((mQ p b true).1.map rowPk),bv true])∨(¬ OkA p b∧r=.tup [sl [],bv false])):=by
 refine callsTo_of_AW (fn:=Tryz.f20) Tryz.func20 rfl (by kernel_rfl) rfl ?_
 conv=>whnf
 refine⟨_,57,[],Weak.refl,rfl,999,99,dK,_,rC p hp hs hv b false rfl rfl rfl rfl,rfl,?_⟩
 rintro q H1 (⟨hok,rfl,rfl⟩|⟨hn,rfl,rfl⟩)
 ·rw[allX_eq]
  refine⟨mS,fun n hn=>?_,?_⟩
  ·cases hn
  have hA:OkA p b↔(qV p b).2=true:=⟨fun e=>e.2,fun e=>⟨hok,e⟩⟩
  generalize qV p b=X at *
  obtain⟨xs,okk⟩:=X
  cases okk with
  |false =>
   conv=>whnf
   refine .inl ?_
   conv=>whnf
   exact .inr ⟨fun e=>absurd (hA.1 e) (by simp),rfl⟩
  |true =>
   conv=>whnf
   refine⟨_,57,[],weak_frz dK,rfl,999,99,dK,_,rC p hp hs hv b true rfl rfl rfl rfl,rfl,?_⟩
   rintro q H1 (⟨_,rfl,rfl⟩|⟨hn,rfl,rfl⟩)
   ·refine⟨mS,fun n hn=>?_,?_⟩
    ·cases hn
    generalize mQ p b true=Y
    obtain⟨ys,oky⟩:=Y
    conv=>whnf
    refine .inl ?_
    conv=>whnf
    refine .inl ⟨hA.2 rfl,?_⟩
    show AV.tup [sl (((ys.map rowPk).drop 0).take ys.length),bv true]=_
    rw[List.drop_zero,List.take_of_length_le (by simp)]
   ·exact absurd hok hn
 ·refine⟨fun _ _=>rfl,fun n hn=>?_,?_⟩
  ·cases hn
  conv=>whnf
  refine .inl ?_
  conv=>whnf
  exact .inr ⟨fun e=>hn e.1,rfl⟩
end Ai
namespace Ai
set_option maxRecDepth 100000
open Go Go.Proofs Cyc
theorem v6 (p:ProgL) (hp:p.wf) (hs:p.rs.length≤1048576∧∀ x∈p.rs,x.length≤1048576) (hv:p.flt) (b:Int) :
  CallsTo EE 21 [agg (encProg p),i64 b] (fun r=>(OkA p b∧r=.ownF 1 [nD ((mQ p b true).1.map RunT.tk),bv true])∨(¬ OkA p b∧r=.tup [sl [],bv false])):=by
 refine callsTo_of_AW (fn:=Tryz.f21) Tryz.func21 rfl (by kernel_rfl) rfl ?_
 conv=>whnf
 refine⟨_,allI_ok p hp hs hv b,?_⟩
 rintro r (⟨hok,rfl⟩|⟨hn,rfl⟩)
 ·have hA:OkA p b↔(qV p b).2=true:=⟨fun e=>e.2,fun e=>⟨hok,e⟩⟩
  have hg:=hok.1
  have hk:=hok.2
  have hall:=allX_end hg hv hk.1 true
  have hup:=rows_of hk.2 (allX_len p b true) hall (allX_rise p b true)
  generalize qV p b=X at *
  obtain⟨xs,okk⟩:=X
  cases okk with
  |false =>
   conv=>whnf
   refine .inl ?_
   conv=>whnf
   exact .inr ⟨fun e=>absurd (hA.1 e) (by simp),rfl⟩
  |true =>
   obtain⟨b1,b2,b3,b4⟩:=hg.1
   have hr0:XR p b ⟨0,[],[],xC p⟩:=XR.new hg hk.1
   conv=>whnf
   refine⟨_,mV p ⟨b1.1,by have:=b1.2;omega⟩ ⟨b2.1,by have:=b2.2;omega⟩,?_⟩
   rintro r rfl
   conv=>whnf
   refine .inr (.inr (.inl ⟨_,63,[],(weak_frz (fun κ=>isSt κ || isK (.n 22) κ || isK (.n 23) κ)).trans ((weak_cvt (.n 900) (e:=175) (sz:=6) (els:=(xC p).ths.map zH) ?_).trans ((weak_frz (isK (.n 900))).trans
    ((wX (.n 20) (.n 950) 107 56 7 5 [i64 p.cells,i64 p.locks,i64 p.conds,.d (.sl (p.rs.map zS)),i64 b,.d .nil,bv true] (by intro n h;cases h) (by intro h;cases h) ?_ rfl).trans (weak_cvt (.n 950) (e:=56) (sz:=7) (els:=[]) ?_)))),rfl,20,0,dL,_,
     b7 (io_congr (tK p hp hg hv b ⟨hk.1,by have:=hk.2;omega⟩ true (b.toNat+1) ⟨0,[],[],xC p⟩ 0 [] [] hr0 (by simp) (by simp) (by simp) _ ?_) ?_),rfl,?_⟩))
   ·exact congrArg (fun x=>some (Ob.rs 175 6 x)) (fR (fun _=>rfl) fun j=>fV (xC p) j)
   ·rfl
   ·rfl
   ·exact⟨rfl,rfl⟩
   ·show[AV.ptr (.l 0) 0,AV.agg [i64 0,sl _,sl _,sl _,sl _,sl _,i64 (xC p).fault],sl []]=[AV.ptr (.l 0) 0,AV.agg [i64 0,sl _,sl _,sl _,sl _,sl _,i64 (xC p).fault],sl []]
    refine args5 ?_ ?_ ?_ ?_ ?_ rfl
    all_goals simp[List.take_of_length_le]
   rintro q H1 ⟨rfl,rfl⟩
   refine⟨bU,fun n hn=>?_,?_⟩
   ·have:n=0:=Nat.eq_of_beq_eq_true hn
    subst this
    exact⟨107,_,_,rfl,rfl⟩
   rw[sleepI_eq hg hv hk.1]
   generalize mQ p b true=Y at *
   obtain⟨ys,oky⟩:=Y
   conv=>whnf
   have hpk:CallsTo EE 60 [sl (((ys.map yO).drop 0).take ys.length)] (·=.ownF 1 [nD (ys.map RunT.tk)]):=by
    rw[List.drop_zero,List.take_of_length_le (by simp)]
    exact cW ys hup
   refine .inl ⟨_,hpk,?_⟩
   rintro r rfl
   refine⟨fun c hc=>?_,?_⟩
   ·simp only[List.mem_cons,List.not_mem_nil,or_false] at hc
    subst hc
    refine⟨fun c hc=>?_,fun q hq c hc=>?_⟩
    ·obtain⟨y,_,rfl⟩:=List.mem_map.1 hc;rfl
    ·obtain⟨r,_,rfl⟩:=List.mem_map.1 hq
     obtain⟨y,_,rfl⟩:=List.mem_map.1 hc;rfl
   conv=>whnf
   refine .inr ⟨1,[nD (ys.map RunT.tk),bv true],_,[.dref (.n 900) ((ys.map RunT.tk).map fun _=>[D.nil]).length,bv true],Weak.refl,rfl,by simp,rfl,?_,dI ⟨⟨rfl,fun j q hq=>?_⟩,trivial,trivial⟩,.inl ⟨hA.2 rfl,rfl⟩⟩
   ·intro v hv
    simp only[List.mem_cons,List.not_mem_nil,or_false] at hv
    rcases hv with rfl|rfl
    ·show((ys.map RunT.tk).map _).length=((ys.map RunT.tk).map _).length
     simp
    ·trivial
   ·have e:ownH [nD (ys.map RunT.tk)] (.s 900 j)=some (.ds 3 1 q):=by
     show(((ys.map RunT.tk).map fun x=>x.map encInt)[j]?).map (Ob.ds 3 1)=_
     rw[hq]
     rfl
    show(match ownH [nD (ys.map RunT.tk)] (.s 900 j) with|some ob=>some ob|none=>_)=_
    rw[e]
 ·conv=>whnf
  refine .inl ?_
  conv=>whnf
  exact .inr ⟨fun e=>hn e.1,rfl⟩
end Ai
namespace Ai
set_option maxRecDepth 100000
open Go Go.Proofs Cyc
theorem lawSleep (p:ProgL) (hp:p.wf) (hv:p.flt) (m:Int):CallsTo EE 4 [agg (encProg p),i64 m] (·=bv true):=by
 by_cases h:OkA p m
 ·have hall:=allX_end h.1.1 hv h.1.2.1 true
  refine lawSlA p hp hv m ((mQ p m true).1.map RunT.tk) (pkQ_of h.1.2.2 (allX_len p m true) hall) (fun hs=>?_) (fun hs=>?_)
  ·refine vU (w9 p hp hs hv m) fun r hr=>?_
   rcases hr with ⟨_,rfl⟩|⟨hn,rfl⟩
   ·show _=AV.tup [sl (((mQ p m true).1.map RunT.tk).map xG),bv true]
    rw[List.map_map];rfl
   ·exact absurd h hn
  ·refine vU (v6 p hp hs hv m) fun r hr=>?_
   rcases hr with ⟨_,rfl⟩|⟨hn,rfl⟩
   ·rfl
   ·exact absurd h hn
 ·refine lawSlB p hp hv m (fun hs=>?_) (fun hs=>?_)
  ·refine vU (w9 p hp hs hv m) fun r hr=>?_
   rcases hr with ⟨h',_⟩|⟨_,rfl⟩
   ·exact absurd h' h
   ·rfl
  ·refine vU (v6 p hp hs hv m) fun r hr=>?_
   rcases hr with ⟨h',_⟩|⟨_,rfl⟩
   ·exact absurd h' h
   ·rfl
end Ai
namespace Ai
set_option maxRecDepth 100000
open Go Go.Proofs Cyc
theorem oK {p:ProgL} {b most:Int} (hg:p.goodS) (hv:p.flt) (hb:0≤b):∀ x∈dD p b most,XEnd p b x:=fun x hx=>eQ hg hv hb x (List.mem_filter.1 hx).1
theorem oJ (p:ProgL) (b most:Int):(dD p b most).length≤401:=Nat.le_trans (List.length_filter_le _ _) (eP p b)
theorem runsW_rise (p:ProgL) (b most:Int):gQ ((dD p b most).map RunT.tk):=a0 _ (allR_rise p b)
theorem v8 (p:ProgL) (hp:p.wf) (hs:p.rs.length≤1048576∧∀ x∈p.rs,x.length≤1048576) (hv:p.flt) (b most:Int) :
  CallsTo EE 23 [agg (encProg p),i64 b,i64 most] (fun r=>(OkW p b most∧r=.ownF 1 [nD ((dD p b most).map RunT.tk),bv true])∨(¬ OkW p b most∧r=.tup [sl [],bv false])):=by
 refine callsTo_of_AW (fn:=Tryz.f23) Tryz.func23 rfl (by kernel_rfl) rfl ?_
 conv=>whnf
 refine⟨_,withinI_ok p hp hs hv b most,?_⟩
 rintro r (⟨hok,rfl⟩|⟨hn,rfl⟩)
 ·have hup:=rows_of (p:=p) hok.1.1.2.2 (oJ p b most) (oK hok.1.1.1 hv hok.1.1.2.1) (runsW_rise p b most)
  generalize dD p b most=xs at *
  conv=>whnf
  refine⟨_,cW xs hup,?_⟩
  rintro r rfl
  conv=>whnf
  refine .inr ⟨1,[nD (xs.map RunT.tk),bv true],_,[.dref (.n 900) ((xs.map RunT.tk).map fun _=>[D.nil]).length,bv true],Weak.refl,rfl,by simp,rfl,?_,dI ⟨⟨rfl,fun j q hq=>?_⟩,trivial,trivial⟩,.inl ⟨hok,rfl⟩⟩
  ·intro v hv
   simp only[List.mem_cons,List.not_mem_nil,or_false] at hv
   rcases hv with rfl|rfl
   ·show((xs.map RunT.tk).map _).length=((xs.map RunT.tk).map _).length
    simp
   ·trivial
  ·have e:ownH [nD (xs.map RunT.tk)] (.s 900 j)=some (.ds 3 1 q):=by
    show(((xs.map RunT.tk).map fun x=>x.map encInt)[j]?).map (Ob.ds 3 1)=_
    rw[hq]
    rfl
   show(match ownH [nD (xs.map RunT.tk)] (.s 900 j) with|some ob=>some ob|none=>_)=_
   rw[e]
 ·conv=>whnf
  refine .inl ?_
  conv=>whnf
  exact .inr ⟨hn,rfl⟩
theorem v7 (p:ProgL) (hp:p.wf) (hs:p.rs.length≤1048576∧∀ x∈p.rs,x.length≤1048576) (hv:p.flt) (b most:Int) :
  CallsTo EE 22 [agg (encProg p),i64 b,i64 most] (fun r=>(OkW p b most∧r=.tup [sl ((dD p b most).map rowPk),bv true])∨(¬ OkW p b most∧r=.tup [sl [],bv false])):=by
 refine callsTo_of_AW (fn:=Tryz.f22) Tryz.func22 rfl (by kernel_rfl) rfl ?_
 conv=>whnf
 refine⟨_,AllRunsS_ok p hp hs hv b,?_⟩
 rintro r (⟨hok,rfl⟩|⟨hn,rfl⟩)
 rotate_left 1
 ·conv=>whnf
  refine .inl ?_
  conv=>whnf
  exact .inr ⟨fun e=>hn e.1,rfl⟩
 have hall:=eQ hok.1.1 hv hok.1.2.1
 have hlen:=eP p b
 have hW:dD p b most=(qV p b).1.filter fun x=>!wV p most x:=rfl
 rw[hW]
 clear hW
 have hb14:=hok.1.2
 have hg:=hok.1.1
 generalize qV p b=X at *
 obtain⟨xs,okk⟩:=X
 have hall:∀ x∈xs,XEnd p b x:=hall
 have hlen:xs.length≤401:=hlen
 conv=>whnf
 refine ocase (qM most 0 20) (fun hk=>?_) (fun hk=>?_)
 rotate_left 1
 ·conv=>whnf
  refine .inl ?_
  conv=>whnf
  exact .inr ⟨fun e=>hk e.2,rfl⟩
 conv=>whnf
 refine yV (fun k:Nat=>[(1,i64 b),(2,i64 most),(3,.ptr (.n 3) 0),(10,.ref (.n 10) 0 ((xs.take k).filter fun x=>!wV p most x).length),(26,sl (xs.map rowPk)),(27,i64 (xs.map rowPk).length),(28,i64 k)])
  (fun k=>[(.n 3,.vs 31 ((encProg p).map .d)),(.n 10,.ds 41 1 (((xs.take k).filter fun x=>!wV p most x).map rowPk))]) (fun k=>xs.length - k) (fun k=>k≤xs.length) 0 (weak_nil 10 (.n 10) 41 1 rfl)
  ⟨rfl,rfl,rfl,rfl,rfl,rfl,rfl,trivial⟩ ⟨rfl,rfl,trivial⟩ (Nat.zero_le _) ?_
 intro k τ H hk2
 have hk2:k≤xs.length:=hk2
 conv=>whnf
 refine kbi (fun h=>?_) (fun h=>?_)
 ·have hlt:k<xs.length:=xF h
  have hx:=hall _ (List.getElem_mem hlt)
  have hfl:((xs.take k).filter fun x=>!wV p most x).length≤k:=by
   have:=List.length_filter_le (fun x=>!wV p most x) (xs.take k)
   simp at this
   omega
  conv=>whnf
  refine⟨rowPk xs[k],yA rowPk hlt rfl,?_⟩
  conv=>whnf
  refine⟨by kernel_rfl,?_⟩
  conv=>whnf
  refine⟨_,run_of_end hp hg hb14 hx,?_⟩
  conv=>whnf
  refine⟨_,l17Pre_ok p hp hg hv b (by have:=hb14.2;omega) xs[k] hx,?_⟩
  conv=>whnf
  have e1:xs.take (k+1)=xs.take k++[xs[k]]:=List.take_succ_eq_append_getElem hlt
  refine kbi (fun h3=>?_) (fun h3=>?_)
  ·have h3:wV p most xs[k]=false:=by
    have h3:((preL p xs[k]:Nat):Int)≤most:=of_decide_eq_true h3
    exact decide_eq_false (by omega)
   have ef:((xs.take (k+1)).filter fun x=>!wV p most x)=((xs.take k).filter fun x=>!wV p most x)++[xs[k]]:=by
    rw[e1,List.filter_append]
    simp[h3]
   conv=>whnf
   refine⟨⟨rfl,by show(_+1)*24≤_;omega,by show _+1≤_;omega⟩,?_⟩
   conv=>whnf
   refine⟨k+1,hlt,by show xs.length - (k+1)<xs.length - k;omega,⟨rfl,rfl,rfl,?_,rfl,rfl,next_i64 hlt (by omega),trivial⟩,⟨rfl,?_,trivial⟩⟩
   ·show AV.ref (.n 10) 0 (((xs.take k).filter fun x=>!wV p most x).length+1)=_
    rw[ef,List.length_append];rfl
   ·show some (Ob.ds 41 1 ((((xs.take k).filter fun x=>!wV p most x).map rowPk).take ((xs.take k).filter fun x=>!wV p most x).length++[rowPk xs[k]]))=_
    rw[ef,List.map_append,List.take_of_length_le (by simp)];rfl
  ·have h3:wV p most xs[k]=true:=by
    have h3:¬ ((preL p xs[k]:Nat):Int)≤most:=fun e=>h3 (decide_eq_true e)
    exact decide_eq_true (by omega)
   have ef:((xs.take (k+1)).filter fun x=>!wV p most x)=((xs.take k).filter fun x=>!wV p most x):=by
    rw[e1,List.filter_append]
    simp[h3]
   conv=>whnf
   refine⟨k+1,hlt,by show xs.length - (k+1)<xs.length - k;omega,⟨rfl,rfl,rfl,?_,rfl,rfl,next_i64 hlt (by omega),trivial⟩,⟨rfl,?_,trivial⟩⟩
   ·show AV.ref (.n 10) 0 ((xs.take k).filter fun x=>!wV p most x).length=_
    rw[ef]
   ·show some (Ob.ds 41 1 (((xs.take k).filter fun x=>!wV p most x).map rowPk))=_
    rw[ef]
 ·have hge:k=xs.length:=by
   have:¬ k<xs.length:=by simpa using h
   omega
  subst hge
  conv=>whnf
  refine .inl ?_
  conv=>whnf
  refine .inl ⟨⟨hok,hk⟩,?_⟩
  show AV.tup [sl (((((xs.take xs.length).filter fun x=>!wV p most x).map rowPk).drop 0).take ((xs.take xs.length).filter fun x=>!wV p most x).length),bv true]=_
  rw[List.drop_zero,List.take_of_length_le (by simp),List.take_length]
end Ai
namespace Ai
set_option maxRecDepth 100000
open Go Go.Proofs Cyc
def rqL (m q:Int) (w:List (List Int)):List (Nat × AV):=[(1,i64 m),(2,i64 q),(3,.ptr (.n 3) 0),(8,sl (w.map xG)),(9,bv true),(10,.ptr (.n 10) 0)]
def rqO (p:ProgL):List (Key × Ob):=[(.n 3,.vs 24 ((encProg p).map .d)),(.n 10,.vs 31 [i64 p.cells,i64 p.locks,i64 p.conds,.dref (.n 903) p.rs.length]),(.n 903,.rs 157 1 (wE (zE p) 0))]
def rqL2 (m q:Int) (w:List (List Int)):List (Nat × AV):=[(1,i64 m),(2,i64 q),(3,.ptr (.n 3) 0),(8,sl (w.map xG)),(9,bv true),(10,.ptr (.n 10) 0),(11,.dref (.n 900) w.length),(12,bv true)]
def rqO2 (p:ProgL) (w:List (List Int)):List (Key × Ob):=[(.n 3,.vs 24 ((encProg p).map .d)),(.n 10,.vs 31 [i64 p.cells,i64 p.locks,i64 p.conds,.dref (.n 903) p.rs.length]),(.n 903,.rs 157 1 (wE (zE p) 0)),(.n 900,.rs 41 1 (xW 900 w w.length))]
def rqL3 (m q:Int) (w:List (List Int)) (k:Int):List (Nat × AV):=[(1,i64 m),(2,i64 q),(3,.ptr (.n 3) 0),(8,sl (w.map xG)),(9,bv true),(11,.dref (.n 900) w.length),(12,bv true),(13,i64 k)]
def rqO3 (p:ProgL) (w:List (List Int)):List (Key × Ob):=[(.n 3,.vs 24 ((encProg p).map .d)),(.n 900,.rs 41 1 (xW 900 w w.length))]
def rqL4 (m q:Int) (w:List (List Int)):List (Nat × AV):=[(1,i64 m),(2,i64 q),(3,.ptr (.n 3) 0),(8,sl (w.map xG)),(9,bv true),(11,.dref (.n 943) w.length),(14,i64 (1+(vA w w.length:Int)))]
def rqO4 (p:ProgL) (w:List (List Int)):List (Key × Ob):=[(.n 3,.vs 24 ((encProg p).map .d)),(.n 943,.rs 41 1 (xW 943 w w.length))]
def rzL (m q:Int):List (Nat × AV):=[(1,i64 m),(2,i64 q),(3,.ptr (.n 3) 0),(8,sl []),(9,bv false),(10,.ptr (.n 10) 0)]
def rzL2 (m q:Int):List (Nat × AV):=[(1,i64 m),(2,i64 q),(3,.ptr (.n 3) 0),(8,sl []),(9,bv false),(10,.ptr (.n 10) 0),(11,sl []),(12,bv false)]
def rzL3 (m q:Int) (k:Int):List (Nat × AV):=[(1,i64 m),(2,i64 q),(3,.ptr (.n 3) 0),(8,sl []),(9,bv false),(11,sl []),(12,bv false),(13,i64 k)]
def rzO (p:ProgL):List (Key × Ob):=[(.n 3,.vs 24 ((encProg p).map .d))]
def rzL4 (m q:Int):List (Nat × AV):=[(1,i64 m),(2,i64 q),(3,.ptr (.n 3) 0),(8,sl []),(9,bv false),(11,sl []),(14,i64 1)]
theorem lawWiA (p:ProgL) (hp:p.wf) (hv:p.flt) (m q:Int) (w:List (List Int)) (hw:PkOK w)
  (cS:(p.rs.length≤1048576∧∀ x∈p.rs,x.length≤1048576)→CallsTo EE 22 [agg (encProg p),i64 m,i64 q] (·=.tup [sl (w.map xG),bv true]))
  (cI:(p.rs.length≤1048576∧∀ x∈p.rs,x.length≤1048576)→CallsTo EE 23 [agg (encProg p),i64 m,i64 q] (·=.ownF 1 [nD w,bv true])):CallsTo EE 5 [agg (encProg p),i64 m,i64 q] (·=bv true):=by
 refine callsTo_of_AW (fn:=Tryz.f5) Tryz.func5 rfl (by kernel_rfl) rfl ?_
 refine wN 6 (fun S=>SmC p∧At (rqL m q w) (rqO p) (qF p) S) (fun K hK=>?_) (fun S hS=>?_)
 ·conv=>whnf
  refine⟨_,lB p 1048576 (by omega) (by omega) hp,?_⟩
  rintro r ⟨n,rfl,hn1,hn2,hn3⟩
  conv=>whnf
  refine kbi (fun _=>?_) (fun h=>?_)
  ·conv=>whnf
   try rfl
  have hsz:p.size≤1048576:=by
   have:=hn3 (by simp at h;omega)
   simp at h
   omega
  have hs:=tM List.length p.rs 1048576 hsz
  have cS:=cS hs
  conv=>whnf
  refine⟨_,wO p hs,?_⟩
  rintro r rfl
  conv=>whnf
  refine⟨_,cS,?_⟩
  rintro r rfl
  conv=>whnf
  refine⟨_,fQ p hs,?_⟩
  rintro r rfl
  conv=>whnf
  refine hK _ ⟨⟨hs,hsz⟩,⟨rfl,rfl,rfl,rfl,rfl,rfl,trivial⟩,⟨rfl,?_,?_,trivial⟩,⟨fun j=>?_,fun j=>rfl,fun j=>rfl,trivial⟩⟩
  ·show some (Ob.vs 31 [i64 p.cells,i64 p.locks,i64 p.conds,.dref (.n 903) (p.rs.map fun _=>[D.nil]).length])=_
   rw[List.length_map]
  ·show some (Ob.rs 157 1 ((ownRows 903 0 (p.rs.map fun _=>[.nil]) (zE p)).map (scrPL (isK (.n 10)))))=_
   rw[lJ,xI _ (fun j=>rfl)]
  ·show Option.map _ (match ownH (sG p) (.s 903 j) with|some ob=>some ob|none=>_)=_
   rw[lK]
   cases hq:vN (zE p) 0 j with
   |none=>rfl
   |some ob =>
    show Option.map _ (some ob)=some ob
    rw[← hq,wL]
 obtain⟨⟨hs,hsz⟩,hat⟩:=hS
 have cI:=cI hs
 refine wN 3 (At (rqL2 m q w) (rqO2 p w) (qF2 p w)) (fun K hK=>?_) (fun S2 hS2=>?_)
 rotate_left 1
 ·clear hat
  have hsl:(zE p).length=p.rs.length:=by simp[zE]
  have ht:=mT hsz
  refine wN 2 (fun S=>∃ k:Int,0≤k∧At (rqL3 m q w k) (rqO3 p w) (qF3 w) S) (fun K hK=>?_) (fun S3 hS3=>?_)
  ·obtain⟨τ,H,rfl⟩:=hS2.form
   clear hS2
   conv=>whnf
   refine .inr (.inl ⟨999,0,bN,(fun r H1=>r=i64 (1+4*tot (zE p) (zE p).length)∧∀ κ,H1 κ=none),?_,rfl,?_⟩)
   ·refine io_congr (gH p.cells p.locks p.conds (zE p) 1 (by omega) (ops4 p) ht (by omega) (by omega) _ ?_ fun j=>?_) ?_
    ·show some (Ob.rs 157 1 (((wE (zE p) 0).map (renL (swp (.n 999) (.l 0)))).map (scrPL (fun o=>!bN o))))=_
     rw[kG _ (fun j=>rfl),xI _ (fun j=>rfl)]
    ·show Option.map _ (Option.map _ (vN (zE p) 0 j))=_
     rw[qQ,wL]
    ·rw[hsl];rfl
   rintro r H1 ⟨rfl,q⟩
   refine⟨fun κ _=>q κ,fun n hn=>(by cases hn),?_⟩
   generalize tot (zE p) (zE p).length=T at ht ⊢
   conv=>whnf
   refine hK _ ⟨1+4*(T:Int),by omega,⟨rfl,rfl,rfl,rfl,rfl,rfl,rfl,rfl,trivial⟩,⟨rfl,?_,trivial⟩,⟨fun j=>?_,fun j=>rfl,trivial⟩⟩
   ·show some (Ob.rs 41 1 ((((xW 900 w w.length).map (renL (swp (.n 999) (.l 0)))).map (scrPL (qI bN))).map (renL (swp (.n 999) (.l 0)))))=_
    rw[wH (o2:=900) _ _ (fun j _=>rfl),vJ _ _ (fun j=>rfl),wH (o2:=900) _ _ (fun j _=>rfl)]
   ·show Option.map _ (Option.map _ (Option.map _ (fmQ w w.length j)))=_
    rw[vE,vY,vE]
  ·clear hS2
   obtain⟨k,hk,hS3⟩:=hS3
   refine wN 3 (At (rqL4 m q w) (rqO4 p w) (qF4 w)) (fun K hK=>?_) (fun S4 hS4=>?_)
   ·obtain⟨τ,H,rfl⟩:=hS3.form
    clear hS3
    conv=>whnf
    refine kbi (fun h=>absurd h (by simp;omega)) (fun _=>?_)
    conv=>whnf
    refine .inl ⟨[sl (w.map xG),sl (w.map xG)],[],_,⟨_,_,rfl,⟨_,rfl,rZ (q:=900) rfl (fun j=>rfl)⟩,_,_,rfl,rfl,rfl⟩,rfl,uM w hw.len hw.row,?_⟩
    rintro r rfl
    refine⟨rfl,?_⟩
    conv=>whnf
    refine kbi (fun h=>absurd h (by simp)) (fun _=>?_)
    conv=>whnf
    refine .inr (.inr (.inr (.inr ⟨_,18,[],q5 shQ,rfl,943,76,aL,_,io_congr (nK w 1 hw.len hw.tot (by omega) (by omega) _ ?_ (fun j=>?_)) rfl,rfl,?_⟩)))
    ·show some (Ob.rs 41 1 ((((xW 900 w w.length).map (renL shQ.f)).map (renL (swp (.n 943) (.l 76)))).map (scrPL (fun o=>!aL o))))=_
     rw[wH (o2:=943) _ _ (fun j _=>rfl),wH (o2:=943) _ _ (fun j _=>rfl),vJ _ _ (fun j=>rfl)]
    ·show Option.map _ (Option.map _ (Option.map _ (fmQ w w.length j)))=_
     rw[vE,vE,vY]
    rintro r H1 ⟨rfl,e1,e2,q⟩
    refine⟨q,fun n hn=>⟨.rs 41 1 (xW 943 w w.length),?_,xW 943 w w.length,?_,rfl⟩,?_⟩
    ·have:n=76:=Nat.eq_of_beq_eq_true hn
     subst this
     show some (Ob.rs 41 1 (((xW 900 w w.length).map (renL shQ.f)).map (renL (swp (.n 943) (.l 76)))))=_
     rw[wH (o2:=943) _ _ (fun j _=>rfl),wH (o2:=943) _ _ (fun j _=>rfl)]
    ·have:n=76:=Nat.eq_of_beq_eq_true hn
     subst this;exact e1
    conv=>whnf
    refine hK _ ⟨⟨rfl,rfl,rfl,rfl,rfl,rfl,rfl,trivial⟩,⟨rfl,?_,trivial⟩,⟨fun j=>?_,fun j=>rfl,trivial⟩⟩
    ·show Option.map _ (H1 (.l 76))=_
     rw[e1]
     show some (Ob.rs 41 1 ((xW 943 w w.length).map (renL (swp (.n 943) (.l 76)))))=_
     rw[wH (o2:=943) _ _ (fun j _=>rfl)]
    ·show Option.map _ (H1 (.s 943 j))=_
     rw[e2,vE]
   ·clear hS3
    obtain⟨τ,H,rfl⟩:=hS4.form
    clear hS4
    have hh:=nQ w 1 hw.len hw.tot (by omega) (by omega)
    conv=>whnf
    refine .inl ⟨[sl ((uF w 1 w.length).map xG),i64 1],[],_,⟨_,_,rfl,⟨_,rfl,tL rfl (fun j=>rfl)⟩,_,_,rfl,rfl,rfl⟩,rfl,hh,?_⟩
    rintro r rfl
    refine⟨rfl,?_⟩
    conv=>whnf
    refine kbi (fun h=>absurd h (by simp;omega)) (fun _=>?_)
    conv=>whnf
    refine kbi (fun h=>absurd h (by simp)) (fun _=>?_)
    conv=>whnf
    refine⟨_,wO p hs,?_⟩
    rintro r rfl
    conv=>whnf
    refine⟨_,cI,?_⟩
    rintro r rfl
    conv=>whnf
    have e0:(w.map fun _=>[D.nil]).length=w.length:=by simp
    refine .inl ⟨[sl (w.map xG),sl (w.map xG)],[],_,⟨_,_,rfl,⟨_,rfl,?_⟩,_,_,rfl,rfl,rfl⟩,rfl,uM w hw.len hw.row,?_⟩
    ·rw[e0]
     refine rZ (q:=900) ?_ (fun j=>?_)
     ·show some (Ob.rs 41 1 (ownRows 900 0 (w.map fun _=>[.nil]) (w.map fun x=>x.map encInt)))=_
      rw[kF]
     ·exact gW rfl j
    rintro r rfl
    refine⟨rfl,?_⟩
    conv=>whnf
    refine kbi (fun h=>absurd h (by simp)) (fun _=>?_)
    conv=>whnf
    refine .inl ⟨[sl ((uF w 1 w.length).map xG),i64 1],[],_,⟨_,_,rfl,⟨_,rfl,tL ?_ (fun j=>?_)⟩,_,_,rfl,rfl,rfl⟩,rfl,hh,?_⟩
    ·show some (Ob.rs 41 1 ((xW 943 w w.length).map (scrPL _)))=_
     rw[vJ _ _ (fun j=>rfl)]
    ·show Option.map _ (fmQ (uF w 1 w.length) w.length j)=_
     rw[vY]
    rintro r rfl
    refine⟨rfl,?_⟩
    conv=>whnf
    refine kbi (fun h=>absurd h (by simp;omega)) (fun _=>?_)
    conv=>whnf
    refine kbi (fun h=>absurd h (by simp)) (fun _=>?_)
    conv=>whnf
    try rfl
 obtain⟨τ,H,rfl⟩:=hat.form
 clear hat
 conv=>whnf
 refine .inl ⟨[agg (encProg p),i64 m,i64 q],[],_,⟨_,_,rfl,⟨_,rfl,dP rfl (fun j=>rfl) rfl⟩,_,_,rfl,rfl,_,_,rfl,rfl,rfl⟩,rfl,cI,?_⟩
 rintro r rfl
 refine⟨fun c hc=>?_,?_⟩
 ·simp only[List.mem_cons,List.not_mem_nil,or_false] at hc
  rcases hc with rfl|rfl
  ·refine⟨fun c hc=>?_,fun q hq c hc=>?_⟩
   ·obtain⟨y,_,rfl⟩:=List.mem_map.1 hc;rfl
   ·obtain⟨r,_,rfl⟩:=List.mem_map.1 hq
    obtain⟨y,_,rfl⟩:=List.mem_map.1 hc;rfl
  ·rfl
 conv=>whnf
 have e0:(w.map fun _=>[D.nil]).length=w.length:=by simp
 refine .inl ⟨[sl (w.map xG),sl (w.map xG)],[],_,⟨_,_,rfl,⟨_,rfl,?_⟩,_,_,rfl,rfl,rfl⟩,rfl,uM w hw.len hw.row,?_⟩
 ·rw[e0]
  refine rZ (q:=900) ?_ (fun j=>?_)
  ·show some (Ob.rs 41 1 (ownRows 900 0 (w.map fun _=>[.nil]) (w.map fun x=>x.map encInt)))=_
   rw[kF]
  ·exact gW rfl j
 rintro r rfl
 refine⟨rfl,?_⟩
 conv=>whnf
 refine kbi (fun h=>absurd h (by simp)) (fun _=>?_)
 conv=>whnf
 refine⟨by kernel_rfl,?_⟩
 conv=>whnf
 refine⟨_,wO p hs,?_⟩
 conv=>whnf
 refine⟨[agg (encProg p),agg (encProg p)],[],bv true,⟨_,_,rfl,⟨_,rfl,dP ?_ (fun j=>?_) rfl⟩,_,_,rfl,nU p,rfl⟩,rfl,lR p hs,rfl,?_⟩
 ·show some (Ob.rs 157 1 ((wE (zE p) 0).map (scrPL _)))=_
  rw[xI _ fun j=>rfl]
 ·show Option.map _ (vN (zE p) 0 j)=_
  exact wL _ _ _ _
 conv=>whnf
 refine hK _ ⟨⟨rfl,rfl,rfl,rfl,rfl,rfl,?_,rfl,trivial⟩,⟨rfl,rfl,?_,?_,trivial⟩,⟨fun j=>?_,fun j=>?_,fun j=>rfl,trivial⟩⟩
 ·show AV.dref (.n 900) (w.map fun _=>[D.nil]).length=_
  rw[e0]
 ·show some (Ob.rs 157 1 ((wE (zE p) 0).map (scrPL _)))=_
  rw[xI _ fun j=>rfl]
 ·show some (Ob.rs 41 1 (ownRows 900 0 (w.map fun _=>[.nil]) (w.map fun x=>x.map encInt)))=_
  rw[kF]
 ·show Option.map _ (vN (zE p) 0 j)=_
  exact wL _ _ _ _
 ·exact gW rfl j
theorem lawWiB (p:ProgL) (hp:p.wf) (hv:p.flt) (m q:Int)
  (cS:(p.rs.length≤1048576∧∀ x∈p.rs,x.length≤1048576)→CallsTo EE 22 [agg (encProg p),i64 m,i64 q] (·=.tup [sl [],bv false]))
  (cI:(p.rs.length≤1048576∧∀ x∈p.rs,x.length≤1048576)→CallsTo EE 23 [agg (encProg p),i64 m,i64 q] (·=.tup [sl [],bv false])):CallsTo EE 5 [agg (encProg p),i64 m,i64 q] (·=bv true):=by
 refine callsTo_of_AW (fn:=Tryz.f5) Tryz.func5 rfl (by kernel_rfl) rfl ?_
 refine wN 6 (fun S=>SmC p∧At (rzL m q) (rqO p) (zF p) S) (fun K hK=>?_) (fun S hS=>?_)
 ·conv=>whnf
  refine⟨_,lB p 1048576 (by omega) (by omega) hp,?_⟩
  rintro r ⟨n,rfl,hn1,hn2,hn3⟩
  conv=>whnf
  refine kbi (fun _=>?_) (fun h=>?_)
  ·conv=>whnf
   try rfl
  have hsz:p.size≤1048576:=by
   have:=hn3 (by simp at h;omega)
   simp at h
   omega
  have hs:=tM List.length p.rs 1048576 hsz
  have cS:=cS hs
  conv=>whnf
  refine⟨_,wO p hs,?_⟩
  rintro r rfl
  conv=>whnf
  refine⟨_,cS,?_⟩
  rintro r rfl
  conv=>whnf
  refine⟨_,fQ p hs,?_⟩
  rintro r rfl
  conv=>whnf
  refine hK _ ⟨⟨hs,hsz⟩,⟨rfl,rfl,rfl,rfl,rfl,rfl,trivial⟩,⟨rfl,?_,?_,trivial⟩,⟨fun j=>?_,trivial⟩⟩
  ·show some (Ob.vs 31 [i64 p.cells,i64 p.locks,i64 p.conds,.dref (.n 903) (p.rs.map fun _=>[D.nil]).length])=_
   rw[List.length_map]
  ·show some (Ob.rs 157 1 ((ownRows 903 0 (p.rs.map fun _=>[.nil]) (zE p)).map (scrPL (isK (.n 10)))))=_
   rw[lJ,xI _ (fun j=>rfl)]
  ·show Option.map _ (match ownH (sG p) (.s 903 j) with|some ob=>some ob|none=>_)=_
   rw[lK]
   cases hq:vN (zE p) 0 j with
   |none=>rfl
   |some ob =>
    show Option.map _ (some ob)=some ob
    rw[← hq,wL]
 obtain⟨⟨hs,hsz⟩,hat⟩:=hS
 have cI:=cI hs
 refine wN 3 (At (rzL2 m q) (rqO p) (zF p)) (fun K hK=>?_) (fun S2 hS2=>?_)
 rotate_left 1
 ·clear hat
  have hsl:(zE p).length=p.rs.length:=by simp[zE]
  have ht:=mT hsz
  refine wN 2 (fun S=>∃ k:Int,0≤k∧At (rzL3 m q k) (rzO p) [] S) (fun K hK=>?_) (fun S3 hS3=>?_)
  ·obtain⟨τ,H,rfl⟩:=hS2.form
   clear hS2
   conv=>whnf
   refine .inr (.inl ⟨999,0,bN,(fun r H1=>r=i64 (1+4*tot (zE p) (zE p).length)∧∀ κ,H1 κ=none),?_,rfl,?_⟩)
   ·refine io_congr (gH p.cells p.locks p.conds (zE p) 1 (by omega) (ops4 p) ht (by omega) (by omega) _ ?_ fun j=>?_) ?_
    ·show some (Ob.rs 157 1 (((wE (zE p) 0).map (renL (swp (.n 999) (.l 0)))).map (scrPL (fun o=>!bN o))))=_
     rw[kG _ (fun j=>rfl),xI _ (fun j=>rfl)]
    ·show Option.map _ (Option.map _ (vN (zE p) 0 j))=_
     rw[qQ,wL]
    ·rw[hsl];rfl
   rintro r H1 ⟨rfl,q⟩
   refine⟨fun κ _=>q κ,fun n hn=>(by cases hn),?_⟩
   generalize tot (zE p) (zE p).length=T at ht ⊢
   conv=>whnf
   refine hK _ ⟨1+4*(T:Int),by omega,⟨rfl,rfl,rfl,rfl,rfl,rfl,rfl,rfl,trivial⟩,⟨rfl,trivial⟩,trivial⟩
  ·clear hS2
   obtain⟨k,hk,hS3⟩:=hS3
   refine wN 3 (At (rzL4 m q) (rzO p) []) (fun K hK=>?_) (fun S4 hS4=>?_)
   ·obtain⟨τ,H,rfl⟩:=hS3.form
    clear hS3
    conv=>whnf
    refine kbi (fun h=>absurd h (by simp;omega)) (fun _=>?_)
    conv=>whnf
    refine⟨_,fI,?_⟩
    rintro r rfl
    conv=>whnf
    refine kbi (fun h=>absurd h (by simp)) (fun _=>?_)
    conv=>whnf
    refine⟨_,aF 1,?_⟩
    rintro r rfl
    conv=>whnf
    exact hK _ ⟨⟨rfl,rfl,rfl,rfl,rfl,rfl,rfl,trivial⟩,⟨rfl,trivial⟩,trivial⟩
   ·clear hS3
    obtain⟨τ,H,rfl⟩:=hS4.form
    clear hS4
    conv=>whnf
    refine⟨_,fZ 1,?_⟩
    rintro r rfl
    conv=>whnf
    refine kbi (fun h=>absurd h (by simp)) (fun _=>?_)
    conv=>whnf
    refine kbi (fun h=>absurd h (by simp)) (fun _=>?_)
    conv=>whnf
    refine⟨_,wO p hs,?_⟩
    rintro r rfl
    conv=>whnf
    refine⟨_,cI,?_⟩
    rintro r rfl
    conv=>whnf
    refine⟨_,fI,?_⟩
    rintro r rfl
    conv=>whnf
    refine kbi (fun h=>absurd h (by simp)) (fun _=>?_)
    conv=>whnf
    refine⟨_,fZ 1,?_⟩
    rintro r rfl
    conv=>whnf
    refine kbi (fun h=>absurd h (by simp)) (fun _=>?_)
    conv=>whnf
    refine kbi (fun h=>absurd h (by simp)) (fun _=>?_)
    conv=>whnf
    try rfl
 obtain⟨τ,H,rfl⟩:=hat.form
 clear hat
 conv=>whnf
 refine .inl ⟨[agg (encProg p),i64 m,i64 q],[],_,⟨_,_,rfl,⟨_,rfl,dP rfl (fun j=>rfl) rfl⟩,_,_,rfl,rfl,_,_,rfl,rfl,rfl⟩,rfl,cI,?_⟩
 rintro r rfl
 refine⟨fun c hc=>?_,?_⟩
 ·simp only[List.mem_cons,List.not_mem_nil,or_false] at hc
  rcases hc with rfl|rfl
  ·exact .inl ⟨_,rfl,rfl⟩
  ·exact .inl ⟨_,rfl,rfl⟩
 conv=>whnf
 refine⟨_,fI,?_⟩
 rintro r rfl
 conv=>whnf
 refine kbi (fun h=>absurd h (by simp)) (fun _=>?_)
 conv=>whnf
 refine⟨by kernel_rfl,?_⟩
 conv=>whnf
 refine⟨_,wO p hs,?_⟩
 conv=>whnf
 refine⟨[agg (encProg p),agg (encProg p)],[],bv true,⟨_,_,rfl,⟨_,rfl,dP rfl (fun j=>rfl) rfl⟩,_,_,rfl,nU p,rfl⟩,rfl,lR p hs,rfl,?_⟩
 conv=>whnf
 exact hK _ ⟨⟨rfl,rfl,rfl,rfl,rfl,rfl,rfl,rfl,trivial⟩,⟨rfl,rfl,rfl,trivial⟩,⟨fun j=>rfl,trivial⟩⟩
theorem lawWithin (p:ProgL) (hp:p.wf) (hv:p.flt) (m q:Int):CallsTo EE 5 [agg (encProg p),i64 m,i64 q] (·=bv true):=by
 by_cases h:OkW p m q
 ·have hall:=oK (most:=q) h.1.1.1 hv h.1.1.2.1
  refine lawWiA p hp hv m q ((dD p m q).map RunT.tk) (pkQ_of h.1.1.2.2 (oJ p m q) hall) (fun hs=>?_) (fun hs=>?_)
  ·refine vU (v7 p hp hs hv m q) fun r hr=>?_
   rcases hr with ⟨_,rfl⟩|⟨hn,rfl⟩
   ·show _=AV.tup [sl (((dD p m q).map RunT.tk).map xG),bv true]
    rw[List.map_map];rfl
   ·exact absurd h hn
  ·refine vU (v8 p hp hs hv m q) fun r hr=>?_
   rcases hr with ⟨_,rfl⟩|⟨hn,rfl⟩
   ·rfl
   ·exact absurd h hn
 ·refine lawWiB p hp hv m q (fun hs=>?_) (fun hs=>?_)
  ·refine vU (v7 p hp hs hv m q) fun r hr=>?_
   rcases hr with ⟨h',_⟩|⟨_,rfl⟩
   ·exact absurd h' h
   ·rfl
  ·refine vU (v8 p hp hs hv m q) fun r hr=>?_
   rcases hr with ⟨h',_⟩|⟨_,rfl⟩
   ·exact absurd h' h
   ·rfl
end Ai
