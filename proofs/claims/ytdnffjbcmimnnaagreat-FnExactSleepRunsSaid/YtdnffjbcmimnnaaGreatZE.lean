import Derived.Test.YtdnffjbcmimnnaaGreatZD
set_option maxHeartbeats 8000000
set_option linter.unusedVariables false
set_option linter.unusedSimpArgs false
namespace Ai
set_option maxRecDepth 100000
open Go Go.Proofs Cyc
def eE (w:List Nat):List D:=[.sl (w.map uN)]
def OneEach (edges:List (Nat × Nat)):Prop:=∀ i j (hi:i<edges.length) (hj:j<edges.length),edges[i].1=edges[j].1→i=j
def nxv:Option Nat→AV
 |none=>.d .nil
 |some b=>.d (.sl [[di (b:Int)]])
theorem l3Way_ok (edges:List (Nat × Nat)) (n:Nat) (w:List Nat) (hl:edges.length≤5) (ho:OneEach edges) (hw:bV edges n 8 0 [[n]] []=some w) :
  CallsTo EE 205 [sl (edges.map rL),i64 n,i64 n] (·=sl (w.map uN)):=by
 refine callsTo_of_AW (fn:=Tryz.f205) Tryz.func205 rfl (by kernel_rfl) rfl ?_
 conv=>whnf
 refine .inl ?_
 conv=>whnf
 refine yV (fun x:Nat × List (List Nat) × List Nat=>[(0,sl (edges.map rL)),(1,i64 n),(2,i64 n),(6,.d .nil),(7,.ref (.n 18) 0 x.2.1.length),(8,.ref (.n 68) 0 x.2.2.length),(9,i64 x.1)])
  (fun x=>[(.n 18,.ds 41 1 (x.2.1.map eE)),(.n 68,.ds 3 1 (x.2.2.map uN))]) (fun x=>8 - x.1)
  (fun x=>∃ f,f+x.1=8∧bV edges n f x.1 x.2.1 x.2.2=some w∧x.2.1.length≤x.1+1∧(∀ v∈x.2.1,1≤v.length∧v.length≤x.1+1)∧x.2.2.length≤x.1) (0,[[n]],[])
  (weak_nil 8 (.n 68) 3 1 rfl) ?_ ?_ ⟨8,rfl,hw,by simp,by simp,by simp⟩ ?_
 ·exact⟨rfl,rfl,rfl,rfl,rfl,rfl,rfl,trivial⟩
 ·exact⟨rfl,rfl,trivial⟩
 rintro⟨i,ways,seen⟩ τ H ⟨f,hf,hrun,hwl,hne,hsl⟩
 cases f with
 |zero=>cases hrun
 |succ f =>
 have hf:f+1+i=8:=hf
 have hrun:bV edges n (f+1) i ways seen=some w:=hrun
 have hwl:ways.length≤i+1:=hwl
 have hne:∀ v∈ways,1≤v.length∧v.length≤i+1:=hne
 have hsl:seen.length≤i:=hsl
 conv=>whnf
 refine kbi (fun hi=>?_) (fun hi=>?_)
 ·have hi:i<ways.length:=by
   have:=of_decide_eq_true hi
   simpa using this
  have hwi:=hne _ (List.getElem_mem hi)
  have hgd:ways.getD i []=ways[i]:=by simp[List.getD_eq_getElem?_getD,hi]
  unfold bV at hrun
  rw[if_pos hi,hgd] at hrun
  generalize hv:ways[i]=v at *
  have hvl:v.getLastD 0=v.getD (v.length - 1) 0:=by
   rw[List.getLastD_eq_getLast?,List.getLast?_eq_getElem?,List.getD_eq_getElem?_getD]
  conv=>whnf
  refine⟨⟨by omega,by show(i:Int)<ways.length;omega⟩,?_⟩
  conv=>whnf
  refine⟨eE v,⟨by rw[Nat.zero_add];show(ways.map eE)[i]?=_;rw[List.getElem?_map,List.getElem?_eq_getElem hi,hv];rfl,by show 0+1≤1;omega⟩,?_⟩
  conv=>whnf
  have ewl:IntKind.i64.wrap ((v.length:Int) - 1)=((v.length - 1:Nat):Int):=by rw[zG (by omega) (by omega)];omega
  generalize hlast:v.getLastD 0=last at *
  refine yV (fun y:Nat × Option Nat=>[(0,sl (edges.map rL)),(1,i64 n),(2,i64 n),(6,.d .nil),(7,.ref (.n 18) 0 ways.length),(8,.ref (.n 68) 0 seen.length),(9,i64 i),(10,sl (v.map uN)),(11,nxv y.2),(29,sl (edges.map rL)),(30,i64 (edges.map rL).length),(31,i64 y.1)])
   (fun y=>[(.n 18,.ds 41 1 (ways.map eE)),(.n 68,.ds 3 1 (seen.map uN))]) (fun y=>edges.length - y.1)
   (fun y=>y.1≤edges.length∧y.2=((edges.take y.1).find? (fun e=>e.1==last)).map (·.2)) (0,none)
   Weak.refl ⟨rfl,rfl,rfl,rfl,rfl,rfl,rfl,rfl,rfl,rfl,rfl,rfl,trivial⟩ ⟨rfl,rfl,trivial⟩ ⟨Nat.zero_le _,rfl⟩ ?_
  rintro⟨j,q⟩ τ2 H2 ⟨hj,hq⟩
  have hj:j≤edges.length:=hj
  have hq:q=((edges.take j).find? (fun e=>e.1==last)).map (·.2):=hq
  conv=>whnf
  refine kbi (fun hje=>?_) (fun hje=>?_)
  ·have hje:j<edges.length:=by simpa using hje
   have hnext:(edges.take (j+1)).find? (fun e=>e.1==last)=((edges.take j).find? (fun e=>e.1==last)).or (if edges[j].1==last then some edges[j] else none):=by
    rw[List.take_succ_eq_append_getElem hje,List.find?_append]
    congr 1
    simp only[List.find?_cons]
    cases (edges[j].1==last) <;> rfl
   conv=>whnf
   refine⟨rL edges[j],⟨by omega,by simp[hje],rfl⟩,?_⟩
   conv=>whnf
   refine⟨by kernel_rfl,?_⟩
   conv=>whnf
   refine⟨[di edges[j].1],⟨by decide,rfl,rfl⟩,?_⟩
   conv=>whnf
   refine⟨uN last,⟨?_,?_,rfl⟩,?_⟩
   ·show(0:Int)≤IntKind.i64.wrap (((v.map uN).length:Int) - 1)
    rw[List.length_map,ewl];omega
   ·show(v.map uN)[(IntKind.i64.wrap (((v.map uN).length:Int) - 1)).toNat]?=_
    rw[List.length_map,ewl,hvl,List.getElem?_map,List.getD_eq_getElem?_getD]
    show(v[v.length - 1]?).map uN=_
    rw[List.getElem?_eq_getElem (by omega)]
    rfl
   conv=>whnf
   refine kbi (fun h7=>?_) (fun h7=>?_)
   ·have h7:edges[j].1=last:=by
     have h8:((edges[j].1:Int)==(last:Int))=true:=h7
     rw[beq_iff_eq] at h8
     omega
    have hnone:(edges.take j).find? (fun e=>e.1==last)=none:=by
     rw[List.find?_eq_none]
     intro e he
     obtain⟨k,hk,rfl⟩:=List.mem_take_iff_getElem.1 he
     intro e2
     have e2:edges[k].1=last:=by simpa using e2
     have:=ho k j (by omega) hje (by rw[e2,h7])
     omega
    rw[hnone] at hq hnext
    have hq:q=none:=hq
    subst hq
    conv=>whnf
    refine⟨[di edges[j].2],⟨by decide,rfl,rfl⟩,?_⟩
    conv=>whnf
    refine⟨_,l1Put0_ok (edges[j].2:Int),?_⟩
    rintro r rfl
    refine .inl ?_
    conv=>whnf
    refine⟨(j+1,some edges[j].2),⟨by show j+1≤edges.length;omega,by show some edges[j].2=_;rw[hnext,h7];simp⟩,by show edges.length - (j+1)<edges.length - j;omega,⟨rfl,rfl,rfl,rfl,rfl,rfl,rfl,rfl,rfl,rfl,rfl,?_,trivial⟩,⟨rfl,rfl,trivial⟩⟩
    show AV.d (.int .i64 (IntKind.i64.wrap ((j:Int)+1)))=i64 ((j+1:Nat):Int)
    rw[zG (by omega) (by omega)]
    rfl
   ·have h7:edges[j].1≠last:=by
     intro e
     apply h7
     show((edges[j].1:Int)==(last:Int))=true
     rw[beq_iff_eq,e]
    conv=>whnf
    refine⟨(j+1,q),⟨by show j+1≤edges.length;omega,by show q=_;rw[hnext,hq];simp[h7]⟩,by show edges.length - (j+1)<edges.length - j;omega,⟨rfl,rfl,rfl,rfl,rfl,rfl,rfl,rfl,rfl,rfl,rfl,?_,trivial⟩,⟨rfl,rfl,trivial⟩⟩
    show AV.d (.int .i64 (IntKind.i64.wrap ((j:Int)+1)))=i64 ((j+1:Nat):Int)
    rw[zG (by omega) (by omega)]
    rfl
  ·have hje:edges.length≤j:=by simpa using hje
   have hjj:j=edges.length:=by omega
   rw[hjj,List.take_length] at hq
   cases hfd:edges.find? (fun e=>e.1==last) with
   |none =>
    rw[hfd] at hq hrun
    have hq:q=none:=hq
    subst hq
    conv=>whnf
    refine yV (fun _:Unit=>[(0,sl (edges.map rL)),(1,i64 n),(2,i64 n),(6,.d .nil),(7,.ref (.n 18) 0 ways.length),(8,.ref (.n 68) 0 seen.length),(9,i64 i),(52,i64 0),(53,i64 0)])
     (fun _=>[(.n 18,.ds 41 1 (ways.map eE)),(.n 68,.ds 3 1 (seen.map uN))]) (fun _=>0) (fun _=>True) ()
     Weak.refl ⟨rfl,rfl,rfl,rfl,rfl,rfl,rfl,rfl,rfl,trivial⟩ ⟨rfl,rfl,trivial⟩ trivial ?_
    rintro⟨⟩ τ3 H3 -
    conv=>whnf
    refine kbi (fun h8=>absurd h8 (by decide)) (fun h8=>?_)
    conv=>whnf
    refine⟨(i+1,ways,seen),⟨f,by show f+(i+1)=8;omega,hrun,by show ways.length≤i+1+1;omega,fun v hv=>⟨(hne v hv).1,Nat.le_succ_of_le (hne v hv).2⟩,Nat.le_succ_of_le hsl⟩,by show 8 - (i+1)<8 - i;omega,⟨rfl,rfl,rfl,rfl,rfl,rfl,?_,trivial⟩,⟨rfl,rfl,trivial⟩⟩
    show AV.d (.int .i64 (IntKind.i64.wrap ((i:Int)+1)))=i64 ((i+1:Nat):Int)
    rw[zG (by omega) (by omega)]
    rfl
   |some e =>
    rw[hfd] at hq hrun
    have hq:q=some e.2:=hq
    subst hq
    conv=>whnf
    have hrun:(if e.2=n then some v else if seen.contains e.2=true then bV edges n f (i+1) ways seen else bV edges n f (i+1) (ways++[v++[e.2]]) (seen++[e.2]))=some w:=hrun
    refine yV (fun z:Nat × List (List Nat) × List Nat=>[(0,sl (edges.map rL)),(1,i64 n),(2,i64 n),(6,.d .nil),(7,.ref (.n 18) 0 z.2.1.length),(8,.ref (.n 68) 0 z.2.2.length),(9,i64 i),(10,sl (v.map uN)),(51,.d (.sl [[di (e.2:Int)]])),(52,i64 1),(53,i64 z.1)])
     (fun z=>[(.n 18,.ds 41 1 (z.2.1.map eE)),(.n 68,.ds 3 1 (z.2.2.map uN))]) (fun z=>1 - z.1)
     (fun z=>(z.1=0∧z.2.1=ways∧z.2.2=seen)∨(z.1=1∧bV edges n f (i+1) z.2.1 z.2.2=some w∧z.2.1.length≤i+2∧(∀ v∈z.2.1,1≤v.length∧v.length≤i+2)∧z.2.2.length≤i+1)) (0,ways,seen)
     Weak.refl ⟨rfl,rfl,rfl,rfl,rfl,rfl,rfl,rfl,rfl,rfl,rfl,trivial⟩ ⟨rfl,rfl,trivial⟩ (.inl ⟨rfl,rfl,rfl⟩) ?_
    rintro⟨k,W,Sn⟩ τ3 H3 hz
    rcases hz with ⟨hk,hW,hS⟩|⟨hk,hrun2,hWl,hWn,hSl⟩
    ·obtain rfl:k=0:=hk
     obtain rfl:W=ways:=hW
     obtain rfl:Sn=seen:=hS
     conv=>whnf
     refine kbi (fun _=>?_) (fun h8=>absurd (show decide ((0:Int)<1)=true from rfl) h8)
     conv=>whnf
     refine⟨[di (e.2:Int)],⟨Int.le_refl _,rfl,rfl⟩,?_⟩
     conv=>whnf
     refine kbi (fun h9=>?_) (fun h9=>?_)
     ·have h9:e.2=n:=by
       have h8:((e.2:Int)==(n:Int))=true:=h9
       rw[beq_iff_eq] at h8
       omega
      rw[if_pos h9] at hrun
      obtain rfl:=Option.some.inj hrun
      conv=>whnf
      try rfl
     have h9:e.2≠n:=by
      intro q
      apply h9
      show((e.2:Int)==(n:Int))=true
      rw[beq_iff_eq,q]
     rw[if_neg h9] at hrun
     conv=>whnf
     have hsn:((Sn.map uN).drop 0).take Sn.length=(Sn.map fun x=>((x:Nat):Int)).map encInt:=by
      rw[List.drop_zero,List.take_of_length_le (by simp),List.map_map];rfl
     refine .inl ⟨_,l1Has_at _ (Sn.map fun x=>((x:Nat):Int)) (e.2:Int) hsn (by simp;omega),?_⟩
     rintro r rfl
     refine⟨rfl,?_⟩
     by_cases hc:e.2∈Sn
     ·rw[if_pos (by simpa using hc)] at hrun
      simp only[bp,iL (show((e.2:Nat):Int)∈Sn.map fun x=>((x:Nat):Int) from List.mem_map.2 ⟨e.2,hc,rfl⟩)]
      conv=>whnf
      refine⟨(1,W,Sn),.inr ⟨rfl,hrun,by show W.length≤i+2;omega,fun v hv=>⟨(hne v hv).1,Nat.le_succ_of_le (hne v hv).2⟩,by show Sn.length≤i+1;omega⟩,by show 1 - 1<1 - 0;omega,⟨rfl,rfl,rfl,rfl,rfl,rfl,rfl,rfl,rfl,rfl,rfl,trivial⟩,⟨rfl,rfl,trivial⟩⟩
     ·rw[if_neg (by simpa using hc)] at hrun
      have hm2:¬ ((e.2:Nat):Int)∈Sn.map fun x=>((x:Nat):Int):=by
       intro hm
       obtain⟨x,hx,hx2⟩:=List.mem_map.1 hm
       have hxe:x=e.2:=by omega
       rw[hxe] at hx
       exact hc hx
      simp only[bp,i5 hm2]
      conv=>whnf
      refine⟨⟨rfl,by show(Sn.length+1)*8≤_;omega,by show Sn.length+1≤_;omega⟩,?_⟩
      conv=>whnf
      have hvq:v.map uN=(v.map fun x=>((x:Nat):Int)).map encInt:=by rw[List.map_map];rfl
      refine⟨_,Eq.mp (congrArg (fun x=>CallsTo EE 152 [sl x] _) hvq.symm) (l1Own_ok (v.map fun x=>((x:Nat):Int)) (by simp;omega)),?_⟩
      rintro r rfl
      rw[← hvq]
      refine .inr ⟨71,rfl,?_⟩
      conv=>whnf
      refine⟨⟨rfl,by show((v.map uN).length+1)*8≤_;simp;omega,by show(v.map uN).length+1≤_;simp;omega⟩,?_⟩
      conv=>whnf
      refine .inl ?_
      conv=>whnf
      have evw:(((v.map uN).take (v.map uN).length++[[di (e.2:Int)]]).drop 0).take ((v.map uN).length+1)=(v++[e.2]).map uN:=by
       rw[List.take_length,List.drop_zero,List.take_of_length_le (by simp),List.map_append];rfl
      refine⟨⟨rfl,by show(W.length+1)*24≤_;omega,by show W.length+1≤_;omega⟩,?_⟩
      conv=>whnf
      refine⟨(1,W++[v++[e.2]],Sn++[e.2]),.inr ⟨rfl,hrun,by show(W++[v++[e.2]]).length≤i+2;simp;omega,fun u hu=>?_,by show(Sn++[e.2]).length≤i+1;simp;omega⟩,by show 1 - 1<1 - 0;omega,⟨rfl,rfl,rfl,rfl,?_,?_,rfl,rfl,rfl,rfl,rfl,trivial⟩,⟨?_,?_,trivial⟩⟩
      ·rcases List.mem_append.1 hu with hu|hu
       ·exact⟨(hne u hu).1,Nat.le_succ_of_le (hne u hu).2⟩
       ·simp only[List.mem_cons,List.not_mem_nil,or_false] at hu
        subst hu
        simp;omega
      ·show AV.ref (.n 18) 0 (W.length+1)=.ref (.n 18) 0 (W++[v++[e.2]]).length
       rw[List.length_append];rfl
      ·show AV.ref (.n 68) 0 (Sn.length+1)=.ref (.n 68) 0 (Sn++[e.2]).length
       rw[List.length_append];rfl
      ·show some (Ob.ds 41 1 ((W.map eE).take W.length++[[.sl ((((v.map uN).take (v.map uN).length++[[di (e.2:Int)]]).drop 0).take ((v.map uN).length+1))]]))=some (Ob.ds 41 1 ((W++[v++[e.2]]).map eE))
       have e2:(W++[v++[e.2]]).map eE=W.map eE++[eE (v++[e.2])]:=by rw[List.map_append];rfl
       rw[evw,List.take_of_length_le (by simp),e2];rfl
      ·show some (Ob.ds 3 1 ((Sn.map uN).take Sn.length++[[di (e.2:Int)]]))=some (Ob.ds 3 1 ((Sn++[e.2]).map uN))
       rw[List.take_of_length_le (by simp),List.map_append];rfl
    ·obtain rfl:k=1:=hk
     conv=>whnf
     refine kbi (fun h8=>absurd h8 (show ¬ decide ((1:Int)<1)=true from by decide)) (fun h8=>?_)
     conv=>whnf
     refine⟨(i+1,W,Sn),⟨f,by show f+(i+1)=8;omega,hrun2,hWl,hWn,hSl⟩,by show 8 - (i+1)<8 - i;omega,⟨rfl,rfl,rfl,rfl,rfl,rfl,?_,trivial⟩,⟨rfl,rfl,trivial⟩⟩
     show AV.d (.int .i64 (IntKind.i64.wrap ((i:Int)+1)))=i64 ((i+1:Nat):Int)
     rw[zG (by omega) (by omega)]
     rfl
 ·have hi:¬ i<ways.length:=by
   have:=fun e=>hi (decide_eq_true e)
   intro e
   apply this
   show(i:Int)<ways.length
   omega
  unfold bV at hrun
  rw[if_neg hi] at hrun
  obtain rfl:=Option.some.inj hrun
  conv=>whnf
  exact .inl rfl
end Ai
namespace Ai
set_option maxRecDepth 100000
open Go Go.Proofs Cyc
theorem one_each {edges:List (Nat × Nat)} (h:Graph edges):OneEach edges:=by
 have hn:edges.Pairwise fun x y=>x.1≠y.1:=by
  obtain⟨a,b,c,d,e,-,rfl⟩:=h.g
  cases a <;> cases b <;> cases c <;> cases d <;> cases e <;> simp[ed]
 rw[List.pairwise_iff_getElem] at hn
 intro i j hi hj e
 rcases Nat.lt_trichotomy i j with h1|h1|h1
 ·exact absurd e (hn i j hi hj h1)
 ·exact h1
 ·exact absurd e.symm (hn j i hj hi h1)
theorem l3CycleG_ok (edges:List (Nat × Nat)) (hG:Graph edges):CallsTo EE 142 [sl (edges.map rL)] (·=sl ((kV edges).map uN)) :=
 l3Cycle_ok edges hG fun n w hn hw=>l3Way_ok edges n w hG.len (one_each hG) hw
end Ai
namespace Ai
set_option maxRecDepth 100000
open Go Go.Proofs Cyc
def rU (s:StL):Prop:=∀ x∈s.owner,-1≤x∧x<s.ths.length
theorem wI {s:StL} {k:Nat} {t:Th} (h:rU s):rU (s.put k t):=by
 intro x hx
 have:=h x hx
 simpa[StL.put] using this
theorem nI {s:StL} {i:Nat} {v:Int} (h:rU s) (hv:-1≤v∧v<s.ths.length):rU { s with owner:=s.owner.set i v }:=by
 intro x hx
 rcases List.mem_or_eq_of_mem_set hx with e|e
 ·exact h x e
 ·subst e;exact hv
theorem oinv_do {s:StL} {k:Nat} {o:OpL} {e:Ev} (hk:k<s.ths.length) (h:rU s):rU (doL s k o e).1:=by
 unfold doL
 simp only
 generalize s.ths.getD k th0=t at *
 by_cases n1:o.code=1
 ·rw[if_pos n1];exact wI h
 rw[if_neg n1]
 by_cases n2:o.code=2
 ·rw[if_pos n2];exact wI h
 rw[if_neg n2]
 by_cases n3:o.code=3
 ·rw[if_pos n3];exact wI (s:={ s with cells:=_ }) h
 rw[if_neg n3]
 by_cases n10:o.code=10
 ·rw[if_pos n10];exact wI h
 rw[if_neg n10]
 by_cases n11:o.code=11
 ·rw[if_pos n11];exact wI h
 rw[if_neg n11]
 by_cases n12:o.code=12
 ·rw[if_pos n12];exact wI (nI h ⟨by omega,by omega⟩)
 rw[if_neg n12]
 by_cases n13:o.code=13
 ·rw[if_pos n13];exact wI (nI h ⟨by omega,by omega⟩)
 rw[if_neg n13]
 by_cases n14:o.code=14
 ·rw[if_pos n14]
  refine wI (s:={ s with ths:=_ }) fun x hx=>?_
  have:=h x hx
  refine⟨this.1,?_⟩
  show x<((s.ths++[jM o.a]).length:Int)
  simp;omega
 rw[if_neg n14]
 by_cases n15:o.code=15
 ·rw[if_pos n15];exact wI h
 rw[if_neg n15]
 by_cases n16:o.code=16
 ·rw[if_pos n16];exact wI (nI h ⟨by omega,by omega⟩)
 rw[if_neg n16]
 by_cases n17:o.code=17
 ·rw[if_pos n17]
  cases wY s.ths o.a with
  |none=>exact wI h
  |some j =>
   refine wI (s:={ s with ths:=_ }) fun x hx=>?_
   have:=h x hx
   refine⟨this.1,?_⟩
   show x<((s.ths.modify j fun u=>{ u with st:=4 }).length:Int)
   simp;omega
 rw[if_neg n17]
 exact wI h
theorem oinv_step {p:ProgL} {s:StL} {k:Nat} (hk:k<s.ths.length) (h:rU s):rU (stepL p s k).1:=by
 unfold stepL
 simp only
 split
 ·exact wI (nI h ⟨by omega,by omega⟩)
 ·split
  ·exact wI h
  ·split
   ·exact oinv_do hk h
   ·exact h
theorem oinv_new (p:ProgL):rU (xC p):=by
 intro x hx
 obtain⟨_,rfl⟩:=List.mem_replicate.1 hx
 simp[xC]
end Ai
namespace Ai
set_option maxRecDepth 100000
open Go Go.Proofs Cyc
theorem i8 {s:StL} (h:rU s) (h1:1≤s.ths.length) (i:Nat):s.owner.getD i 0<s.ths.length:=by
 rw[List.getD_eq_getElem?_getD]
 cases hg:s.owner[i]? with
 |none=>show(0:Int)<_;omega
 |some x=>exact(h x (List.mem_of_getElem? hg)).2
theorem blocks_lt {p:ProgL} {s:StL} (h:rU s) (h1:1≤s.ths.length) (t:Th):zJ p s t<s.ths.length:=by
 unfold zJ
 split
 ·exact i8 h h1 _
 ·split
  ·omega
  ·split
   ·split
    ·exact i8 h h1 _
    ·split
     ·split
      ·rename_i k hk
       split
       ·omega
       ·exact(jO idxRange hk).2
      ·omega
     ·omega
   ·omega
end Ai
namespace Ai
set_option maxRecDepth 100000
open Go Go.Proofs Cyc
noncomputable def dV (p:ProgL) (s:StL):List (Nat × Nat):=(rM p s).map fun e=>(e.1,e.2.toNat)
theorem edges_nn {p:ProgL} {s:StL}:∀ e∈rM p s,0≤e.2:=by
 intro e he
 obtain⟨k,hk,rfl⟩:=List.mem_map.1 he
 simpa using (List.mem_filter.1 hk).2
theorem edges_enc (p:ProgL) (s:StL):(rM p s).map encE=(dV p s).map rL:=by
 unfold dV
 rw[List.map_map]
 refine List.map_congr_left fun e he=>?_
 have:=edges_nn e he
 show[D.sl [[di e.1],[di e.2]]]=[D.sl [[di e.1],[di ((e.2.toNat:Nat):Int)]]]
 rw[Int.toNat_of_nonneg this]
noncomputable def waitO (p:ProgL) (s:StL) (k:Nat):Option Nat:=if 0≤zJ p s (s.ths.getD k th0) then some (zJ p s (s.ths.getD k th0)).toNat else none
theorem wZ (p:ProgL) (s:StL) (k:Nat):((if 0≤zJ p s (s.ths.getD k th0) then [(k,zJ p s (s.ths.getD k th0))] else []).map fun e:Nat × Int=>(e.1,e.2.toNat))=ed k (waitO p s k):=by
 unfold waitO
 split <;> rfl
theorem opts_lt {o:Option Nat} (h:∀ b,o=some b→b<5):o∈opts:=by
 cases o with
 |none=>simp[opts]
 |some b =>
  have:=h b rfl
  have:b=0∨b=1∨b=2∨b=3∨b=4:=by omega
  rcases this with rfl|rfl|rfl|rfl|rfl <;> simp[opts]
theorem edges_graph {p:ProgL} {s:StL} (h:rU s) (h1:1≤s.ths.length) (h5:s.ths.length≤5):Graph (dV p s):=by
 have hw:∀ k,waitO p s k∈opts:=fun k=>opts_lt fun b hb=>by
  unfold waitO at hb
  split at hb
  ·rename_i h0
   have:=blocks_lt (p:=p) h h1 (s.ths.getD k th0)
   simp only[Option.some.injEq] at hb
   omega
  ·cases hb
 have hn:(none:Option Nat)∈opts:=by simp[opts]
 have e0:xT p s 0=[]:=rfl
 unfold dV rM
 have:s.ths.length=1∨s.ths.length=2∨s.ths.length=3∨s.ths.length=4∨s.ths.length=5:=by omega
 rcases this with e|e|e|e|e <;> rw[e]
 ·exact⟨_,none,none,none,none,⟨hw 0,hn,hn,hn,hn⟩,by rw[yF,e0,List.map_append,wZ];simp[ed]⟩
 ·exact⟨_,_,none,none,none,⟨hw 0,hw 1,hn,hn,hn⟩,by rw[yF,yF,e0,List.map_append,List.map_append,wZ,wZ];simp[ed]⟩
 ·exact⟨_,_,_,none,none,⟨hw 0,hw 1,hw 2,hn,hn⟩,by rw[yF,yF,yF,e0,List.map_append,List.map_append,List.map_append,wZ,wZ,wZ];simp[ed]⟩
 ·exact⟨_,_,_,_,none,⟨hw 0,hw 1,hw 2,hw 3,hn⟩,by rw[yF,yF,yF,yF,e0,List.map_append,List.map_append,List.map_append,List.map_append,wZ,wZ,wZ,wZ];simp[ed]⟩
 ·exact⟨_,_,_,_,_,⟨hw 0,hw 1,hw 2,hw 3,hw 4⟩,by rw[yF,yF,yF,yF,yF,e0,List.map_append,List.map_append,List.map_append,List.map_append,List.map_append,wZ,wZ,wZ,wZ,wZ];simp⟩
end Ai
namespace Ai
set_option maxRecDepth 100000
open Go Go.Proofs Cyc
def GTh (p:ProgL) (t:Th):Prop:=((t.st=1∨t.st=2)∧t.cond=-1∧t.lock=-1)∨((t.st=3∨t.st=4)∧0≤t.cond∧t.cond<p.conds∧0≤t.lock∧t.lock<p.locks)
structure GInv (p:ProgL) (s:StL):Prop where
 ths:∀ t∈s.ths,GTh p t
 ne:1≤s.ths.length
 fault:InR s.fault 0 4
theorem wK {p:ProgL} {s:StL} {k:Nat} {t:Th} (h:GInv p s) (ht:GTh p t):GInv p (s.put k t):=by
 refine⟨fun u hu=>?_,by simpa[StL.put] using h.ne,h.fault⟩
 rcases List.mem_or_eq_of_mem_set hu with e|e
 ·exact h.ths u e
 ·subst e;exact ht
theorem fault_in (s:StL) (k:Nat) (o:OpL):InR (zZ s k o) 0 4:=by
 unfold zZ InR
 simp only
 split
 ·omega
 split
 ·omega
 split
 ·omega
 split <;> omega
theorem ginv_do {p:ProgL} (hg:p.goodS) {s:StL} (hi:SInv p s) {k:Nat} (h:k<s.ths.length) {o:OpL} (hn:yE p s.ths[k]=some o) (e:Ev) (hG:GInv p s) (h1:s.ths[k].st=1):GInv p (doL s k o e).1:=by
 have hT:=hi.ths _ (List.getElem_mem h)
 have hgd:s.ths.getD k th0=s.ths[k]:=by simp[List.getD_eq_getElem?_getD,h]
 obtain⟨⟨g1,g2⟩,hlt⟩:=dF hg hT hn
 obtain⟨c1,c2,c3,_⟩:=g1
 obtain⟨a1,a2,a3,a4,a5,a6⟩:=g2
 have ht:=hG.ths _ (List.getElem_mem h)
 generalize s.ths[k]=t at *
 unfold doL
 simp only[hgd]
 have hp:GTh p (zC t o):=ht
 have hpush:∀ v,GTh p (zP (zC t o) v):=fun v=>ht
 have hpc:∀ a,GTh p { zC t o with pc:=a }:=fun a=>ht
 by_cases n1:o.code=1
 ·rw[if_pos n1];exact wK hG (hpush _)
 rw[if_neg n1]
 by_cases n2:o.code=2
 ·rw[if_pos n2];exact wK hG (hpush _)
 rw[if_neg n2]
 by_cases n3:o.code=3
 ·rw[if_pos n3];exact wK (s:={ s with cells:=_ }) ⟨hG.ths,hG.ne,hG.fault⟩ hp
 rw[if_neg n3]
 by_cases n10:o.code=10
 ·rw[if_pos n10];exact wK hG (hpc _)
 rw[if_neg n10]
 by_cases n11:o.code=11
 ·rw[if_pos n11]
  refine wK hG ?_
  split
  ·exact hpc _
  ·exact hp
 rw[if_neg n11]
 by_cases n12:o.code=12
 ·rw[if_pos n12];exact wK (s:={ s with owner:=_ }) ⟨hG.ths,hG.ne,hG.fault⟩ hp
 rw[if_neg n12]
 by_cases n13:o.code=13
 ·rw[if_pos n13];exact wK (s:={ s with owner:=_ }) ⟨hG.ths,hG.ne,hG.fault⟩ hp
 rw[if_neg n13]
 by_cases n14:o.code=14
 ·rw[if_pos n14]
  refine wK (s:={ s with ths:=_ }) ⟨fun u hu=>?_,by show 1≤(s.ths++[jM o.a]).length;simp,hG.fault⟩ (hpush _)
  rcases List.mem_append.1 hu with e|e
  ·exact hG.ths u e
  ·simp only[List.mem_cons,List.not_mem_nil,or_false] at e
   subst e;exact .inl ⟨.inl rfl,rfl,rfl⟩
 rw[if_neg n14]
 by_cases n15:o.code=15
 ·rw[if_pos n15];exact wK hG hp
 rw[if_neg n15]
 by_cases n16:o.code=16
 ·rw[if_pos n16]
  exact wK (s:={ s with owner:=_ }) ⟨hG.ths,hG.ne,hG.fault⟩ (.inr ⟨.inl rfl,c2.1,(a5 n16).1,c3.1,(a5 n16).2⟩)
 rw[if_neg n16]
 by_cases n17:o.code=17
 ·rw[if_pos n17]
  cases hw:wY s.ths o.a with
  |none=>exact wK hG hp
  |some j =>
   refine wK (s:={ s with ths:=_ }) ⟨fun u hu=>?_,by simpa using hG.ne,hG.fault⟩ hp
   obtain⟨i,hi2,rfl⟩:=List.mem_iff_getElem.1 hu
   have hil:i<s.ths.length:=by simpa using hi2
   have hU:=hG.ths _ (List.getElem_mem hil)
   rw[List.getElem_modify]
   split
   ·rename_i hji
    subst hji
    unfold wY at hw
    rw[List.findIdx?_eq_some_iff_getElem] at hw
    obtain⟨_,hpw,_⟩:=hw
    simp only[Bool.and_eq_true,beq_iff_eq] at hpw
    rcases hU with ⟨h9,_⟩|⟨_,h9⟩
    ·have:=hpw.1;omega
    ·exact .inr ⟨.inr rfl,h9⟩
   ·exact hU
 rw[if_neg n17]
 exact wK hG (hpush _)
theorem ginv_step {p:ProgL} (hg:p.goodS) {s:StL} (hi:SInv p s) {k:Nat} (h:k<s.ths.length) (hk:k∈enabledL p s) (hG:GInv p s):GInv p (stepL p s k).1:=by
 have ht:=hG.ths _ (List.getElem_mem h)
 have hgo:=goes_st hk h
 have hgd:s.ths.getD k th0=s.ths[k]:=by simp[List.getD_eq_getElem?_getD,h]
 unfold stepL
 simp only[hgd]
 split
 ·exact wK (s:={ s with owner:=_ }) ⟨hG.ths,hG.ne,hG.fault⟩ (.inl ⟨.inl rfl,rfl,rfl⟩)
 ·rename_i h4
  have h1:s.ths[k].st=1:=by omega
  split
  ·refine wK hG (.inl ⟨.inr rfl,?_⟩)
   rcases ht with ⟨_,h9⟩|⟨h9,_⟩
   ·exact h9
   ·omega
  ·rename_i o hn
   split
   ·exact ginv_do hg hi h hn _ hG h1
   ·exact⟨hG.ths,hG.ne,fault_in s k o⟩
theorem ginv_new (p:ProgL):GInv p (xC p):=by
 refine⟨fun t ht=>?_,by simp[xC],by simp[xC,InR]⟩
 have:t=jM 0:=by simpa[xC] using ht
 subst this
 exact .inl ⟨.inl rfl,rfl,rfl⟩
structure AInv (p:ProgL) (s:StL):Prop where
 si:SInv p s
 fl:s.flt
 ow:rU s
 gi:GInv p s
theorem en_lt {p:ProgL} {s:StL} {k:Nat} (hk:k∈enabledL p s):k<s.ths.length:=by have:=(List.mem_filter.1 hk).1;simpa using this
theorem rR {p:ProgL} (hg:p.goodS) (hv:p.flt) {s:StL} {k:Nat} (hk:k∈enabledL p s) (h:AInv p s):AInv p (stepL p s k).1 :=
 ⟨inv_step hg h.si (en_lt hk),flt_step hv (en_lt hk) h.fl,oinv_step (en_lt hk) h.ow,ginv_step hg h.si (en_lt hk) hk h.gi⟩
theorem ainv_new {p:ProgL} (hg:p.goodS):AInv p (xC p):=⟨inv_new hg,flt_new p,oinv_new p,ginv_new p⟩
theorem do_lev (s:StL) (k:Nat) (o:OpL) (e:Ev):s.ths.length≤(doL s k o e).1.ths.length∧(doL s k o e).2.th=e.th∧(doL s k o e).2.pc=e.pc:=by
 have hput:∀ (s:StL) (t:Th),(s.put k t).ths.length=s.ths.length:=fun s t=>by simp[StL.put]
 have hle:∀ (s2:StL) (t:Th),s.ths.length≤s2.ths.length→s.ths.length≤(s2.put k t).ths.length:=fun s2 t h=>by rw[hput];exact h
 unfold doL
 simp only
 by_cases n1:o.code=1
 ·rw[if_pos n1];exact⟨hle _ _ (Nat.le_refl _),rfl,rfl⟩
 rw[if_neg n1]
 by_cases n2:o.code=2
 ·rw[if_pos n2];exact⟨hle _ _ (Nat.le_refl _),rfl,rfl⟩
 rw[if_neg n2]
 by_cases n3:o.code=3
 ·rw[if_pos n3];exact⟨hle _ _ (Nat.le_refl _),rfl,rfl⟩
 rw[if_neg n3]
 by_cases n10:o.code=10
 ·rw[if_pos n10];exact⟨hle _ _ (Nat.le_refl _),rfl,rfl⟩
 rw[if_neg n10]
 by_cases n11:o.code=11
 ·rw[if_pos n11];exact⟨hle _ _ (Nat.le_refl _),rfl,rfl⟩
 rw[if_neg n11]
 by_cases n12:o.code=12
 ·rw[if_pos n12];exact⟨hle _ _ (Nat.le_refl _),rfl,rfl⟩
 rw[if_neg n12]
 by_cases n13:o.code=13
 ·rw[if_pos n13];exact⟨hle _ _ (Nat.le_refl _),rfl,rfl⟩
 rw[if_neg n13]
 by_cases n14:o.code=14
 ·rw[if_pos n14];exact⟨hle _ _ (by show _≤(s.ths++[jM o.a]).length;simp),rfl,rfl⟩
 rw[if_neg n14]
 by_cases n15:o.code=15
 ·rw[if_pos n15];exact⟨hle _ _ (Nat.le_refl _),rfl,rfl⟩
 rw[if_neg n15]
 by_cases n16:o.code=16
 ·rw[if_pos n16];exact⟨hle _ _ (Nat.le_refl _),rfl,rfl⟩
 rw[if_neg n16]
 by_cases n17:o.code=17
 ·rw[if_pos n17]
  cases wY s.ths o.a with
  |none=>exact⟨hle _ _ (Nat.le_refl _),rfl,rfl⟩
  |some j=>exact⟨hle _ _ (by show _≤(s.ths.modify j _).length;simp),rfl,rfl⟩
 rw[if_neg n17]
 exact⟨hle _ _ (Nat.le_refl _),rfl,rfl⟩
theorem step_len (p:ProgL) (s:StL) (k:Nat):s.ths.length≤(stepL p s k).1.ths.length:=by
 have hput:∀ (s:StL) (t:Th),(s.put k t).ths.length=s.ths.length:=fun s t=>by simp[StL.put]
 unfold stepL
 simp only
 split
 ·rw[hput];exact Nat.le_refl _
 ·split
  ·rw[hput];exact Nat.le_refl _
  ·split
   ·exact(do_lev _ _ _ _).1
   ·exact Nat.le_refl _
theorem step_ev (p:ProgL) (s:StL) (k:Nat):(stepL p s k).2.th=k∧(stepL p s k).2.pc=(s.ths.getD k th0).pc:=by
 unfold stepL
 simp only
 split
 ·exact⟨rfl,rfl⟩
 ·split
  ·exact⟨rfl,rfl⟩
  ·split
   ·exact(do_lev _ _ _ _).2
   ·exact⟨rfl,rfl⟩
structure TrOK (s:StL) (tr:List Ev):Prop where
 ev:∀ e∈tr,0≤e.th∧e.th<s.ths.length∧0≤e.pc∧e.pc≤24
 ne:s.fault≠0→tr≠[]
theorem tr_step {p:ProgL} (hg:p.goodS) {s:StL} {k:Nat} (hk:k∈enabledL p s) (h:AInv p s) {tr:List Ev} (ht:TrOK s tr):TrOK (stepL p s k).1 (tr++[(stepL p s k).2]):=by
 have hl:=en_lt hk
 have hgd:s.ths.getD k th0=s.ths[k]:=by simp[List.getD_eq_getElem?_getD,hl]
 have hT:=h.si.ths _ (List.getElem_mem hl)
 have hr:s.ths[k].rt.toNat<p.rs.length:=by have:=hT.rt;omega
 have e24:(p.rs.getD s.ths[k].rt.toNat []).length≤24:=by
  rw[List.getD_eq_getElem?_getD,List.getElem?_eq_getElem hr]
  exact(hg.2 _ (List.getElem_mem hr)).2
 have h2:=step_len p s k
 refine⟨fun e he=>?_,fun _=>by simp⟩
 rcases List.mem_append.1 he with e1|e1
 ·have:=ht.ev e e1
  omega
 ·simp only[List.mem_cons,List.not_mem_nil,or_false] at e1
  subst e1
  obtain⟨e1,e2⟩:=step_ev p s k
  rw[e1,e2,hgd]
  have:=hT.pc
  omega
structure RunT where
 c:Int
 tr:List Ev
 tk:List Int
 s:StL
noncomputable def c8 (p:ProgL) (picks:List Int) (budget:Int):Nat→StL→List Ev→List Int→RunT
 | 0,s,tr,tk=>⟨0,tr,tk,s⟩
 |n+1,s,tr,tk =>
  if 0<codeL p s tr.length budget then ⟨codeL p s tr.length budget,tr,tk,s⟩
  else
   let k:=kK picks tk (enabledL p s).length
   let w:=(enabledL p s).getD k.toNat 0
   c8 p picks budget n (stepL p s w).1 (tr++[(stepL p s w).2]) (tk++[k])
def yO (x:RunT):List D:=encRun x.c x.tr x.tk x.s
theorem runL_eq (p:ProgL) (picks:List Int) (budget:Int):∀ n s tr tk,mZ p picks budget n s tr tk=yO (c8 p picks budget n s tr tk)
 | 0,s,tr,tk=>rfl
 |n+1,s,tr,tk=>by
  unfold mZ c8
  split
  ·rfl
  ·exact runL_eq p picks budget n _ _ _
structure REnd (p:ProgL) (budget:Int) (x:RunT):Prop where
 inv:AInv p x.s
 tr:TrOK x.s x.tr
 code:x.c=codeL p x.s x.tr.length budget
 pos:0<x.c
 len:x.tr.length=x.tk.length
 le:(x.tr.length:Int)≤budget
 tk:∀ i∈x.tk,0≤i∧i<5
theorem en_ne {p:ProgL} {s:StL} {a b:Int} (h:¬ 0<codeL p s a b):0<(enabledL p s).length∧a≠b:=by
 have hen:enabledL p s≠[]:=by
  intro he
  apply h
  unfold codeL
  by_cases hf:s.fault≠0
  ·rw[if_pos hf];decide
  ·rw[if_neg hf,if_pos he];split <;> decide
 refine⟨List.length_pos_iff.2 hen,fun he=>h ?_⟩
 unfold codeL
 by_cases hf:s.fault≠0
 ·rw[if_pos hf];decide
 ·rw[if_neg hf,if_neg hen,if_pos he];decide
noncomputable def runOf (p:ProgL) (picks:List Int) (budget:Int):RunT:=c8 p picks budget (budget.toNat+1) (xC p) [] []
theorem l4Run_of (p:ProgL) (hp:p.wf) (hg:p.goodS) (picks:List Int) (budget:Int) (hpk:∀ i∈picks,0≤i) (hl:picks.length≤1048576) (hb:InR budget 0 1048576) :
  CallsTo EE 67 [agg (encProg p),sl (picks.map encInt),i64 budget] (·=agg (yO (runOf p picks budget))):=by
 have:=l4Run_good p hp hg picks budget hpk hl hb
 rwa [runL_eq] at this
end Ai
namespace Ai
set_option maxRecDepth 100000
open Go Go.Proofs Cyc
theorem tJ {edges:List (Nat × Nat)} {to:Nat} (he:∀ e∈edges,e.2<100):∀ (f i L:Nat) (ways:List (List Nat)) (seen:List Nat) (w:List Nat),(∀ w∈ways,w.length≤L∧∀ x∈w,x<100)→bV edges to f i ways seen=some w→w.length≤L+f∧∀ x∈w,x<100
 | 0,_,_,_,_,_,_,h=>by simp[bV] at h
 |f+1,i,L,ways,seen,w,hw,h=>by
  unfold bV at h
  split at h
  ·rename_i hi
   have hgw:ways.getD i []∈ways:=by rw[List.getD_eq_getElem?_getD,List.getElem?_eq_getElem hi];exact List.getElem_mem hi
   split at h
   ·obtain⟨h1,h2⟩:=tJ he f (i+1) L ways seen w hw h
    exact⟨by omega,h2⟩
   ·rename_i e hf
    have he2:=he e (List.mem_of_find?_eq_some hf)
    split at h
    ·simp only[Option.some.injEq] at h
     subst h
     exact⟨by have:=(hw _ hgw).1;omega,(hw _ hgw).2⟩
    ·split at h
     ·obtain⟨h1,h2⟩:=tJ he f (i+1) L ways seen w hw h
      exact⟨by omega,h2⟩
     ·obtain⟨h1,h2⟩:=tJ he f (i+1) (L+1) _ _ w (fun v hv=>by
       rcases List.mem_append.1 hv with e1|e1
       ·have:=hw v e1
        exact⟨by omega,this.2⟩
       ·simp only[List.mem_cons,List.not_mem_nil,or_false] at e1
        subst e1
        refine⟨by have:=(hw _ hgw).1;rw[List.length_append];show _+1≤_;omega,fun x hx=>?_⟩
        rcases List.mem_append.1 hx with e2|e2
        ·exact(hw _ hgw).2 x e2
        ·simp only[List.mem_cons,List.not_mem_nil,or_false] at e2
         subst e2;exact he2) h
      exact⟨by omega,h2⟩
  ·simp only[Option.some.injEq] at h
   subst h
   simp
theorem cyc_ok {edges:List (Nat × Nat)} (hG:Graph edges):(kV edges).length≤9∧∀ x∈kV edges,x<100:=by
 unfold kV
 cases h:(List.range 100).findSome? (fun n=>match mN edges n with|some (x::xs)=>some (x::xs)|_=>none) with
 |none=>simp
 |some o =>
  obtain⟨n,hn,ho⟩:=List.exists_of_findSome?_eq_some h
  have hn:n<100:=by simpa using hn
  cases hc:mN edges n with
  |none=>rw[hc] at ho;cases ho
  |some l =>
   rw[hc] at ho
   cases l with
   |nil=>cases ho
   |cons x xs =>
    simp only[Option.some.injEq] at ho
    subst ho
    exact tJ (fun e he=>by have:=hG.small e he;omega) 8 0 1 _ _ _ (fun w hw=>by
     simp only[List.mem_cons,List.not_mem_nil,or_false] at hw
     subst hw
     simpa using hn) hc
noncomputable def gL (p:ProgL) (s:StL):List Int:=(kV (dV p s)).map fun x=>((x:Nat):Int)
theorem eS {p:ProgL} {s:StL} (h:AInv p s):Graph (dV p s):=edges_graph h.ow h.gi.ne h.si.len
theorem dead_enc (p:ProgL) (s:StL):(kV (dV p s)).map uN=(gL p s).map encInt:=by
 unfold gL
 rw[List.map_map]
 rfl
theorem dead_picks {p:ProgL} {s:StL} (h:AInv p s):Picks (gL p s):=by
 obtain⟨h1,h2⟩:=cyc_ok (eS h)
 refine⟨by simp[gL];omega,fun x hx=>?_⟩
 obtain⟨y,hy,rfl⟩:=List.mem_map.1 hx
 have:=h2 y hy
 unfold InR;omega
def qC:Ev:=⟨0,0,0,0,0⟩
def faultT (s:StL) (e:Ev):List UInt8:=[102,97,117,108,116,32]++Lib.decDigits s.fault.toNat++[32]++Lib.decDigits e.th.toNat++[32]++Lib.decDigits (s.ths.getD e.th.toNat th0).rt.toNat++[32]++Lib.decDigits e.pc.toNat
noncomputable def signL (p:ProgL) (x:RunT):List UInt8 :=
 if x.c=1 then [100,111,110,101] else if x.c=4 then [98,117,100,103,101,116] else if x.c=3 then [115,116,117,99,107,32]++dashT (txt (gL p x.s)) else faultT x.s (x.tr.getLastD qC)
theorem code_cases {p:ProgL} {s:StL} {a b:Int} (h:0<codeL p s a b):(codeL p s a b=1∨codeL p s a b=3∨codeL p s a b=4)∨(codeL p s a b=2∧s.fault≠0):=by
 unfold codeL at h ⊢
 by_cases hf:s.fault≠0
 ·rw[if_pos hf];exact .inr ⟨rfl,hf⟩
 ·rw[if_neg hf] at h ⊢
  split
  ·split <;> simp
  ·split
   ·simp
   ·rename_i h1 h2
    rw[if_neg h1,if_neg h2] at h
    exact absurd h (by decide)
end Ai
namespace Ai
set_option maxRecDepth 100000
open Go Go.Proofs Cyc
theorem qK {n lo hi:Int} (h:InR n lo hi):CallsTo EE 65 [i64 n,i64 lo,i64 hi] (·=bv true):=by
 have:=qM n lo hi
 simp only[bp,iL h] at this
 exact this
theorem l1All_yes {xs:List Int} {lo hi:Int} (hx:xs.length≤1048576) (h:AllIn xs lo hi):CallsTo EE 150 [sl (xs.map encInt),i64 lo,i64 hi] (·=bv true):=by
 have:=l1All_ok xs lo hi hx
 simp only[bp,iL h] at this
 exact this
theorem p5 {p:ProgL} (hs:p.rs.length≤1048576∧∀ x∈p.rs,x.length≤1048576) (hv:p.flt) (h:p.goodS):CallsTo EE 72 [agg (encProg p)] (·=bv true):=by
 have:=pF p hs hv
 simp only[bp,iL h] at this
 exact this
theorem l3Thread_ok (p:ProgL) (hp:p.headS) (t:Th) (hT:TInv p t) (hG:GTh p t):CallsTo EE 272 [agg (encProg p),agg (zH t)] (·=bv true):=by
 obtain⟨a1,a2,a3,a4⟩:=hp
 unfold InR at a1 a2 a3 a4
 have hr:=hT.rt
 have hpc:=hT.pc
 have hst:=hT.st
 have e4:IntKind.i64.wrap (((p.rs.map zS).length:Int) - 1)=(p.rs.length:Int) - 1:=by rw[List.length_map];exact zG (by omega) (by omega)
 have e2:IntKind.i64.wrap (p.locks - 1)=p.locks - 1:=zG (by omega) (by omega)
 have e3:IntKind.i64.wrap (p.conds - 1)=p.conds - 1:=zG (by omega) (by omega)
 refine callsTo_of_AW (fn:=Tryz.f272) Tryz.func272 rfl (by kernel_rfl) rfl ?_
 conv=>whnf
 refine⟨_,qK (by rw[e4];unfold InR;omega),?_⟩
 rintro r rfl
 conv=>whnf
 refine⟨_,qK (by unfold InR;rcases hG with h|h <;> omega),?_⟩
 rintro r rfl
 conv=>whnf
 refine kbi (fun h=>?_) (fun _=>?_)
 ·simp at h;omega
 conv=>whnf
 refine⟨by kernel_rfl,?_⟩
 conv=>whnf
 have hrl:t.rt.toNat<p.rs.length:=by omega
 refine⟨zS p.rs[t.rt.toNat],⟨hr.1,by simp[hrl],rfl⟩,?_⟩
 conv=>whnf
 have e5:p.rs.getD t.rt.toNat []=p.rs[t.rt.toNat]:=by simp[List.getD_eq_getElem?_getD,hrl]
 rw[e5] at hpc
 refine⟨_,qK (by unfold InR;rw[List.length_map];omega),?_⟩
 conv=>whnf
 refine kbi (fun h3=>?_) (fun h3=>?_)
 ·have h3:t.st=3:=by simpa using h3
  conv=>whnf
  refine⟨_,qK (by rw[e3];unfold InR;rcases hG with h|h <;> omega),?_⟩
  rintro r rfl
  conv=>whnf
  refine⟨_,qK (by rw[e2];unfold InR;rcases hG with h|h <;> omega),?_⟩
  rintro r rfl
  conv=>whnf
  try rfl
 ·have h3:¬ t.st=3:=by simpa using h3
  conv=>whnf
  refine kbi (fun h4=>?_) (fun h4=>?_)
  ·have h4:t.st=4:=by simpa using h4
   conv=>whnf
   refine⟨_,qK (by rw[e3];unfold InR;rcases hG with h|h <;> omega),?_⟩
   rintro r rfl
   conv=>whnf
   refine⟨_,qK (by rw[e2];unfold InR;rcases hG with h|h <;> omega),?_⟩
   rintro r rfl
   conv=>whnf
   try rfl
  ·have h4:¬ t.st=4:=by simpa using h4
   obtain⟨_,hc,hl⟩:(t.st=1∨t.st=2)∧t.cond=-1∧t.lock=-1:=by
    rcases hG with h|h
    ·exact h
    ·omega
   conv=>whnf
   refine kbi (fun _=>?_) (fun h=>absurd (beq_iff_eq.2 hc) h)
   conv=>whnf
   refine kbi (fun _=>?_) (fun h=>absurd (beq_iff_eq.2 hl) h)
   conv=>whnf
   try rfl
theorem eR {p:ProgL} (hg:p.goodS) {s:StL} (h:AInv p s):s.small:=((runOK hg).small s h.si).1
theorem prog_len {p:ProgL} (h:p.goodS):p.rs.length≤1048576∧∀ x∈p.rs,x.length≤1048576:=by
 obtain⟨b1,b2,b3,b4⟩:=h.1
 exact⟨by have:=b4.2;omega,fun x hx=>by have:=(h.2 x hx).2;omega⟩
theorem l3Good_ok (p:ProgL) (hg:p.goodS) (s:StL) (h:AInv p s):CallsTo EE 251 [agg (encProg p),agg (encSt s)] (·=bv true):=by
 have hi:=h.si
 have hl5:=hi.len
 have hne:=h.gi.ne
 have hsm:=eR hg h
 have hgt:=h.gi.ths
 have hown:=h.ow
 refine callsTo_of_AW (fn:=Tryz.f251) Tryz.func251 rfl (by kernel_rfl) rfl ?_
 conv=>whnf
 refine⟨_,qK (by unfold InR;rw[List.length_map];omega),?_⟩
 rintro r rfl
 conv=>whnf
 refine kbi (fun h1=>absurd (show((s.cells.map encF).length:Int)=p.cells by rw[List.length_map];exact hi.cells) (by simpa using h1)) (fun _=>?_)
 conv=>whnf
 refine kbi (fun h1=>absurd (show((s.owner.map encInt).length:Int)=p.locks by rw[List.length_map];exact hi.owner) (by simpa using h1)) (fun _=>?_)
 conv=>whnf
 refine⟨_,qK h.gi.fault,?_⟩
 rintro r rfl
 conv=>whnf
 refine yV (fun k:Nat=>[(2,.ptr (.n 2) 0),(3,.ptr (.n 3) 0),(35,sl (s.ths.map zH)),(36,i64 (s.ths.map zH).length),(37,i64 k)])
  (fun k=>[(.n 2,.vs 31 ((encProg p).map .d)),(.n 3,.vs 54 ((encSt s).map .d))]) (fun k=>s.ths.length - k) (fun k=>k≤s.ths.length) 0
  Weak.refl ⟨rfl,rfl,rfl,rfl,rfl,trivial⟩ ⟨rfl,rfl,trivial⟩ (Nat.zero_le _) ?_
 intro k τ H hk
 have hk:k≤s.ths.length:=hk
 conv=>whnf
 refine kbi (fun h=>?_) (fun h=>?_)
 ·have hlt:=xF h
  conv=>whnf
  refine⟨zH s.ths[k],yA zH hlt rfl,?_⟩
  conv=>whnf
  refine⟨_,l3Thread_ok p hg.1 s.ths[k] (hi.ths _ (List.getElem_mem hlt)) (hgt _ (List.getElem_mem hlt)),?_⟩
  rintro r rfl
  conv=>whnf
  exact⟨k+1,by show k+1≤s.ths.length;omega,by show s.ths.length - (k+1)<s.ths.length - k;omega,⟨rfl,rfl,rfl,rfl,next_i64 hlt (by omega),trivial⟩,⟨rfl,rfl,trivial⟩⟩
 ·conv=>whnf
  have e1:IntKind.i64.wrap (((s.ths.map zH).length:Int) - 1)=(s.ths.length:Int) - 1:=by rw[List.length_map];exact zG (by omega) (by omega)
  rw[e1]
  refine⟨_,l1All_yes hsm.2.2.2 (fun x hx=>by have:=hown x hx;unfold InR;omega),?_⟩
  rintro r rfl
  conv=>whnf
  try rfl
theorem n9 (p:ProgL) (hg:p.goodS) (hv:p.flt) (s:StL) (h:AInv p s):CallsTo EE 204 [agg (encProg p),agg (encSt s)] (·=bv true):=by
 refine callsTo_of_AW (fn:=Tryz.f204) Tryz.func204 rfl (by kernel_rfl) rfl ?_
 conv=>whnf
 refine⟨_,p5 (prog_len hg) hv hg,?_⟩
 rintro r rfl
 conv=>whnf
 refine⟨_,l3Good_ok p hg s h,?_⟩
 rintro r rfl
 conv=>whnf
 try rfl
end Ai
namespace Ai
set_option maxRecDepth 100000
open Go Go.Proofs Cyc
theorem ainv_seen {p:ProgL} (hg:p.goodS) {s:StL} (h:AInv p s):∀ t∈s.ths,t.seen p s:=(runOK hg).seen s h.si
theorem WaitsFor_ok (p:ProgL) (hp:p.wf) (hg:p.goodS) (hv:p.flt) (s:StL) (h:AInv p s):CallsTo EE 141 [agg (encProg p),agg (encSt s)] (·=.tup [sl ((rM p s).map encE),bv true]):=by
 have hs:=eR hg h
 have hn:=h.si.len
 have hse:=ainv_seen hg h
 refine callsTo_of_AW (fn:=Tryz.f141) Tryz.func141 rfl (by kernel_rfl) rfl ?_
 conv=>whnf
 refine⟨_,n9 p hg hv s h,?_⟩
 rintro r rfl
 conv=>whnf
 refine yV (fun k:Nat=>[(2,.ptr (.n 2) 0),(3,.ptr (.n 3) 0),(6,.ref (.n 6) 0 (xT p s k).length),(15,sl (s.ths.map zH)),(16,i64 (s.ths.map zH).length),(17,i64 k)])
  (fun k=>[(.n 2,.vs 31 ((encProg p).map .d)),(.n 3,.vs 54 ((encSt s).map .d)),(.n 6,.ds 41 1 ((xT p s k).map encE))]) (fun k=>s.ths.length - k) (fun k=>k≤s.ths.length) 0
  (weak_nil 6 (.n 6) 41 1 rfl) ⟨rfl,rfl,rfl,rfl,rfl,rfl,trivial⟩ ⟨rfl,rfl,rfl,trivial⟩ (Nat.zero_le _) ?_
 intro k τ H hk
 have hk:k≤s.ths.length:=hk
 conv=>whnf
 refine kbi (fun h=>?_) (fun h=>?_)
 ·have hlt:=xF h
  conv=>whnf
  refine⟨zH s.ths[k],yA zH hlt rfl,?_⟩
  conv=>whnf
  have hgd:s.ths.getD k th0=s.ths[k]:=by simp[List.getD_eq_getElem?_getD,hlt]
  have hle:(xT p s k).length≤k:=edgesTo_le
  refine⟨_,dM toIndexS idxRange p s s.ths[k] hp (hs.2.1 _ (List.getElem_mem hlt)) (hse _ (List.getElem_mem hlt)),?_⟩
  rintro r rfl
  conv=>whnf
  refine kbi (fun hb=>?_) (fun hb=>?_)
  ·have hb:0≤zJ p s s.ths[k]:=by simpa using hb
   have hsk:xT p s (k+1)=xT p s k++[(k,zJ p s s.ths[k])]:=by rw[yF,hgd,if_pos hb]
   conv=>whnf
   refine .inl ?_
   conv=>whnf
   refine⟨⟨rfl,by show((xT p s k).length+1)*24≤_;omega,by show(xT p s k).length+1≤_;omega⟩,?_⟩
   conv=>whnf
   refine⟨k+1,by show k+1≤s.ths.length;omega,by show s.ths.length - (k+1)<s.ths.length - k;omega,⟨rfl,rfl,?_,rfl,rfl,next_i64 hlt (by omega),trivial⟩,⟨rfl,rfl,?_,trivial⟩⟩
   ·rw[hsk]
    show AV.ref (.n 6) 0 ((xT p s k).length+1)=_
    simp
   ·rw[hsk]
    show some (Ob.ds 41 1 (((xT p s k).map encE).take (xT p s k).length++[encE (k,zJ p s s.ths[k])]))=_
    rw[List.take_of_length_le (by simp)]
    simp
  ·have hb:¬ 0≤zJ p s s.ths[k]:=by simpa using hb
   conv=>whnf
   have hsk:xT p s (k+1)=xT p s k:=by rw[yF,hgd,if_neg hb];simp
   refine⟨k+1,by show k+1≤s.ths.length;omega,by show s.ths.length - (k+1)<s.ths.length - k;omega,⟨rfl,rfl,?_,rfl,rfl,next_i64 hlt (by omega),trivial⟩,⟨rfl,rfl,?_,trivial⟩⟩
   ·rw[hsk];rfl
   ·rw[hsk];rfl
 ·have hge:s.ths.length≤k:=by simpa using h
  have hkk:k=s.ths.length:=by omega
  subst hkk
  conv=>whnf
  refine .inl ?_
  conv=>whnf
  have e:(((xT p s s.ths.length).map encE).drop 0).take (xT p s s.ths.length).length=(rM p s).map encE:=by rw[List.drop_zero,List.take_of_length_le (by simp)];rfl
  first|exact congrArg (fun x=>AV.tup [sl x,bv true]) e|(rw[← e];rfl)|trace_state
theorem l4Dead_ok (p:ProgL) (hp:p.wf) (hg:p.goodS) (hv:p.flt) (c:Int) (tr:List Ev) (tk:List Int) (s:StL) (h:AInv p s):CallsTo EE 74 [agg (encProg p),agg (encRun c tr tk s)] (·=sl ((gL p s).map encInt)):=by
 refine callsTo_of_AW (fn:=Tryz.f74) Tryz.func74 rfl (by kernel_rfl) rfl ?_
 conv=>whnf
 refine⟨_,WaitsFor_ok p hp hg hv s h,?_⟩
 rintro r rfl
 conv=>whnf
 rw[edges_enc]
 refine⟨_,l3CycleG_ok (dV p s) (eS h),?_⟩
 rintro r rfl
 conv=>whnf
 rw[dead_enc]
theorem last_at {tr:List Ev} (h:tr≠[]) (hl:(tr.length:Int)≤1048576):0≤IntKind.i64.wrap (((tr.map encEv).length:Int) - 1)∧(tr.map encEv)[(IntKind.i64.wrap (((tr.map encEv).length:Int) - 1)).toNat]?=some (encEv (tr.getLastD qC))∧tr.getLastD qC∈tr:=by
 have hp:0<tr.length:=List.length_pos_iff.2 h
 have e:IntKind.i64.wrap (((tr.map encEv).length:Int) - 1)=((tr.length - 1:Nat):Int):=by
  rw[List.length_map,zG (by omega) (by omega)];omega
 have e2:tr.getLastD qC=tr[tr.length - 1]:=by
  rw[List.getLastD_eq_getLast?,List.getLast?_eq_getElem?,List.getElem?_eq_getElem (by omega)];rfl
 rw[e,e2]
 refine⟨by omega,?_,List.getElem_mem _⟩
 rw[Int.toNat_natCast,List.getElem?_map,List.getElem?_eq_getElem (by omega)];rfl
theorem dec_ne (n:Nat):Lib.decDigits n≠[]:=by
 rw[Lib.decDigits]
 split <;> simp
theorem txt_ne {l:List Int} (h:l≠[]):txt l≠[]:=by
 cases l with
 |nil=>exact absurd rfl h
 |cons x xs =>
  unfold txt
  rw[List.map_cons,Lib.join_cons]
  intro e
  exact dec_ne _ (List.append_eq_nil_iff.1 e).1
theorem l4Sign_ok (p:ProgL) (hp:p.wf) (hg:p.goodS) (hv:p.flt) (budget:Int) (x:RunT) (h:REnd p budget x) (hb:budget≤1048576):CallsTo EE 183 [agg (encProg p),agg (yO x)] (·=sv (signL p x)):=by
 obtain⟨c,tr,tk,s⟩:=x
 have hcode:c=codeL p s tr.length budget:=h.code
 have hpos:0<c:=h.pos
 have hcs:=code_cases (show 0<codeL p s tr.length budget by rw[← hcode];exact hpos)
 rw[← hcode] at hcs
 have hi:AInv p s:=h.inv
 have hT:TrOK s tr:=h.tr
 have hle:(tr.length:Int)≤budget:=h.le
 unfold signL
 show CallsTo EE 183 [agg (encProg p),agg (encRun c tr tk s)] (·=sv (if c=1 then [100,111,110,101] else if c=4 then [98,117,100,103,101,116] else if c=3 then [115,116,117,99,107,32]++dashT (txt (gL p s)) else faultT s (tr.getLastD qC)))
 refine callsTo_of_AW (fn:=Tryz.f183) Tryz.func183 rfl (by kernel_rfl) rfl ?_
 conv=>whnf
 refine kbi (fun h1=>?_) (fun h1=>?_)
 ·have h1:c=1:=by simpa using h1
  rw[if_pos h1]
  conv=>whnf
  try rfl
 have h1:¬ c=1:=by simpa using h1
 rw[if_neg h1]
 conv=>whnf
 refine kbi (fun h4=>?_) (fun h4=>?_)
 ·have h4:c=4:=by simpa using h4
  rw[if_pos h4]
  conv=>whnf
  try rfl
 have h4:¬ c=4:=by simpa using h4
 rw[if_neg h4]
 conv=>whnf
 refine kbi (fun h2=>?_) (fun h2=>?_)
 ·have h2:c=2:=by simpa using h2
  rw[if_neg (by omega)]
  conv=>whnf
  have hf:s.fault≠0:=by
   rcases hcs with h|h
   ·omega
   ·exact h.2
  have hne:=hT.ne hf
  have hpt:0<tr.length:=List.length_pos_iff.2 hne
  obtain⟨e1,e2,e3⟩:=last_at hne (by omega)
  have hev:=hT.ev _ e3
  refine⟨encEv (tr.getLastD qC),⟨e1,e2,rfl⟩,?_⟩
  generalize tr.getLastD qC=e at *
  conv=>whnf
  refine⟨by kernel_rfl,?_⟩
  conv=>whnf
  have hfa:=hi.gi.fault
  unfold InR at hfa
  refine⟨_,fF s.fault hfa.1 (by omega),?_⟩
  conv=>whnf
  have hev1:e.th.toNat<s.ths.length:=by omega
  have hrt:=(hi.si.ths _ (List.getElem_mem hev1)).rt
  have hn4:=hg.1.2.2.2
  unfold InR at hn4
  have d1:(Lib.decDigits s.fault.toNat).length≤1:=uO _ 1 (by omega) (by omega)
  have hl5:=hi.si.len
  have d2:(Lib.decDigits e.th.toNat).length≤1:=uO _ 1 (by omega) (by omega)
  have d3:(Lib.decDigits s.ths[e.th.toNat].rt.toNat).length≤1:=uO _ 1 (by omega) (by omega)
  have d4:(Lib.decDigits e.pc.toNat).length≤2:=uO _ 2 (by omega) (by omega)
  have hgd:s.ths.getD e.th.toNat th0=s.ths[e.th.toNat]:=by simp[List.getD_eq_getElem?_getD,hev1]
  refine⟨by simp;omega,?_⟩
  conv=>whnf
  refine⟨by simp;omega,?_⟩
  conv=>whnf
  refine⟨_,fF e.th hev.1 (by omega),?_⟩
  conv=>whnf
  refine⟨by simp;omega,?_⟩
  conv=>whnf
  refine⟨by simp;omega,?_⟩
  conv=>whnf
  refine⟨zH s.ths[e.th.toNat],⟨hev.1,by simp[hev1],rfl⟩,?_⟩
  conv=>whnf
  refine⟨_,fF s.ths[e.th.toNat].rt hrt.1 (by omega),?_⟩
  conv=>whnf
  refine⟨by simp;omega,?_⟩
  conv=>whnf
  refine⟨by simp;omega,?_⟩
  conv=>whnf
  refine⟨_,fF e.pc hev.2.2.1 (by omega),?_⟩
  conv=>whnf
  refine⟨by simp;omega,?_⟩
  conv=>whnf
  unfold faultT
  rw[hgd]
  try rfl
 ·have h2:¬ c=2:=by simpa using h2
  rw[if_pos (by omega)]
  conv=>whnf
  refine⟨_,l4Dead_ok p hp hg hv c tr tk s hi,?_⟩
  rintro r rfl
  conv=>whnf
  have hd:=dead_picks hi
  refine kbi (fun h3=>?_) (fun h3=>?_)
  ·have h3:0<(gL p s).length:=by simpa using h3
   conv=>whnf
   refine⟨_,l4List_ok (gL p s) hd,?_⟩
   rintro r rfl
   conv=>whnf
   have htl:=txt_len (gL p s) hd.2 (gL p s).length (Nat.le_refl _)
   rw[List.take_length] at htl
   have h200:=hd.1
   refine⟨by show 6+_≤_;omega,?_⟩
   conv=>whnf
   have hne:txt (gL p s)≠[]:=txt_ne (by intro e;rw[e] at h3;simp at h3)
   unfold dashT
   rw[if_neg hne]
   try rfl
  ·have h3:gL p s=[]:=by
    have:¬ 0<(gL p s).length:=by simpa using h3
    exact List.length_eq_zero_iff.1 (by omega)
   conv=>whnf
   rw[h3]
   try rfl
end Ai
namespace Ai
set_option maxRecDepth 100000
open Go Go.Proofs
theorem szOpS_ok (xs:List (List D)) (left:Int) (h0:0≤left) (h1:left≤1048576) (hx:xs.length≤9223372036854775807) :
  CallsTo EE 112 [sl xs,i64 left] (szR left xs.length):=by
 refine callsTo_of_AW (fn:=Tryz.f112) Tryz.func112 rfl (by kernel_rfl) rfl ?_
 conv=>whnf
 rw[zG (by omega) (by omega)]
 refine⟨fun h=>?_,fun h=>?_⟩
 ·conv=>whnf
  exact⟨-1,rfl,by omega,by omega,by omega⟩
 ·conv=>whnf
  simp at h
  exact⟨_,rfl,by omega,by omega,by omega⟩
theorem szOpSS_ok (xs:List (List OpL)) (left:Int) (h0:0≤left) (h1:left≤1048576) (hx:xs.length≤9223372036854775807) (hx2:∀ x∈xs,x.length≤9223372036854775807) :
  CallsTo EE 56 [sl (xs.map zS),i64 left] (szR left (dB List.length xs)):=by
 refine callsTo_of_AW (fn:=Tryz.f56) Tryz.func56 rfl (by kernel_rfl) rfl ?_
 conv=>whnf
 rw[zG (by simp;omega) (by simp;omega),List.length_map]
 refine⟨fun h=>?_,fun h=>?_⟩
 ·conv=>whnf
  exact⟨-1,rfl,by omega,by omega,by omega⟩
 ·simp at h
  conv=>whnf
  refine yV (fun x:Nat × Int=>[(0,sl (xs.map zS)),(5,i64 x.1),(1,i64 x.2)]) (fun _=>[]) (fun x=>xs.length - x.1)
   (fun x=>x.1≤xs.length∧0≤x.2∧(xs.length:Int)+((xs.map List.length).take x.1).sum+x.2≤left) (0,left - xs.length) .refl ⟨rfl,rfl,rfl,trivial⟩ trivial ⟨by omega,by omega,by simp;omega⟩ ?_
  rintro⟨k,l⟩ τ H ⟨hk,hl,hs⟩
  dsimp only at hk hl hs
  conv=>whnf
  refine⟨fun h=>?_,fun h=>?_⟩
  ·have hlt:=xF h
   conv=>whnf
   refine⟨zS xs[k],yA zS hlt rfl,?_⟩
   conv=>whnf
   refine⟨_,szOpS_ok _ l hl (by omega) (by simpa using hx2 _ (List.getElem_mem hlt)),?_⟩
   rintro r ⟨n,rfl,hn1,hn2,hn3⟩
   conv=>whnf
   refine⟨fun h=>?_,fun h=>?_⟩
   ·conv=>whnf
    exact⟨-1,rfl,by omega,by omega,by omega⟩
   ·simp at h
    conv=>whnf
    refine⟨(k+1,n),⟨by omega,by omega,?_⟩,by show xs.length - (k+1)<xs.length - k;omega,⟨rfl,next_i64 hlt hx,rfl,trivial⟩,trivial⟩
    have hm:k<(xs.map List.length).length:=by simpa using hlt
    rw[iI _ _ hm]
    have:=hn3 h
    simp at this ⊢
    omega
  ·have hge:=ge_map h
   conv=>whnf
   have hkk:k=xs.length:=by omega
   subst hkk
   refine⟨_,rfl,by omega,?_,?_⟩
   ·omega
   ·intro _
    simp only[dB]
    rw[List.take_of_length_le (by simp)] at hs
    simp at hs ⊢
    omega
theorem lB (p:ProgL) (left:Int) (h0:0≤left) (h1:left≤1048576) (hs:p.wf):CallsTo EE 11 [agg (encProg p),i64 left] (szR left p.size):=by
 refine callsTo_of_AW (fn:=Tryz.f11) Tryz.func11 rfl (by kernel_rfl) rfl ?_
 conv=>whnf
 refine⟨_,szOpSS_ok _ left h0 h1 hs.1 hs.2,?_⟩
 rintro r ⟨n,rfl,hn1,hn2,hn3⟩
 conv=>whnf
 refine⟨fun h=>?_,fun h=>?_⟩
 ·conv=>whnf
  exact⟨-1,rfl,by omega,by omega,by omega⟩
 ·simp at h
  conv=>whnf
  exact⟨_,rfl,by omega,by omega,hn3⟩
end Ai
namespace Ai
set_option maxRecDepth 100000
open Go Go.Proofs
theorem wF (n:Int) (h:(n != n)=true):False:=by simp at h
theorem eqIntS_ok (xs:List Int) (hx:xs.length≤1048576):CallsTo EE 28 [sl (xs.map encInt),sl (xs.map encInt)] (·=bv true):=by
 refine callsTo_of_AW (fn:=Tryz.f28) Tryz.func28 rfl (by kernel_rfl) rfl ?_
 conv=>whnf
 refine⟨fun h=>(wF _ h).elim,fun _=>?_⟩
 conv=>whnf
 refine yV (fun k:Nat=>[(0,sl (xs.map encInt)),(1,sl (xs.map encInt)),(5,i64 k)]) (fun k=>[]) (fun k=>xs.length - k) (fun k=>k≤xs.length) 0 .refl ⟨rfl,rfl,rfl,trivial⟩ trivial (Nat.zero_le _) ?_
 intro k τ H hk
 conv=>whnf
 refine⟨fun h=>?_,fun h=>?_⟩
 ·have hlt:=xF h
  conv=>whnf
  refine⟨by kernel_rfl,?_⟩
  conv=>whnf
  refine⟨encInt xs[k],yA encInt hlt rfl,?_⟩
  conv=>whnf
  refine⟨encInt xs[k],yA encInt hlt rfl,?_⟩
  conv=>whnf
  refine⟨fun h=>(wF _ h).elim,fun _=>?_⟩
  conv=>whnf
  refine⟨k+1,by omega,by show xs.length - (k+1)<xs.length - k;omega,⟨rfl,rfl,next_i64 hlt (by omega),trivial⟩,trivial⟩
 ·conv=>whnf
theorem q9 (x:Nat):CallsTo EE 173 [.d (.flt x),.d (.flt x)] (·=bv true):=by
 refine callsTo_of_AW (fn:=Tryz.f173) Tryz.func173 rfl (by kernel_rfl) rfl ?_
 conv=>whnf
 repeat' (refine kbi (fun h=>?_) (fun h=>?_) <;> first|contradiction|conv=>whnf)
 all_goals simp[l7] at *
 all_goals simp_all
theorem eqOp_ok (x:OpL):CallsTo EE 189 [agg (encOp x),agg (encOp x)] (·=bv true):=by
 refine callsTo_of_AW (fn:=Tryz.f189) Tryz.func189 rfl (by kernel_rfl) rfl ?_
 conv=>whnf
 refine⟨fun h=>(wF _ h).elim,fun _=>?_⟩
 conv=>whnf
 refine⟨fun h=>(wF _ h).elim,fun _=>?_⟩
 conv=>whnf
 refine⟨fun h=>(wF _ h).elim,fun _=>?_⟩
 conv=>whnf
 refine⟨_,q9 x.v,?_⟩
 rintro r rfl
 conv=>whnf
theorem eqOpS_ok (xs:List OpL) (hx:xs.length≤1048576):CallsTo EE 118 [sl (xs.map encOp),sl (xs.map encOp)] (·=bv true):=by
 refine callsTo_of_AW (fn:=Tryz.f118) Tryz.func118 rfl (by kernel_rfl) rfl ?_
 conv=>whnf
 refine⟨fun h=>(wF _ h).elim,fun _=>?_⟩
 conv=>whnf
 refine yV (fun k:Nat=>[(0,sl (xs.map encOp)),(1,sl (xs.map encOp)),(5,i64 k)]) (fun k=>[]) (fun k=>xs.length - k) (fun k=>k≤xs.length) 0 .refl ⟨rfl,rfl,rfl,trivial⟩ trivial (Nat.zero_le _) ?_
 intro k τ H hk
 conv=>whnf
 refine⟨fun h=>?_,fun h=>?_⟩
 ·have hlt:=xF h
  conv=>whnf
  refine⟨by kernel_rfl,?_⟩
  conv=>whnf
  refine⟨encOp xs[k],yA encOp hlt rfl,?_⟩
  conv=>whnf
  refine⟨encOp xs[k],yA encOp hlt rfl,?_⟩
  conv=>whnf
  refine⟨_,eqOp_ok xs[k],?_⟩
  conv=>whnf
  refine⟨k+1,by omega,by show xs.length - (k+1)<xs.length - k;omega,⟨rfl,rfl,next_i64 hlt (by omega),trivial⟩,trivial⟩
 ·conv=>whnf
theorem eqOpSS_ok (xs:List (List OpL)) (hx:xs.length≤1048576) (hx2:∀ x∈xs,x.length≤1048576):CallsTo EE 61 [sl (xs.map zS),sl (xs.map zS)] (·=bv true):=by
 refine callsTo_of_AW (fn:=Tryz.f61) Tryz.func61 rfl (by kernel_rfl) rfl ?_
 conv=>whnf
 refine⟨fun h=>(wF _ h).elim,fun _=>?_⟩
 conv=>whnf
 refine yV (fun k:Nat=>[(0,sl (xs.map zS)),(1,sl (xs.map zS)),(5,i64 k)]) (fun k=>[]) (fun k=>xs.length - k) (fun k=>k≤xs.length) 0 .refl ⟨rfl,rfl,rfl,trivial⟩ trivial (Nat.zero_le _) ?_
 intro k τ H hk
 conv=>whnf
 refine⟨fun h=>?_,fun h=>?_⟩
 ·have hlt:=xF h
  conv=>whnf
  refine⟨by kernel_rfl,?_⟩
  conv=>whnf
  refine⟨zS xs[k],yA zS hlt rfl,?_⟩
  conv=>whnf
  refine⟨zS xs[k],yA zS hlt rfl,?_⟩
  conv=>whnf
  refine⟨_,eqOpS_ok xs[k] (hx2 _ (List.getElem_mem hlt)),?_⟩
  conv=>whnf
  refine⟨k+1,by omega,by show xs.length - (k+1)<xs.length - k;omega,⟨rfl,rfl,next_i64 hlt (by omega),trivial⟩,trivial⟩
 ·conv=>whnf
theorem lR (p:ProgL) (h:p.rs.length≤1048576∧∀ x∈p.rs,x.length≤1048576):CallsTo EE 16 [agg (encProg p),agg (encProg p)] (·=bv true):=by
 refine callsTo_of_AW (fn:=Tryz.f16) Tryz.func16 rfl (by kernel_rfl) rfl ?_
 conv=>whnf
 refine⟨fun h=>(wF _ h).elim,fun _=>?_⟩
 conv=>whnf
 refine⟨fun h=>(wF _ h).elim,fun _=>?_⟩
 conv=>whnf
 refine⟨fun h=>(wF _ h).elim,fun _=>?_⟩
 conv=>whnf
 refine⟨_,eqOpSS_ok _ h.1 h.2,?_⟩
 rintro r rfl
 conv=>whnf
end Ai
namespace Ai
set_option maxRecDepth 100000
open Go Go.Proofs Cyc
theorem oH (c:List Int) (k:Nat) (x:Int):wR (c.map encInt) 1 (0+(k:Int).toNat) 0 [di x]=(c.set k x).map encInt:=by
 have e:wR (c.map encInt) 1 (0+(k:Int).toNat) 0 [di x]=(c.map encInt).set k [di x]:=by
  unfold wR
  rw[show([di x]:List D).length=1 from rfl,nbeq_self,nbeq_self]
  simp
 rw[e,List.map_set]
 rfl
end Ai
namespace Ai
set_option maxRecDepth 100000
open Go Go.Proofs
def qY (k:Int) (n:Nat):List Int:=(List.range n).map fun (j:Nat)=>k+(j:Int)
theorem fC (k:Int) (n:Nat):(qY k n).length=n:=by simp[qY]
theorem marks_get {k:Int} {n j:Nat} (h:j<n):(qY k n)[j]?=some (k+(j:Int)):=by simp[qY,h]
def uL (xs:List Int) (k:Int) (n:Nat):List Int:=qY k n++xs.drop n
theorem sJ {xs:List Int} {k:Int} {n:Nat} (h:n<xs.length):(uL xs k n).set n (k+(n:Int))=uL xs k (n+1):=by
 unfold uL
 rw[List.drop_eq_getElem_cons h,List.set_append_right _ _ (by rw[fC];omega),fC,Nat.sub_self,List.set_cons_zero]
 unfold qY
 rw[List.range_succ,List.map_append]
 simp
theorem aD (xs:List Int) (k:Int):uL xs k xs.length=qY k xs.length:=by simp[uL]
theorem markIntS_ok (κ:Key) (hκ:κ=.n 77∨κ=.l 77) (xs:List Int) (k:Int) (hx:xs.length≤1048576) (h0:0≤k) (h1:k≤1073741824) (H0:Key→Option Ob) (hH:H0 κ=some (.ds 3 1 (xs.map encInt))) :
  IOCall EE 31 [.ref κ 0 xs.length,i64 k] H0 (fun r H1=>r=i64 (k+xs.length)∧H1 κ=some (.ds 3 1 ((qY k xs.length).map encInt))∧∀ κ',isK κ κ'=false→H1 κ'=none):=by
 rcases hκ with rfl|rfl
 ·refine io_of_AW (fn:=Tryz.f31) (c:=Tryz.f31.body.getD .skip) Tryz.func31 rfl (by kernel_rfl) rfl ?_
  have hat:At [(0,.ref (.n 77) 0 xs.length),(1,i64 k)] [(.n 77,.ds 3 1 (xs.map encInt))] [] ⟨fun i=>[AV.ref (.n 77) 0 xs.length,i64 k].getD i .junk,H0⟩:=⟨⟨rfl,rfl,trivial⟩,⟨hH,trivial⟩,trivial⟩
  obtain⟨τ,H,hf⟩:=hat.form
  rw[hf]
  conv=>whnf
  refine yV (fun n:Nat=>[(0,.ref (.n 77) 0 xs.length),(1,i64 (k+(n:Int))),(5,i64 n)]) (fun n=>[(.n 77,.ds 3 1 ((uL xs k n).map encInt))]) (fun n=>xs.length - n) (fun n=>n≤xs.length) 0
   Weak.refl ⟨rfl,?_,rfl,trivial⟩ ⟨?_,trivial⟩ (Nat.zero_le _) ?_
  ·show i64 k=i64 (k+((0:Nat):Int))
   rw[show k+((0:Nat):Int)=k by omega]
  ·show some (Ob.ds 3 1 (xs.map encInt))=some (Ob.ds 3 1 ((uL xs k 0).map encInt))
   simp[uL,qY]
  intro n τ H hn
  have hn:n≤xs.length:=hn
  conv=>whnf
  refine kbi (fun h=>?_) (fun h=>?_)
  ·have hlt:n<xs.length:=by simpa using h
   conv=>whnf
   refine⟨⟨by omega,by omega⟩,?_⟩
   conv=>whnf
   refine⟨n+1,by show n+1≤xs.length;omega,by show xs.length - (n+1)<xs.length - n;omega,⟨rfl,?_,?_,trivial⟩,⟨?_,trivial⟩⟩
   ·show AV.d (.int .i64 (IntKind.i64.wrap ((k+(n:Int))+1)))=i64 (k+((n+1:Nat):Int))
    rw[zG (by omega) (by omega)]
    exact congrArg i64 (by omega)
   ·show AV.d (.int .i64 (IntKind.i64.wrap ((n:Int)+1)))=i64 ((n+1:Nat):Int)
    rw[zG (by omega) (by omega)]
    rfl
   ·show some (Ob.ds 3 1 (wR ((uL xs k n).map encInt) 1 (0+(n:Int).toNat) 0 [di (k+(n:Int))]))=_
    rw[oH,sJ hlt]
  ·have hkk:n=xs.length:=by
    have:¬ n<xs.length:=by simpa using h
    omega
   subst hkk
   conv=>whnf
   refine⟨_,Weak.refl,?_⟩
   conv=>whnf
   refine⟨isK (.n 77),rfl,?_,fun κ hκ=>?_⟩
   ·show some (Ob.ds 3 1 ((uL xs k xs.length).map encInt))=_
    rw[aD]
   ·unfold yL
    rw[hκ];rfl
 ·refine io_of_AW (fn:=Tryz.f31) (c:=Tryz.f31.body.getD .skip) Tryz.func31 rfl (by kernel_rfl) rfl ?_
  have hat:At [(0,.ref (.l 77) 0 xs.length),(1,i64 k)] [(.l 77,.ds 3 1 (xs.map encInt))] [] ⟨fun i=>[AV.ref (.l 77) 0 xs.length,i64 k].getD i .junk,H0⟩:=⟨⟨rfl,rfl,trivial⟩,⟨hH,trivial⟩,trivial⟩
  obtain⟨τ,H,hf⟩:=hat.form
  rw[hf]
  conv=>whnf
  refine yV (fun n:Nat=>[(0,.ref (.l 77) 0 xs.length),(1,i64 (k+(n:Int))),(5,i64 n)]) (fun n=>[(.l 77,.ds 3 1 ((uL xs k n).map encInt))]) (fun n=>xs.length - n) (fun n=>n≤xs.length) 0
   Weak.refl ⟨rfl,?_,rfl,trivial⟩ ⟨?_,trivial⟩ (Nat.zero_le _) ?_
  ·show i64 k=i64 (k+((0:Nat):Int))
   rw[show k+((0:Nat):Int)=k by omega]
  ·show some (Ob.ds 3 1 (xs.map encInt))=some (Ob.ds 3 1 ((uL xs k 0).map encInt))
   simp[uL,qY]
  intro n τ H hn
  have hn:n≤xs.length:=hn
  conv=>whnf
  refine kbi (fun h=>?_) (fun h=>?_)
  ·have hlt:n<xs.length:=by simpa using h
   conv=>whnf
   refine⟨⟨by omega,by omega⟩,?_⟩
   conv=>whnf
   refine⟨n+1,by show n+1≤xs.length;omega,by show xs.length - (n+1)<xs.length - n;omega,⟨rfl,?_,?_,trivial⟩,⟨?_,trivial⟩⟩
   ·show AV.d (.int .i64 (IntKind.i64.wrap ((k+(n:Int))+1)))=i64 (k+((n+1:Nat):Int))
    rw[zG (by omega) (by omega)]
    exact congrArg i64 (by omega)
   ·show AV.d (.int .i64 (IntKind.i64.wrap ((n:Int)+1)))=i64 ((n+1:Nat):Int)
    rw[zG (by omega) (by omega)]
    rfl
   ·show some (Ob.ds 3 1 (wR ((uL xs k n).map encInt) 1 (0+(n:Int).toNat) 0 [di (k+(n:Int))]))=_
    rw[oH,sJ hlt]
  ·have hkk:n=xs.length:=by
    have:¬ n<xs.length:=by simpa using h
    omega
   subst hkk
   conv=>whnf
   refine⟨_,Weak.refl,?_⟩
   conv=>whnf
   refine⟨isK (.l 77),rfl,?_,fun κ hκ=>?_⟩
   ·show some (Ob.ds 3 1 ((uL xs k xs.length).map encInt))=_
    rw[aD]
   ·unfold yL
    rw[hκ];rfl
theorem heldIntS_ok (k:Int) (n:Nat) (hx:n≤1048576) (h0:0≤k) (h1:k≤1073741824):CallsTo EE 32 [sl ((qY k n).map encInt),i64 k] (·=i64 (k+n)):=by
 have hml:=fC k n
 refine callsTo_of_AW (fn:=Tryz.f32) Tryz.func32 rfl (by kernel_rfl) rfl ?_
 conv=>whnf
 refine yV (fun j:Nat=>[(0,sl ((qY k n).map encInt)),(1,i64 (k+(j:Int))),(5,i64 j)]) (fun j=>[]) (fun j=>n - j) (fun j=>j≤n) 0
  Weak.refl ⟨rfl,?_,rfl,trivial⟩ trivial (Nat.zero_le _) ?_
 ·show i64 k=i64 (k+((0:Nat):Int))
  rw[show k+((0:Nat):Int)=k by omega]
 intro j τ H hj
 have hj:j≤n:=hj
 conv=>whnf
 refine kbi (fun h=>?_) (fun h=>?_)
 ·have hlt:=xF h
  rw[hml] at hlt
  conv=>whnf
  refine⟨encInt (k+(j:Int)),⟨by omega,?_,rfl⟩,?_⟩
  ·rw[List.getElem?_map,Int.toNat_natCast,marks_get hlt];rfl
  conv=>whnf
  refine kbi (fun h=>absurd h (by simp)) (fun _=>?_)
  conv=>whnf
  refine⟨j+1,by show j+1≤n;omega,by show n - (j+1)<n - j;omega,⟨rfl,?_,?_,trivial⟩,trivial⟩
  ·show AV.d (.int .i64 (IntKind.i64.wrap ((k+(j:Int))+1)))=i64 (k+((j+1:Nat):Int))
   rw[zG (by omega) (by omega)]
   exact congrArg i64 (by omega)
  ·show AV.d (.int .i64 (IntKind.i64.wrap ((j:Int)+1)))=i64 ((j+1:Nat):Int)
   rw[zG (by omega) (by omega)]
   rfl
 ·have hkk:j=n:=by
   have:¬ j<n:=by simpa[hml] using h
   omega
  subst hkk
  conv=>whnf
  try rfl
end Ai
namespace Ai
set_option maxRecDepth 100000
open Go Go.Proofs
theorem lD (els:List (List D)) (sz k off:Nat) (xs:List D):(wR els sz k off xs).length=els.length:=by
 unfold wR
 cases Nat.beq off 0&&Nat.beq xs.length sz <;> simp
theorem cJ {x:D}:∀ (c:List D) (off:Nat),off<c.length→(yD c off [x]).length=c.length
 | [],off,h=>by simp at h
 |c::cs,0,h=>by simp[yD]
 |c::cs,off+1,h=>by
  have:=cJ (x:=x) cs off (by simpa using h)
  simp[yD,this]
theorem tO {els:List (List D)} {k off:Nat} {x:D} (h:∀ c∈els,c.length=4) (ho:off<4):∀ c∈wR els 4 k off [x],c.length=4:=by
 intro c hc
 unfold wR at hc
 rw[show Nat.beq ([x]:List D).length 4=false from rfl,Bool.and_false] at hc
 obtain⟨i,hi,rfl⟩:=List.mem_iff_getElem.1 hc
 have hil:i<els.length:=by simpa using hi
 have h4:=h _ (List.getElem_mem hil)
 simp only[cond_false,List.getElem_modify]
 split
 ·rw[cJ _ _ (by omega)];exact h4
 ·exact h4
theorem markOpS_ok (els:List (List D)) (k:Int) (n:Nat) (hn:n=els.length) (hx:n≤1048576) (h4:∀ c∈els,c.length=4) (h0:0≤k) (h1:k≤1073741824) (H0:Key→Option Ob) (hH:H0 (.n 50)=some (.ds 183 4 els)) :
  IOCall EE 119 [.ref (.n 50) 0 n,i64 k] H0 (fun r H1=>r=i64 (k+4*n)∧∀ κ,H1 κ=none):=by
 refine io_of_AW (fn:=Tryz.f119) (c:=Tryz.f119.body.getD .skip) Tryz.func119 rfl (by kernel_rfl) rfl ?_
 have hat:At [(0,.ref (.n 50) 0 n),(1,i64 k)] [(.n 50,.ds 183 4 els)] [] ⟨fun i=>[AV.ref (.n 50) 0 n,i64 k].getD i .junk,H0⟩:=⟨⟨rfl,rfl,trivial⟩,⟨hH,trivial⟩,trivial⟩
 obtain⟨τ,H,hf⟩:=hat.form
 rw[hf]
 conv=>whnf
 refine yV (fun x:Nat × List (List D)=>[(0,.ref (.n 50) 0 n),(1,i64 (k+4*(x.1:Int))),(5,i64 x.1)]) (fun x=>[(.n 50,.ds 183 4 x.2)]) (fun x=>n - x.1) (fun x=>x.1≤n∧x.2.length=n∧∀ c∈x.2,c.length=4) (0,els)
  Weak.refl ⟨rfl,?_,rfl,trivial⟩ ⟨rfl,trivial⟩ ⟨Nat.zero_le _,hn.symm,h4⟩ ?_
 ·show i64 k=i64 (k+4*((0:Nat):Int))
  rw[show k+4*((0:Nat):Int)=k by omega]
 rintro⟨i,E⟩ τ H ⟨hi,hE,hE4⟩
 have hi:i≤n:=hi
 have hE:E.length=n:=hE
 have hE4:∀ c∈E,c.length=4:=hE4
 conv=>whnf
 refine kbi (fun h=>?_) (fun h=>?_)
 ·have hlt:i<n:=by simpa using h
  conv=>whnf
  refine⟨⟨by show 0≤(i:Int);omega,by show(i:Int)<n;omega⟩,?_⟩
  conv=>whnf
  refine⟨⟨by show 0≤(i:Int);omega,by show(i:Int)<n;omega⟩,?_⟩
  conv=>whnf
  refine⟨⟨by show 0≤(i:Int);omega,by show(i:Int)<n;omega⟩,?_⟩
  conv=>whnf
  refine⟨⟨by show 0≤(i:Int);omega,by show(i:Int)<n;omega⟩,?_⟩
  conv=>whnf
  refine⟨(i+1,wR (wR (wR (wR E 4 (0+(i:Int).toNat) (0+0) [.int .i64 (k+4*(i:Int))]) 4 (0+(i:Int).toNat) (0+1) [.int .i64 (IntKind.i64.wrap (k+4*(i:Int)+1))]) 4 (0+(i:Int).toNat) (0+2) [.int .i64 (IntKind.i64.wrap (IntKind.i64.wrap (k+4*(i:Int)+1)+1))]) 4 (0+(i:Int).toNat) (0+3) [.flt (FloatKind.f64.nearest (IntKind.i64.wrap (IntKind.i64.wrap (IntKind.i64.wrap (k+4*(i:Int)+1)+1)+1)))]),⟨by show i+1≤n;omega,?_,?_⟩,by show n - (i+1)<n - i;omega,⟨rfl,?_,?_,trivial⟩,⟨rfl,trivial⟩⟩
  ·dsimp only
   rw[lD,lD,lD,lD,hE]
  ·dsimp only
   refine tO (tO (tO (tO hE4 ?_) ?_) ?_) ?_ <;> omega
  ·show AV.d (.int .i64 (IntKind.i64.wrap (IntKind.i64.wrap (IntKind.i64.wrap (IntKind.i64.wrap ((k+4*(i:Int))+1)+1)+1)+1)))=i64 (k+4*((i+1:Nat):Int))
   rw[zG (n:=k+4*(i:Int)+1) (by omega) (by omega),zG (n:=k+4*(i:Int)+1+1) (by omega) (by omega),zG (n:=k+4*(i:Int)+1+1+1) (by omega) (by omega),zG (n:=k+4*(i:Int)+1+1+1+1) (by omega) (by omega)]
   exact congrArg i64 (by omega)
  ·show AV.d (.int .i64 (IntKind.i64.wrap ((i:Int)+1)))=i64 ((i+1:Nat):Int)
   rw[zG (by omega) (by omega)]
   rfl
 ·conv=>whnf
  have hkk:i=n:=by
   have:¬ i<n:=by simpa using h
   omega
  subst hkk
  refine⟨_,Weak.refl,?_⟩
  conv=>whnf
  exact⟨fun _=>false,rfl,fun κ=>rfl⟩
end Ai
namespace Ai
set_option maxRecDepth 100000
open Go Go.Proofs
theorem io_congr {g:FuncId} {xs ys:List AV} {H0:Key→Option Ob} {Post:AV→(Key→Option Ob)→Prop} (h:IOCall EE g xs H0 Post) (e:ys=xs):IOCall EE g ys H0 Post:=by rw[e];exact h
def tC (subs:List (List (List D))) (i j:Nat):List AV:=if j<i then [.junk] else [.ref (.s 903 j) 0 (subs.getD j []).length]
def wE (subs:List (List (List D))) (i:Nat):List (List AV):=(List.range subs.length).map (tC subs i)
def vN (subs:List (List (List D))) (i j:Nat):Option Ob:=if j<i then none else (subs[j]?).map (.ds 183 4)
theorem oM {subs:List (List (List D))} {i j:Nat} (h:j<subs.length):(wE subs i)[j]?=some (tC subs i j):=by simp[wE,h]
theorem pO {subs:List (List (List D))} {i i':Nat} (f:List AV→List AV) (h:∀ j,f (tC subs i j)=tC subs i' j):(wE subs i).map f=wE subs i':=by
 unfold wE
 rw[List.map_map]
 exact List.map_congr_left fun j _=>h j
theorem qQ (f:Key→Key) (subs:List (List (List D))) (i j:Nat):(vN subs i j).map (renO f)=vN subs i j:=by
 unfold vN
 split
 ·rfl
 ·cases subs[j]? <;> rfl
theorem wL (p:Key→Bool) (subs:List (List (List D))) (i j:Nat):(vN subs i j).map (scrPO p)=vN subs i j:=by
 unfold vN
 split
 ·rfl
 ·cases subs[j]? <;> rfl
def tot (subs:List (List (List D))) (i:Nat):Nat:=((subs.take i).map List.length).sum
theorem tot_succ {subs:List (List (List D))} {i:Nat} (h:i<subs.length):tot subs (i+1)=tot subs i+subs[i].length:=by
 unfold tot
 rw[List.take_succ_eq_append_getElem h,List.map_append,List.sum_append]
 simp
theorem tot_le (subs:List (List (List D))) (i:Nat):tot subs i≤tot subs subs.length:=by
 unfold tot
 rw[List.take_length]
 have:∀ (l:List Nat) (i:Nat),(l.take i).sum≤l.sum:=by
  intro l
  induction l with
  |nil=>simp
  |cons x xs ih =>
   intro i
   cases i with
   |zero=>simp
   |succ i=>simp only[List.take_succ_cons,List.sum_cons];have:=ih i;omega
 rw[List.map_take]
 exact this _ i
theorem markOpSS_ok (subs:List (List (List D))) (k:Int) (hx:subs.length≤1048576) (hs:∀ q∈subs,∀ c∈q,c.length=4) (ht:tot subs subs.length≤1048576) (h0:0≤k) (h1:k≤1048576) (H0:Key→Option Ob)
  (hH:H0 (.n 903)=some (.rs 157 1 (wE subs 0))) (hF:∀ j,H0 (.s 903 j)=vN subs 0 j) :
  IOCall EE 62 [.dref (.n 903) subs.length,i64 k] H0 (fun r H1=>r=i64 (k+4*tot subs subs.length)∧∀ κ,H1 κ=none):=by
 refine io_of_AW (fn:=Tryz.f62) (c:=Tryz.f62.body.getD .skip) Tryz.func62 rfl (by kernel_rfl) rfl ?_
 have hat:At [(0,.dref (.n 903) subs.length),(1,i64 k)] [(.n 903,.rs 157 1 (wE subs 0))] [(903,vN subs 0)] ⟨fun i=>[AV.dref (.n 903) subs.length,i64 k].getD i .junk,H0⟩:=⟨⟨rfl,rfl,trivial⟩,⟨hH,trivial⟩,⟨hF,trivial⟩⟩
 obtain⟨τ,H,hf⟩:=hat.form
 rw[hf]
 conv=>whnf
 refine aloopF (fun i:Nat=>[(0,.dref (.n 903) subs.length),(1,i64 (k+4*(tot subs i:Int))),(5,i64 i)]) (fun i=>[(.n 903,.rs 157 1 (wE subs i))]) (fun i=>[(903,vN subs i)]) (fun i=>subs.length - i) (fun i=>i≤subs.length) 0
  Weak.refl ⟨rfl,?_,rfl,trivial⟩ ⟨rfl,trivial⟩ ⟨fun j=>?_,trivial⟩ (Nat.zero_le _) ?_
 ·show i64 k=i64 (k+4*((tot subs 0:Nat):Int))
  rw[show k+4*((tot subs 0:Nat):Int)=k by simp[tot]]
 ·rfl
 intro i τ H hi
 have hi:i≤subs.length:=hi
 have hti:=tot_le subs i
 conv=>whnf
 refine kbi (fun h=>?_) (fun h=>?_)
 ·have hlt:i<subs.length:=by simpa using h
  conv=>whnf
  refine⟨⟨by omega,by omega⟩,?_⟩
  conv=>whnf
  have hgi:subs.getD i []=subs[i]:=by simp[List.getD_eq_getElem?_getD,hlt]
  have hrow:tC subs i i=[.ref (.s 903 i) 0 subs[i].length]:=by unfold tC;rw[if_neg (by omega),hgi]
  have hfi:vN subs i i=some (.ds 183 4 subs[i]):=by unfold vN;rw[if_neg (by omega),List.getElem?_eq_getElem hlt];rfl
  refine⟨[.ref (.s 903 i) 0 subs[i].length],⟨?_,Nat.le_refl _⟩,?_⟩
  ·rw[Int.toNat_natCast,oM hlt,hrow]
  conv=>whnf
  have hsw:swp (.n 50) (.s 903 i) (.s 903 i)=.n 50:=by simp[swp,Key.beq]
  have hts:=tot_succ hlt
  have hti2:=tot_le subs (i+1)
  split
  case' h_1=>conv=>whnf
  case' h_1=>refine .inr (.inr (.inr (.inl ?_)))
  case' h_2=>refine .inr (.inr (.inl ?_))
  all_goals
   refine⟨_,119,[],uC 50 903 i,rfl,999,0,isK (.n 50),(fun r H1=>r=i64 ((k+4*(tot subs i:Int))+4*(subs[i].length:Nat))∧∀ κ,H1 κ=none),?_,rfl,?_⟩
   ·refine io_congr (markOpS_ok subs[i] (k+4*(tot subs i:Int)) subs[i].length rfl (by omega) (hs _ (List.getElem_mem hlt)) (by omega) (by omega) _ ?_) ?_
    ·show Option.map _ (Option.map _ (Option.map _ (vN subs i i)))=_
     rw[hfi]
     rfl
    ·show[scrP _ (.ref (swp (.n 999) (.l 0) (swp (.n 50) (.s 903 i) (.s 903 i))) 0 subs[i].length),_]=_
     rw[hsw]
     rfl
   ·rintro r H1 ⟨rfl,q⟩
    refine⟨fun κ _=>q κ,fun n hn=>(by cases hn),?_⟩
    conv=>whnf
    have hne:∀ j,j≠i→swp (.n 50) (.s 903 i) (.s 903 j)=.s 903 j:=fun j hj=>by simp[swp,Key.beq,nbeq_ne hj]
    refine⟨i+1,_,uC 50 903 i,by show i+1≤subs.length;omega,by show subs.length - (i+1)<subs.length - i;omega,⟨rfl,?_,?_,trivial⟩,⟨?_,trivial⟩,⟨fun j=>?_,trivial⟩⟩
    ·show i64 (k+4*((tot subs i:Nat):Int)+4*((subs[i].length:Nat):Int))=i64 (k+4*((tot subs (i+1):Nat):Int))
     rw[hts]
     exact congrArg i64 (by omega)
    ·show AV.d (.int .i64 (IntKind.i64.wrap ((i:Int)+1)))=i64 ((i+1:Nat):Int)
     rw[zG (by omega) (by omega)]
     rfl
    ·show some (Ob.rs 157 1 ((((((wE subs i).map (renL (swp (.n 50) (.s 903 i)))).map (renL (swp (.n 999) (.l 0)))).map (scrPL (qI (isK (.n 50))))).map (renL (swp (.n 999) (.l 0)))).map (renL (swp (.n 50) (.s 903 i)))))=_
     rw[List.map_map,List.map_map,List.map_map,List.map_map]
     refine congrArg (fun x=>some (Ob.rs 157 1 x)) (pO _ fun j=>?_)
     by_cases hj:j=i
     ·subst hj
      rw[hrow]
      unfold tC
      rw[if_pos (by omega)]
      show renL _ (renL _ (scrPL _ (renL _ [AV.ref (swp (.n 50) (.s 903 j) (.s 903 j)) 0 _])))=_
      rw[hsw]
      rfl
     ·unfold tC
      by_cases hji:j<i
      ·rw[if_pos hji,if_pos (by omega)]
       rfl
      ·rw[if_neg hji,if_neg (by omega)]
       show renL _ (renL _ (scrPL _ (renL _ [AV.ref (swp (.n 50) (.s 903 i) (.s 903 j)) 0 _])))=_
       rw[hne j hj]
       show[AV.ref (swp (.n 50) (.s 903 i) (.s 903 j)) 0 _]=_
       rw[hne j hj]
    ·show(St.H _ (swp (.n 50) (.s 903 i) (.s 903 j))).map _=_
     by_cases hj:j=i
     ·subst hj
      rw[hsw]
      show Option.map _ (Option.map _ (H1 (.n 50)))=_
      rw[q]
      unfold vN
      rw[if_pos (by omega)]
      rfl
     ·rw[hne j hj]
      show Option.map _ (Option.map _ (Option.map _ (Option.map _ (Option.map _ (St.H _ (swp (.n 50) (.s 903 i) (.s 903 j)))))))=_
      rw[hne j hj]
      show Option.map _ (Option.map _ (Option.map _ (Option.map _ (Option.map _ (vN subs i j)))))=_
      rw[qQ,qQ,wL,qQ,qQ]
      unfold vN
      by_cases hji:j<i
      ·rw[if_pos hji,if_pos (by omega)]
      ·rw[if_neg hji,if_neg (by omega)]
 ·conv=>whnf
  have hkk:i=subs.length:=by
   have:¬ i<subs.length:=by simpa using h
   omega
  subst hkk
  refine⟨_,Weak.refl,?_⟩
  conv=>whnf
  exact⟨fun _=>false,rfl,fun κ=>rfl⟩
end Ai
namespace Ai
set_option maxRecDepth 100000
open Go Go.Proofs
def bN:Key→Bool
 | .n k=>Nat.beq k 903
 | .s o _=>Nat.beq o 903
 | .l _=>false
theorem xI {p:Key→Bool} (subs:List (List (List D))) (hp:∀ j,p (.s 903 j)=false):(wE subs 0).map (scrPL p)=wE subs 0 :=
 pO _ fun j=>by
  unfold tC
  rw[if_neg (by omega)]
  simp[scrPL,scrP,hp j]
theorem kG {f:Key→Key} (subs:List (List (List D))) (hf:∀ j,f (.s 903 j)=.s 903 j):(wE subs 0).map (renL f)=wE subs 0 :=
 pO _ fun j=>by
  unfold tC
  rw[if_neg (by omega)]
  simp[renL,ren,hf j]
theorem gH (c l d:Int) (subs:List (List (List D))) (k:Int) (hx:subs.length≤1048576) (hs:∀ q∈subs,∀ c∈q,c.length=4) (ht:tot subs subs.length≤1048576) (h0:0≤k) (h1:k≤1048576) (H0:Key→Option Ob)
  (hH:H0 (.n 903)=some (.rs 157 1 (wE subs 0))) (hF:∀ j,H0 (.s 903 j)=vN subs 0 j) :
  IOCall EE 17 [.agg [i64 c,i64 l,i64 d,.dref (.n 903) subs.length],i64 k] H0 (fun r H1=>r=i64 (k+4*tot subs subs.length)∧∀ κ,H1 κ=none):=by
 refine io_of_AW (fn:=Tryz.f17) (c:=Tryz.f17.body.getD .skip) Tryz.func17 rfl (by kernel_rfl) rfl ?_
 have hat:At [(0,.agg [i64 c,i64 l,i64 d,.dref (.n 903) subs.length]),(1,i64 k)] [(.n 903,.rs 157 1 (wE subs 0))] [(903,vN subs 0)] ⟨fun i=>[AV.agg [i64 c,i64 l,i64 d,.dref (.n 903) subs.length],i64 k].getD i .junk,H0⟩:=⟨⟨rfl,rfl,trivial⟩,⟨hH,trivial⟩,⟨hF,trivial⟩⟩
 obtain⟨τ,H,hf⟩:=hat.form
 rw[hf]
 conv=>whnf
 refine .inr (.inl ⟨999,0,bN,(fun r H1=>r=i64 (k+4*tot subs subs.length)∧∀ κ,H1 κ=none),?_,rfl,?_⟩)
 ·refine io_congr (markOpSS_ok subs k hx hs ht h0 h1 _ ?_ fun j=>?_) rfl
  ·show some (Ob.rs 157 1 ((((wE subs 0).map (scrPL (isK (.n 2)))).map (renL (swp (.n 999) (.l 0)))).map (scrPL (fun o=>!bN o))))=_
   rw[xI subs (fun j=>rfl),kG subs (fun j=>rfl),xI subs (fun j=>rfl)]
  ·show Option.map _ (Option.map _ (Option.map _ (vN subs 0 j)))=_
   rw[wL,qQ,wL]
 ·rintro r H1 ⟨rfl,q⟩
  refine⟨fun κ _=>q κ,fun n hn=>(by cases hn),?_⟩
  conv=>whnf
  refine⟨_,Weak.refl,?_⟩
  conv=>whnf
  exact⟨fun _=>false,rfl,fun κ=>rfl⟩
def gY (r:List OpL):List (List D):=r.map encOp
def zE (p:ProgL):List (List (List D)):=p.rs.map gY
def iJ (subs:List (List (List D))) (i j:Nat):List AV:=if j<i then [.ref (.s 900 j) 0 (subs.getD j []).length] else [.d .nil]
def uD (subs:List (List (List D))) (i:Nat):List (List AV):=(List.range subs.length).map (iJ subs i)
def rK (subs:List (List (List D))) (i j:Nat):Option Ob:=if j<i then (subs[j]?).map (.ds 183 4) else none
theorem rowsT_zero (subs:List (List (List D))):uD subs 0=List.replicate subs.length [.d .nil]:=by
 apply List.ext_getElem?
 intro j
 simp only[uD,List.getElem?_map,List.getElem?_replicate,List.getElem?_range']
 by_cases h:j<subs.length
 ·rw[if_pos h,List.getElem?_eq_getElem (by simpa using h)]
  simp[iJ]
 ·rw[if_neg h,List.getElem?_eq_none (by simpa using h)]
  rfl
theorem rowsT_map {subs:List (List (List D))} {i i':Nat} (f:List AV→List AV) (h:∀ j,f (iJ subs i j)=iJ subs i' j):(uD subs i).map f=uD subs i':=by
 unfold uD
 rw[List.map_map]
 exact List.map_congr_left fun j _=>h j
theorem oL {p:Key→Bool} (subs:List (List (List D))) (i:Nat) (hp:∀ j,p (.s 900 j)=false):(uD subs i).map (scrPL p)=uD subs i :=
 rowsT_map _ fun j=>by
  unfold iJ
  split
  ·simp[scrPL,scrP,hp j]
  ·rfl
theorem famT_ren (f:Key→Key) (subs:List (List (List D))) (i j:Nat):(rK subs i j).map (renO f)=rK subs i j:=by
 unfold rK
 split
 ·cases subs[j]? <;> rfl
 ·rfl
theorem famT_scr (p:Key→Bool) (subs:List (List (List D))) (i j:Nat):(rK subs i j).map (scrPO p)=rK subs i j:=by
 unfold rK
 split
 ·cases subs[j]? <;> rfl
 ·rfl
theorem rowsT_put {subs:List (List (List D))} {k:Nat} (h:k<subs.length):((xN (uD subs k) 1 k 0 [.ref (.n 20) 0 subs[k].length]).map (renL (swp (.n 20) (.s 900 k))))=uD subs (k+1):=by
 have hlen:(uD subs k).length=subs.length:=by simp[uD]
 apply List.ext_getElem?
 intro j
 by_cases hj:j=k
 ·subst hj
  rw[List.getElem?_map,vP (c:=iJ subs j j) (c':=[.ref (.n 20) 0 subs[j].length]) (by simp[uD,h]) rfl]
  simp only[uD,List.getElem?_map,List.getElem?_range h,Option.map_some,Option.some.injEq]
  unfold iJ
  rw[if_pos (by omega)]
  have e:swp (.n 20) (.s 900 j) (.n 20)=.s 900 j:=by simp[swp,Key.beq]
  simp[renL,ren,e,List.getD_eq_getElem?_getD,h]
 ·by_cases hl:j<subs.length
  ·rw[List.getElem?_map,tN hj (c:=iJ subs k j) (by simp[uD,hl])]
   simp only[uD,List.getElem?_map,List.getElem?_range hl,Option.map_some,Option.some.injEq]
   have e:swp (.n 20) (.s 900 k) (.s 900 j)=.s 900 j:=by simp[swp,Key.beq,nbeq_ne hj]
   unfold iJ
   by_cases hjk:j<k
   ·rw[if_pos hjk,if_pos (by omega)]
    simp[renL,ren,e]
   ·rw[if_neg hjk,if_neg (by omega)]
    simp[renL,ren]
  ·rw[List.getElem?_eq_none (by simp[xN];simp[hlen];omega),List.getElem?_eq_none (by simp[uD];omega)]
def lend9:Key→Bool
 | .n k=>Nat.beq k 900
 | .s o _=>Nat.beq o 900
 | .l _=>false
theorem own1_n {x:AV} {q:Nat} (h:q≠900):ownH [x] (.n q)=none:=by
 unfold ownH
 cases hb:Nat.blt q 900 with
 |true=>simp only[hb,cond_true]
 |false =>
  have:¬ q<900:=by
   intro e
   have:Nat.blt q 900=true:=by simpa[Nat.blt_eq] using e
   rw[this] at hb;cases hb
  have:([x]:List AV)[q - 900]?=none:=List.getElem?_eq_none (by simp;omega)
  simp only[hb,cond_false,this]
theorem own1_s {x:AV} {q j:Nat} (h:q≠900):ownH [x] (.s q j)=none:=by
 unfold ownH
 cases hb:Nat.blt q 900 with
 |true=>simp only[hb,cond_true]
 |false =>
  have:¬ q<900:=by
   intro e
   have:Nat.blt q 900=true:=by simpa[Nat.blt_eq] using e
   rw[this] at hb;cases hb
  have:([x]:List AV)[q - 900]?=none:=List.getElem?_eq_none (by simp;omega)
  simp only[hb,cond_false,this]
theorem rowsT_own (xs:List (List OpL)):uD (xs.map gY) xs.length=ownRows 900 0 (xs.map fun _=>[.nil]) (xs.map gY):=by
 unfold ownRows uD
 apply List.ext_getElem?
 intro j
 by_cases h:j<xs.length
 ·have h2:j<(xs.map gY).length:=by simpa using h
  simp only[List.getElem?_map,List.getElem?_range h2,Option.map_some,List.getElem?_mapIdx,List.getElem?_eq_getElem h]
  unfold iJ
  rw[if_pos h]
  rfl
 ·rw[List.getElem?_eq_none (by simp;omega),List.getElem?_eq_none (by simp;omega)]
theorem toOpSS_own (xs:List (List OpL)) (hx:xs.length≤1048576) (hx2:∀ x∈xs,x.length≤1048576):CallsTo EE 58 [sl (xs.map zS)] (·=.ownF 1 [.uqd 157 1 0 183 4 (xs.map fun _=>[.nil]) (xs.map gY)]):=by
 refine sW (fun v hv=>?_) ?_
 ·simp only[List.mem_cons,List.not_mem_nil,or_false] at hv
  subst hv
  show(xs.map _).length=(xs.map gY).length
  simp
 refine io_of_AW (fn:=Tryz.f58) (c:=Tryz.f58.body.getD .skip) Tryz.func58 rfl (by kernel_rfl) rfl ?_
 conv=>whnf
 refine⟨by simp;omega,?_⟩
 conv=>whnf
 refine aloopF (fun k:Nat=>[(0,sl (xs.map zS)),(3,.dref (.n 900) xs.length),(4,i64 k)]) (fun k=>[(.n 900,.rs 157 1 (uD (xs.map gY) k))]) (fun k=>[(900,rK (xs.map gY) k)]) (fun k=>xs.length - k) (fun k=>k≤xs.length) 0
  ((tW (.n 7) rfl).trans (vV 7 900)) ?_ ?_ ?_ (Nat.zero_le _) ?_
 ·exact⟨rfl,by show AV.dref (.n 900) (((xs.map zS).length:Nat):Int).toNat=_;simp,rfl,trivial⟩
 ·refine⟨?_,trivial⟩
  show some (Ob.rs 157 1 (((List.replicate (((xs.map zS).length:Nat):Int).toNat [D.nil]).map (List.map AV.d)).map (renL (swp (.n 7) (.n 900)))))=_
  rw[rowsT_zero]
  simp[renL,ren]
 ·refine⟨fun j=>?_,trivial⟩
  unfold rK
  rw[if_neg (by omega)]
  rfl
 intro k τ H hk
 have hk:k≤xs.length:=hk
 conv=>whnf
 refine kbi (fun h=>?_) (fun h=>?_)
 ·have hlt:=xF h
  have hlt2:k<(xs.map gY).length:=by simpa using hlt
  have hgk:(xs.map gY)[k]=xs[k].map encOp:=by simp[gY]
  conv=>whnf
  refine⟨zS xs[k],yA zS hlt rfl,?_⟩
  conv=>whnf
  refine⟨_,s5 xs[k] (hx2 _ (List.getElem_mem hlt)),?_⟩
  rintro r rfl
  refine .inr ⟨_,rfl,?_⟩
  conv=>whnf
  refine⟨⟨by omega,by omega⟩,?_⟩
  conv=>whnf
  refine⟨k+1,_,uC 20 900 k,by show k+1≤xs.length;omega,by show xs.length - (k+1)<xs.length - k;omega,⟨rfl,rfl,next_i64 hlt (by omega),trivial⟩,⟨?_,trivial⟩,⟨fun j=>?_,trivial⟩⟩
  ·show some (Ob.rs 157 1 ((xN ((uD (xs.map gY) k).map (scrPL (isK (.n 20)))) 1 ((k:Int)).toNat 0 [.ref (.n 20) 0 (xs[k].map encOp).length]).map (renL (swp (.n 20) (.s 900 k)))))=_
   rw[oL _ _ (fun j=>rfl),Int.toNat_natCast,← hgk,rowsT_put hlt2]
  ·show(St.H _ (swp (.n 20) (.s 900 k) (.s 900 j))).map _=_
   by_cases hj:j=k
   ·subst hj
    have e:swp (.n 20) (.s 900 j) (.s 900 j)=.n 20:=by simp[swp,Key.beq]
    rw[e]
    unfold rK
    rw[if_pos (by omega),List.getElem?_eq_getElem hlt2,hgk]
    rfl
   ·have e:swp (.n 20) (.s 900 k) (.s 900 j)=.s 900 j:=by simp[swp,Key.beq,nbeq_ne hj]
    rw[e]
    show Option.map _ (Option.map _ (rK (xs.map gY) k j))=_
    rw[famT_scr,famT_ren]
    unfold rK
    by_cases hjk:j<k
    ·rw[if_pos hjk,if_pos (by omega)]
    ·rw[if_neg hjk,if_neg (by omega)]
 ·have hkk:k=xs.length:=by
   have:¬ k<xs.length:=by simpa using h
   omega
  subst hkk
  conv=>whnf
  refine⟨_,Weak.refl,?_⟩
  conv=>whnf
  refine⟨lend9,?_,fun κ hκ=>?_⟩
  ·show AV.dref (.n 900) xs.length=AV.dref (.n 900) (xs.map _).length
   rw[List.length_map]
  ·cases κ with
   |l n=>exact absurd rfl hκ
   |n q =>
    by_cases hq:q=900
    ·subst hq
     show some (Ob.rs 157 1 ((uD (xs.map gY) xs.length).map (scrPL (fun o=>!lend9 o))))=some (Ob.rs 157 1 (ownRows 900 0 (xs.map fun _=>[.nil]) (xs.map gY)))
     rw[oL _ _ (fun j=>rfl),rowsT_own]
    ·exact absurd (own1_n hq) hκ
   |s o j =>
    by_cases hq:o=900
    ·subst hq
     show Option.map _ (rK (xs.map gY) xs.length j)=((xs.map gY)[j]?).map (Ob.ds 183 4)
     rw[famT_scr]
     unfold rK
     by_cases hj:j<xs.length
     ·rw[if_pos hj]
     ·rw[if_neg hj,List.getElem?_eq_none (by simp;omega)]
      rfl
    ·exact absurd (own1_s hq) hκ
end Ai
namespace Ai
set_option maxRecDepth 100000
open Go Go.Proofs
def rwQ (o:Nat) (l:List (List Int)) (j:Nat):List AV:=[.ref (.s o j) 0 (l.getD j []).length]
def xW (o:Nat) (l:List (List Int)) (k:Nat):List (List AV):=(List.range k).map (rwQ o l)
def fmQ (l:List (List Int)) (k j:Nat):Option Ob:=if j<k then some (.ds 3 1 ((l.getD j []).map encInt)) else none
theorem vJ {p:Key→Bool} {o:Nat} (l:List (List Int)) (k:Nat) (hp:∀ j,p (.s o j)=false):(xW o l k).map (scrPL p)=xW o l k:=by
 unfold xW
 rw[List.map_map]
 refine List.map_congr_left fun j _=>?_
 simp[rwQ,scrPL,scrP,hp j]
theorem wH {f:Key→Key} {o o2:Nat} (l:List (List Int)) (k:Nat) (hf:∀ j,j<k→f (.s o j)=.s o2 j):(xW o l k).map (renL f)=xW o2 l k:=by
 unfold xW
 rw[List.map_map]
 refine List.map_congr_left fun j hj=>?_
 have hj:j<k:=by simpa using hj
 simp[rwQ,renL,ren,hf j hj]
theorem vE (f:Key→Key) (l:List (List Int)) (k j:Nat):(fmQ l k j).map (renO f)=fmQ l k j:=by
 unfold fmQ
 split <;> rfl
theorem vY (p:Key→Bool) (l:List (List Int)) (k j:Nat):(fmQ l k j).map (scrPO p)=fmQ l k j:=by
 unfold fmQ
 split <;> rfl
theorem rwsQ_succ (o:Nat) (l:List (List Int)) (k:Nat):xW o l (k+1)=xW o l k++[rwQ o l k]:=by
 unfold xW
 rw[List.range_succ,List.map_append]
 rfl
theorem c7 (o:Nat) (l:List (List Int)) (k:Nat):(xW o l k).length=k:=by simp[xW]
def nD (l:List (List Int)):AV:=.uqd 41 1 0 3 1 (l.map fun _=>[.nil]) (l.map fun x=>x.map encInt)
theorem kF (l:List (List Int)):xW 900 l l.length=ownRows 900 0 (l.map fun _=>[.nil]) (l.map fun x=>x.map encInt):=by
 unfold ownRows xW
 apply List.ext_getElem?
 intro j
 by_cases h:j<l.length
 ·simp[rwQ,h,List.getD_eq_getElem?_getD]
 ·rw[List.getElem?_eq_none (by simp;omega),List.getElem?_eq_none (by simp;omega)]
theorem fmQ_own (l:List (List Int)) (j:Nat):fmQ l l.length j=((l.map fun x=>x.map encInt)[j]?).map (Ob.ds 3 1):=by
 unfold fmQ
 by_cases h:j<l.length
 ·rw[if_pos h]
  simp[h,List.getD_eq_getElem?_getD]
 ·rw[if_neg h,List.getElem?_eq_none (by simp;omega)]
  rfl
theorem rZ {S:St} {l:List (List Int)} {o:Key} {q:Nat} (h:S.H o=some (.rs 41 1 (xW q l l.length))) (hf:∀ j,S.H (.s q j)=fmQ l l.length j):jY S o l.length (l.map xG):=by
 refine oB h (by simp) (by simp[c7]) ?_
 intro j row d hr hd
 have hj:j<l.length:=by
  have:=(List.getElem?_eq_some_iff.1 hd).1
  simpa using this
 have h1:row=rwQ q l j:=by
  simp[xW,hj] at hr
  exact hr.symm
 have h2:d=xG l[j]:=by
  simp[hj] at hd
  exact hd.symm
 subst h1 h2
 have h3:=hf j
 unfold fmQ at h3
 rw[if_pos hj] at h3
 simp[rwQ,fz1s,fz1,h3,xG,List.getD_eq_getElem?_getD,hj,List.take_of_length_le]
end Ai
namespace Ai
set_option maxRecDepth 100000
open Go Go.Proofs
theorem cW (xs:List RunT) (h:RowsUp (xs.map RunT.tk)):CallsTo EE 60 [sl (xs.map yO)] (·=.ownF 1 [nD (xs.map RunT.tk)]):=by
 have hN:xs.length≤1048576:=by have:=h.len;simpa using this
 have htk:∀ x∈xs,x.tk.length≤1048576:=fun x hx=>h.row _ (List.mem_map_of_mem hx)
 refine sW (fun v hv=>?_) ?_
 ·simp only[List.mem_cons,List.not_mem_nil,or_false] at hv
  subst hv
  show((xs.map RunT.tk).map _).length=((xs.map RunT.tk).map _).length
  simp
 refine io_of_AW (fn:=Tryz.f60) (c:=Tryz.f60.body.getD .skip) Tryz.func60 rfl (by kernel_rfl) rfl ?_
 generalize hl:xs.map RunT.tk=l at *
 have hll:l.length=xs.length:=by rw[← hl];simp
 conv=>whnf
 refine aloopF (fun k:Nat=>[(3,.dref (.n 900) k),(7,sl (xs.map yO)),(8,i64 (xs.map yO).length),(9,i64 k)]) (fun k=>[(.n 900,.rs 41 1 (xW 900 l k))]) (fun k=>[(900,fmQ l k)]) (fun k=>xs.length - k) (fun k=>k≤xs.length) 0
  ((tW (.n 6) rfl).trans (vV 6 900)) ⟨rfl,rfl,rfl,rfl,trivial⟩ ⟨rfl,trivial⟩ ⟨fun j=>?_,trivial⟩ (Nat.zero_le _) ?_
 ·unfold fmQ
  rw[if_neg (by omega)]
  rfl
 intro k τ H hk
 have hk:k≤xs.length:=hk
 conv=>whnf
 refine kbi (fun hh=>?_) (fun hh=>?_)
 ·have hlt:=xF hh
  have hlk:l.getD k []=xs[k].tk:=by rw[← hl];simp[List.getD_eq_getElem?_getD,hlt]
  conv=>whnf
  refine⟨yO xs[k],yA yO hlt rfl,?_⟩
  conv=>whnf
  refine⟨_,Clone_ok xs[k].tk (htk _ (List.getElem_mem hlt)),?_⟩
  rintro r rfl
  refine .inr ⟨_,rfl,?_⟩
  conv=>whnf
  refine .inr ?_
  conv=>whnf
  refine⟨⟨fun c hc=>?_,by show(k+1)*24≤_;omega,by show k+1≤_;omega⟩,?_⟩
  ·have hc:c∈[[AV.ref (.n 16) 0 (xs[k].tk.map encInt).length]]:=hc
   simp only[List.mem_cons,List.not_mem_nil,or_false] at hc
   subst hc;rfl
  conv=>whnf
  refine⟨k+1,_,uC 16 900 k,by show k+1≤xs.length;omega,by show xs.length - (k+1)<xs.length - k;omega,⟨rfl,rfl,rfl,next_i64 hlt (by omega),trivial⟩,⟨?_,trivial⟩,⟨fun j=>?_,trivial⟩⟩
  ·show some (Ob.rs 41 1 (((((((xW 900 l k).map (scrPL (isK (.n 5)))).map (scrPL (isK (.n 16)))).map (scrPL (isK (.n 17)))).take k++[[AV.ref (.n 16) 0 (xs[k].tk.map encInt).length]]).map (scrPL (isK (.n 900)))).map (renL (swp (.n 16) (.s 900 k)))))=_
   rw[vJ _ _ (fun j=>rfl),vJ _ _ (fun j=>rfl),vJ _ _ (fun j=>rfl),List.take_of_length_le (by rw[c7];exact Nat.le_refl _),List.map_append,vJ _ _ (fun j=>rfl),List.map_append,wH,rwsQ_succ]
   ·have e:swp (.n 16) (.s 900 k) (.n 16)=.s 900 k:=by simp[swp,Key.beq]
    rw[List.length_map]
    show some (Ob.rs 41 1 (xW 900 l k++[[AV.ref (swp (.n 16) (.s 900 k) (.n 16)) 0 xs[k].tk.length]]))=some (Ob.rs 41 1 (xW 900 l k++[[AV.ref (.s 900 k) 0 (l.getD k []).length]]))
    rw[e,hlk]
   ·intro j hj
    simp[swp,Key.beq,nbeq_ne (by omega:j≠k)]
  ·show(St.H _ (swp (.n 16) (.s 900 k) (.s 900 j))).map _=_
   by_cases hj:j=k
   ·subst hj
    have e:swp (.n 16) (.s 900 j) (.s 900 j)=.n 16:=by simp[swp,Key.beq]
    rw[e]
    unfold fmQ
    rw[if_pos (by omega),hlk]
    rfl
   ·have e:swp (.n 16) (.s 900 k) (.s 900 j)=.s 900 j:=by simp[swp,Key.beq,nbeq_ne hj]
    rw[e]
    show Option.map _ (Option.map _ (Option.map _ (Option.map _ (Option.map _ (fmQ l k j)))))=_
    rw[vY,vY,vY,vY,vE]
    unfold fmQ
    by_cases hjk:j<k
    ·rw[if_pos hjk,if_pos (by omega)]
    ·rw[if_neg hjk,if_neg (by omega)]
 ·have hkk:k=xs.length:=by
   have:¬ k<xs.length:=by simpa using hh
   omega
  subst hkk
  conv=>whnf
  refine .inl ⟨[sl (l.map xG),eI],[],_,⟨_,_,rfl,⟨_,rfl,?_⟩,_,_,rfl,rfl,rfl⟩,rfl,SortFunc_ok h,?_⟩
  ·rw[← hll]
   refine rZ (q:=900) ?_ (fun j=>?_)
   ·rfl
   ·rfl
  rintro r rfl
  refine⟨fun c hc=>(by cases hc),?_⟩
  conv=>whnf
  refine⟨_,Weak.refl,?_⟩
  conv=>whnf
  refine⟨lend9,?_,fun κ hκ=>?_⟩
  ·show AV.dref (.n 900) xs.length=AV.dref (.n 900) (l.map _).length
   rw[List.length_map,hll]
  ·cases κ with
   |l n=>exact absurd rfl hκ
   |n q =>
    by_cases hq:q=900
    ·subst hq
     show some (Ob.rs 41 1 ((xW 900 l xs.length).map (scrPL (fun o=>!lend9 o))))=some (Ob.rs 41 1 (ownRows 900 0 (l.map fun _=>[.nil]) (l.map fun x=>x.map encInt)))
     rw[vJ _ _ (fun j=>rfl),← hll,kF]
    ·exact absurd (own1_n hq) hκ
   |s o j =>
    by_cases hq:o=900
    ·subst hq
     show Option.map _ (fmQ l xs.length j)=((l.map fun x=>x.map encInt)[j]?).map (Ob.ds 3 1)
     rw[vY,← hll,fmQ_own]
    ·exact absurd (own1_s hq) hκ
end Ai
namespace Ai
set_option maxRecDepth 100000
open Go Go.Proofs Cyc
def natI (l:List Nat):List Int:=l.map fun k=>((k:Nat):Int)
theorem natI_enc (l:List Nat):l.map encN=(natI l).map encInt:=by simp[natI,encN,encInt]
end Ai
namespace Ai
set_option maxRecDepth 100000
open Go Go.Proofs Cyc
open Classical in
noncomputable def keptBy (K:StL→Nat→Ev→Prop) (s:StL) (l:List Nat) (e:Ev):List Nat:=l.filter fun u=>decide (K s u e)
structure XS where
 acc:List RunT
 tried:List Nat
 ok:Bool
noncomputable def enAt (p:ProgL) (r:RunT) (k:Nat):Nat:=(enabledL p r.s).getD k 0
noncomputable def runBy (p:ProgL) (r:RunT) (k:Nat):RunT:=⟨0,r.tr++[(stepL p r.s (enAt p r k)).2],r.tk++[(k:Int)],(stepL p r.s (enAt p r k)).1⟩
open Classical in
noncomputable def xloop (p:ProgL) (sl:Bool) (K:StL→Nat→Ev→Prop) (f:RunT→List Nat→List RunT→List RunT × Bool) (r:RunT) (sleep:List Nat) (acc:List RunT):Nat→XS
 | 0=>⟨acc,[],true⟩
 |k+1 =>
  if (xloop p sl K f r sleep acc k).ok=false∨(sl=true∧enAt p r k∈sleep) then xloop p sl K f r sleep acc k
  else ⟨(f (runBy p r k) (keptBy K r.s (sleep++(xloop p sl K f r sleep acc k).tried) (stepL p r.s (enAt p r k)).2) (xloop p sl K f r sleep acc k).acc).1,(xloop p sl K f r sleep acc k).tried++[enAt p r k],
   (f (runBy p r k) (keptBy K r.s (sleep++(xloop p sl K f r sleep acc k).tried) (stepL p r.s (enAt p r k)).2) (xloop p sl K f r sleep acc k).acc).2⟩
def leaf (p:ProgL) (b:Int) (c:Int) (r:RunT):RunT:=⟨c,r.tr,r.tk,r.s⟩
noncomputable def xgo (p:ProgL) (b:Int) (sl:Bool) (K:StL→Nat→Ev→Prop):Nat→RunT→List Nat→List RunT→List RunT × Bool
 | 0,r,sleep,acc=>(acc,true)
 |n+1,r,sleep,acc =>
  if 0<codeL p r.s r.tr.length b then (acc++[leaf p b (codeL p r.s r.tr.length b) r],decide (acc.length+1≤400))
  else ((xloop p sl K (xgo p b sl K n) r sleep acc (enabledL p r.s).length).acc,(xloop p sl K (xgo p b sl K n) r sleep acc (enabledL p r.s).length).ok)
theorem xloop_stay {p : ProgL} {sl : Bool} {K : StL → Nat → Ev → Prop} {f : RunT → List Nat → List RunT → List RunT × Bool} {r : RunT} {sleep : List Nat} {acc : List RunT} {k : Nat} (h : (xloop p sl K f r sleep acc k).ok = false) :
    ∀ m, k ≤ m → xloop p sl K f r sleep acc m = xloop p sl K f r sleep acc k := by
  intro m hm
  induction m with
  | zero => have : k = 0 := by omega
            subst this; rfl
  | succ m ih =>
    by_cases hk : k = m + 1
    · subst hk; rfl
    · have := ih (by omega)
      rw [xloop, if_pos (.inl (by rw [this]; exact h)), this]
theorem rY {p:ProgL} {K K':StL→Nat→Ev→Prop} {f f':RunT→List Nat→List RunT→List RunT × Bool} {r:RunT} {s1 s2:List Nat} {acc:List RunT}
  (hf:∀ r a b acc,f r a acc=f' r b acc):∀ k,xloop p false K f r s1 acc k=xloop p false K' f' r s2 acc k
 | 0=>rfl
 |k+1=>by
  have ih:=rY (p:=p) (K:=K) (K':=K') (r:=r) (s1:=s1) (s2:=s2) (acc:=acc) hf k
  rw[xloop,xloop,ih]
  have e:∀ (q:Nat) (l:List Nat),(false=true∧q∈l)↔False:=fun q l=>by simp
  simp only[e]
  split
  ·rfl
  ·rw[hf _ _ (keptBy K' r.s (s2++(xloop p false K' f' r s2 acc k).tried) (stepL p r.s (enAt p r k)).2)]
theorem iV (p:ProgL) (b:Int) (K K':StL→Nat→Ev→Prop):∀ (n:Nat) (r:RunT) (s1 s2:List Nat) (acc:List RunT),xgo p b false K n r s1 acc=xgo p b false K' n r s2 acc
 | 0,_,_,_,_=>rfl
 |n+1,r,s1,s2,acc=>by
  rw[xgo,xgo,rY (K':=K') (f':=xgo p b false K' n) (s2:=s2) (fun r a c acc=>iV p b K K' n r a c acc)]
noncomputable def xL (p:ProgL) (tr:List Ev):Nat→StL
 | 0=>xC p
 |i+1=>(stepL p (xL p tr i) (tr.getD i qC).th.toNat).1
theorem cH (p:ProgL) (tr:List Ev) (e:Ev):∀ i,i≤tr.length→xL p (tr++[e]) i=xL p tr i
 | 0,_=>rfl
 |i+1,h=>by
  rw[xL,xL,cH p tr e i (by omega)]
  have:(tr++[e]).getD i qC=tr.getD i qC:=by
   rw[List.getD_eq_getElem?_getD,List.getD_eq_getElem?_getD,List.getElem?_append_left (by omega)]
  rw[this]
structure XR (p:ProgL) (b:Int) (r:RunT):Prop where
 inv:AInv p r.s
 tr:TrOK r.s r.tr
 len:r.tr.length=r.tk.length
 le:(r.tr.length:Int)≤b
 tk:∀ i∈r.tk,0≤i∧i<5
 at_:xL p r.tr r.tr.length=r.s
 en:∀ i,i<r.tr.length→(r.tr.getD i qC).th.toNat∈enabledL p (xL p r.tr i)∧0≤(r.tr.getD i qC).th
 run:∀ picks,r.tk <+: picks→runOf p picks b=c8 p picks b (b.toNat+1 - r.tr.length) r.s r.tr r.tk
structure XEnd (p:ProgL) (b:Int) (x:RunT):Prop where
 fin:REnd p b x
 en:∀ i,i<x.tr.length→(x.tr.getD i qC).th.toNat∈enabledL p (xL p x.tr i)∧0≤(x.tr.getD i qC).th
 run:runOf p x.tk b=x
theorem XR.new {p:ProgL} (hg:p.goodS) {b:Int} (hb:0≤b):XR p b ⟨0,[],[],xC p⟩ :=
 ⟨ainv_new hg,⟨fun e he=>(by cases he),fun h=>absurd rfl h⟩,rfl,hb,fun i hi=>(by cases hi),rfl,fun i hi=>(by cases hi),fun picks h=>rfl⟩
theorem XR.mem {p:ProgL} {b:Int} {r:RunT} {k:Nat} (hk:k<(enabledL p r.s).length):enAt p r k∈enabledL p r.s:=by
 unfold enAt
 rw[List.getD_eq_getElem?_getD,List.getElem?_eq_getElem hk];exact List.getElem_mem hk
theorem XR.step {p:ProgL} (hg:p.goodS) (hv:p.flt) {b:Int} {r:RunT} (h:XR p b r) (hc:¬ 0<codeL p r.s r.tr.length b) {k:Nat} (hk:k<(enabledL p r.s).length):XR p b (runBy p r k):=by
 have hm:=XR.mem (b:=b) hk
 have h5:(enabledL p r.s).length≤5:=Nat.le_trans (enabledTo_le) h.inv.si.len
 have hlb:=(en_ne hc).2
 have hle:=h.le
 have hth:(stepL p r.s (enAt p r k)).2.th=(enAt p r k:Nat):=(step_ev p r.s _).1
 refine⟨rR hg hv hm h.inv,tr_step hg hm h.inv h.tr,by simp[runBy,h.len],?_,fun i hi=>?_,?_,fun i hi=>?_,fun picks hp=>?_⟩
 ·show((r.tr++[_]).length:Int)≤b
  simp;omega
 ·rcases List.mem_append.1 hi with e|e
  ·exact h.tk i e
  ·simp only[List.mem_cons,List.not_mem_nil,or_false] at e
   subst e;omega
 ·show xL p (r.tr++[_]) (r.tr++[_]).length=(stepL p r.s _).1
  rw[List.length_append]
  show xL p (r.tr++[_]) (r.tr.length+1)=_
  rw[xL,cH _ _ _ _ (Nat.le_refl _),h.at_]
  have:(r.tr++[(stepL p r.s (enAt p r k)).2]).getD r.tr.length qC=(stepL p r.s (enAt p r k)).2:=by simp[List.getD_eq_getElem?_getD]
  rw[this,hth]
  rfl
 ·have hi:i<(r.tr++[(stepL p r.s (enAt p r k)).2]).length:=hi
  show((r.tr++[_]).getD i qC).th.toNat∈enabledL p (xL p (r.tr++[_]) i)∧0≤((r.tr++[_]).getD i qC).th
  simp only[List.length_append,List.length_cons,List.length_nil] at hi
  rw[cH _ _ _ _ (by omega)]
  by_cases he:i=r.tr.length
  ·subst he
   have:(r.tr++[(stepL p r.s (enAt p r k)).2]).getD r.tr.length qC=(stepL p r.s (enAt p r k)).2:=by simp[List.getD_eq_getElem?_getD]
   rw[this,hth,h.at_]
   exact⟨by simpa using hm,by omega⟩
  ·have:(r.tr++[(stepL p r.s (enAt p r k)).2]).getD i qC=r.tr.getD i qC:=by
    rw[List.getD_eq_getElem?_getD,List.getD_eq_getElem?_getD,List.getElem?_append_left (by omega)]
   rw[this]
   exact h.en i (by omega)
 ·have hp:r.tk++[(k:Int)] <+: picks:=hp
  obtain⟨more,rfl⟩:=hp
  rw[h.run _ ⟨[(k:Int)]++more,by simp⟩]
  have hn:b.toNat+1 - r.tr.length=(b.toNat - r.tr.length)+1:=by omega
  rw[hn,c8,if_neg hc]
  have hpk:kK (r.tk++[(k:Int)]++more) r.tk (enabledL p r.s).length=(k:Int):=by
   unfold kK
   rw[if_pos (by simp)]
   have:(r.tk++[(k:Int)]++more).getD r.tk.length 0=(k:Int):=by simp[List.getD_eq_getElem?_getD]
   rw[this]
   exact Int.tmod_eq_of_lt (by omega) (by omega)
  simp only[hpk]
  show _=c8 p _ b (b.toNat+1 - (r.tr++[_]).length) _ _ _
  rw[show b.toNat+1 - (r.tr++[(stepL p r.s (enAt p r k)).2]).length=b.toNat - r.tr.length by simp]
  rfl
theorem XR.leaf {p:ProgL} {b:Int} {r:RunT} (h:XR p b r) (hc:0<codeL p r.s r.tr.length b):XEnd p b (leaf p b (codeL p r.s r.tr.length b) r):=by
 refine⟨⟨h.inv,h.tr,rfl,hc,h.len,h.le,h.tk⟩,h.en,?_⟩
 show runOf p r.tk b=_
 rw[h.run _ (List.prefix_rfl)]
 have hle:=h.le
 have hn:b.toNat+1 - r.tr.length=(b.toNat - r.tr.length)+1:=by omega
 rw[hn,c8,if_pos hc]
 rfl
theorem u7 {p:ProgL} (hg:p.goodS) (hv:p.flt) {b:Int} {sl:Bool} {K:StL→Nat→Ev→Prop}:∀ (n:Nat) (r:RunT) (sleep:List Nat) (acc:List RunT),XR p b r→(∀ x∈acc,XEnd p b x)→∀ x∈(xgo p b sl K n r sleep acc).1,XEnd p b x
 | 0,r,sleep,acc,hr,ha=>ha
 |n+1,r,sleep,acc,hr,ha=>by
  rw[xgo]
  split
  ·rename_i hc
   intro x hx
   rcases List.mem_append.1 hx with e|e
   ·exact ha x e
   ·simp only[List.mem_cons,List.not_mem_nil,or_false] at e
    subst e;exact hr.leaf hc
  ·rename_i hc
   have:∀ k,k≤(enabledL p r.s).length→∀ x∈(xloop p sl K (xgo p b sl K n) r sleep acc k).acc,XEnd p b x:=by
    intro k
    induction k with
    |zero=>exact fun _=>ha
    |succ k ih =>
     intro hk
     rw[xloop]
     split
     ·exact ih (by omega)
     ·exact u7 hg hv n _ _ _ (hr.step hg hv hc hk) (ih (by omega))
   exact this _ (Nat.le_refl _)
theorem tI {p:ProgL} {b:Int} {sl:Bool} {K:StL→Nat→Ev→Prop}:∀ (n:Nat) (r:RunT) (sleep:List Nat) (acc:List RunT),acc.length≤400→(xgo p b sl K n r sleep acc).1.length≤401∧((xgo p b sl K n r sleep acc).2=true→(xgo p b sl K n r sleep acc).1.length≤400)
 | 0,r,sleep,acc,ha=>⟨by show acc.length≤_;omega,fun _=>ha⟩
 |n+1,r,sleep,acc,ha=>by
  rw[xgo]
  split
  ·refine⟨by simp;omega,fun h=>?_⟩
   have:=of_decide_eq_true h
   simp;omega
  ·have:∀ k,(xloop p sl K (xgo p b sl K n) r sleep acc k).acc.length≤401∧((xloop p sl K (xgo p b sl K n) r sleep acc k).ok=true→(xloop p sl K (xgo p b sl K n) r sleep acc k).acc.length≤400):=by
    intro k
    induction k with
    |zero=>exact⟨by show acc.length≤_;omega,fun _=>ha⟩
    |succ k ih =>
     rw[xloop]
     split
     ·exact ih
     ·rename_i h
      have hok:(xloop p sl K (xgo p b sl K n) r sleep acc k).ok=true:=by
       cases hh:(xloop p sl K (xgo p b sl K n) r sleep acc k).ok with
       |true=>rfl
       |false=>exact absurd (.inl hh) h
      exact tI n _ _ _ (ih.2 hok)
   exact this _
theorem xloop_len {p:ProgL} {b:Int} {sl:Bool} {K:StL→Nat→Ev→Prop} {n:Nat} {r:RunT} {sleep:List Nat} {acc:List RunT} (ha:acc.length≤400):∀ k,(xloop p sl K (xgo p b sl K n) r sleep acc k).ok=true→(xloop p sl K (xgo p b sl K n) r sleep acc k).acc.length≤400
 | 0,_=>ha
 |k+1,hok=>by
  rw[xloop] at hok ⊢
  split
  ·rename_i h
   rw[if_pos h] at hok
   exact xloop_len ha k hok
  ·rename_i h
   rw[if_neg h] at hok
   have hok1:(xloop p sl K (xgo p b sl K n) r sleep acc k).ok=true:=by
    cases hh:(xloop p sl K (xgo p b sl K n) r sleep acc k).ok with
    |true=>rfl
    |false=>exact absurd (.inl hh) h
   exact(tI n _ _ _ (xloop_len ha k hok1)).2 hok
theorem xloop_tried {p:ProgL} {sl:Bool} {K:StL→Nat→Ev→Prop} {f:RunT→List Nat→List RunT→List RunT × Bool} {r:RunT} {sleep:List Nat} {acc:List RunT}:∀ k,k≤(enabledL p r.s).length →
  (xloop p sl K f r sleep acc k).tried.length≤k∧∀ u∈(xloop p sl K f r sleep acc k).tried,u∈enabledL p r.s
 | 0,_=>⟨Nat.le_refl _,fun u hu=>(by cases hu)⟩
 |k+1,hk=>by
  have ih:=xloop_tried (p:=p) (sl:=sl) (K:=K) (f:=f) (r:=r) (sleep:=sleep) (acc:=acc) k (by omega)
  rw[xloop]
  split
  ·exact⟨by omega,ih.2⟩
  ·refine⟨by simp;exact ih.1,fun u hu=>?_⟩
   rcases List.mem_append.1 hu with e|e
   ·exact ih.2 u e
   ·simp only[List.mem_cons,List.not_mem_nil,or_false] at e
    subst e
    exact XR.mem (b:=0) (by omega)
end Ai
namespace Ai
set_option maxRecDepth 100000
open Go Go.Proofs Cyc
noncomputable def qV (p:ProgL) (b:Int):List RunT × Bool:=xgo p b false (fun _ _ _=>True) (b.toNat+1) ⟨0,[],[],xC p⟩ [] []
theorem eQ {p:ProgL} (hg:p.goodS) (hv:p.flt) {b:Int} (hb:0≤b):∀ x∈(qV p b).1,XEnd p b x:=u7 hg hv _ _ _ _ (XR.new hg hb) fun x hx=>(by cases hx)
theorem eP (p:ProgL) (b:Int):(qV p b).1.length≤401:=(tI _ _ _ _ (Nat.zero_le _)).1
theorem allR_of (p:ProgL) (b:Int) (K:StL→Nat→Ev→Prop) (sleep:List Nat):xgo p b false K (b.toNat+1) ⟨0,[],[],xC p⟩ sleep []=qV p b:=iV p b K _ _ _ _ _ _
open Classical in
noncomputable def qW (p:ProgL) (tr:List Ev):Nat→Nat
 | 0=>0
 |k+1=>qW p tr k+(if 0<k∧(tr.getD (k - 1) qC).th≠(tr.getD k qC).th∧(tr.getD (k - 1) qC).th.toNat∈enabledL p (xL p tr k) then 1 else 0)
theorem cT (p:ProgL) (tr:List Ev):∀ k,qW p tr k≤k
 | 0=>Nat.le_refl _
 |k+1=>by
  have:=cT p tr k
  rw[qW]
  split <;> omega
noncomputable def preL (p:ProgL) (x:RunT):Nat:=qW p x.tr x.tr.length
theorem cG {p:ProgL} (hg:p.goodS) (hv:p.flt) {tr:List Ev} (h:∀ i,i<tr.length→(tr.getD i qC).th.toNat∈enabledL p (xL p tr i)∧0≤(tr.getD i qC).th):∀ i,i≤tr.length→AInv p (xL p tr i)
 | 0,_=>ainv_new hg
 |i+1,hi=>rR hg hv (h i (by omega)).1 (cG hg hv h i (by omega))
end Ai
namespace Ai
set_option maxRecDepth 100000
open Go Go.Proofs
def idxI (xs:List Int) (n:Int):Option Nat:=xs.findIdx? (·==n)
theorem nP (xs:List Int) (n:Int):(0≤dR (idxI xs n))↔n∈xs:=by
 unfold idxI
 cases h:xs.findIdx? (·==n) with
 |none =>
  rw[List.findIdx?_eq_none_iff] at h
  simp only[dR]
  refine⟨fun e=>absurd e (by decide),fun hm=>?_⟩
  have:=h n hm
  simp at this
 |some k =>
  rw[List.findIdx?_eq_some_iff_getElem] at h
  obtain⟨h1,h2,_⟩:=h
  simp only[dR]
  have h2:xs[k]=n:=by simpa using h2
  exact⟨fun _=>h2▸List.getElem_mem h1,fun _=>by omega⟩
theorem IdxA_ok (xs:List Int) (n:Int) (hx:xs.length≤1048576):CallsTo EE 162 [sl (xs.map encInt),i64 n] (·=i64 (dR (idxI xs n))):=by
 refine callsTo_of_AW (fn:=Tryz.f162) Tryz.func162 rfl (by kernel_rfl) rfl ?_
 conv=>whnf
 refine yV (fun k:Nat=>[(0,sl (xs.map encInt)),(1,i64 n),(7,i64 (xs.map encInt).length),(8,i64 k)]) (fun k=>[]) (fun k=>xs.length - k) (fun k=>k≤xs.length∧∀ x∈xs.take k,(x==n)=false) 0 .refl ⟨rfl,rfl,rfl,rfl,trivial⟩ trivial ⟨Nat.zero_le _,gB⟩ ?_
 rintro k τ H ⟨hk,ih⟩
 conv=>whnf
 refine kbi (fun h=>?_) (fun h=>?_)
 ·have hlt:=xF h
  conv=>whnf
  refine⟨encInt xs[k],yA encInt hlt rfl,?_⟩
  conv=>whnf
  refine kbi (fun h=>?_) (fun h=>?_)
  ·conv=>whnf
   have h:n=xs[k]:=by simpa using h
   have:idxI xs n=some k:=kR (f:=(·==n)) hlt ih (by simp[h])
   rw[this]
   rfl
  ·conv=>whnf
   have h:¬ n=xs[k]:=by simpa using h
   exact⟨k+1,⟨by omega,qG ih hlt (by simp;exact fun e=>h e.symm)⟩,by show xs.length - (k+1)<xs.length - k;omega,⟨rfl,rfl,rfl,next_i64 hlt (by omega),trivial⟩,trivial⟩
 ·conv=>whnf
  have:idxI xs n=none:=kS (f:=(·==n)) (kE ih (by simp at h;omega))
  rw[this]
  rfl
theorem ContA_ok (xs:List Int) (n:Int) (hx:xs.length≤1048576):CallsTo EE 126 [sl (xs.map encInt),i64 n] (·=bp (n∈xs)):=by
 refine callsTo_of_AW (fn:=Tryz.f126) Tryz.func126 rfl (by kernel_rfl) rfl ?_
 conv=>whnf
 refine⟨_,IdxA_ok xs n hx,?_⟩
 rintro r rfl
 conv=>whnf
 refine kbi (fun h=>?_) (fun h=>?_)
 ·conv=>whnf
  exact bpt ((nP xs n).1 (of_decide_eq_true h))
 ·conv=>whnf
  exact bpf fun e=>h (decide_eq_true ((nP xs n).2 e))
theorem IdxS_ok (xs:List Int) (n:Int) (hx:xs.length≤1048576):CallsTo EE 192 [sl (xs.map encInt),i64 n] (·=i64 (dR (idxI xs n))):=by
 refine callsTo_of_AW (fn:=Tryz.f192) Tryz.func192 rfl (by kernel_rfl) rfl ?_
 conv=>whnf
 refine yV (fun k:Nat=>[(0,sl (xs.map encInt)),(1,i64 n),(7,i64 (xs.map encInt).length),(8,i64 k)]) (fun k=>[]) (fun k=>xs.length - k) (fun k=>k≤xs.length∧∀ x∈xs.take k,(x==n)=false) 0 .refl ⟨rfl,rfl,rfl,rfl,trivial⟩ trivial ⟨Nat.zero_le _,gB⟩ ?_
 rintro k τ H ⟨hk,ih⟩
 conv=>whnf
 refine kbi (fun h=>?_) (fun h=>?_)
 ·have hlt:=xF h
  conv=>whnf
  refine⟨encInt xs[k],yA encInt hlt rfl,?_⟩
  conv=>whnf
  refine kbi (fun h=>?_) (fun h=>?_)
  ·conv=>whnf
   have h:n=xs[k]:=by simpa using h
   have:idxI xs n=some k:=kR (f:=(·==n)) hlt ih (by simp[h])
   rw[this]
   rfl
  ·conv=>whnf
   have h:¬ n=xs[k]:=by simpa using h
   exact⟨k+1,⟨by omega,qG ih hlt (by simp;exact fun e=>h e.symm)⟩,by show xs.length - (k+1)<xs.length - k;omega,⟨rfl,rfl,rfl,next_i64 hlt (by omega),trivial⟩,trivial⟩
 ·conv=>whnf
  have:idxI xs n=none:=kS (f:=(·==n)) (kE ih (by simp at h;omega))
  rw[this]
  rfl
theorem ContS_ok (xs:List Int) (n:Int) (hx:xs.length≤1048576):CallsTo EE 123 [sl (xs.map encInt),i64 n] (·=bp (n∈xs)):=by
 refine callsTo_of_AW (fn:=Tryz.f123) Tryz.func123 rfl (by kernel_rfl) rfl ?_
 conv=>whnf
 refine⟨_,IdxS_ok xs n hx,?_⟩
 rintro r rfl
 conv=>whnf
 refine kbi (fun h=>?_) (fun h=>?_)
 ·conv=>whnf
  exact bpt ((nP xs n).1 (of_decide_eq_true h))
 ·conv=>whnf
  exact bpf fun e=>h (decide_eq_true ((nP xs n).2 e))
theorem CloneS_ok (xs:List Int) (hx:xs.length≤1048576):CallsTo EE 122 [sl (xs.map encInt)] (·=.uq 3 1 (xs.map encInt)):=by
 refine callsTo_of_AW (fn:=Tryz.f122) Tryz.func122 rfl (by kernel_rfl) rfl ?_
 conv=>whnf
 refine⟨fun hn=>?_,?_⟩
 ·conv=>whnf
  have:xs=[]:=List.eq_nil_of_length_eq_zero (by simpa using hn)
  subst this
  exact .inr ⟨3,1,rfl⟩
 ·conv=>whnf
  refine⟨⟨by simp[encInt],by simp;omega,by simp;omega⟩,?_⟩
  conv=>whnf
  exact congrArg (AV.uq 3 1) (by simp[List.take_of_length_le])
def mD (e:Ev):Prop:=e.kind=2∨e.kind=3
def sU (e:Ev):Prop:=e.kind=8∨e.kind=9∨e.kind=10
def xX (e:Ev):Int:=if e.kind=4∨e.kind=5 then e.obj else if e.kind=8∨e.kind=9 then e.lock else -2
def aU (e:Ev):Int:=if e.kind=5 then e.obj else if e.kind=8 then e.lock else -1
def cD (e:Ev):Int:=if e.kind=4 then e.obj else if e.kind=9 then e.lock else -1
def gI (e:Ev):Int:=if cD e > aU e then cD e else aU e
def gM (a b:Ev):Prop :=
 if a.kind=3 then mD b∧a.obj=b.obj
 else if a.kind=6 then b.kind=6∨b.th=a.obj
 else if a.kind=7 then b.kind=11∧b.th=a.obj
 else if a.kind=10 then b.th=a.lock∨(sU b∧a.obj=b.obj)
 else if a.kind=8 then sU b∧a.obj=b.obj
 else a.kind=12
def nR (a b:Ev):Prop:=a.th=b.th∨gM a b∨gM b a∨(xX a=xX b∧xX a≠-2)
def aS (a b:Ev):Prop:=a.th=b.th∨gM a b∨gM b a∨(0≤gI a∧gI a=gI b)
theorem touchS_ok (e:Ev):CallsTo EE 91 [agg (encEv e)] (·=bp (mD e)):=by
 refine callsTo_of_AW (fn:=Tryz.f91) Tryz.func91 rfl (by kernel_rfl) rfl ?_
 conv=>whnf
 repeat' (refine kbi (fun h=>?_) (fun h=>?_) <;> conv=>whnf)
 all_goals simp only[beq_iff_eq] at *
 all_goals first|exact bpt (by unfold mD;omega)|exact bpf (by unfold mD;omega)
theorem touchI_ok (e:Ev):CallsTo EE 93 [agg (encEv e)] (·=bp (mD e)):=by
 refine callsTo_of_AW (fn:=Tryz.f93) Tryz.func93 rfl (by kernel_rfl) rfl ?_
 conv=>whnf
 repeat' (refine kbi (fun h=>?_) (fun h=>?_) <;> conv=>whnf)
 all_goals simp only[beq_iff_eq] at *
 all_goals first|exact bpt (by unfold mD;omega)|exact bpf (by unfold mD;omega)
theorem condS_ok (e:Ev):CallsTo EE 263 [agg (encEv e)] (·=bp (sU e)):=by
 refine callsTo_of_AW (fn:=Tryz.f263) Tryz.func263 rfl (by kernel_rfl) rfl ?_
 conv=>whnf
 repeat' (refine kbi (fun h=>?_) (fun h=>?_) <;> conv=>whnf)
 all_goals simp only[beq_iff_eq] at *
 all_goals first|exact bpt (by unfold sU;omega)|exact bpf (by unfold sU;omega)
theorem condI_ok (e:Ev):CallsTo EE 245 [agg (encEv e)] (·=bp (sU e)):=by
 refine callsTo_of_AW (fn:=Tryz.f245) Tryz.func245 rfl (by kernel_rfl) rfl ?_
 conv=>whnf
 repeat' (refine kbi (fun h=>?_) (fun h=>?_) <;> conv=>whnf)
 all_goals simp only[beq_iff_eq] at *
 all_goals first|exact bpt (by unfold sU;omega)|exact bpf (by unfold sU;omega)
theorem aG (e:Ev):CallsTo EE 225 [agg (encEv e)] (·=i64 (xX e)):=by
 refine callsTo_of_AW (fn:=Tryz.f225) Tryz.func225 rfl (by kernel_rfl) rfl ?_
 conv=>whnf
 repeat' (refine kbi (fun h=>?_) (fun h=>?_) <;> conv=>whnf)
 all_goals simp only[beq_iff_eq] at *
 all_goals exact congrArg i64 (by unfold xX;simp[*])
theorem givesI_ok (e:Ev):CallsTo EE 246 [agg (encEv e)] (·=i64 (aU e)):=by
 refine callsTo_of_AW (fn:=Tryz.f246) Tryz.func246 rfl (by kernel_rfl) rfl ?_
 conv=>whnf
 repeat' (refine kbi (fun h=>?_) (fun h=>?_) <;> conv=>whnf)
 all_goals simp only[beq_iff_eq] at *
 all_goals exact congrArg i64 (by unfold aU;simp[*])
theorem takesI2_ok (e:Ev):CallsTo EE 247 [agg (encEv e)] (·=i64 (cD e)):=by
 refine callsTo_of_AW (fn:=Tryz.f247) Tryz.func247 rfl (by kernel_rfl) rfl ?_
 conv=>whnf
 repeat' (refine kbi (fun h=>?_) (fun h=>?_) <;> conv=>whnf)
 all_goals simp only[beq_iff_eq] at *
 all_goals exact congrArg i64 (by unfold cD;simp[*])
end Ai
namespace Ai
set_option maxRecDepth 100000
open Go Go.Proofs
theorem nZ (a b:Ev):CallsTo EE 226 [agg (encEv a),agg (encEv b)] (·=bp (gM a b)):=by
 refine callsTo_of_AW (fn:=Tryz.f226) Tryz.func226 rfl (by kernel_rfl) rfl ?_
 conv=>whnf
 repeat' (first|refine kbi (fun h=>?_) (fun h=>?_)|refine ocase (touchS_ok b) (fun h=>?_) (fun h=>?_)|refine ocase (condS_ok b) (fun h=>?_) (fun h=>?_)) <;> conv=>whnf
 all_goals simp only[beq_iff_eq] at *
 all_goals first|exact bpt (by unfold gM;simp[*])|exact bpf (by unfold gM;simp[*])
theorem bindI_ok (a b:Ev):CallsTo EE 195 [agg (encEv a),agg (encEv b)] (·=bp (gM a b)):=by
 refine callsTo_of_AW (fn:=Tryz.f195) Tryz.func195 rfl (by kernel_rfl) rfl ?_
 conv=>whnf
 repeat' (first|refine kbi (fun h=>?_) (fun h=>?_)|refine ocase (touchI_ok b) (fun h=>?_) (fun h=>?_)|refine ocase (condI_ok b) (fun h=>?_) (fun h=>?_)) <;> conv=>whnf
 all_goals simp only[beq_iff_eq] at *
 all_goals first|exact bpt (by unfold gM;simp[*])|exact bpf (by unfold gM;simp[*])
theorem rA (e:Ev):CallsTo EE 196 [agg (encEv e)] (·=i64 (gI e)):=by
 refine callsTo_of_AW (fn:=Tryz.f196) Tryz.func196 rfl (by kernel_rfl) rfl ?_
 conv=>whnf
 refine⟨by kernel_rfl,?_⟩
 conv=>whnf
 refine⟨_,givesI_ok e,?_⟩
 conv=>whnf
 refine⟨_,takesI2_ok e,?_⟩
 conv=>whnf
 rfl
theorem hangS_ok (a b:Ev):CallsTo EE 174 [agg (encEv a),agg (encEv b)] (·=bp (nR a b)):=by
 refine callsTo_of_AW (fn:=Tryz.f174) Tryz.func174 rfl (by kernel_rfl) rfl ?_
 conv=>whnf
 refine⟨by kernel_rfl,?_⟩
 conv=>whnf
 refine kbi (fun h1=>?_) (fun h1=>?_)
 ·conv=>whnf
  exact bpt (.inl (by simpa using h1))
 have h1:¬ a.th=b.th:=by simpa using h1
 conv=>whnf
 refine⟨_,aG a,?_⟩
 conv=>whnf
 refine⟨_,aG b,?_⟩
 conv=>whnf
 have rest:¬ (xX a=xX b∧xX a≠-2)→(nR a b↔gM a b∨gM b a):=fun h=>by unfold nR;simp[h,h1]
 refine kbi (fun h2=>?_) (fun h2=>?_)
 ·have h2:xX a=xX b:=by simpa using h2
  conv=>whnf
  refine⟨_,aG a,?_⟩
  conv=>whnf
  refine kbi (fun h3=>?_) (fun h3=>?_)
  ·have h3:xX a≠-2:=by simpa using h3
   conv=>whnf
   exact bpt (.inr (.inr (.inr ⟨h2,h3⟩)))
  have h3:xX a=-2:=by simpa using h3
  have rest:=rest fun e=>e.2 h3
  conv=>whnf
  refine ocase (nZ a b) (fun h=>?_) (fun h=>?_)
  ·conv=>whnf
   exact bpt (rest.2 (.inl h))
  conv=>whnf
  refine ocase (nZ b a) (fun h4=>?_) (fun h4=>?_)
  ·conv=>whnf
   exact bpt (rest.2 (.inr h4))
  conv=>whnf
  exact bpf fun e=>(rest.1 e).elim h h4
 ·have h2:¬ xX a=xX b:=by simpa using h2
  have rest:=rest fun e=>h2 e.1
  conv=>whnf
  refine ocase (nZ a b) (fun h=>?_) (fun h=>?_)
  ·conv=>whnf
   exact bpt (rest.2 (.inl h))
  conv=>whnf
  refine ocase (nZ b a) (fun h4=>?_) (fun h4=>?_)
  ·conv=>whnf
   exact bpt (rest.2 (.inr h4))
  conv=>whnf
  exact bpf fun e=>(rest.1 e).elim h h4
theorem hangI_ok (a b:Ev):CallsTo EE 127 [agg (encEv a),agg (encEv b)] (·=bp (aS a b)):=by
 refine callsTo_of_AW (fn:=Tryz.f127) Tryz.func127 rfl (by kernel_rfl) rfl ?_
 conv=>whnf
 refine⟨by kernel_rfl,?_⟩
 conv=>whnf
 refine kbi (fun h1=>?_) (fun h1=>?_)
 ·conv=>whnf
  exact bpt (.inl (by simpa using h1))
 have h1:¬ a.th=b.th:=by simpa using h1
 conv=>whnf
 refine qcase (bindI_ok a b) (fun h2=>?_) (fun h2=>?_)
 ·conv=>whnf
  exact bpt (.inr (.inl h2))
 conv=>whnf
 refine qcase (bindI_ok b a) (fun h3=>?_) (fun h3=>?_)
 ·conv=>whnf
  exact bpt (.inr (.inr (.inl h3)))
 have rest:aS a b↔0≤gI a∧gI a=gI b:=by unfold aS;simp[h1,h2,h3]
 conv=>whnf
 refine⟨_,rA a,?_⟩
 conv=>whnf
 refine kbi (fun h4=>?_) (fun h4=>?_)
 ·have h4:0≤gI a:=by simpa using h4
  conv=>whnf
  refine⟨_,rA a,?_⟩
  conv=>whnf
  refine⟨_,rA b,?_⟩
  conv=>whnf
  refine kbi (fun h5=>?_) (fun h5=>?_)
  ·conv=>whnf
   exact bpt (rest.2 ⟨h4,by simpa using h5⟩)
  ·conv=>whnf
   exact bpf fun e=>h5 (by simpa using (rest.1 e).2)
 ·conv=>whnf
  exact bpf fun e=>h4 (decide_eq_true (rest.1 e).1)
end Ai
namespace Ai
set_option maxRecDepth 100000
open Go Go.Proofs Cyc
def rowPk (x:RunT):List D:=[.sl (x.tk.map encInt)]
def rowTr (x:RunT):List D:=[.sl (x.tr.map encEv)]
noncomputable def rowSg (p:ProgL) (x:RunT):List D:=[.str (signL p x)]
theorem event_ok (p:ProgL) (hp:p.wf) (hg:p.goodS) (s:StL) (hi:AInv p s) (k:Nat) (hk:k<s.ths.length) (b:Int) (sl many:Bool) (d1 d2 d3:List (List D)) :
  CallsTo EE 184 [.fp (encProg p++[di b,.bool sl,.sl d1,.sl d2,.sl d3,.bool many]),agg (encSt s),i64 k] (·=agg (encEv (stepL p s k).2)):=by
 have hst:=l3Step_ok toIndexS p s k hp hk hi.si.len (runOK hg |>.small s hi.si).1 (inv_ready hg hi.si hk)
 refine callsTo_of_AW (fn:=Tryz.f184) Tryz.func184 rfl (by kernel_rfl) rfl ?_
 conv=>whnf
 refine .inr (.inl ⟨14,[],?_⟩)
 conv=>whnf
 refine⟨_,hst,?_⟩
 conv=>whnf
 refine⟨by kernel_rfl,?_⟩
 conv=>whnf
 rfl
def wkC (p:ProgL) (b:Int) (sl:Bool) (n:Nat) (many:Bool):List AV:=[i64 p.cells,i64 p.locks,i64 p.conds,.d (.sl (p.rs.map zS)),i64 b,bv sl,.ref (.n 901) 0 n,.ref (.n 902) 0 n,.ref (.n 903) 0 n,bv many]
noncomputable def wkH (p:ProgL) (b:Int) (sl:Bool) (xs:List RunT) (many:Bool):Key→Option Ob
 | .l j=>bif Nat.beq j 0 then some (.vs 97 (wkC p b sl xs.length many)) else none
 | .n j=>bif Nat.beq j 901 then some (.ds 41 1 (xs.map rowPk)) else bif Nat.beq j 902 then some (.ds 51 1 (xs.map rowTr)) else bif Nat.beq j 903 then some (.ds 9 1 (xs.map (rowSg p))) else none
 | .s _ _=>none
def lendW:Key→Bool
 | .l j=>Nat.beq j 0
 | .n j=>Nat.beq j 901 || Nat.beq j 902 || Nat.beq j 903
 | .s _ _=>false
def AtW (p:ProgL) (b:Int) (sl:Bool) (xs:List RunT) (many:Bool) (H:Key→Option Ob):Prop :=
 H (.l 0)=some (.vs 97 (wkC p b sl xs.length many))∧H (.n 901)=some (.ds 41 1 (xs.map rowPk))∧H (.n 902)=some (.ds 51 1 (xs.map rowTr))∧H (.n 903)=some (.ds 9 1 (xs.map (rowSg p)))
theorem wkH_none {p:ProgL} {b:Int} {sl:Bool} {xs:List RunT} {many:Bool}:∀ κ,lendW κ=false→wkH p b sl xs many κ=none
 | .l j,h=>by have h:Nat.beq j 0=false:=h;simp[wkH,h]
 | .n j,h=>by
  have h:(Nat.beq j 901 || Nat.beq j 902 || Nat.beq j 903)=false:=h
  simp only[Bool.or_eq_false_iff] at h
  simp[wkH,h.1.1,h.1.2,h.2]
 | .s o j,h=>rfl
theorem lend_wk {p:ProgL} {b:Int} {sl:Bool} {xs:List RunT} {many:Bool} {H:Key→Option Ob} (h:AtW p b sl xs many H):yL lendW H=wkH p b sl xs many:=by
 obtain⟨h0,h1,h2,h3⟩:=h
 funext κ
 cases hk:lendW κ with
 |false=>rw[wkH_none κ hk,lO hk]
 |true =>
  rw[vQ hk]
  cases κ with
  |l j =>
   have:=Nat.eq_of_beq_eq_true (show Nat.beq j 0=true from hk)
   subst this
   rw[h0];rfl
  |n j =>
   have hk:(Nat.beq j 901 || Nat.beq j 902 || Nat.beq j 903)=true:=hk
   simp only[Bool.or_eq_true] at hk
   rcases hk with (hk|hk)|hk
   ·have:=Nat.eq_of_beq_eq_true hk
    subst this;rw[h1];rfl
   ·have:=Nat.eq_of_beq_eq_true hk
    subst this;rw[h2];rfl
   ·have:=Nat.eq_of_beq_eq_true hk
    subst this;rw[h3];rfl
  |s o j=>cases hk
theorem b7 {E:Env} {g:FuncId} {H0:Key→Option Ob} {Post:AV→(Key→Option Ob)→Prop} {x y:AV} (h:IOCall E g [x,y,sl []] H0 Post):IOCall E g [x,y,.d .nil] H0 Post:=by
 intro w0 A m w vs hH hl hr
 refine h w0 A m w vs hH hl fun i a v ha hv=>?_
 match i,ha with
 | 0,ha=>exact hr 0 a v ha hv
 | 1,ha=>exact hr 1 a v ha hv
 | 2,ha =>
  have ha:sl []=a:=by simpa using ha
  subst ha
  have:=hr 2 (.d .nil) v rfl hv
  cases this with
  |d _ _ hd=>cases hd;exact .d _ _ (.sl0 none 0)
 |i+3,ha=>simp at ha
end Ai
namespace Ai
set_option maxRecDepth 100000
open Go Go.Proofs Cyc
def keepS (p:ProgL) (s:StL) (u:Nat) (e:Ev):Prop:=¬ nR (stepL p s u).2 e
theorem args3 {T T' K K' O O':List (List D)} {x:AV} {a b c d:D} (h1:T=T') (h2:K=K') (h3:O=O'):[x,AV.agg [i64 0,sl T,sl K,.d a,.d b,.d c,.d d],sl O]=[x,AV.agg [i64 0,sl T',sl K',.d a,.d b,.d c,.d d],sl O']:=by rw[h1,h2,h3]
noncomputable def wkO (p:ProgL) (b:Int) (sl:Bool) (xs:List RunT) (many:Bool):List (Key × Ob):=[(.l 0,.vs 97 (wkC p b sl xs.length many)),(.n 901,.ds 41 1 (xs.map rowPk)),(.n 902,.ds 51 1 (xs.map rowTr)),(.n 903,.ds 9 1 (xs.map (rowSg p)))]
noncomputable def wkO2 (p:ProgL) (b:Int) (sl:Bool) (r:RunT) (X:XS):List (Key × Ob):=[(.l 0,.vs 97 (wkC p b sl X.acc.length (!X.ok))),(.n 901,.ds 41 1 (X.acc.map rowPk)),(.n 902,.ds 51 1 (X.acc.map rowTr)),(.n 903,.ds 9 1 (X.acc.map (rowSg p))),(.n 4,.vs 56 ((encRun 0 r.tr r.tk r.s).map .d)),(.n 61,.ds 3 1 (X.tried.map encN))]
noncomputable def wkO3 (p:ProgL) (b:Int) (sl:Bool) (r:RunT) (X:XS) (st:StL × Ev) (on L:List Nat):List (Key × Ob):=[(.l 0,.vs 97 (wkC p b sl X.acc.length (!X.ok))),(.n 901,.ds 41 1 (X.acc.map rowPk)),(.n 902,.ds 51 1 (X.acc.map rowTr)),(.n 903,.ds 9 1 (X.acc.map (rowSg p))),(.n 4,.vs 56 ((encRun 0 r.tr r.tk r.s).map .d)),(.n 61,.ds 3 1 (X.tried.map encN)),
 (.n 9,.vs 54 ((encSt st.1).map .d)),(.n 10,.vs 128 ((encEv st.2).map .d)),(.n 62,.ds 3 1 (on.map encN)),(.n 127,.ds 3 1 (L.map encN))]
theorem go1_ok (p : ProgL) (hp : p.wf) (hg : p.goodS) (hv : p.flt) (b : Int) (hb : InR b 0 1000) (slp : Bool) : ∀ (n : Nat) (r : RunT) (c0 : Int) (sleep : List Nat) (xs : List RunT), XR p b r → b.toNat + 1 - r.tr.length = n → xs.length ≤ 400 → sleep.length ≤ 5 * r.tr.length → (∀ u ∈ sleep, u < r.s.ths.length) →
    ∀ H0, AtW p b slp xs false H0 → IOCall EE 113 [.ptr (.l 0) 0, agg (encRun c0 r.tr r.tk r.s), sl (sleep.map encN)] H0 (fun q H1 => q = .tup [] ∧ H1 = wkH p b slp (xgo p b slp (keepS p) n r sleep xs).1 (!(xgo p b slp (keepS p) n r sleep xs).2))
  | 0, r, c0, sleep, xs, hr, hn, hx, hs, hu, H0, hH => by
    have := hr.le
    omega
  | n + 1, r, c0, sleep, xs, hr, hn, hx, hs, hu, H0, hH => by
    have hok := runOK hg
    have hsm := hok.small r.s hr.inv.si
    have hcode : CallsTo EE 132 [agg (encProg p), agg (encSt r.s), i64 ((r.tr.map encEv).length : Nat), i64 b] (· = i64 (codeL p r.s r.tr.length b)) := by
      rw [List.length_map]; exact l4Code_ok toIndexS idxRange p r.s r.tr.length b hp hsm.1 (hok.seen r.s hr.inv.si)
    have hen := l3Enabled_ok toIndexS idxRange p r.s hp hsm.1 (hok.seen r.s hr.inv.si)
    have hle := hr.le
    have hlen := hr.len
    have hb2 := hb.2
    rw [xgo]
    refine io_of_AW (fn := Tryz.f113) (c := Tryz.f113.body.getD .skip) Tryz.func113 rfl (by kernel_rfl) rfl ?_
    have hat : At [(0, .ptr (.l 0) 0), (1, agg (encRun c0 r.tr r.tk r.s)), (2, sl (sleep.map encN))] (wkO p b slp xs false) [] ⟨fun i => [AV.ptr (.l 0) 0, agg (encRun c0 r.tr r.tk r.s), sl (sleep.map encN)].getD i .junk, H0⟩ :=
      ⟨⟨rfl, rfl, rfl, trivial⟩, ⟨hH.1, hH.2.1, hH.2.2.1, hH.2.2.2, trivial⟩, trivial⟩
    obtain ⟨τ, H, hf⟩ := hat.form
    rw [hf]
    clear hat hf hH
    conv => whnf
    refine .inr (.inl ⟨14, [], ?_⟩)
    conv => whnf
    refine ⟨_, hcode, ?_⟩
    conv => whnf
    refine ⟨by kernel_rfl, ?_⟩
    conv => whnf
    refine kbi (fun hc => ?_) (fun hc => ?_)
    · have hc : 0 < codeL p r.s r.tr.length b := by simpa using hc
      rw [if_pos hc]
      have hX := hr.leaf hc
      have hsg := l4Sign_ok p hp hg hv b _ hX.fin (by omega)
      have hown : CallsTo EE 152 [sl (r.tk.map encInt)] (· = .uq 3 1 (r.tk.map encInt)) := l1Own_ok r.tk (by omega)
      conv => whnf
      refine .inr (.inr (.inr ⟨[0], by kernel_rfl, 9, [], ?_⟩))
      conv => whnf
      refine ⟨_, hown, ?_⟩
      refine .inl ?_
      conv => whnf
      refine ⟨by kernel_rfl, ?_⟩
      conv => whnf
      refine ⟨⟨rfl, by show (xs.length + 1) * 24 ≤ _; omega, by show xs.length + 1 ≤ _; omega⟩, ?_⟩
      conv => whnf
      refine .inr (.inr (.inr ⟨[0], by kernel_rfl, 10, [], ?_⟩))
      conv => whnf
      refine ⟨⟨by simp [encEv], by simp; omega, by simp; omega⟩, ?_⟩
      conv => whnf
      refine ⟨by kernel_rfl, ?_⟩
      conv => whnf
      refine ⟨_, (weak_frz (isK (.n 49))).trans (weak_cvt (.n 53) (e := 51) (sz := 1) (els := [[.sl (r.tr.map encEv)]]) ?_), ?_⟩
      · show some (Ob.rs 51 1 [[AV.d (.sl (((([] : List (List D)).take 0 ++ r.tr.map encEv).drop 0).take (0 + (r.tr.map encEv).length)))]]) = _
        simp [List.take_of_length_le]
      conv => whnf
      refine ⟨⟨rfl, by show (xs.length + 1) * 24 ≤ _; omega, by show xs.length + 1 ≤ _; omega⟩, ?_⟩
      conv => whnf
      refine .inr (.inr (.inr ⟨[0], by kernel_rfl, 12, [], ?_⟩))
      conv => whnf
      refine ⟨_, hsg, ?_⟩
      conv => whnf
      refine ⟨by kernel_rfl, ?_⟩
      conv => whnf
      refine ⟨⟨rfl, by show (xs.length + 1) * 16 ≤ _; omega, by show xs.length + 1 ≤ _; omega⟩, ?_⟩
      conv => whnf
      have fin : ∀ (S : Key → Option Ob) (w : Bool), w = !decide (xs.length + 1 ≤ 400) → S (.l 0) = some (.vs 97 (wkC p b slp (xs.length + 1) w)) → S (.n 901) = some (.ds 41 1 ((xs.map rowPk).take xs.length ++ [[.sl (r.tk.map encInt)]])) →
          S (.n 902) = some (.ds 51 1 ((xs.map rowTr).take xs.length ++ [[.sl (r.tr.map encEv)]])) → S (.n 903) = some (.ds 9 1 ((xs.map (rowSg p)).take xs.length ++ [rowSg p (leaf p b (codeL p r.s r.tr.length b) r)])) → AtW p b slp (xs ++ [leaf p b (codeL p r.s r.tr.length b) r]) (!decide (xs.length + 1 ≤ 400)) S := by
        intro S w hw h0 h1 h2 h3
        rw [List.take_of_length_le (by simp)] at h1 h2 h3
        refine ⟨by rw [h0, List.length_append, hw]; rfl, by rw [h1, List.map_append]; rfl, by rw [h2, List.map_append]; rfl, by rw [h3, List.map_append]; rfl⟩
      refine kbi (fun h4 => ?_) (fun h4 => ?_)
      · have h4 : ((xs.length + 1 : Nat) : Int) > 400 := of_decide_eq_true h4
        conv => whnf
        refine ⟨_, Weak.refl, ?_⟩
        conv => whnf
        refine ⟨lendW, rfl, lend_wk (fin _ true (by rw [decide_eq_false (by omega)]; rfl) rfl rfl rfl rfl)⟩
      · have h4 : ¬ ((xs.length + 1 : Nat) : Int) > 400 := fun e => h4 (decide_eq_true e)
        conv => whnf
        refine ⟨_, Weak.refl, ?_⟩
        conv => whnf
        refine ⟨lendW, rfl, lend_wk (fin _ false (by rw [decide_eq_true (by omega)]; rfl) rfl rfl rfl rfl)⟩
    · have hc : ¬ 0 < codeL p r.s r.tr.length b := by simpa using hc
      rw [if_neg hc]
      have h5 : (enabledL p r.s).length ≤ 5 := Nat.le_trans (enabledTo_le) hr.inv.si.len
      have hcc : codeL p r.s r.tr.length b = 0 := by have := codeL_nn p r.s r.tr.length b; omega
      have hlb := (en_ne hc).2
      conv => whnf
      refine .inr (.inl ⟨9, [], ?_⟩)
      conv => whnf
      refine ⟨_, hen, ?_⟩
      refine .inl ?_
      conv => whnf
      refine ⟨by kernel_rfl, ?_⟩
      conv => whnf
      refine aloopF (fun x : Nat × XS => [(0, .ptr (.l 0) 0), (2, sl (sleep.map encN)), (4, .ptr (.n 4) 0), (6, .ref (.n 61) 0 x.2.tried.length), (93, sl ((enabledL p r.s).map encN)), (94, i64 ((enabledL p r.s).map encN).length), (95, i64 x.1)])
        (fun x => wkO2 p b slp r x.2)
        (fun _ => []) (fun x => (enabledL p r.s).length - x.1) (fun x => x.1 ≤ (enabledL p r.s).length ∧ xloop p slp (keepS p) (xgo p b slp (keepS p) n) r sleep xs x.1 = x.2) (0, ⟨xs, [], true⟩) (weak_nil 6 (.n 61) 3 1 rfl) ⟨rfl, rfl, rfl, rfl, rfl, rfl, rfl, trivial⟩ ⟨rfl, rfl, rfl, rfl, ?_, rfl, trivial⟩ trivial ⟨Nat.zero_le _, rfl⟩ ?_
      · show some (Ob.vs 56 [i64 (codeL p r.s r.tr.length b), _, _, _, _, _, _]) = some (Ob.vs 56 [i64 0, _, _, _, _, _, _])
        rw [hcc]; rfl
      rintro ⟨k, ⟨acc, tried, okk⟩⟩ τ H ⟨hk, hXe⟩
      have hk : k ≤ (enabledL p r.s).length := hk
      have hXe : xloop p slp (keepS p) (xgo p b slp (keepS p) n) r sleep xs k = ⟨acc, tried, okk⟩ := hXe
      conv => whnf
      refine kbi (fun h => ?_) (fun h => ?_)
      · have hlt : k < (enabledL p r.s).length := by simpa using h
        have hXl := xloop_len (p := p) (b := b) (sl := slp) (K := keepS p) (n := n) (r := r) (sleep := sleep) hx k
        have hXt := xloop_tried (p := p) (sl := slp) (K := keepS p) (f := xgo p b slp (keepS p) n) (r := r) (sleep := sleep) (acc := xs) k hk
        rw [hXe] at hXl hXt
        have hnx := xloop.eq_2 p slp (keepS p) (xgo p b slp (keepS p) n) r sleep xs k
        rw [hXe] at hnx
        have hm := XR.mem (b := b) hlt
        have hwl := en_lt hm
        have hst := l3Step_ok toIndexS p r.s (enAt p r k) hp hwl hsm.2 hsm.1 (inv_ready hg hr.inv.si hwl)
        have hnext := hr.step hg hv hc hlt
        have hown : CallsTo EE 152 [sl (sleep.map encN)] (· = .uq 3 1 (sleep.map encN)) := by
          rw [natI_enc]; exact l1Own_ok (natI sleep) (by simp [natI]; omega)
        have hhas : CallsTo EE 130 [sl (sleep.map encN), i64 (enAt p r k : Nat)] (· = bp (((enAt p r k : Nat) : Int) ∈ natI sleep)) := by
          rw [natI_enc]; exact l1Has_ok (natI sleep) _ (by simp [natI]; omega)
        have hmem : ((enAt p r k : Nat) : Int) ∈ natI sleep ↔ enAt p r k ∈ sleep := by
          simp only [natI, List.mem_map]
          exact ⟨fun ⟨a, ha, e⟩ => by have : a = enAt p r k := by omega
                                      subst this; exact ha, fun h => ⟨_, h, rfl⟩⟩
        have hownT : CallsTo EE 152 [sl (r.tk.map encInt)] (· = .uq 3 1 (r.tk.map encInt)) := l1Own_ok r.tk (by omega)
        have hL : ((sleep.map encN).take (sleep.map encN).length ++ ((tried.map encN).drop 0).take tried.length) = (sleep ++ tried).map encN := by
          rw [List.take_length, List.drop_zero, List.take_of_length_le (by simp), List.map_append]
        have hLl : (sleep.map encN).length + (((tried.map encN).drop 0).take tried.length).length = (sleep ++ tried).length := by simp
        have hLu : ∀ u ∈ sleep ++ tried, u < r.s.ths.length := fun u hu' => (List.mem_append.1 hu').elim (hu u) fun h => en_lt (hXt.2 u h)
        have hLb : (sleep ++ tried).length ≤ 5 * r.tr.length + 5 := by have : tried.length ≤ k := hXt.1; simp; omega
        conv => whnf
        refine ⟨encN (enAt p r k), ⟨by omega, en_get hlt, rfl⟩, ?_⟩
        cases okk with
        | false =>
          rw [if_pos (.inl rfl)] at hnx
          conv => whnf
          refine ⟨(k + 1, ⟨acc, tried, false⟩), _, Weak.refl, ⟨hlt, hnx⟩, by show (enabledL p r.s).length - (k + 1) < (enabledL p r.s).length - k; omega, ⟨rfl, rfl, rfl, rfl, rfl, rfl, next_i64 hlt (by omega), trivial⟩, ⟨rfl, rfl, rfl, rfl, rfl, rfl, trivial⟩, trivial⟩
        | true =>
          have ha4 : acc.length ≤ 400 := hXl rfl
          clear hXl
          obtain ⟨sq, hsq⟩ : ∃ sq : Bool, sq = slp := ⟨slp, rfl⟩
          cases slp
          case' true =>
            conv => whnf
            refine ocase hhas (fun hin => ?_) (fun hin => ?_)
          case true.refine_1 =>
            rw [if_pos (.inr ⟨rfl, hmem.1 hin⟩)] at hnx
            conv => whnf
            refine ⟨(k + 1, ⟨acc, tried, true⟩), _, Weak.refl, ⟨hlt, hnx⟩, by show (enabledL p r.s).length - (k + 1) < (enabledL p r.s).length - k; omega, ⟨rfl, rfl, rfl, rfl, rfl, rfl, next_i64 hlt (by omega), trivial⟩, ⟨rfl, rfl, rfl, rfl, rfl, rfl, trivial⟩, trivial⟩
          case' true.refine_2 => rw [if_neg (by rintro (e | ⟨_, e⟩); exact absurd e (by simp); exact hin (hmem.2 e))] at hnx
          case' false => rw [if_neg (by rintro (e | ⟨e, _⟩); exact absurd e (by simp); exact absurd e (by simp))] at hnx
          all_goals
            conv => whnf
            refine .inr (.inl ⟨15, [], ?_⟩)
            conv => whnf
            refine ⟨_, hst, ?_⟩
            conv => whnf
            refine ⟨by kernel_rfl, ?_⟩
            conv => whnf
            refine ⟨_, hown, ?_⟩
            rintro q rfl
            refine .inr ⟨_, rfl, ?_⟩
            conv => whnf
            refine ⟨⟨by rw [List.all_eq_true]; intro c hc'; obtain ⟨y, _, rfl⟩ := List.mem_map.1 (List.mem_of_mem_drop (List.mem_of_mem_take hc')); rfl, by show _ * 8 ≤ _; rw [hLl]; omega, by rw [hLl]; omega⟩, ?_⟩
            conv => whnf
            generalize hLe : sleep ++ tried = L at *
            refine aloopF (fun j : Nat => [(0, .ptr (.l 0) 0), (2, sl (sleep.map encN)), (4, .ptr (.n 4) 0), (6, .ref (.n 61) 0 tried.length), (7, i64 k), (8, i64 (enAt p r k : Nat)), (9, .ptr (.n 9) 0), (10, .ptr (.n 10) 0), (11, .ref (.n 62) 0 (keptBy (keepS p) r.s (L.take j) (stepL p r.s (enAt p r k)).2).length), (93, sl ((enabledL p r.s).map encN)), (94, i64 ((enabledL p r.s).map encN).length), (95, i64 k), (129, .ref (.n 127) 0 L.length), (130, i64 L.length), (131, i64 j)])
              (fun j => wkO3 p b sq r ⟨acc, tried, true⟩ (stepL p r.s (enAt p r k)) (keptBy (keepS p) r.s (L.take j) (stepL p r.s (enAt p r k)).2) L)
              (fun _ => []) (fun j => L.length - j) (fun j => j ≤ L.length) 0 (weak_nil 11 (.n 62) 3 1 rfl) ⟨rfl, rfl, rfl, rfl, rfl, rfl, rfl, rfl, rfl, rfl, rfl, rfl, ?_, ?_, rfl, trivial⟩ ⟨by rw [hsq]; rfl, rfl, rfl, rfl, rfl, rfl, rfl, rfl, rfl, ?_, trivial⟩ trivial (Nat.zero_le _) ?_
            · exact congrArg (AV.ref (.n 127) 0) hLl
            · exact congrArg (fun x : Nat => i64 (x : Int)) hLl
            · exact congrArg (fun x => some (Ob.ds 3 1 x)) hL
            intro j τ H hj
            have hj : j ≤ L.length := hj
            conv => whnf
            refine kbi (fun h => ?_) (fun h => ?_)
            · have hjl : j < L.length := by have := of_decide_eq_true h; omega
              have hhg := hangS_ok (stepL p r.s L[j]).2 (stepL p r.s (enAt p r k)).2
              have hjt : L.take (j + 1) = L.take j ++ [L[j]] := List.take_succ_eq_append_getElem hjl
              have hkj : keptBy (keepS p) r.s (L.take (j + 1)) (stepL p r.s (enAt p r k)).2 = keptBy (keepS p) r.s (L.take j) (stepL p r.s (enAt p r k)).2 ++ keptBy (keepS p) r.s [L[j]] (stepL p r.s (enAt p r k)).2 := by
                rw [hjt]; unfold keptBy; rw [List.filter_append]
              have hkl : (keptBy (keepS p) r.s (L.take j) (stepL p r.s (enAt p r k)).2).length ≤ j := Nat.le_trans (List.length_filter_le _ _) (by simp; omega)
              have hev := event_ok p hp hg r.s hr.inv L[j] (hLu _ (List.getElem_mem hjl)) b sq
              conv => whnf
              refine ⟨⟨by omega, by omega⟩, ?_⟩
              conv => whnf
              refine ⟨encN L[j], ⟨by simp [hjl], Nat.le_refl _⟩, ?_⟩
              conv => whnf
              refine ⟨by kernel_rfl, ?_⟩
              conv => whnf
              refine ⟨_, hev _ _ _ _, fun c hc' => ?_, ?_⟩
              · obtain ⟨y, hy, rfl⟩ := List.mem_map.1 hc'
                simp only [encEv, List.mem_cons, List.not_mem_nil, or_false] at hy
                rcases hy with rfl | rfl | rfl | rfl | rfl <;> exact ⟨_, rfl, rfl⟩
              conv => whnf
              refine qcase hhg (fun hh => ?_) (fun hh => ?_)
              · have hkn : keptBy (keepS p) r.s [L[j]] (stepL p r.s (enAt p r k)).2 = [] := by simp [keptBy, keepS, hh]
                rw [hkn, List.append_nil] at hkj
                conv => whnf
                refine ⟨j + 1, _, Weak.refl, hjl, by show L.length - (j + 1) < L.length - j; omega, ⟨rfl, rfl, rfl, rfl, rfl, rfl, rfl, rfl, ?_, rfl, rfl, rfl, rfl, rfl, next_i64 hjl (by omega), trivial⟩, ⟨rfl, rfl, rfl, rfl, rfl, rfl, rfl, rfl, ?_, rfl, trivial⟩, trivial⟩
                · show AV.ref (.n 62) 0 (keptBy (keepS p) r.s (L.take j) _).length = .ref (.n 62) 0 (keptBy (keepS p) r.s (L.take (j + 1)) _).length
                  rw [hkj]
                · show some (Ob.ds 3 1 ((keptBy (keepS p) r.s (L.take j) _).map encN)) = some (Ob.ds 3 1 ((keptBy (keepS p) r.s (L.take (j + 1)) _).map encN))
                  rw [hkj]
              · have hkn : keptBy (keepS p) r.s [L[j]] (stepL p r.s (enAt p r k)).2 = [L[j]] := by simp [keptBy, keepS, hh]
                rw [hkn] at hkj
                conv => whnf
                refine ⟨⟨rfl, by show (_ + 1) * 8 ≤ _; omega, by show _ + 1 ≤ _; omega⟩, ?_⟩
                conv => whnf
                refine ⟨j + 1, _, Weak.refl, hjl, by show L.length - (j + 1) < L.length - j; omega, ⟨rfl, rfl, rfl, rfl, rfl, rfl, rfl, rfl, ?_, rfl, rfl, rfl, rfl, rfl, next_i64 hjl (by omega), trivial⟩, ⟨rfl, rfl, rfl, rfl, rfl, rfl, rfl, rfl, ?_, rfl, trivial⟩, trivial⟩
                · show AV.ref (.n 62) 0 ((keptBy (keepS p) r.s (L.take j) (stepL p r.s (enAt p r k)).2).length + 1) = .ref (.n 62) 0 (keptBy (keepS p) r.s (L.take (j + 1)) _).length
                  rw [hkj, List.length_append]; rfl
                · show some (Ob.ds 3 1 (((keptBy (keepS p) r.s (L.take j) (stepL p r.s (enAt p r k)).2).map encN).take _ ++ [encN L[j]])) = some (Ob.ds 3 1 ((keptBy (keepS p) r.s (L.take (j + 1)) _).map encN))
                  rw [hkj, List.take_of_length_le (by simp), List.map_append]; rfl
            · have hge : j = L.length := by
                have : ¬ (j : Int) < L.length := fun e => h (decide_eq_true e)
                omega
              subst hge
              have hon : keptBy (keepS p) r.s (L.take L.length) (stepL p r.s (enAt p r k)).2 = keptBy (keepS p) r.s L (stepL p r.s (enAt p r k)).2 := by rw [List.take_length]
              conv => whnf
              refine .inr (.inl ⟨17, [], ?_⟩)
              conv => whnf
              refine ⟨⟨by simp [encEv], by simp; omega, by simp; omega⟩, ?_⟩
              conv => whnf
              refine ⟨⟨rfl, by simp; omega, by simp; omega⟩, ?_⟩
              conv => whnf
              refine ⟨_, hownT, ?_⟩
              refine .inr ⟨_, rfl, ?_⟩
              conv => whnf
              refine ⟨⟨rfl, by simp; omega, by simp; omega⟩, ?_⟩
              conv => whnf
              refine ⟨by kernel_rfl, ?_⟩
              conv => whnf
              subst hsq
              have hkk : (keptBy (keepS p) r.s L (stepL p r.s (enAt p r k)).2).length ≤ 5 * (runBy p r k).tr.length := by
                have : (keptBy (keepS p) r.s L (stepL p r.s (enAt p r k)).2).length ≤ L.length := List.length_filter_le _ _
                have e : (runBy p r k).tr.length = r.tr.length + 1 := by simp [runBy]
                omega
              have hku : ∀ u ∈ keptBy (keepS p) r.s L (stepL p r.s (enAt p r k)).2, u < (runBy p r k).s.ths.length := fun u hu' => Nat.lt_of_lt_of_le (hLu u (List.mem_filter.1 hu').1) (step_len p r.s _)
              have hfu : b.toNat + 1 - (runBy p r k).tr.length = n := by
                have e : (runBy p r k).tr.length = r.tr.length + 1 := by simp [runBy]
                omega
              refine .inr (.inr (.inr (.inl ⟨_, 113, [], weak_frz (fun κ => isK (.n 153) κ || isK (.n 159) κ || isK (.n 62) κ), rfl, 999, 99, lendW, _, io_congr (go1_ok p hp hg hv b hb _ n (runBy p r k) 0 (keptBy (keepS p) r.s L (stepL p r.s (enAt p r k)).2) acc hnext hfu ha4 hkk hku _ ⟨rfl, rfl, rfl, rfl⟩) ?_, rfl, ?_⟩)))
              · show [AV.ptr (.l 0) 0, AV.agg [i64 0, sl _, sl _, _, _, _, _], sl _] = _
                refine args3 ?_ ?_ ?_
                · simp [List.take_of_length_le, runBy]; rfl
                · simp [List.take_of_length_le, runBy]; rfl
                · simp [List.take_of_length_le]
              rintro q H1 ⟨rfl, rfl⟩
              refine ⟨wkH_none, fun n hn => ?_, ?_⟩
              · have : n = 0 := Nat.eq_of_beq_eq_true hn
                subst this
                exact ⟨97, _, _, rfl, rfl⟩
              conv => whnf
              refine ⟨⟨rfl, by show (tried.length + 1) * 8 ≤ _; have : tried.length ≤ k := hXt.1; omega, by show tried.length + 1 ≤ _; have : tried.length ≤ k := hXt.1; omega⟩, ?_⟩
              conv => whnf
              refine ⟨(k + 1, ⟨_, tried ++ [enAt p r k], _⟩), _, Weak.refl, ⟨hlt, hnx⟩, by show (enabledL p r.s).length - (k + 1) < (enabledL p r.s).length - k; omega, ⟨rfl, rfl, rfl, ?_, rfl, rfl, next_i64 hlt (by omega), trivial⟩, ⟨rfl, rfl, rfl, rfl, ?_, ?_, trivial⟩, trivial⟩
              · show AV.ref (.n 61) 0 (tried.length + 1) = .ref (.n 61) 0 (tried ++ [enAt p r k]).length
                rw [List.length_append]; rfl
              · rfl
              · show some (Ob.ds 3 1 ((tried.map encN).take tried.length ++ [encN (enAt p r k)])) = some (Ob.ds 3 1 ((tried ++ [enAt p r k]).map encN))
                rw [List.take_of_length_le (by simp), List.map_append]; rfl
      · have hge : k = (enabledL p r.s).length := by
          have : ¬ (k : Int) < ((enabledL p r.s).map encN).length := fun e => h (decide_eq_true e)
          simp at this; omega
        rw [← hge, hXe]
        conv => whnf
        refine ⟨_, Weak.refl, ?_⟩
        conv => whnf
        exact ⟨lendW, rfl, lend_wk ⟨rfl, rfl, rfl, rfl⟩⟩
end Ai
namespace Ai
set_option maxRecDepth 100000
open Go Go.Proofs Cyc
def OkX (p:ProgL) (b:Int):Prop:=p.goodS∧InR b 0 14
theorem sub_agg {w:World} {ok:Nat→Prop} {m:Own} {H:Key→Option Ob} {c x y z u t:D} {v:Value} (h:VRel w ok m H (.agg [.d c,.d .nil,.d .nil,.d x,.d y,.d z,.d u]) v):VRel w ok m H (.agg [.d c,sl [],sl [],.d x,.d y,.d z,.d u]) v:=by
 cases h with
 |agg _ us hl h =>
  refine .agg _ us hl fun i c' u' hc hu=>?_
  match i,hc with
  | 0,hc=>exact h 0 _ _ hc hu
  | 1,hc =>
   have e:sl []=c':=by simpa using hc
   subst e
   have:=h 1 (.d .nil) u' rfl hu
   cases this with
   |d _ _ hd=>cases hd;exact .d _ _ (.sl0 none 0)
  | 2,hc =>
   have e:sl []=c':=by simpa using hc
   subst e
   have:=h 2 (.d .nil) u' rfl hu
   cases this with
   |d _ _ hd=>cases hd;exact .d _ _ (.sl0 none 0)
  | 3,hc=>exact h 3 _ _ hc hu
  | 4,hc=>exact h 4 _ _ hc hu
  | 5,hc=>exact h 5 _ _ hc hu
  | 6,hc=>exact h 6 _ _ hc hu
  |i+7,hc=>simp at hc
theorem io_nilR {E:Env} {g:FuncId} {H0:Key→Option Ob} {Post:AV→(Key→Option Ob)→Prop} {x y:AV} {c a b d e:D} (h:IOCall E g [x,.agg [.d c,sl [],sl [],.d a,.d b,.d d,.d e],y] H0 Post):IOCall E g [x,.agg [.d c,.d .nil,.d .nil,.d a,.d b,.d d,.d e],y] H0 Post:=by
 intro w0 A m w vs hH hl hr
 refine h w0 A m w vs hH hl fun i av v ha hv=>?_
 match i,ha with
 | 0,ha=>exact hr 0 av v ha hv
 | 1,ha =>
  have ha:AV.agg [.d c,sl [],sl [],.d a,.d b,.d d,.d e]=av:=by simpa using ha
  subst ha
  exact sub_agg (t:=c) (hr 1 _ v rfl hv)
 | 2,ha=>exact hr 2 av v ha hv
 |i+3,ha=>simp at ha
noncomputable def wkN (p:ProgL) (b:Int) (sl:Bool) (xs:List RunT) (many:Bool):Key→Option Ob
 | .n j=>bif Nat.beq j 905 then some (.vs 97 (wkC p b sl xs.length many)) else bif Nat.beq j 901 then some (.ds 41 1 (xs.map rowPk)) else bif Nat.beq j 902 then some (.ds 51 1 (xs.map rowTr)) else bif Nat.beq j 903 then some (.ds 9 1 (xs.map (rowSg p))) else none
 | _=>none
def dK:Key→Bool
 | .n j=>Nat.beq j 905 || Nat.beq j 901 || Nat.beq j 902 || Nat.beq j 903
 | _=>false
def AtN (p:ProgL) (b:Int) (sl:Bool) (xs:List RunT) (many:Bool) (H:Key→Option Ob):Prop :=
 H (.n 905)=some (.vs 97 (wkC p b sl xs.length many))∧H (.n 901)=some (.ds 41 1 (xs.map rowPk))∧H (.n 902)=some (.ds 51 1 (xs.map rowTr))∧H (.n 903)=some (.ds 9 1 (xs.map (rowSg p)))
theorem mS {p:ProgL} {b:Int} {sl:Bool} {xs:List RunT} {many:Bool}:∀ κ,dK κ=false→wkN p b sl xs many κ=none
 | .l j,h=>rfl
 | .n j,h=>by
  have h:(Nat.beq j 905 || Nat.beq j 901 || Nat.beq j 902 || Nat.beq j 903)=false:=h
  simp only[Bool.or_eq_false_iff] at h
  simp[wkN,h.1.1.1,h.1.1.2,h.1.2,h.2]
 | .s o j,h=>rfl
theorem lend_wkN {p:ProgL} {b:Int} {sl:Bool} {xs:List RunT} {many:Bool} {H:Key→Option Ob} (h:AtN p b sl xs many H):yL dK H=wkN p b sl xs many:=by
 obtain⟨h0,h1,h2,h3⟩:=h
 funext κ
 cases hk:dK κ with
 |false=>rw[mS κ hk,lO hk]
 |true =>
  rw[vQ hk]
  cases κ with
  |l j=>cases hk
  |n j =>
   have hk:(Nat.beq j 905 || Nat.beq j 901 || Nat.beq j 902 || Nat.beq j 903)=true:=hk
   simp only[Bool.or_eq_true] at hk
   rcases hk with ((hk|hk)|hk)|hk
   ·have:=Nat.eq_of_beq_eq_true hk
    subst this;rw[h0];rfl
   ·have:=Nat.eq_of_beq_eq_true hk
    subst this;rw[h1];rfl
   ·have:=Nat.eq_of_beq_eq_true hk
    subst this;rw[h2];rfl
   ·have:=Nat.eq_of_beq_eq_true hk
    subst this;rw[h3];rfl
  |s o j=>cases hk
noncomputable def mQ (p:ProgL) (b:Int) (sl:Bool):List RunT × Bool:=xgo p b sl (keepS p) (b.toNat+1) ⟨0,[],[],xC p⟩ [] []
def AllPost (p:ProgL) (b:Int) (sl:Bool) (q:AV) (H1:Key→Option Ob):Prop :=
 (OkX p b∧q=.tup [.ptr (.n 905) 0,bv (mQ p b sl).2]∧H1=wkN p b sl (mQ p b sl).1 (!(mQ p b sl).2))∨(¬ OkX p b∧q=.tup [.junk,bv false]∧H1=fun _=>none)
theorem l10All_ok (p:ProgL) (hp:p.wf) (hs:p.rs.length≤1048576∧∀ x∈p.rs,x.length≤1048576) (hv:p.flt) (b:Int) (slp:Bool):IOCall EE 57 [agg (encProg p),i64 b,bv slp] (fun _=>none) (AllPost p b slp):=by
 refine io_of_AW (fn:=Tryz.f57) (c:=Tryz.f57.body.getD .skip) Tryz.func57 rfl (by kernel_rfl) rfl ?_
 conv=>whnf
 refine ocase (pF p hs hv) (fun hg=>?_) (fun hg=>?_)
 rotate_left 1
 ·conv=>whnf
  refine⟨_,Weak.refl,?_⟩
  conv=>whnf
  refine⟨fun _=>false,.inr ⟨fun e=>hg e.1,rfl,rfl⟩⟩
 conv=>whnf
 refine ocase (qM b 0 14) (fun hk=>?_) (fun hk=>?_)
 rotate_left 1
 ·conv=>whnf
  refine⟨_,Weak.refl,?_⟩
  conv=>whnf
  refine⟨fun _=>false,.inr ⟨fun e=>hk e.2,rfl,rfl⟩⟩
 obtain⟨b1,b2,b3,b4⟩:=hg.1
 conv=>whnf
 refine⟨_,aN p ⟨b1.1,by have:=b1.2;omega⟩ ⟨b2.1,by have:=b2.2;omega⟩,?_⟩
 rintro r rfl
 have hr0:XR p b ⟨0,[],[],xC p⟩:=XR.new hg hk.1
 conv=>whnf
 refine .inr (.inr (.inr (.inl ⟨_,113,[],(wX (.n 13) (.n 901) 97 41 1 6 [i64 p.cells,i64 p.locks,i64 p.conds,.d (.sl (p.rs.map zS)),i64 b,bv slp,.d .nil,.d .nil,.d .nil,bv false] (by intro n h;cases h) (by intro h;cases h) rfl rfl).trans ((wX (.n 13) (.n 902) 97 51 1 7 [i64 p.cells,i64 p.locks,i64 p.conds,.d (.sl (p.rs.map zS)),i64 b,bv slp,.dref (.n 901) 0,.d .nil,.d .nil,bv false] (by intro n h;cases h) (by intro h;cases h) rfl rfl).trans
  ((wX (.n 13) (.n 903) 97 9 1 8 [i64 p.cells,i64 p.locks,i64 p.conds,.d (.sl (p.rs.map zS)),i64 b,bv slp,.dref (.n 901) 0,.dref (.n 902) 0,.d .nil,bv false] (by intro n h;cases h) (by intro h;cases h) rfl rfl).trans ((weak_cvt (.n 901) (e:=41) (sz:=1) (els:=[]) rfl).trans ((weak_cvt (.n 902) (e:=51) (sz:=1) (els:=[]) rfl).trans (weak_cvt (.n 903) (e:=9) (sz:=1) (els:=[]) rfl))))),rfl,13,0,lendW,_,io_nilR (b7 (go1_ok p hp hg hv b ⟨hk.1,by have:=hk.2;omega⟩ slp (b.toNat+1) ⟨0,[],[],xC p⟩ 0 [] [] hr0 (by simp) (by simp) (by simp) (fun u hu=>by cases hu) _ ?_)),rfl,?_⟩)))
 ·exact⟨rfl,rfl,rfl,rfl⟩
 rintro q H1 ⟨rfl,rfl⟩
 refine⟨wkH_none,fun n hn=>?_,?_⟩
 ·have:n=0:=Nat.eq_of_beq_eq_true hn
  subst this
  exact⟨97,_,_,rfl,rfl⟩
 conv=>whnf
 refine .inr (.inl ⟨8,[],?_⟩)
 conv=>whnf
 refine⟨by kernel_rfl,?_⟩
 conv=>whnf
 have hX:mQ p b slp=xgo p b slp (keepS p) (b.toNat+1) ⟨0,[],[],xC p⟩ [] []:=rfl
 generalize xgo p b slp (keepS p) (b.toNat+1) ⟨0,[],[],xC p⟩ [] []=X at *
 refine⟨_,vV 13 905,?_⟩
 conv=>whnf
 refine⟨dK,.inl ⟨⟨hg,hk⟩,?_,?_⟩⟩
 ·rw[hX]
  cases X.2 <;> rfl
 ·rw[hX]
  exact lend_wkN ⟨rfl,rfl,rfl,rfl⟩
end Ai
namespace Ai
set_option maxRecDepth 100000
open Go Go.Proofs Cyc
theorem uI {tr:List Ev} {k:Nat} (h:k<tr.length):tr.getD k qC=tr[k]:=by
 rw[List.getD_eq_getElem?_getD,List.getElem?_eq_getElem h];rfl
theorem fB {n:Int} (hn:0≤n) {l:List Nat}:n∈natI l↔n.toNat∈l:=by
 simp only[natI,List.mem_map]
 constructor
 ·rintro⟨a,ha,e⟩
  have:a=n.toNat:=by omega
  subst this;exact ha
 ·exact fun h=>⟨_,h,by omega⟩
theorem l17Pre_ok (p:ProgL) (hp:p.wf) (hg:p.goodS) (hv:p.flt) (b:Int) (hb:b≤1000) (x:RunT) (hx:XEnd p b x):CallsTo EE 66 [agg (encProg p),agg (yO x)] (·=i64 (preL p x:Nat)):=by
 obtain⟨b1,b2,b3,b4⟩:=hg.1
 have hok:=runOK hg
 have hle:(x.tr.length:Int)≤b:=hx.fin.le
 refine callsTo_of_AW (fn:=Tryz.f66) Tryz.func66 rfl (by kernel_rfl) rfl ?_
 conv=>whnf
 refine⟨_,aN p ⟨b1.1,by have:=b1.2;omega⟩ ⟨b2.1,by have:=b2.2;omega⟩,?_⟩
 rintro r rfl
 conv=>whnf
 refine yV (fun k:Nat=>[(2,.ptr (.n 2) 0),(3,.ptr (.n 3) 0),(4,i64 0),(5,.ptr (.n 5) 0),(6,i64 (qW p x.tr k:Nat)),(14,sl (x.tr.map encEv)),(15,i64 (x.tr.map encEv).length),(16,i64 k)])
  (fun k=>[(.n 2,.vs 31 ((encProg p).map .d)),(.n 3,.vs 56 ((yO x).map .d)),(.n 5,.vs 54 ((encSt (xL p x.tr k)).map .d))]) (fun k=>x.tr.length - k) (fun k=>k≤x.tr.length) 0 .refl
  ⟨rfl,rfl,rfl,rfl,rfl,rfl,rfl,rfl,trivial⟩ ⟨rfl,rfl,rfl,trivial⟩ (Nat.zero_le _) ?_
 rintro k τ H hk
 have hk:k≤x.tr.length:=hk
 have hai:=cG hg hv hx.en k hk
 have hsm:=hok.small _ hai.si
 have hen:=l3Enabled_ok toIndexS idxRange p (xL p x.tr k) hp hsm.1 (hok.seen _ hai.si)
 have h5:(enabledL p (xL p x.tr k)).length≤5:=Nat.le_trans (enabledTo_le) hai.si.len
 conv=>whnf
 refine kbi (fun h=>?_) (fun h=>?_)
 ·have hlt:k<x.tr.length:=by simpa using h
  have hme:=hx.en k hlt
  rw[uI hlt] at hme
  have hwl:=en_lt hme.1
  have hst:=l3Step_ok toIndexS p (xL p x.tr k) x.tr[k].th.toNat hp hwl hsm.2 hsm.1 (inv_ready hg hai.si hwl)
  rw[Int.toNat_of_nonneg hme.2] at hst
  have hS:xL p x.tr (k+1)=(stepL p (xL p x.tr k) x.tr[k].th.toNat).1:=by rw[xL,uI hlt]
  have hP:qW p x.tr (k+1)=qW p x.tr k+(if 0<k∧(x.tr.getD (k - 1) qC).th≠x.tr[k].th∧(x.tr.getD (k - 1) qC).th.toNat∈enabledL p (xL p x.tr k) then 1 else 0):=by rw[qW,uI hlt]
  have hpl:=cT p x.tr k
  conv=>whnf
  refine⟨encEv x.tr[k],yA encEv hlt rfl,?_⟩
  conv=>whnf
  refine⟨by kernel_rfl,?_⟩
  conv=>whnf
  refine kbi (fun h0=>?_) (fun h0=>?_)
  ·have h0:0<k:=by have:(k:Int) > 0:=of_decide_eq_true h0;omega
   have hl1:k - 1<x.tr.length:=by omega
   rw[uI hl1] at hP
   have hth:=(hx.en (k - 1) hl1).2
   rw[uI hl1] at hth
   have hhas:CallsTo EE 130 [sl ((enabledL p (xL p x.tr k)).map encN),i64 x.tr[k-1].th] (·=bp (x.tr[k-1].th∈natI (enabledL p (xL p x.tr k)))):=by
    rw[natI_enc];exact l1Has_ok (natI _) _ (by simp[natI];omega)
   conv=>whnf
   have hwr:IntKind.i64.wrap ((k:Int) - 1)=((k - 1:Nat):Int):=by rw[zG (by omega) (by omega)];omega
   refine⟨encEv x.tr[k - 1],⟨by rw[hwr];omega,by rw[hwr];simp[hl1],rfl⟩,?_⟩
   conv=>whnf
   refine kbi (fun h1=>?_) (fun h1=>?_)
   ·have h1:x.tr[k - 1].th≠x.tr[k].th:=by simpa using h1
    conv=>whnf
    refine⟨_,hen,?_⟩
    conv=>whnf
    refine⟨encEv x.tr[k - 1],⟨by rw[hwr];omega,by rw[hwr];simp[hl1],rfl⟩,?_⟩
    conv=>whnf
    refine qcase hhas (fun h2=>?_) (fun h2=>?_)
    ·rw[if_pos ⟨h0,h1,(fB hth).1 h2⟩] at hP
     conv=>whnf
     refine⟨_,hst,?_⟩
     rintro r rfl
     conv=>whnf
     refine⟨k+1,hlt,by show x.tr.length - (k+1)<x.tr.length - k;omega,⟨rfl,rfl,rfl,rfl,?_,rfl,rfl,next_i64 hlt (by omega),trivial⟩,⟨rfl,rfl,?_,trivial⟩⟩
     ·rw[hP]
      exact next_i64 (n:=1048576) (by omega) (by omega)
     ·rw[hS];rfl
    ·rw[if_neg (fun e=>h2 ((fB hth).2 e.2.2)),Nat.add_zero] at hP
     conv=>whnf
     refine⟨_,hst,?_⟩
     rintro r rfl
     conv=>whnf
     refine⟨k+1,hlt,by show x.tr.length - (k+1)<x.tr.length - k;omega,⟨rfl,rfl,rfl,rfl,?_,rfl,rfl,next_i64 hlt (by omega),trivial⟩,⟨rfl,rfl,?_,trivial⟩⟩
     ·rw[hP];rfl
     ·rw[hS];rfl
   ·have h1:x.tr[k - 1].th=x.tr[k].th:=by simpa using h1
    rw[if_neg (fun e=>e.2.1 h1),Nat.add_zero] at hP
    conv=>whnf
    refine⟨_,hst,?_⟩
    rintro r rfl
    conv=>whnf
    refine⟨k+1,hlt,by show x.tr.length - (k+1)<x.tr.length - k;omega,⟨rfl,rfl,rfl,rfl,?_,rfl,rfl,next_i64 hlt (by omega),trivial⟩,⟨rfl,rfl,?_,trivial⟩⟩
    ·rw[hP];rfl
    ·rw[hS];rfl
  ·have h0:¬ 0<k:=by
    intro e;apply h0;apply decide_eq_true;show(k:Int) > 0;omega
   rw[if_neg (fun e=>h0 e.1),Nat.add_zero] at hP
   conv=>whnf
   refine⟨_,hst,?_⟩
   rintro r rfl
   conv=>whnf
   refine⟨k+1,hlt,by show x.tr.length - (k+1)<x.tr.length - k;omega,⟨rfl,rfl,rfl,rfl,?_,rfl,rfl,next_i64 hlt (by omega),trivial⟩,⟨rfl,rfl,?_,trivial⟩⟩
   ·rw[hP];rfl
   ·rw[hS];rfl
 ·have hge:k=x.tr.length:=by
   have:¬ (k:Int)<(x.tr.map encEv).length:=fun e=>h (decide_eq_true e)
   simp at this;omega
  subst hge
  conv=>whnf
  rfl
end Ai
namespace Ai
set_option maxRecDepth 100000
open Go Go.Proofs Cyc
theorem lend_none {H:Key→Option Ob} (h0:H (.n 905)=none) (h1:H (.n 901)=none) (h2:H (.n 902)=none) (h3:H (.n 903)=none):yL dK H=fun _=>none:=by
 funext κ
 cases hk:dK κ with
 |false=>exact lO hk
 |true =>
  rw[vQ hk]
  cases κ with
  |l j=>cases hk
  |n j =>
   have hk:(Nat.beq j 905 || Nat.beq j 901 || Nat.beq j 902 || Nat.beq j 903)=true:=hk
   simp only[Bool.or_eq_true] at hk
   rcases hk with ((hk|hk)|hk)|hk
   all_goals (have:=Nat.eq_of_beq_eq_true hk;subst this;first|(rw[h0];rfl)|(rw[h1];rfl)|(rw[h2];rfl)|(rw[h3];rfl))
  |s o j=>cases hk
theorem rC (p:ProgL) (hp:p.wf) (hs:p.rs.length≤1048576∧∀ x∈p.rs,x.length≤1048576) (hv:p.flt) (b:Int) (slp:Bool) {H:Key→Option Ob} (h0:H (.n 905)=none) (h1:H (.n 901)=none) (h2:H (.n 902)=none) (h3:H (.n 903)=none) :
  IOCall EE 57 [agg (encProg p),i64 b,bv slp] (yL dK H) (AllPost p b slp):=by
 rw[lend_none h0 h1 h2 h3];exact l10All_ok p hp hs hv b slp
theorem allX_eq (p:ProgL) (b:Int):mQ p b false=qV p b:=allR_of p b _ _
def OkA (p:ProgL) (b:Int):Prop:=OkX p b∧(qV p b).2=true
theorem AllRunsS_ok (p:ProgL) (hp:p.wf) (hs:p.rs.length≤1048576∧∀ x∈p.rs,x.length≤1048576) (hv:p.flt) (b:Int) :
  CallsTo EE 12 [agg (encProg p),i64 b] (fun r=>(OkA p b∧r=.tup [sl ((qV p b).1.map rowPk),bv true])∨(¬ OkA p b∧r=.tup [sl [],bv false])):=by
 refine callsTo_of_AW (fn:=Tryz.f12) Tryz.func12 rfl (by kernel_rfl) rfl ?_
 conv=>whnf
 refine⟨_,57,[],Weak.refl,rfl,999,99,dK,_,rC p hp hs hv b false rfl rfl rfl rfl,rfl,?_⟩
 rintro q H1 (⟨hok,rfl,rfl⟩|⟨hn,rfl,rfl⟩)
 ·rw[allX_eq]
  refine⟨mS,fun n hn=>?_,?_⟩
  ·cases hn
  have hA:OkA p b↔(qV p b).2=true:=⟨fun e=>e.2,fun e=>⟨hok,e⟩⟩
  generalize qV p b=X at *
  obtain⟨xs,okk⟩:=X
  cases okk with
  |false =>
   conv=>whnf
   refine .inl ?_
   conv=>whnf
   exact .inr ⟨fun e=>absurd (hA.1 e) (by simp),rfl⟩
  |true =>
   conv=>whnf
   refine .inl ?_
   conv=>whnf
   refine .inl ⟨hA.2 rfl,?_⟩
   show AV.tup [sl (((xs.map rowPk).drop 0).take xs.length),bv true]=_
   rw[List.drop_zero,List.take_of_length_le (by simp)]
 ·refine⟨fun _ _=>rfl,fun n hn=>?_,?_⟩
  ·cases hn
  conv=>whnf
  refine .inl ?_
  conv=>whnf
  exact .inr ⟨fun e=>hn e.1,rfl⟩
end Ai
namespace Ai
set_option maxRecDepth 100000
open Go Go.Proofs Cyc
theorem run_of_end {p:ProgL} (hp:p.wf) (hg:p.goodS) {b:Int} (hb:InR b 0 14) {x:RunT} (hx:XEnd p b x):CallsTo EE 67 [agg (encProg p),sl (x.tk.map encInt),i64 b] (·=agg (yO x)):=by
 have h:=l4Run_of p hp hg x.tk b (fun i hi=>(hx.fin.tk i hi).1) (by have:=hx.fin.le;have:=hx.fin.len;have:=hb.2;omega) ⟨hb.1,by have:=hb.2;omega⟩
 rwa [hx.run] at h
end Ai
namespace Ai
set_option maxRecDepth 100000
open Go Go.Proofs
theorem r6 (s:StL) {p:Key→Bool} (h:(p (.n 900) || p (.n 901) || p (.n 902))=false):scrPL p ([]++stRef s)=[]++stRef s:=by
 have:=xS (E:=0) s h
 simpa[scrPO] using this
theorem spawn_vs0 {s s':StL} {L:List AV} {v:AV} (hv:v=.dref (.n 900) s'.ths.length) (hL:L=[]++stRef s) (hc:s'.cells.length=s.cells.length) (ho:s'.owner.length=s.owner.length) (hf:s'.fault=s.fault) :
  yD (scrPL (isK (.n 900)) L) (0+0) [v]=[]++stRef s':=by
 subst hv hL
 simp only[stRef,List.cons_append,List.nil_append,scrPL,hc,ho,hf]
 rfl
theorem doI_preB0 (E:TypeId) (g:Nat→Option Ob) (hg:∀ p j,(g j).map (scrPO p)=g j) (s:StL) (k:Nat) (o:OpL) (e:Ev) (hk:k<s.ths.length) (t:Th) (htk:(zA o.code).1≤t.stack.length) (ht8:t.stack.length≤1048576) (hpc:InR t.pc 0 1048576)
  (τ:Nat→AV) (H:Key→Option Ob) (Q:AX→St→Prop) (K:St→Prop) (hK:∀ s',At (doI1 0 k o t) (doIO E [] s k o e t (zC t o)) [(900,g)] s'→K s') :
  cU EE Tryz.f172.ntmps K Q 7 (Tryz.f172.body.getD .skip) (tD [(0,.ptr (.l 0) 0),(1,i64 k),(2,agg (encOp o)),(3,agg (encEv e))] (tB [(.l 0,.vs E ([]++stRef s)),(.n 899,.ds 132 1 (stk t)),(.n 900,.rs 175 6 (rowsA s.ths k t)),(.n 901,.ds 132 1 (s.cells.map encF)),(.n 902,.ds 3 1 (s.owner.map encInt))] (dC [(900,g)] ⟨τ,H⟩))):=by
 have ht:0≤(zA o.code).1∧(zA o.code).1≤2∧0≤(zA o.code).2∧(zA o.code).2≤1:=by
  unfold zA;split
  ·decide
  ·split
   ·decide
   ·split <;> decide
 have e1:(IntKind.i64.wrap ((t.stack.length:Int) - (zA o.code).1))=(t.stack.length:Int) - (zA o.code).1:=zG (by omega) (by omega)
 have e2:((t.stack.length:Int) - (zA o.code).1).toNat=zV t o:=by unfold zV xQ;omega
 have allLen:∀ a b:Nat,(((stk t).drop a).take b).all (fun c=>c.length==1)=true:=by
  intro a b
  simp only[List.all_eq_true]
  intro x hx
  have hx:=List.mem_of_mem_drop (List.mem_of_mem_take hx)
  obtain⟨y,_,rfl⟩:=List.mem_map.1 hx
  rfl
 conv=>whnf
 refine⟨⟨by omega,by omega⟩,?_⟩
 conv=>whnf
 refine⟨_,pL o,?_⟩
 rintro r rfl
 conv=>whnf
 refine⟨yH t,⟨?_,by simp[yH]⟩,?_⟩
 ·repeat (first|exact zU hk|refine xB ?_ (yB rfl t))
 conv=>whnf
 refine⟨yH t,⟨?_,by simp[yH]⟩,?_⟩
 ·repeat (first|exact zU hk|refine xB ?_ (yB rfl t))
 conv=>whnf
 rw[e1]
 have e3:((stk t).drop (0+((t.stack.length:Int) - (zA o.code).1).toNat)).take ((t.stack.length:Int).toNat - ((t.stack.length:Int) - (zA o.code).1).toNat)=(t.stack.drop (zV t o)).map encF:=by
  rw[e2,Nat.zero_add,List.take_of_length_le (by simp[stk]),stk,List.map_drop]
 have hlen:(t.stack.drop (zV t o)).length≤1048576:=by simp;omega
 rcases Int.lt_or_eq_of_le ht.1 with h0|h0
 refine .inl ⟨⟨by omega,by omega,by omega,.inr (by omega)⟩,?_⟩
 conv=>whnf
 refine .inl ⟨(·=.uq 132 1 ((t.stack.drop (zV t o)).map encF)),Eq.mp (congrArg (fun x=>CallsTo EE 193 [sl x] _) e3.symm) (fO (t.stack.drop (zV t o)) hlen),?_⟩
 rintro r rfl
 refine⟨fun c hc=>?_,.inl ?_⟩
 ·obtain⟨y,_,rfl⟩:=List.mem_map.1 hc
  rfl
 conv=>whnf
 rotate_left 1
 refine .inr ⟨⟨by omega,by omega,by omega⟩,?_⟩
 conv=>whnf
 refine⟨(·=.uq 132 1 ((t.stack.drop (zV t o)).map encF)),Eq.mp (congrArg (fun x=>CallsTo EE 193 [sl x] _) (by simp[zV,xQ,← h0])) (fO (t.stack.drop (zV t o)) hlen),?_⟩
 rintro r rfl
 refine .inl ?_
 conv=>whnf
 all_goals
  refine⟨yH t,⟨by repeat (first|exact zU hk|refine xB ?_ (yB rfl t)),by simp[yH]⟩,?_⟩
  conv=>whnf
  refine .inl ⟨⟨by omega,by omega,by omega,.inl rfl⟩,?_⟩
  conv=>whnf
  have e5:((t.stack.length:Int) - (zA o.code).1).toNat - (0:Int).toNat=zV t o:=by rw[e2];rfl
  refine⟨[i64 t.rt,i64 t.pc,i64 t.st,i64 t.cond,i64 t.lock,.ref (.n 899) 0 (zV t o)],⟨?_,by simp⟩,?_⟩
  ·refine vP (c:=yH t) (by repeat (first|exact zU hk|refine xB ?_ (yB rfl t))) ?_
   conv=>lhs;whnf
   rw[← e5]
   rfl
  conv=>whnf
  refine hK _ ⟨?_,?_,?_⟩
  ·exact⟨rfl,rfl,rfl,rfl,rfl,rfl,rfl,trivial⟩
  ·refine⟨?_,rfl,rfl,rfl,rfl,?_,rfl,rfl,trivial⟩
   ·conv=>lhs;whnf
    refine congrArg some ?_
    repeat (refine yG ?_ (xS s rfl))
    rfl
   ·conv=>lhs;whnf
    refine congrArg (fun x=>some (Ob.rs 175 6 x)) ?_
    have hkl:(t.stack.take (zV t o)).length=zV t o:=by simp[zV]
    refine lG hk (lG hk (t:=t) (t':={ t with stack:=t.stack.take (zV t o) }) (by repeat (first|rfl|refine Eq.trans (congrArg (List.map (scrPL _)) ?_) (uT rfl (fun _=>rfl) _ _ _))) ?_) ?_
    ·show[_,_,_,_,_,AV.ref (.n 899) 0 (((t.stack.length:Int) - (zA o.code).1).toNat - (0:Int).toNat)]=[_,_,_,_,_,AV.ref (.n 899) 0 (t.stack.take (zV t o)).length]
     rw[e5,hkl]
    ·show[_,AV.d (.int .i64 (IntKind.i64.wrap (t.pc+1))),_,_,_,AV.ref (.n 899) 0 (t.stack.take (zV t o)).length]=[_,i64 (t.pc+1),_,_,_,AV.ref (.n 899) 0 (t.stack.take (zV t o)).length]
     rw[zG (by have:=hpc.1;omega) (by have:=hpc.2;omega)]
     rfl
  ·refine⟨fun j=>?_,trivial⟩
   repeat (first|exact rfl|refine hscrO ?_ (hg _ _)|conv=>lhs;whnf)
theorem doI_swB0 (hI:yU) (E:TypeId) (g:Nat→Option Ob) (hg:∀ p j,(g j).map (scrPO p)=g j) (s:StL) (k:Nat) (o:OpL) (e:Ev) (hk:k<s.ths.length) (h5:s.ths.length≤5) (hgj:∀ j,j≠k→g j=zQ s.ths j)
  (hs:s.small) (ho:o.fits s s.ths[k]) (hpc:InR s.ths[k].pc 0 1048576) (hst3:s.ths[k].st≠3) (he:e.kind=1) (hel:e.lock=-1) (hfl:∀ x∈s.ths[k].stack,x<18446744073709551616) (hjo:o.code=15→∃ j,yN (yP s.ths[k] o 0) s.ths.length=some j∧zY s s.ths[k]=some j)
  (Q:AX→St→Prop) (K:St→Prop) (S:St) (hS:At (doI1 0 k o s.ths[k]) (doIO E [] s k o e s.ths[k] (zC s.ths[k] o)) [(900,g)] S) (hK:∀ S',DoI2 E [] g k (doL s k o e).1 (doL s k o e).2 S'→K S') :
  cU EE Tryz.f172.ntmps K Q 1 (dropC 7 (Tryz.f172.body.getD .skip)) S:=by
 have hst:=hs.2.1 _ (List.getElem_mem hk)
 have hgd:s.ths.getD k th0=s.ths[k]:=by simp[List.getD_eq_getElem?_getD,hk]
 generalize ht0:s.ths[k]=t at *
 obtain⟨τ,H,rfl⟩:=hS.form
 clear hS
 obtain⟨o1,o2,o3,o4,o5⟩:=ho
 obtain⟨eth,ekind,eobj,elock,epc⟩:=e
 have he:ekind=1:=he
 subst he
 have hel:elock=-1:=hel
 subst hel
 have hkn:zV t o≤t.stack.length:=Nat.sub_le _ _
 have hkl:(t.stack.take (zV t o)).length=zV t o:=by simp;omega
 have hpl:(zC t o).stack.length=zV t o:=hkl
 conv=>whnf
 refine kbi (fun hc=>?_) (fun hc=>?_)
 ·have hc:o.code=1:=by simpa using hc
  conv=>whnf
  refine .inr (.inr (.inr ⟨[0],by kernel_rfl,8,[],?_⟩))
  conv=>whnf
  refine⟨yH (zC t o),⟨by repeat (first|exact zU hk|refine xB ?_ (yB rfl _)),by simp[yH]⟩,?_⟩
  conv=>whnf
  refine⟨by kernel_rfl,?_⟩
  conv=>whnf
  refine⟨⟨rfl,by rw[hpl];simp;omega,by rw[hpl];simp;omega⟩,?_⟩
  conv=>whnf
  have hd:doL s k o ⟨eth,1,eobj,-1,epc⟩=(s.put k (zP (zC t o) o.v),⟨eth,1,eobj,-1,epc⟩):=by unfold doL;rw[hgd];simp[hc]
  rw[hd] at hK
  dsimp only at hK
  refine hK _ (.inl ⟨zP (zC t o) o.v,s.ths,stk (zP (zC t o) o.v),hk,rfl,hgj,jL _,by simp[StL.put],⟨rfl,rfl,trivial⟩,⟨?_,?_,rfl,?_,?_,?_,?_,trivial⟩,⟨fun j=>?_,trivial⟩⟩)
  ·rw[show stRef _=stRef s by simp[stRef,StL.put]]
   conv=>lhs;whnf
   all_goals (
    refine congrArg some ?_
    repeat (refine yG ?_ (xS s rfl))
    all_goals rfl)
  ·rfl
  ·conv=>lhs;whnf
   show some (Ob.ds 132 1 _)=some (Ob.ds 132 1 _)
   simp[stk,zP,zC,encF]
  ·conv=>lhs;whnf
   all_goals (
    refine congrArg (fun x=>some (Ob.rs 175 6 x)) ?_
    apply uA
    ·repeat (first|exact rfl|apply xZ hk|apply xY (fun _=>rfl))
    ·show[_,_,_,_,_,AV.ref (.n 899) 0 ((zC t o).stack.length+1)]=_
     simp[yH,zP]
     exact⟨rfl,rfl,rfl,rfl,rfl⟩)
  ·rfl
  ·rfl
  ·repeat (first|exact rfl|refine hscrO ?_ (hg _ _)|conv=>lhs;whnf)
 have n1:¬ o.code=1:=by simpa using hc
 clear hc
 conv=>whnf
 refine kbi (fun hc=>?_) (fun hc=>?_)
 ·have hc:o.code=2:=by simpa using hc
  have hr:=o2 (.inl hc)
  conv=>whnf
  refine .inr (.inl ⟨4,[],?_⟩)
  conv=>whnf
  refine⟨by kernel_rfl,?_⟩
  conv=>whnf
  refine .inr (.inr (.inr ⟨[0],by kernel_rfl,14,[],?_⟩))
  conv=>whnf
  refine⟨yH (zC t o),⟨by repeat (first|exact zU hk|refine xB ?_ (yB rfl _)),by simp[yH]⟩,?_⟩
  conv=>whnf
  refine⟨⟨by omega,by omega⟩,?_⟩
  conv=>whnf
  refine⟨encF (s.cells.getD o.a.toNat 0),⟨by rw[Nat.zero_add];exact eJ hr,by simp[encF]⟩,?_⟩
  conv=>whnf
  refine⟨by kernel_rfl,?_⟩
  conv=>whnf
  refine⟨⟨rfl,by rw[hpl];simp;omega,by rw[hpl];simp;omega⟩,?_⟩
  conv=>whnf
  have hd:doL s k o ⟨eth,1,eobj,-1,epc⟩=(s.put k (zP (zC t o) (s.cells.getD o.a.toNat 0)),⟨eth,2,o.a,(-1),epc⟩):=by unfold doL;rw[hgd];simp[hc]
  rw[hd] at hK
  dsimp only at hK
  refine hK _ (.inl ⟨zP (zC t o) (s.cells.getD o.a.toNat 0),s.ths,stk (zP (zC t o) (s.cells.getD o.a.toNat 0)),hk,rfl,hgj,jL _,by simp[StL.put],⟨rfl,rfl,trivial⟩,⟨?_,?_,rfl,?_,?_,?_,?_,trivial⟩,⟨fun j=>?_,trivial⟩⟩)
  ·rw[show stRef _=stRef s by simp[stRef,StL.put]]
   conv=>lhs;whnf
   all_goals (
    refine congrArg some ?_
    repeat (refine yG ?_ (xS s rfl))
    all_goals rfl)
  ·rfl
  ·conv=>lhs;whnf
   show some (Ob.ds 132 1 _)=some (Ob.ds 132 1 _)
   simp[stk,zP,zC,encF]
  ·conv=>lhs;whnf
   all_goals (
    refine congrArg (fun x=>some (Ob.rs 175 6 x)) ?_
    apply uA
    ·repeat (first|exact rfl|apply xZ hk|apply xY (fun _=>rfl))
    ·show[_,_,_,_,_,AV.ref (.n 899) 0 ((zC t o).stack.length+1)]=_
     simp[yH,zP]
     exact⟨rfl,rfl,rfl,rfl,rfl⟩)
  ·rfl
  ·rfl
  ·repeat (first|exact rfl|refine hscrO ?_ (hg _ _)|conv=>lhs;whnf)
 have n2:¬ o.code=2:=by simpa using hc
 clear hc
 conv=>whnf
 refine kbi (fun hc=>?_) (fun hc=>?_)
 ·have hc:o.code=3:=by simpa using hc
  have hr:=o2 (.inr hc)
  have htk:xQ o=1:=by simp[xQ,zA,hc]
  conv=>whnf
  refine .inr (.inl ⟨4,[],?_⟩)
  conv=>whnf
  refine⟨by kernel_rfl,?_⟩
  conv=>whnf
  refine .inr (.inl ⟨9,[],?_⟩)
  conv=>whnf
  refine⟨encF (yP t o 0),⟨by omega,vB o5 (by omega),by simp[encF]⟩,?_⟩
  conv=>whnf
  refine⟨by kernel_rfl,?_⟩
  conv=>whnf
  refine⟨⟨by omega,by omega⟩,?_⟩
  conv=>whnf
  have hd:doL s k o ⟨eth,1,eobj,-1,epc⟩=({ s with cells:=s.cells.set o.a.toNat (yP t o 0) }.put k (zC t o),⟨eth,3,o.a,(-1),epc⟩):=by unfold doL;rw[hgd];simp[hc]
  rw[hd] at hK
  dsimp only at hK
  refine hK _ (.inl ⟨zC t o,s.ths,stk t,hk,rfl,hgj,xO t o,by simp[StL.put],⟨rfl,rfl,trivial⟩,⟨?_,?_,rfl,?_,?_,?_,?_,trivial⟩,⟨fun j=>?_,trivial⟩⟩)
  ·rw[show stRef _=stRef s by simp[stRef,StL.put]]
   conv=>lhs;whnf
   all_goals (
    refine congrArg some ?_
    repeat (refine yG ?_ (xS s rfl))
    all_goals rfl)
  ·rfl
  ·rfl
  ·conv=>lhs;whnf
   all_goals (
    refine congrArg (fun x=>some (Ob.rs 175 6 x)) ?_
    apply uA
    ·repeat (first|exact rfl|apply xZ hk|apply xY (fun _=>rfl))
    ·rfl)
  ·conv=>lhs;whnf
   show some (Ob.ds 132 1 ((s.cells.map encF).set (0+o.a.toNat) (encF (yP t o 0))))=some (Ob.ds 132 1 ((s.cells.set o.a.toNat (yP t o 0)).map encF))
   rw[Nat.zero_add,List.map_set]
  ·rfl
  ·repeat (first|exact rfl|refine hscrO ?_ (hg _ _)|conv=>lhs;whnf)
 have n3:¬ o.code=3:=by simpa using hc
 clear hc
 conv=>whnf
 refine kbi (fun hc=>?_) (fun hc=>?_)
 ·have hc:o.code=10:=by simpa using hc
  conv=>whnf
  have hd:doL s k o ⟨eth,1,eobj,-1,epc⟩=(s.put k ({ zC t o with pc:=o.a }),⟨eth,1,eobj,-1,epc⟩):=by unfold doL;rw[hgd];simp[hc]
  rw[hd] at hK
  dsimp only at hK
  refine hK _ (.inl ⟨({ zC t o with pc:=o.a }),s.ths,stk t,hk,rfl,hgj,xO t o,by simp[StL.put],⟨rfl,rfl,trivial⟩,⟨?_,?_,rfl,?_,?_,?_,?_,trivial⟩,⟨fun j=>?_,trivial⟩⟩)
  ·rw[show stRef _=stRef s by simp[stRef,StL.put]]
   conv=>lhs;whnf
   all_goals (
    refine congrArg some ?_
    repeat (refine yG ?_ (xS s rfl))
    all_goals rfl)
  ·rfl
  ·rfl
  ·conv=>lhs;whnf
   all_goals (
    refine congrArg (fun x=>some (Ob.rs 175 6 x)) ?_
    apply uA
    ·repeat (first|exact rfl|apply xZ hk|apply xY (fun _=>rfl))
    ·rfl)
  ·rfl
  ·rfl
  ·repeat (first|exact rfl|refine hscrO ?_ (hg _ _)|conv=>lhs;whnf)
 have n10:¬ o.code=10:=by simpa using hc
 clear hc
 conv=>whnf
 refine kbi (fun hc=>?_) (fun hc=>?_)
 ·have hc:o.code=11:=by simpa using hc
  have htk:xQ o=1:=by simp[xQ,zA,hc]
  conv=>whnf
  refine⟨encF (yP t o 0),⟨by omega,vB o5 (by omega),by simp[encF]⟩,?_⟩
  conv=>whnf
  refine ocase (isNo_ok _) (fun hn=>?_) (fun hn=>?_)
  ·conv=>whnf
   have hd:doL s k o ⟨eth,1,eobj,-1,epc⟩=(s.put k ({ zC t o with pc:=o.a }),⟨eth,1,eobj,-1,epc⟩):=by unfold doL;rw[hgd];simp[hc];rw[if_pos hn]
   rw[hd] at hK
   dsimp only at hK
   refine hK _ (.inl ⟨({ zC t o with pc:=o.a }),s.ths,stk t,hk,rfl,hgj,xO t o,by simp[StL.put],⟨rfl,rfl,trivial⟩,⟨?_,?_,rfl,?_,?_,?_,?_,trivial⟩,⟨fun j=>?_,trivial⟩⟩)
   ·rw[show stRef _=stRef s by simp[stRef,StL.put]]
    conv=>lhs;whnf
    all_goals (
     refine congrArg some ?_
     repeat (refine yG ?_ (xS s rfl))
     all_goals rfl)
   ·rfl
   ·rfl
   ·conv=>lhs;whnf
    all_goals (
     refine congrArg (fun x=>some (Ob.rs 175 6 x)) ?_
     apply uA
     ·repeat (first|exact rfl|apply xZ hk|apply xY (fun _=>rfl))
     ·rfl)
   ·rfl
   ·rfl
   ·repeat (first|exact rfl|refine hscrO ?_ (hg _ _)|conv=>lhs;whnf)
  ·conv=>whnf
   have hd:doL s k o ⟨eth,1,eobj,-1,epc⟩=(s.put k (zC t o),⟨eth,1,eobj,-1,epc⟩):=by unfold doL;rw[hgd];simp[hc];rw[if_neg hn]
   rw[hd] at hK
   dsimp only at hK
   refine hK _ (.inl ⟨zC t o,s.ths,stk t,hk,rfl,hgj,xO t o,by simp[StL.put],⟨rfl,rfl,trivial⟩,⟨?_,?_,rfl,?_,?_,?_,?_,trivial⟩,⟨fun j=>?_,trivial⟩⟩)
   ·rw[show stRef _=stRef s by simp[stRef,StL.put]]
    conv=>lhs;whnf
    all_goals (
     refine congrArg some ?_
     repeat (refine yG ?_ (xS s rfl))
     all_goals rfl)
   ·rfl
   ·rfl
   ·conv=>lhs;whnf
    all_goals (
     refine congrArg (fun x=>some (Ob.rs 175 6 x)) ?_
     apply uA
     ·repeat (first|exact rfl|apply xZ hk|apply xY (fun _=>rfl))
     ·rfl)
   ·rfl
   ·rfl
   ·repeat (first|exact rfl|refine hscrO ?_ (hg _ _)|conv=>lhs;whnf)
 have n11:¬ o.code=11:=by simpa using hc
 clear hc
 conv=>whnf
 refine kbi (fun hc=>?_) (fun hc=>?_)
 ·have hc:o.code=12:=by simpa using hc
  have hr:=o3 (.inl hc)
  conv=>whnf
  refine .inr (.inl ⟨4,[],?_⟩)
  conv=>whnf
  refine⟨by kernel_rfl,?_⟩
  conv=>whnf
  refine .inr (.inl ⟨7,[],?_⟩)
  conv=>whnf
  refine⟨by kernel_rfl,?_⟩
  conv=>whnf
  refine⟨⟨by omega,by omega⟩,?_⟩
  conv=>whnf
  have hd:doL s k o ⟨eth,1,eobj,-1,epc⟩=({ s with owner:=s.owner.set o.a.toNat ((k:Nat):Int) }.put k (zC t o),⟨eth,4,o.a,(-1),epc⟩):=by unfold doL;rw[hgd];simp[hc]
  rw[hd] at hK
  dsimp only at hK
  refine hK _ (.inl ⟨zC t o,s.ths,stk t,hk,rfl,hgj,xO t o,by simp[StL.put],⟨rfl,rfl,trivial⟩,⟨?_,?_,rfl,?_,?_,?_,?_,trivial⟩,⟨fun j=>?_,trivial⟩⟩)
  ·rw[show stRef _=stRef s by simp[stRef,StL.put]]
   conv=>lhs;whnf
   all_goals (
    refine congrArg some ?_
    repeat (refine yG ?_ (xS s rfl))
    all_goals rfl)
  ·rfl
  ·rfl
  ·conv=>lhs;whnf
   all_goals (
    refine congrArg (fun x=>some (Ob.rs 175 6 x)) ?_
    apply uA
    ·repeat (first|exact rfl|apply xZ hk|apply xY (fun _=>rfl))
    ·rfl)
  ·rfl
  ·conv=>lhs;whnf
   show some (Ob.ds 3 1 ((s.owner.map encInt).set (0+o.a.toNat) (encInt ((k:Nat):Int))))=some (Ob.ds 3 1 ((s.owner.set o.a.toNat ((k:Nat):Int)).map encInt))
   rw[Nat.zero_add,List.map_set]
  ·repeat (first|exact rfl|refine hscrO ?_ (hg _ _)|conv=>lhs;whnf)
 have n12:¬ o.code=12:=by simpa using hc
 clear hc
 conv=>whnf
 refine kbi (fun hc=>?_) (fun hc=>?_)
 ·have hc:o.code=13:=by simpa using hc
  have hr:=o3 (.inr hc)
  conv=>whnf
  refine .inr (.inl ⟨4,[],?_⟩)
  conv=>whnf
  refine⟨by kernel_rfl,?_⟩
  conv=>whnf
  refine .inr (.inl ⟨6,[],?_⟩)
  conv=>whnf
  refine⟨by kernel_rfl,?_⟩
  conv=>whnf
  refine⟨⟨by omega,by omega⟩,?_⟩
  conv=>whnf
  have hd:doL s k o ⟨eth,1,eobj,-1,epc⟩=({ s with owner:=s.owner.set o.a.toNat (-1) }.put k (zC t o),⟨eth,5,o.a,(-1),epc⟩):=by unfold doL;rw[hgd];simp[hc]
  rw[hd] at hK
  dsimp only at hK
  refine hK _ (.inl ⟨zC t o,s.ths,stk t,hk,rfl,hgj,xO t o,by simp[StL.put],⟨rfl,rfl,trivial⟩,⟨?_,?_,rfl,?_,?_,?_,?_,trivial⟩,⟨fun j=>?_,trivial⟩⟩)
  ·rw[show stRef _=stRef s by simp[stRef,StL.put]]
   conv=>lhs;whnf
   all_goals (
    refine congrArg some ?_
    repeat (refine yG ?_ (xS s rfl))
    all_goals rfl)
  ·rfl
  ·rfl
  ·conv=>lhs;whnf
   all_goals (
    refine congrArg (fun x=>some (Ob.rs 175 6 x)) ?_
    apply uA
    ·repeat (first|exact rfl|apply xZ hk|apply xY (fun _=>rfl))
    ·rfl)
  ·rfl
  ·conv=>lhs;whnf
   show some (Ob.ds 3 1 ((s.owner.map encInt).set (0+o.a.toNat) (encInt (-1))))=some (Ob.ds 3 1 ((s.owner.set o.a.toNat (-1)).map encInt))
   rw[Nat.zero_add,List.map_set]
  ·repeat (first|exact rfl|refine hscrO ?_ (hg _ _)|conv=>lhs;whnf)
 have n13:¬ o.code=13:=by simpa using hc
 clear hc
 conv=>whnf
 refine kbi (fun hc=>?_) (fun hc=>?_)
 ·have hc:o.code=14:=by simpa using hc
  conv=>whnf
  refine .inr (.inl ⟨7,[],?_⟩)
  conv=>whnf
  refine⟨by kernel_rfl,?_⟩
  conv=>whnf
  refine .inr (.inr (.inr ⟨[0],by kernel_rfl,12,[],?_⟩))
  conv=>whnf
  refine⟨yH (zC t o),⟨by repeat (first|exact zU hk|refine xB ?_ (yB rfl _)),by simp[yH]⟩,?_⟩
  conv=>whnf
  refine⟨by kernel_rfl,?_⟩
  conv=>whnf
  refine⟨⟨rfl,by rw[hpl];simp;omega,by rw[hpl];simp;omega⟩,?_⟩
  conv=>whnf
  refine .inr (.inr (.inr ⟨[0],by kernel_rfl,9,[2715],?_⟩))
  conv=>whnf
  refine⟨_,gO o.a,?_⟩
  conv=>whnf
  refine⟨by kernel_rfl,?_⟩
  conv=>whnf
  refine⟨⟨fun c hc'=>?_,?_,?_⟩,?_⟩
  ·have hc':c∈[[i64 o.a,i64 0,i64 1,i64 (-1),i64 (-1),AV.ref (.n 905) 0 0]]:=hc'
   simp only[List.mem_singleton] at hc'
   subst hc';rfl
  ·show(s.ths.length+1)*64≤_
   omega
  ·show s.ths.length+1≤_
   omega
  conv=>whnf
  have hd:doL s k o ⟨eth,1,eobj,-1,epc⟩=({ s with ths:=s.ths++[jM o.a] }.put k (zP (zC t o) (FloatKind.f64.nearest (s.ths.length:Int))),⟨eth,6,s.ths.length,(-1),epc⟩):=by unfold doL;rw[hgd];simp[hc]
  rw[hd] at hK
  dsimp only at hK
  refine hK _ (.inr ⟨s.ths,zP (zC t o) (FloatKind.f64.nearest (s.ths.length:Int)),o.a,hk,?_,hgj,⟨rfl,rfl,trivial⟩,⟨?_,rfl,rfl,?_,?_,rfl,rfl,rfl,trivial⟩,⟨fun j=>?_,trivial⟩⟩)
  ·simp[StL.put,List.set_append_left _ _ hk]
  ·conv=>lhs;whnf
   refine congrArg (fun x=>some (Ob.vs E x)) ?_
   refine spawn_vs0 (s:=s) ?_ ?_ rfl rfl rfl
   ·conv=>lhs;whnf
    all_goals simp[StL.put]
   all_goals (
    repeat (refine hscrL ?_ (r6 s rfl))
    all_goals rfl)
  ·conv=>lhs;whnf
   show some (Ob.ds 132 1 _)=some (Ob.ds 132 1 _)
   simp[stk,zP,zC,encF]
  ·conv=>lhs;whnf
   refine congrArg (fun x=>some (Ob.rs 175 6 x)) ?_
   refine cK rfl ?_ rfl rfl
   apply uA
   ·repeat (first|exact rfl|apply xZ hk|apply xY (fun _=>rfl))
   ·show[_,_,_,_,_,AV.ref (.n 899) 0 ((zC t o).stack.length+1)]=_
    simp[yH,zP]
    exact⟨rfl,rfl,rfl,rfl,rfl⟩
  ·repeat (first|exact rfl|refine hscrO ?_ (hg _ _)|conv=>lhs;whnf)
 have n14:¬ o.code=14:=by simpa using hc
 clear hc
 conv=>whnf
 refine kbi (fun hc=>?_) (fun hc=>?_)
 ·have hc:o.code=15:=by simpa using hc
  have htk:xQ o=1:=by simp[xQ,zA,hc]
  obtain⟨jj,hj1,hj2⟩:=hjo hc
  conv=>whnf
  refine .inr (.inl ⟨14,[],?_⟩)
  conv=>whnf
  refine⟨encF (yP t o 0),⟨by omega,vB o5 (by omega),by simp[encF]⟩,?_⟩
  conv=>whnf
  refine⟨_,hI _ _,?_⟩
  conv=>whnf
  refine⟨by kernel_rfl,?_⟩
  conv=>whnf
  have hd:doL s k o ⟨eth,1,eobj,-1,epc⟩=(s.put k (zC t o),⟨eth,7,(zY s t).getD (-1),(-1),epc⟩):=by unfold doL;rw[hgd];simp[hc]
  rw[hd] at hK
  dsimp only at hK
  refine hK _ (.inl ⟨zC t o,s.ths,stk t,hk,rfl,hgj,xO t o,by simp[StL.put],⟨rfl,rfl,trivial⟩,⟨?_,?_,rfl,?_,?_,?_,?_,trivial⟩,⟨fun j=>?_,trivial⟩⟩)
  ·rw[show stRef _=stRef s by simp[stRef,StL.put]]
   conv=>lhs;whnf
   all_goals (
    refine congrArg some ?_
    repeat (refine yG ?_ (xS s rfl))
    all_goals rfl)
  ·conv=>lhs;whnf
   show some (Ob.vs 128 [i64 eth,i64 7,i64 ((yN (yP t o 0) s.ths.length).getD 0),i64 (-1),i64 epc])=some (Ob.vs 128 [i64 eth,i64 7,i64 ((zY s t).getD (-1)),i64 (-1),i64 epc])
   rw[hj1,hj2]
   rfl
  ·rfl
  ·conv=>lhs;whnf
   all_goals (
    refine congrArg (fun x=>some (Ob.rs 175 6 x)) ?_
    apply uA
    ·repeat (first|exact rfl|apply xZ hk|apply xY (fun _=>rfl))
    ·rfl)
  ·rfl
  ·rfl
  ·repeat (first|exact rfl|refine hscrO ?_ (hg _ _)|conv=>lhs;whnf)
 have n15:¬ o.code=15:=by simpa using hc
 clear hc
 conv=>whnf
 refine kbi (fun hc=>?_) (fun hc=>?_)
 ·have hc:o.code=16:=by simpa using hc
  have hr:=o4 hc
  conv=>whnf
  refine .inr (.inl ⟨8,[],?_⟩)
  conv=>whnf
  refine⟨by kernel_rfl,?_⟩
  conv=>whnf
  refine .inr (.inl ⟨6,[],?_⟩)
  conv=>whnf
  refine⟨by kernel_rfl,?_⟩
  conv=>whnf
  refine⟨⟨by omega,by omega⟩,?_⟩
  conv=>whnf
  refine⟨yH (zC t o),⟨by repeat (first|exact zU hk|refine xB ?_ (yB rfl _)),by simp[yH]⟩,?_⟩
  conv=>whnf
  refine .inr (.inr (.inr ⟨[0,1,2],by kernel_rfl,by kernel_rfl,by kernel_rfl,13,[],?_⟩))
  conv=>whnf
  refine⟨by kernel_rfl,?_⟩
  conv=>whnf
  have hd:doL s k o ⟨eth,1,eobj,-1,epc⟩=({ s with owner:=s.owner.set o.b.toNat (-1) }.put k ({ zC t o with st:=3,cond:=o.a,lock:=o.b,pc:=(zC t o).pc - 1 }),⟨eth,8,o.a,o.b,epc⟩):=by unfold doL;rw[hgd];simp[hc]
  rw[hd] at hK
  dsimp only at hK
  refine hK _ (.inl ⟨({ zC t o with st:=3,cond:=o.a,lock:=o.b,pc:=(zC t o).pc - 1 }),s.ths,stk t,hk,rfl,hgj,xO t o,by simp[StL.put],⟨rfl,rfl,trivial⟩,⟨?_,?_,rfl,?_,?_,?_,?_,trivial⟩,⟨fun j=>?_,trivial⟩⟩)
  ·rw[show stRef _=stRef s by simp[stRef,StL.put]]
   conv=>lhs;whnf
   all_goals (
    refine congrArg some ?_
    repeat (refine yG ?_ (xS s rfl))
    all_goals rfl)
  ·rfl
  ·rfl
  ·conv=>lhs;whnf
   all_goals (
    refine congrArg (fun x=>some (Ob.rs 175 6 x)) ?_
    apply uA
    ·repeat (first|exact rfl|apply xZ hk|apply xY (fun _=>rfl))
    ·have ew:IntKind.i64.wrap (t.pc+1 - 1)=t.pc+1 - 1:=zG (by have:=hpc.1;omega) (by have:=hpc.2;omega)
     show[_,AV.d (.int .i64 (IntKind.i64.wrap (t.pc+1 - 1))),_,_,_,_]=_
     rw[ew]
     rfl)
  ·rfl
  ·conv=>lhs;whnf
   show some (Ob.ds 3 1 ((s.owner.map encInt).set (0+o.b.toNat) (encInt (-1))))=some (Ob.ds 3 1 ((s.owner.set o.b.toNat (-1)).map encInt))
   rw[Nat.zero_add,List.map_set]
  ·repeat (first|exact rfl|refine hscrO ?_ (hg _ _)|conv=>lhs;whnf)
 have n16:¬ o.code=16:=by simpa using hc
 clear hc
 conv=>whnf
 refine kbi (fun hc=>?_) (fun hc=>?_)
 ·have hc:o.code=17:=by simpa using hc
  have hcall:CallsTo EE 222 [sl ((s.ths.set k (zC t o)).map zH),.fn 223 [.fp (encOp o)]] (·=i64 (dR (wY s.ths o.a))):=by
   rw[← tX hk (t':=zC t o) o.a hst3 (by rw[ht0];exact hst3)]
   exact gR _ (by simp;omega) 223 _ (.inr ⟨_,rfl⟩) (fun t=>t.st==3&&t.cond==o.a) (fun u _=>sD u o)
  conv=>whnf
  refine .inr (.inl ⟨4,[],?_⟩)
  conv=>whnf
  refine⟨by kernel_rfl,?_⟩
  conv=>whnf
  refine .inl ⟨[sl ((s.ths.set k (zC t o)).map zH),.fn 223 [.fp (encOp o)]],[],_,⟨_,_,rfl,⟨_,rfl,mB (l:=s.ths) (k:=k) (t:=zC t o) (els:=stk t) hk ?_ ?_ ?_ (xO t o)⟩,_,_,rfl,rfl,rfl⟩,rfl,hcall,?_⟩
  ·conv=>lhs;whnf
   refine congrArg (fun x=>some (Ob.rs 175 6 x)) ?_
   repeat (first|exact rfl|refine jA ?_ rfl (fun _=>rfl))
  ·intro j hj hjl
   refine Eq.trans (b:=g j) ?_ ((hgj j hj).trans (by simp[zQ,hjl]))
   repeat (first|exact rfl|refine hscrO ?_ (hg _ _)|conv=>lhs;whnf)
  ·rfl
  rintro r rfl
  refine⟨rfl,?_⟩
  cases hwk:wY s.ths o.a with
  |none =>
   conv=>whnf
   refine kbi (fun hw=>?_) (fun hw=>?_)
   ·simp[dR] at hw
   conv=>whnf
   have hd:doL s k o ⟨eth,1,eobj,-1,epc⟩=(s.put k (zC t o),⟨eth,10,o.a,(-1),epc⟩):=by unfold doL;rw[hgd];simp[hc,hwk]
   rw[hd] at hK
   dsimp only at hK
   refine hK _ (.inl ⟨zC t o,s.ths,stk t,hk,rfl,hgj,xO t o,by simp[StL.put],⟨rfl,rfl,trivial⟩,⟨?_,?_,rfl,?_,?_,?_,?_,trivial⟩,⟨fun j=>?_,trivial⟩⟩)
   ·rw[show stRef _=stRef s by simp[stRef,StL.put]]
    conv=>lhs;whnf
    all_goals (
     refine congrArg some ?_
     repeat (refine yG ?_ (xS s rfl))
     all_goals rfl)
   ·rfl
   ·rfl
   ·conv=>lhs;whnf
    all_goals (
     refine congrArg (fun x=>some (Ob.rs 175 6 x)) ?_
     apply uA
     ·repeat (first|exact rfl|apply xZ hk|apply xY (fun _=>rfl))
     ·rfl)
   ·rfl
   ·rfl
   ·repeat (first|exact rfl|refine hscrO ?_ (hg _ _)|conv=>lhs;whnf)
  |some j =>
   obtain⟨hjl,hj3,hjc⟩:=bW hwk
   have hjk:j≠k:=by
    rintro rfl
    rw[ht0] at hj3;exact hst3 hj3
   conv=>whnf
   refine kbi (fun hw=>?_) (fun hw=>?_)
   rotate_left 1
   ·simp[dR] at hw
   conv=>whnf
   refine .inr (.inl ⟨6,[],?_⟩)
   conv=>whnf
   have hd:doL s k o ⟨eth,1,eobj,-1,epc⟩=({ s with ths:=s.ths.modify j fun u=>{ u with st:=4 } }.put k (zC t o),⟨eth,10,o.a,j,epc⟩):=by unfold doL;rw[hgd];simp[hc,hwk]
   rw[hd] at hK
   dsimp only at hK
   refine⟨by kernel_rfl,?_⟩
   conv=>whnf
   refine⟨⟨by show(0:Int)≤(j:Int);omega,by show(j:Int)<s.ths.length;omega⟩,?_⟩
   conv=>whnf
   refine hK _ (.inl ⟨zC t o,s.ths.modify j fun u=>{ u with st:=4 },stk t,by simpa using hk,rfl,fun i hi=>(hgj i hi).trans (cB i).symm,xO t o,by simp[StL.put],⟨rfl,rfl,trivial⟩,⟨?_,?_,rfl,?_,?_,?_,?_,trivial⟩,⟨fun j=>?_,trivial⟩⟩)
   ·rw[show stRef _=stRef s by simp[stRef,StL.put]]
    conv=>lhs;whnf
    all_goals (
     refine congrArg some ?_
     repeat (refine yG ?_ (xS s rfl))
     all_goals rfl)
   ·rfl
   ·rfl
   ·conv=>lhs;whnf
    all_goals (
     refine congrArg (fun x=>some (Ob.rs 175 6 x)) ?_
     refine cO hjl hjk ?_
     repeat (first|exact rfl|refine jA ?_ rfl (fun _=>rfl)))
   ·rfl
   ·rfl
   ·repeat (first|exact rfl|refine hscrO ?_ (hg _ _)|conv=>lhs;whnf)
 have n17:¬ o.code=17:=by simpa using hc
 clear hc
 conv=>whnf
 have hcode:4≤o.code∧o.code≤9:=by have:=o1.1;have:=o1.2;omega
 have htk:xQ o=2:=by simp only[xQ,zA];rw[if_neg (by omega),if_neg (by omega),if_pos hcode];rfl
 refine .inr (.inr (.inr ⟨[0],by kernel_rfl,15,[],?_⟩))
 conv=>whnf
 refine⟨yH (zC t o),⟨by repeat (first|exact zU hk|refine xB ?_ (yB rfl _)),by simp[yH]⟩,?_⟩
 conv=>whnf
 refine⟨encF (yP t o 0),⟨by omega,vB o5 (by omega),by simp[encF]⟩,?_⟩
 conv=>whnf
 refine⟨encF (yP t o 1),⟨by omega,vB o5 (by omega),by simp[encF]⟩,?_⟩
 conv=>whnf
 refine⟨_,iY _ _ _ hcode (mU hfl) (mU hfl),?_⟩
 conv=>whnf
 refine⟨by kernel_rfl,?_⟩
 conv=>whnf
 refine⟨⟨rfl,by rw[hpl];simp;omega,by rw[hpl];simp;omega⟩,?_⟩
 conv=>whnf
 have hd:doL s k o ⟨eth,1,eobj,-1,epc⟩=(s.put k (zP (zC t o) (yQ o.code (yP t o 0) (yP t o 1))),⟨eth,1,eobj,-1,epc⟩):=by unfold doL;rw[hgd];simp[n1,n2,n3,n10,n11,n12,n13,n14,n15,n16,n17]
 rw[hd] at hK
 dsimp only at hK
 refine hK _ (.inl ⟨zP (zC t o) (yQ o.code (yP t o 0) (yP t o 1)),s.ths,stk (zP (zC t o) (yQ o.code (yP t o 0) (yP t o 1))),hk,rfl,hgj,jL _,by simp[StL.put],⟨rfl,rfl,trivial⟩,⟨?_,?_,rfl,?_,?_,?_,?_,trivial⟩,⟨fun j=>?_,trivial⟩⟩)
 ·rw[show stRef _=stRef s by simp[stRef,StL.put]]
  conv=>lhs;whnf
  all_goals (
   refine congrArg some ?_
   repeat (refine yG ?_ (xS s rfl))
   all_goals rfl)
 ·rfl
 ·conv=>lhs;whnf
  show some (Ob.ds 132 1 _)=some (Ob.ds 132 1 _)
  simp[stk,zP,zC,encF]
 ·conv=>lhs;whnf
  all_goals (
   refine congrArg (fun x=>some (Ob.rs 175 6 x)) ?_
   apply uA
   ·repeat (first|exact rfl|apply xZ hk|apply xY (fun _=>rfl))
   ·show[_,_,_,_,_,AV.ref (.n 899) 0 ((zC t o).stack.length+1)]=_
    simp[yH,zP]
    exact⟨rfl,rfl,rfl,rfl,rfl⟩)
 ·rfl
 ·rfl
 ·repeat (first|exact rfl|refine hscrO ?_ (hg _ _)|conv=>lhs;whnf)
theorem doI_okA0 (hI:yU) (E:TypeId) (s:StL) (k:Nat) (o:OpL) (e:Ev) (hk:k<s.ths.length) (h5:s.ths.length≤5)
  (hs:s.small) (ho:o.fits s s.ths[k]) (hpc:InR s.ths[k].pc 0 1048576) (hst3:s.ths[k].st≠3) (he:e.kind=1) (hel:e.lock=-1) (hfl:∀ x∈s.ths[k].stack,x<18446744073709551616) (hjo:o.code=15→∃ j,yN (yP s.ths[k] o 0) s.ths.length=some j∧zY s s.ths[k]=some j)
  (H0:Key→Option Ob) (h0:H0 (.l 0)=some (.vs E ([]++stRef s))) (h1:H0 (.n 899)=some (.ds 132 1 (stk s.ths[k]))) (h2:H0 (.n 900)=some (.rs 175 6 (rowsA s.ths k s.ths[k]))) (h3:∀ j,H0 (.s 900 j)=fam0 s.ths k j)
  (h4:H0 (.n 901)=some (.ds 132 1 (s.cells.map encF))) (h6:H0 (.n 902)=some (.ds 3 1 (s.owner.map encInt))) :
  IOCall EE 172 [.ptr (.l 0) 0,i64 k,agg (encOp o),agg (encEv e)] H0 (doIPost E [] k (doL s k o e).1 (doL s k o e).2):=by
 refine io_of_AW (fn:=Tryz.f172) (c:=Tryz.f172.body.getD .skip) Tryz.func172 rfl (by kernel_rfl) rfl ?_
 have hat:At [(0,.ptr (.l 0) 0),(1,i64 k),(2,agg (encOp o)),(3,agg (encEv e))] [(.l 0,.vs E ([]++stRef s)),(.n 899,.ds 132 1 (stk s.ths[k])),(.n 900,.rs 175 6 (rowsA s.ths k s.ths[k])),(.n 901,.ds 132 1 (s.cells.map encF)),(.n 902,.ds 3 1 (s.owner.map encInt))] [(900,fam0 s.ths k)]
   ⟨fun i=>[AV.ptr (.l 0) 0,i64 k,agg (encOp o),agg (encEv e)].getD i .junk,H0⟩ :=
  ⟨⟨rfl,rfl,rfl,rfl,trivial⟩,⟨h0,h1,h2,h4,h6,trivial⟩,⟨h3,trivial⟩⟩
 obtain⟨τ,H,hf⟩:=hat.form
 rw[hf]
 have hst:=hs.2.1 _ (List.getElem_mem hk)
 have hgk:fam0 s.ths k k=none:=by unfold fam0;rw[nbeq_self];rfl
 refine wN 7 (At (doI1 0 k o s.ths[k]) (doIO E [] s k o e s.ths[k] (zC s.ths[k] o)) [(900,fam0 s.ths k)]) (fun K hK=>doI_preB0 E (fam0 s.ths k) (yY _ _) s k o e hk s.ths[k] ho.2.2.2.2 hst hpc τ H _ K hK) (fun S hS=>?_)
 refine wN 1 (DoI2 E [] (fam0 s.ths k) k (doL s k o e).1 (doL s k o e).2) (fun K hK=>doI_swB0 hI E (fam0 s.ths k) (yY _ _) s k o e hk h5 (fun j hj=>by unfold fam0;rw[nbeq_ne hj];rfl) hs ho hpc hst3 he hel hfl hjo _ K S hS hK) (fun S' hS'=>?_)
 have hp:InertL []:=fun x hx=>by cases hx
 rcases hS' with ⟨t',h⟩|⟨l',t',r,h⟩
 ·exact doI_fin E _ hp _ k (yY _ _) (fam0_cut _ _ _) hgk _ _ S' t' h
 ·exact doI_finF E _ hp _ k (yY _ _) (fH _ _) hgk _ _ S' l' t' r h
theorem stepI_A0 (hI:yU) (E:TypeId) (p:ProgL) (s:StL) (k:Nat) (hp:p.wf) (hk:k<s.ths.length) (h5:s.ths.length≤5)
  (hs:s.small) (hr:s.ths[k].ready p s k) (hst3:s.ths[k].st≠3) (hfl:∀ x∈s.ths[k].stack,x<18446744073709551616) (hjo:∀ o,yE p s.ths[k]=some o→zZ s k o=0→o.code=15→∃ j,yN (yP s.ths[k] o 0) s.ths.length=some j∧zY s s.ths[k]=some j)
  (H0:Key→Option Ob) (h0:H0 (.l 0)=some (.vs E ([]++stRef s))) (h1:H0 (.n 899)=some (.ds 132 1 (stk s.ths[k]))) (h2:H0 (.n 900)=some (.rs 175 6 (rowsA s.ths k s.ths[k]))) (h3:∀ j,H0 (.s 900 j)=fam0 s.ths k j)
  (h4:H0 (.n 901)=some (.ds 132 1 (s.cells.map encF))) (h6:H0 (.n 902)=some (.ds 3 1 (s.owner.map encInt))) :
  IOCall EE 92 [.ptr (.l 0) 0,agg (encProg p),i64 k] H0 (doIPost E [] k (stepL p s k).1 (stepL p s k).2):=by
 refine io_of_AW (fn:=Tryz.f92) (c:=Tryz.f92.body.getD .skip) Tryz.func92 rfl (by kernel_rfl) rfl ?_
 have hat:At [(0,.ptr (.l 0) 0),(1,agg (encProg p)),(2,i64 k)] [(.l 0,.vs E ([]++stRef s)),(.n 899,.ds 132 1 (stk s.ths[k])),(.n 900,.rs 175 6 (rowsA s.ths k s.ths[k])),(.n 901,.ds 132 1 (s.cells.map encF)),(.n 902,.ds 3 1 (s.owner.map encInt))] [(900,fam0 s.ths k)]
   ⟨fun i=>[AV.ptr (.l 0) 0,agg (encProg p),i64 k].getD i .junk,H0⟩ :=
  ⟨⟨rfl,rfl,rfl,trivial⟩,⟨h0,h1,h2,h4,h6,trivial⟩,⟨h3,trivial⟩⟩
 obtain⟨τ,H,hf⟩:=hat.form
 rw[hf]
 have hst:=hs.2.1 _ (List.getElem_mem hk)
 have hgd:s.ths.getD k th0=s.ths[k]:=by simp[List.getD_eq_getElem?_getD,hk]
 have hp3:InertL []:=fun x hx=>by cases hx
 have hpc:=hr.pc
 clear hat hf h0 h1 h2 h3 h4 h6
 generalize ht0:s.ths[k]=t at *
 conv=>whnf
 refine⟨⟨by omega,by omega⟩,?_⟩
 conv=>whnf
 refine⟨yH t,⟨by repeat (first|exact zU hk|refine xB ?_ (yB rfl t)),by simp[yH]⟩,?_⟩
 conv=>whnf
 refine .inr (.inl ⟨10,[],?_⟩)
 conv=>whnf
 refine⟨yH t,⟨by repeat (first|exact zU hk|refine xB ?_ (yB rfl t)),by simp[yH]⟩,?_⟩
 conv=>whnf
 refine⟨_,Eq.mp (congrArg (fun x=>CallsTo EE 169 [agg (encProg p),.agg [i64 t.rt,i64 t.pc,i64 t.st,i64 t.cond,i64 t.lock,sl x]] _) (jL t).symm) (cZ p t hp hr.inP),?_,?_⟩
 ·intro c hc
  simp only[List.mem_cons,List.not_mem_nil,or_false] at hc
  rcases hc with rfl|rfl
  ·exact .inr ⟨encOp _,rfl,rfl⟩
  ·exact .inl ⟨_,rfl,rfl⟩
 conv=>whnf
 refine⟨by kernel_rfl,?_⟩
 conv=>whnf
 refine⟨yH t,⟨by repeat (first|exact zU hk|refine xB ?_ (yB rfl t)),by simp[yH]⟩,?_⟩
 conv=>whnf
 have hp3:InertL []:=fun x hx=>by cases hx
 refine kbi (fun h4=>?_) (fun h4=>?_)
 ·have h4:t.st=4:=by simpa using h4
  have hlk:=hr.lock h4
  have hd:stepL p s k=({ s with owner:=s.owner.set t.lock.toNat ((k:Nat):Int) }.put k { t with st:=1,cond:=-1,lock:=-1,pc:=if (yE p t).isSome=true then t.pc+1 else t.pc },{ ev0 k t with kind:=9,obj:=t.cond,lock:=t.lock }):=by
   unfold stepL;rw[hgd,if_pos h4]
  conv=>whnf
  refine .inr (.inl ⟨12,[],?_⟩)
  conv=>whnf
  refine⟨yH t,⟨by repeat (first|exact zU hk|refine xB ?_ (yB rfl _)),by simp[yH]⟩,?_⟩
  conv=>whnf
  refine⟨yH t,⟨by repeat (first|exact zU hk|refine xB ?_ (yB rfl _)),by simp[yH]⟩,?_⟩
  conv=>whnf
  refine⟨by kernel_rfl,?_⟩
  conv=>whnf
  refine .inr (.inl ⟨9,[],?_⟩)
  conv=>whnf
  refine⟨yH t,⟨by repeat (first|exact zU hk|refine xB ?_ (yB rfl _)),by simp[yH]⟩,?_⟩
  conv=>whnf
  refine⟨by kernel_rfl,?_⟩
  conv=>whnf
  refine⟨⟨by omega,by omega⟩,?_⟩
  conv=>whnf
  refine .inr (.inl ⟨7,[],?_⟩)
  conv=>whnf
  refine⟨yH { t with st:=1,cond:=-1,lock:=-1 },⟨xB (cP hk ?_) (yB rfl _),by simp[yH]⟩,?_⟩
  ·apply uA
   ·repeat (first|exact rfl|apply xZ hk|apply xY (fun _=>rfl))
   ·rfl
  conv=>whnf
  refine⟨_,vH _,?_⟩
  conv=>whnf
  refine⟨by kernel_rfl,?_⟩
  conv=>whnf
  refine⟨_,Weak.refl,?_⟩
  conv=>whnf
  rw[hd]
  refine⟨wJ,by rfl,?_⟩
  refine uV hp3 (l:=s.ths) (t':={ t with st:=1,cond:=-1,lock:=-1,pc:=if (yE p t).isSome=true then t.pc+1 else t.pc }) hk rfl ?_ ?_ ?_ (fun j=>?_) ?_ ?_
  ·refine Eq.trans ?_ (congrArg (fun x=>some (Ob.vs E ([]++x))) (show stRef s=stRef _ by simp[stRef,StL.put]))
   conv=>lhs;whnf
   all_goals (
    refine congrArg some ?_
    repeat (refine yG ?_ (xS s rfl))
    all_goals rfl)
  ·rfl
  ·conv=>lhs;whnf
   all_goals (
    refine congrArg (fun x=>some (Ob.rs 175 6 x)) ?_
    apply uA
    ·repeat (first|exact rfl|apply xZ hk|apply xY (fun _=>rfl))
    ·have ew:IntKind.i64.wrap (t.pc+(if (yE p t).isSome=true then 1 else 0))=(if (yE p t).isSome=true then t.pc+1 else t.pc):=by have a:=hpc.1;have b:=hpc.2;split <;> rw[zG (by omega) (by omega)];omega
     show[_,AV.d (.int .i64 (IntKind.i64.wrap (t.pc+(if (yE p t).isSome=true then 1 else 0)))),_,_,_,_]=_
     rw[ew]
     rfl)
  ·repeat (first|exact rfl|refine hscrO ?_ (yY _ _ _ _)|conv=>lhs;whnf)
  ·rfl
  ·conv=>lhs;whnf
   show some (Ob.ds 3 1 ((s.owner.map encInt).set (0+t.lock.toNat) (encInt ((k:Nat):Int))))=some (Ob.ds 3 1 ((s.owner.set t.lock.toNat ((k:Nat):Int)).map encInt))
   rw[Nat.zero_add,List.map_set]
 have h4:¬ t.st=4:=by simpa using h4
 cases hn:yE p t with
 |none =>
  conv=>whnf
  have hd:stepL p s k=(s.put k { t with st:=2 },{ ev0 k t with kind:=11 }):=by
   unfold stepL;rw[hgd];simp[h4,hn]
  refine⟨_,Weak.refl,?_⟩
  conv=>whnf
  rw[hd]
  refine⟨wJ,by rfl,?_⟩
  refine uV hp3 (l:=s.ths) (t':={ t with st:=2 }) hk rfl ?_ ?_ ?_ (fun j=>?_) ?_ ?_
  ·refine Eq.trans ?_ (congrArg (fun x=>some (Ob.vs E ([]++x))) (show stRef s=stRef _ by simp[stRef,StL.put]))
   conv=>lhs;whnf
   all_goals (
    refine congrArg some ?_
    repeat (refine yG ?_ (xS s rfl))
    all_goals rfl)
  ·rfl
  ·conv=>lhs;whnf
   all_goals (
    refine congrArg (fun x=>some (Ob.rs 175 6 x)) ?_
    apply uA
    ·repeat (first|exact rfl|apply xZ hk|apply xY (fun _=>rfl))
    ·rfl)
  ·repeat (first|exact rfl|refine hscrO ?_ (yY _ _ _ _)|conv=>lhs;whnf)
  ·rfl
  ·rfl
 |some o =>
  obtain⟨hoS,hoF⟩:=hr.op o hn
  conv=>whnf
  refine .inl ⟨[.fp (encSt s),i64 k,agg (encOp o)],[],_,⟨_,_,rfl,p6 (E:=E) (cs:=[]++stRef s) ?_ (fz_stA (k:=k) (t:=t) (els:=stk t) hk ht0 ?_ (fun j hj hjl=>?_) rfl (by simp[stk,List.take_of_length_le]) ?_ ?_),_,_,rfl,rfl,_,_,rfl,⟨encOp o,rfl,_,_,rfl,rfl,_,_,rfl,rfl,_,_,rfl,rfl,_,_,rfl,rfl,rfl⟩,rfl⟩,rfl,x5 hI s k o hk hs hoS,?_⟩
  ·conv=>lhs;whnf
   all_goals (
    refine congrArg some ?_
    repeat (refine yG ?_ (xS s rfl))
    all_goals rfl)
  ·conv=>lhs;whnf
   all_goals (
    refine congrArg (fun x=>some (Ob.rs 175 6 x)) ?_
    repeat (first|exact rfl|refine jA ?_ rfl (fun _=>rfl)))
  ·refine Eq.trans (b:=fam0 s.ths k j) ?_ (by simp[fam0,nbeq_ne hj,zQ,hjl])
   repeat (first|exact rfl|refine hscrO ?_ (yY _ _ _ _)|conv=>lhs;whnf)
  ·rfl
  ·rfl
  rintro r rfl
  refine⟨rfl,?_⟩
  conv=>whnf
  refine kbi (fun h6=>?_) (fun h6=>?_)
  ·have h6:¬ zZ s k o=0:=by simpa using h6
   have hd:stepL p s k=({ s with fault:=zZ s k o },{ ev0 k t with kind:=12,obj:=zZ s k o }):=by
    unfold stepL;rw[hgd];simp[h4,hn,h6]
   conv=>whnf
   refine⟨_,Weak.refl,?_⟩
   conv=>whnf
   rw[hd]
   refine⟨wJ,by rfl,?_⟩
   refine uV hp3 (l:=s.ths) (t':=t) hk (by show s.ths=s.ths.set k t;rw[← ht0,List.set_getElem_self]) ?_ ?_ ?_ (fun j=>?_) ?_ ?_
   ·conv=>lhs;whnf
    refine congrArg some ?_
    repeat (refine yG ?_ (xS { s with fault:=zZ s k o } rfl))
    refine congrArg (Ob.vs E) (fault_vs (pre:=[]) ?_)
    repeat (refine hscrL ?_ (r6 s rfl))
    all_goals rfl
   ·rfl
   ·conv=>lhs;whnf
    all_goals (
     refine congrArg (fun x=>some (Ob.rs 175 6 x)) ?_
     apply uA
     ·repeat (first|exact rfl|apply xZ hk|apply xY (fun _=>rfl))
     ·rfl)
   ·repeat (first|exact rfl|refine hscrO ?_ (yY _ _ _ _)|conv=>lhs;whnf)
   ·rfl
   ·rfl
  ·have h6:zZ s k o=0:=by simpa using h6
   have hd:stepL p s k=doL s k o (ev0 k t):=by
    unfold stepL;rw[hgd];simp[h4,hn,h6]
   conv=>whnf
   refine .inr (.inl ⟨999,99,wJ,_,doI_okA0 hI E s k o { ev0 k t with kind:=1 } hk h5 hs (by rw[ht0];exact hoF h6) (by rw[ht0];exact hpc) (by rw[ht0];exact hst3) rfl rfl (by rw[ht0];exact hfl) (by rw[ht0];exact hjo o hn h6) _ ?_ ?_ ?_ (fun j=>?_) ?_ ?_,rfl,?_⟩)
   ·conv=>lhs;whnf
    refine congrArg some ?_
    repeat (first|exact rfl|refine yG ?_ (xS s rfl)|refine sR ?_ (q6 hp3 s))
   ·rw[ht0]
    rfl
   ·rw[ht0]
    conv=>lhs;whnf
    refine congrArg some ?_
    repeat (first|exact rfl|refine yG ?_ (fS rfl (fun _=>rfl) _ _ _)|refine sR ?_ (fU _ _ _))
   ·repeat (first|exact rfl|refine hscrO ?_ (yY _ _ _ _)|refine y4 ?_ (fH _ _ _ _)|conv=>lhs;whnf)
   ·rfl
   ·rfl
   rintro r H1 ⟨rfl,hk2,rfl⟩
   refine⟨oG,?_,?_⟩
   ·intro n hn
    have:n=0:=by simpa[wJ] using hn
    subst this
    exact⟨E,_,_,rfl,rfl⟩
   conv=>whnf
   refine⟨_,Weak.refl,?_⟩
   conv=>whnf
   rw[hd]
   refine⟨wJ,by rfl,?_⟩
   refine uV hp3 (l:=(doL s k o (ev0 k t)).1.ths) (t':=(doL s k o (ev0 k t)).1.ths[k]) hk2 (List.set_getElem_self _).symm ?_ ?_ ?_ (fun j=>?_) ?_ ?_
   ·conv=>lhs;whnf
    refine congrArg some ?_
    repeat (first|exact rfl|refine yG ?_ (xS _ rfl)|refine sR ?_ (q6 hp3 _))
   ·rfl
   ·conv=>lhs;whnf
    refine congrArg some ?_
    repeat (first|exact rfl|refine yG ?_ (fS rfl (fun _=>rfl) _ _ _)|refine sR ?_ (fU _ _ _))
   ·refine Eq.trans (b:=fam0 (doL s k o (ev0 k t)).1.ths k j) ?_ rfl
    repeat (first|exact rfl|refine hscrO ?_ (yY _ _ _ _)|refine y4 ?_ (fH _ _ _ _)|conv=>lhs;whnf)
   ·rfl
   ·rfl
theorem oE (hI:yU) (E:TypeId) (p:ProgL) (s:StL) (k:Nat) (hp:p.wf) (hk:k<s.ths.length) (h5:s.ths.length≤5)
  (hs:s.small) (hr:s.ths[k].ready p s k) (hst3:s.ths[k].st≠3) (hfl:∀ x∈s.ths[k].stack,x<18446744073709551616) (hjo:∀ o,yE p s.ths[k]=some o→zZ s k o=0→o.code=15→∃ j,yN (yP s.ths[k] o 0) s.ths.length=some j∧zY s s.ths[k]=some j)
  (H0:Key→Option Ob) (hH:AtC E [] s H0) :
  IOCall EE 92 [.ptr (.l 0) 0,agg (encProg p),i64 k] H0 (fun r H1=>r=agg (encEv (stepL p s k).2)∧H1=stHC E [] (stepL p s k).1):=by
 have hp3:InertL []:=fun x hx=>by cases hx
 refine io_canon hp3 hk ?_ hH fun H0 a b c d e f=>stepI_A0 hI E p s k hp hk h5 hs hr hst3 hfl hjo H0 a b c d e f
 simp only[List.map_cons,List.map_nil,agg_ren]
 rfl
end Ai
namespace Ai
set_option maxRecDepth 100000
open Go Go.Proofs Cyc
theorem f6 (p:ProgL) (hp:p.wf) (hg:p.goodS) (hv:p.flt) (s:StL) (hi:AInv p s) (k:Nat) (hk:k∈enabledL p s) (b:Int) (sl:Bool) (d1:List (List D)) :
  CallsTo EE 128 [.fp (encProg p++[di b,.sl d1,.bool sl]),agg (encSt s),i64 k] (·=agg (encEv (stepL p s k).2)):=by
 have hok:=runOK hg
 refine callsTo_of_AW (fn:=Tryz.f128) Tryz.func128 rfl (by kernel_rfl) rfl ?_
 conv=>whnf
 refine⟨_,x9 s (hok.small s hi.si).1,?_⟩
 rintro r rfl
 conv=>whnf
 have hri:=runI hg hv
 have hin:SInv p s∧s.flt:=⟨hi.si,hi.fl⟩
 have hs:=hri.small s hin
 have hkl:=en_lt hk
 refine .inr (.inl ⟨7,0,vK,_,oE bY 54 p s k hp hkl hs.2 hs.1 (hri.ready s hin k hk hkl) (hri.awake s hin k hk hkl) (hri.flt s hin _ (List.getElem_mem hkl)) (hri.joins s hin k hk hkl) _ ⟨?_,rfl,?_,fun j=>?_,?_,?_⟩,rfl,?_⟩)
 ·show some (Ob.vs 54 [.dref (.n 900) (s.ths.map bF).length,.ref (.n 901) 0 (s.cells.map encF).length,.ref (.n 902) 0 (s.owner.map encInt).length,i64 s.fault])=some (Ob.vs 54 [.dref (.n 900) s.ths.length,.ref (.n 901) 0 s.cells.length,.ref (.n 902) 0 s.owner.length,i64 s.fault])
  rw[List.length_map,List.length_map,List.length_map]
 ·show some (Ob.rs 175 6 ((((thRows 900 s.ths).map (scrPL (isK (.n 7)))).map (renL (swp (.n 7) (.l 0)))).map (scrPL fun o=>!vK o)))=_
  rw[zR (fun _ _=>rfl),xA]
  exact congrArg (fun x=>some (Ob.rs 175 6 x)) (zR fun _ _=>rfl)
 ·refine(congrArg (fun x=>Option.map (scrPO (fun o=>!vK o)) (Option.map (renO (swp (.n 7) (.l 0))) (Option.map (scrPO (isK (.n 7))) x))) (fV s j)).trans ?_
  show Option.map _ (Option.map _ (Option.map _ (zQ s.ths j)))=_
  rw[zX,thFam_ren,zX]
 ·rfl
 ·rfl
 rintro q H1 ⟨rfl,rfl⟩
 refine⟨kB,fun n hn=>?_,?_⟩
 ·have:n=0:=by simpa[vK] using hn
  subst this
  exact⟨54,_,_,rfl,rfl⟩
 conv=>whnf
 rfl
end Ai
namespace Ai
set_option maxRecDepth 100000
open Go Go.Proofs Cyc
def wiC (p:ProgL) (b:Int) (sl:Bool) (n:Nat):List AV:=[i64 p.cells,i64 p.locks,i64 p.conds,.d (.sl (p.rs.map zS)),i64 b,.ref (.n 950) 0 n,bv sl]
noncomputable def wiH (p:ProgL) (b:Int) (sl:Bool) (xs:List RunT):Key→Option Ob
 | .l j=>bif Nat.beq j 0 then some (.vs 107 (wiC p b sl xs.length)) else none
 | .n j=>bif Nat.beq j 950 then some (.ds 56 7 (xs.map yO)) else none
 | .s _ _=>none
def dL:Key→Bool
 | .l j=>Nat.beq j 0
 | .n j=>Nat.beq j 950
 | .s _ _=>false
def AtI (p:ProgL) (b:Int) (sl:Bool) (xs:List RunT) (H:Key→Option Ob):Prop :=
 H (.l 0)=some (.vs 107 (wiC p b sl xs.length))∧H (.n 950)=some (.ds 56 7 (xs.map yO))
theorem bU {p:ProgL} {b:Int} {sl:Bool} {xs:List RunT}:∀ κ,dL κ=false→wiH p b sl xs κ=none
 | .l j,h=>by have h:Nat.beq j 0=false:=h;simp[wiH,h]
 | .n j,h=>by have h:Nat.beq j 950=false:=h;simp[wiH,h]
 | .s o j,h=>rfl
theorem tQ {p:ProgL} {b:Int} {sl:Bool} {xs:List RunT} {H:Key→Option Ob} (h:AtI p b sl xs H):yL dL H=wiH p b sl xs:=by
 obtain⟨h0,h1⟩:=h
 funext κ
 cases hk:dL κ with
 |false=>rw[bU κ hk,lO hk]
 |true =>
  rw[vQ hk]
  cases κ with
  |l j =>
   have:=Nat.eq_of_beq_eq_true (show Nat.beq j 0=true from hk)
   subst this
   rw[h0];rfl
  |n j =>
   have:=Nat.eq_of_beq_eq_true (show Nat.beq j 950=true from hk)
   subst this;rw[h1]
   rfl
  |s o j=>cases hk
theorem args5 {T T' K K' A A' B B' C C' O O':List (List D)} {x y:AV} {c:AV} (h1:T=T') (h2:K=K') (h3:A=A') (h4:B=B') (h5:C=C') (h6:O=O'):[x,AV.agg [c,sl T,sl K,sl A,sl B,sl C,y],sl O]=[x,AV.agg [c,sl T',sl K',sl A',sl B',sl C',y],sl O']:=by rw[h1,h2,h3,h4,h5,h6]
def isSt (κ:Key):Bool:=match κ with|.s o _=>Nat.beq o 900|.n k=>Nat.beq k 901 || Nat.beq k 902|.l _=>false
def yK (p:ProgL) (s:StL) (u:Nat) (e:Ev):Prop:=¬ (u∈enabledL p s∧aS (stepL p s u).2 e)
theorem fR {q:Key→Bool} {H:Key→Option Ob} {l:List Th} (hq:∀ j,q (.s 900 j)=true) (hH:∀ j,H (.s 900 j)=zQ l j):(thRows 900 l).map (mM q H)=(l.map zH).map (List.map .d):=by
 apply List.ext_getElem?
 intro j
 rw[List.getElem?_map,List.getElem?_map,List.getElem?_map]
 by_cases h:j<l.length
 ·rw[xP h,List.getElem?_eq_getElem h]
  simp[thRow,mM,frz,hq,hH,thFam_self h,i64,zH,stk,List.take_of_length_le]
 ·rw[List.getElem?_eq_none (by simp[thRows,ownRows];omega),List.getElem?_eq_none (by omega)]
  rfl
def isF9 (κ:Key):Bool:=match κ with|.s o _=>Nat.beq o 900|_=>false
noncomputable def wiO2 (p:ProgL) (b:Int) (sl:Bool) (r:RunT) (acc:List RunT) (L kept:List Nat) (x:RunT) (e:Ev):List (Key × Ob):=[(.l 0,.vs 107 (wiC p b sl acc.length)),(.n 950,.ds 56 7 (acc.map yO)),(.n 4,.vs 56 ((encRun 0 r.tr r.tk r.s).map .d)),(.n 57,.ds 3 1 (L.map encN)),
 (.n 11,.vs 56 ([i64 0,.ref (.n 87) 0 x.tr.length,.ref (.n 93) 0 x.tk.length]++stRef x.s)),(.n 87,.ds 128 5 (x.tr.map encEv)),(.n 93,.ds 3 1 (x.tk.map encInt)),(.n 900,.rs 175 6 (thRows 900 x.s.ths)),(.n 901,.ds 132 1 (x.s.cells.map encF)),(.n 902,.ds 3 1 (x.s.owner.map encInt)),
 (.n 12,.vs 128 ((encEv e).map .d)),(.n 99,.ds 3 1 (kept.map encN))]
theorem tK (p:ProgL) (hp:p.wf) (hg:p.goodS) (hv:p.flt) (b:Int) (hb:InR b 0 1000) (slp:Bool):∀ (n:Nat) (r:RunT) (c0:Int) (sleep:List Nat) (xs:List RunT),XR p b r→b.toNat+1 - r.tr.length=n→xs.length≤400→sleep.length≤5*r.tr.length →
  ∀ H0,AtI p b slp xs H0→IOCall EE 63 [.ptr (.l 0) 0,agg (encRun c0 r.tr r.tk r.s),sl (sleep.map encN)] H0 (fun q H1=>q=bv (xgo p b slp (yK p) n r sleep xs).2∧H1=wiH p b slp (xgo p b slp (yK p) n r sleep xs).1)
 | 0,r,c0,sleep,xs,hr,hn,hx,hs,H0,hH=>by
  have:=hr.le
  omega
 |n+1,r,c0,sleep,xs,hr,hn,hx,hs,H0,hH=>by
  have hok:=runOK hg
  have hri:=runI hg hv
  have hin:SInv p r.s∧r.s.flt:=⟨hr.inv.si,hr.inv.fl⟩
  have hsm:=hok.small r.s hr.inv.si
  have hen:=sT bY p r.s hp hsm.1 (hok.seen r.s hr.inv.si)
  have hcode:CallsTo EE 121 [agg (encProg p),.fp (encSt r.s),sl ((enabledL p r.s).map encN),i64 ((r.tr.map encEv).length:Nat),i64 b] (·=i64 (codeL p r.s r.tr.length b)):=by
   rw[List.length_map];exact codeOf_ok p r.s r.tr.length b hsm.1
  have h5:(enabledL p r.s).length≤5:=Nat.le_trans (enabledTo_le) hr.inv.si.len
  have hle:=hr.le
  have hlen:=hr.len
  have hb2:=hb.2
  rw[xgo]
  refine io_of_AW (fn:=Tryz.f63) (c:=Tryz.f63.body.getD .skip) Tryz.func63 rfl (by kernel_rfl) rfl ?_
  have hat:At [(0,.ptr (.l 0) 0),(1,agg (encRun c0 r.tr r.tk r.s)),(2,sl (sleep.map encN))] [(.l 0,.vs 107 (wiC p b slp xs.length)),(.n 950,.ds 56 7 (xs.map yO))] [] ⟨fun i=>[AV.ptr (.l 0) 0,agg (encRun c0 r.tr r.tk r.s),sl (sleep.map encN)].getD i .junk,H0⟩ :=
   ⟨⟨rfl,rfl,rfl,trivial⟩,⟨hH.1,hH.2,trivial⟩,trivial⟩
  obtain⟨τ,H,hf⟩:=hat.form
  rw[hf]
  clear hat hf hH
  conv=>whnf
  refine .inl ⟨_,hen,?_⟩
  rintro q rfl
  refine⟨fun c hc=>?_,.inl ?_⟩
  ·obtain⟨y,_,rfl⟩:=List.mem_map.1 hc
   rfl
  conv=>whnf
  refine .inl ⟨14,by kernel_rfl,?_⟩
  conv=>whnf
  refine⟨_,hcode,rfl,?_⟩
  conv=>whnf
  refine kbi (fun hc=>?_) (fun hc=>?_)
  ·have hc:codeL p r.s r.tr.length b≠0:=by simpa using hc
   have hc:0<codeL p r.s r.tr.length b:=by have:=codeL_nn p r.s r.tr.length b;omega
   rw[if_pos hc]
   conv=>whnf
   refine .inr (.inr (.inr ⟨[0],by kernel_rfl,7,[],?_⟩))
   conv=>whnf
   refine⟨by kernel_rfl,?_⟩
   conv=>whnf
   refine⟨⟨rfl,by show(xs.length+1)*_≤_;simp only[ti56];omega,by show xs.length+1≤_;omega⟩,?_⟩
   conv=>whnf
   have fin:∀ (S:Key→Option Ob),S (.l 0)=some (.vs 107 (wiC p b slp (xs.length+1)))→S (.n 950)=some (.ds 56 7 ((xs.map yO).take xs.length++[yO (leaf p b (codeL p r.s r.tr.length b) r)]))→AtI p b slp (xs++[leaf p b (codeL p r.s r.tr.length b) r]) S:=by
    intro S h0 h1
    rw[List.take_of_length_le (by simp)] at h1
    exact⟨by rw[h0,List.length_append];rfl,by rw[h1,List.map_append];rfl⟩
   refine kbi (fun h4=>?_) (fun h4=>?_)
   ·have h4:((xs.length+1:Nat):Int)≤400:=of_decide_eq_true h4
    conv=>whnf
    refine⟨_,Weak.refl,?_⟩
    conv=>whnf
    refine⟨dL,?_,tQ (fin _ rfl rfl)⟩
    show bv true=bv (decide (xs.length+1≤400))
    rw[decide_eq_true (by omega)]
   ·have h4:¬ ((xs.length+1:Nat):Int)≤400:=fun e=>h4 (decide_eq_true e)
    conv=>whnf
    refine⟨_,Weak.refl,?_⟩
    conv=>whnf
    refine⟨dL,?_,tQ (fin _ rfl rfl)⟩
    show bv false=bv (decide (xs.length+1≤400))
    rw[decide_eq_false (by omega)]
  ·have hc:¬ 0<codeL p r.s r.tr.length b:=by simp at hc;omega
   rw[if_neg hc]
   have hcc:codeL p r.s r.tr.length b=0:=by have:=codeL_nn p r.s r.tr.length b;omega
   have hlb:=(en_ne hc).2
   have hcl:CallsTo EE 122 [sl (sleep.map encN)] (·=.uq 3 1 (sleep.map encN)):=by
    rw[natI_enc];exact CloneS_ok (natI sleep) (by simp[natI];omega)
   conv=>whnf
   refine⟨_,hcl,?_⟩
   rintro q rfl
   refine .inr ⟨_,rfl,?_⟩
   conv=>whnf
   refine aloopF (fun x:Nat × XS=>[(0,.ptr (.l 0) 0),(2,sl (sleep.map encN)),(4,.ptr (.n 4) 0),(6,bv false),(7,sl ((enabledL p r.s).map encN)),(8,.ref (.n 57) 0 (sleep++x.2.tried).length),(58,sl ((enabledL p r.s).map encN)),(59,i64 ((enabledL p r.s).map encN).length),(60,i64 x.1)])
    (fun x=>[(.l 0,.vs 107 (wiC p b slp x.2.acc.length)),(.n 950,.ds 56 7 (x.2.acc.map yO)),(.n 4,.vs 56 ((encRun 0 r.tr r.tk r.s).map .d)),(.n 57,.ds 3 1 ((sleep++x.2.tried).map encN))])
    (fun _=>[(900,fun _=>none)]) (fun x=>(enabledL p r.s).length - x.1) (fun x=>x.2.ok=true∧x.1≤(enabledL p r.s).length∧xloop p slp (yK p) (xgo p b slp (yK p) n) r sleep xs x.1=x.2) (0,⟨xs,[],true⟩) (weak_frz isF9) ⟨rfl,rfl,rfl,rfl,rfl,?_,rfl,rfl,rfl,trivial⟩ ⟨rfl,rfl,?_,?_,trivial⟩ ⟨fun j=>rfl,trivial⟩ ⟨rfl,Nat.zero_le _,rfl⟩ ?_
   ·show AV.ref (.n 57) 0 (sleep.map encN).length=.ref (.n 57) 0 (sleep++[]).length
    simp
   ·show some (Ob.vs 56 [i64 (codeL p r.s r.tr.length b),_,_,_,_,_,_])=some (Ob.vs 56 [i64 0,_,_,_,_,_,_])
    rw[hcc];rfl
   ·show some (Ob.ds 3 1 (sleep.map encN))=some (Ob.ds 3 1 ((sleep++[]).map encN))
    simp
   rintro⟨k,⟨acc,tried,okk⟩⟩ τ H ⟨hk0,hk,hXe⟩
   have hk0:okk=true:=hk0
   subst hk0
   have hk:k≤(enabledL p r.s).length:=hk
   have hXe:xloop p slp (yK p) (xgo p b slp (yK p) n) r sleep xs k=⟨acc,tried,true⟩:=hXe
   have hXl:=xloop_len (p:=p) (b:=b) (sl:=slp) (K:=yK p) (n:=n) (r:=r) (sleep:=sleep) hx k
   have hXt:=xloop_tried (p:=p) (sl:=slp) (K:=yK p) (f:=xgo p b slp (yK p) n) (r:=r) (sleep:=sleep) (acc:=xs) k hk
   rw[hXe] at hXl hXt
   have ha4:acc.length≤400:=hXl rfl
   clear hXl
   conv=>whnf
   refine kbi (fun h=>?_) (fun h=>?_)
   ·have hlt:k<(enabledL p r.s).length:=by simpa using h
    have hnx:=xloop.eq_2 p slp (yK p) (xgo p b slp (yK p) n) r sleep xs k
    rw[hXe] at hnx
    have hm:=XR.mem (b:=b) hlt
    have hwl:=en_lt hm
    have hnext:=hr.step hg hv hc hlt
    have hst:=stepI_ok bY 56 (i64 0) (.d .nil) (.d .nil) (b9 _) (b9 _) (b9 _) p r.s (enAt p r k) hp hwl hsm.2 hsm.1 (hri.ready r.s hin _ hm hwl) (hri.awake r.s hin _ hm hwl) (hri.flt r.s hin _ (List.getElem_mem hwl)) (hri.joins r.s hin _ hm hwl)
    have hhas:CallsTo EE 123 [sl (sleep.map encN),i64 (enAt p r k:Nat)] (·=bp (((enAt p r k:Nat):Int)∈natI sleep)):=by
     rw[natI_enc];exact ContS_ok (natI sleep) _ (by simp[natI];omega)
    have hmem:((enAt p r k:Nat):Int)∈natI sleep↔enAt p r k∈sleep:=(fB (by omega)).trans (by simp)
    have hcE:=CloneE_ok r.tr (by omega)
    have hcT:=Clone_ok r.tk (by omega)
    have hLu:∀ u∈tried,u∈enabledL p r.s:=hXt.2
    have htl:tried.length≤k:=hXt.1
    have hLb:(sleep++tried).length≤5*r.tr.length+5:=by simp;omega
    conv=>whnf
    refine⟨encN (enAt p r k),⟨by omega,en_get hlt,rfl⟩,?_⟩
    obtain⟨sq,hsq⟩:∃ sq:Bool,sq=slp:=⟨slp,rfl⟩
    cases slp
    case' true =>
     conv=>whnf
     refine ocase hhas (fun hin'=>?_) (fun hin'=>?_)
    case true.refine_1 =>
     rw[if_pos (.inr ⟨rfl,hmem.1 hin'⟩)] at hnx
     conv=>whnf
     refine⟨(k+1,⟨acc,tried,true⟩),_,Weak.refl,⟨rfl,hlt,hnx⟩,by show(enabledL p r.s).length - (k+1)<(enabledL p r.s).length - k;omega,⟨rfl,rfl,rfl,rfl,rfl,rfl,rfl,rfl,next_i64 hlt (by omega),trivial⟩,⟨rfl,rfl,rfl,rfl,trivial⟩,⟨fun j=>rfl,trivial⟩⟩
    case' true.refine_2=>rw[if_neg (by rintro(e|⟨_,e⟩);exact absurd e (by simp);exact hin' (hmem.2 e))] at hnx
    case' false=>rw[if_neg (by rintro(e|⟨e,_⟩);exact absurd e (by simp);exact absurd e (by simp))] at hnx
    all_goals
     conv=>whnf
     refine⟨_,x9 r.s hsm.1,?_⟩
     rintro q rfl
     conv=>whnf
     refine .inr (.inl ⟨11,0,vK,_,hst _ ⟨?_,rfl,?_,fun j=>?_,?_,?_⟩,rfl,?_⟩)
     ·show some (Ob.vs 56 [i64 0,.d .nil,.d .nil,.dref (.n 900) (r.s.ths.map bF).length,.ref (.n 901) 0 (r.s.cells.map encF).length,.ref (.n 902) 0 (r.s.owner.map encInt).length,i64 r.s.fault])=some (Ob.vs 56 [i64 0,.d .nil,.d .nil,.dref (.n 900) r.s.ths.length,.ref (.n 901) 0 r.s.cells.length,.ref (.n 902) 0 r.s.owner.length,i64 r.s.fault])
      rw[List.length_map,List.length_map,List.length_map]
     ·show some (Ob.rs 175 6 ((((thRows 900 r.s.ths).map (scrPL (isK (.n 11)))).map (renL (swp (.n 11) (.l 0)))).map (scrPL fun o=>!vK o)))=_
      rw[zR (fun _ _=>rfl),xA]
      exact congrArg (fun x=>some (Ob.rs 175 6 x)) (zR fun _ _=>rfl)
     ·refine(congrArg (fun x=>Option.map (scrPO (fun o=>!vK o)) (Option.map (renO (swp (.n 11) (.l 0))) (Option.map (scrPO (isK (.n 11))) x))) (fV r.s j)).trans ?_
      show Option.map _ (Option.map _ (Option.map _ (zQ r.s.ths j)))=_
      rw[zX,thFam_ren,zX]
     ·rfl
     ·rfl
     rintro q H1 ⟨rfl,rfl⟩
     refine⟨kB,fun n hn=>?_,?_⟩
     ·have:n=0:=by simpa[vK] using hn
      subst this
      exact⟨56,_,_,rfl,rfl⟩
     conv=>whnf
     refine .inr (.inl ⟨16,[],?_⟩)
     conv=>whnf
     refine⟨_,hcE,?_⟩
     refine .inr ⟨_,rfl,?_⟩
     conv=>whnf
     refine⟨⟨by simp[encEv],by simp;omega,by simp;omega⟩,?_⟩
     conv=>whnf
     refine⟨_,hcT,?_⟩
     refine .inr ⟨_,rfl,?_⟩
     conv=>whnf
     refine⟨⟨rfl,by simp;omega,by simp;omega⟩,?_⟩
     conv=>whnf
     refine⟨by kernel_rfl,?_⟩
     conv=>whnf
     generalize hLe:sleep++tried=L at *
     refine aloopF (fun j:Nat=>[(0,.ptr (.l 0) 0),(2,sl (sleep.map encN)),(4,.ptr (.n 4) 0),(6,bv false),(7,sl ((enabledL p r.s).map encN)),(8,.ref (.n 57) 0 L.length),(9,i64 k),(10,i64 (enAt p r k:Nat)),(11,.ptr (.n 11) 0),(12,.ptr (.n 12) 0),(13,.ref (.n 99) 0 (keptBy (yK p) r.s (L.take j) (stepL p r.s (enAt p r k)).2).length),(58,sl ((enabledL p r.s).map encN)),(59,i64 ((enabledL p r.s).map encN).length),(60,i64 k),(100,.ref (.n 57) 0 L.length),(101,i64 L.length),(102,i64 j)])
      (fun j=>wiO2 p b sq r acc L (keptBy (yK p) r.s (L.take j) (stepL p r.s (enAt p r k)).2) (runBy p r k) (stepL p r.s (enAt p r k)).2)
      (fun _=>[(900,zQ (runBy p r k).s.ths)]) (fun j=>L.length - j) (fun j=>j≤L.length) 0 Weak.refl ⟨rfl,rfl,rfl,rfl,rfl,rfl,rfl,rfl,rfl,rfl,rfl,rfl,rfl,rfl,rfl,rfl,rfl,trivial⟩ ⟨by rw[hsq];rfl,rfl,rfl,rfl,?_,?_,?_,?_,?_,?_,?_,rfl,trivial⟩ ⟨fun j=>?_,trivial⟩ (Nat.zero_le _) ?_
     ·show some (Ob.vs 56 ([i64 0,.ref (.n 87) 0 ((r.tr.map encEv).length+1),.ref (.n 93) 0 ((r.tk.map encInt).length+1)]++stRef (stepL p r.s (enAt p r k)).1))=some (Ob.vs 56 ([i64 0,.ref (.n 87) 0 (r.tr++[(stepL p r.s (enAt p r k)).2]).length,.ref (.n 93) 0 (r.tk++[(k:Int)]).length]++stRef (stepL p r.s (enAt p r k)).1))
      simp
     ·show some (Ob.ds 128 5 ((r.tr.map encEv).take (r.tr.map encEv).length++[encEv (stepL p r.s (enAt p r k)).2]))=some (Ob.ds 128 5 ((r.tr++[(stepL p r.s (enAt p r k)).2]).map encEv))
      rw[List.take_length,List.map_append];rfl
     ·show some (Ob.ds 3 1 ((r.tk.map encInt).take (r.tk.map encInt).length++[[di (k:Int)]]))=some (Ob.ds 3 1 ((r.tk++[(k:Int)]).map encInt))
      rw[List.take_length,List.map_append];rfl
     ·conv=>lhs;whnf
      refine congrArg some ?_
      repeat (first|exact rfl|exact congrArg (Ob.rs 175 6) (xA 11 0 900 _)|refine yG ?_ (congrArg (Ob.rs 175 6) (zR fun _ _=>rfl)))
     ·rfl
     ·rfl
     ·rfl
     ·conv=>lhs;whnf
      repeat (first|exact rfl|exact thFam_ren _ _ _|(refine hscrO ?_ (zX _ _ _);conv=>lhs;whnf))
     intro j τ H hj
     have hj:j≤L.length:=hj
     have hkl:(keptBy (yK p) r.s (L.take j) (stepL p r.s (enAt p r k)).2).length≤j:=Nat.le_trans (List.length_filter_le _ _) (by simp;omega)
     conv=>whnf
     refine kbi (fun h=>?_) (fun h=>?_)
     ·have hjl:j<L.length:=by have:=of_decide_eq_true h;omega
      have hhg:=hangI_ok (stepL p r.s L[j]).2 (stepL p r.s (enAt p r k)).2
      have hjt:L.take (j+1)=L.take j++[L[j]]:=List.take_succ_eq_append_getElem hjl
      have hkj:keptBy (yK p) r.s (L.take (j+1)) (stepL p r.s (enAt p r k)).2=keptBy (yK p) r.s (L.take j) (stepL p r.s (enAt p r k)).2++keptBy (yK p) r.s [L[j]] (stepL p r.s (enAt p r k)).2:=by
       rw[hjt];unfold keptBy;rw[List.filter_append]
      have hin3:CallsTo EE 126 [sl ((enabledL p r.s).map encN),i64 (L[j]:Nat)] (·=bp (((L[j]:Nat):Int)∈natI (enabledL p r.s))):=by
       rw[natI_enc];exact ContA_ok (natI _) _ (by simp[natI];omega)
      have hme:((L[j]:Nat):Int)∈natI (enabledL p r.s)↔L[j]∈enabledL p r.s:=(fB (by omega)).trans (by simp)
      conv=>whnf
      refine⟨⟨by omega,by omega⟩,?_⟩
      conv=>whnf
      refine⟨encN L[j],⟨by simp[hjl],Nat.le_refl _⟩,?_⟩
      conv=>whnf
      refine⟨by kernel_rfl,?_⟩
      conv=>whnf
      refine qcase hin3 (fun h3=>?_) (fun h3=>?_)
      ·have hev:=f6 p hp hg hv r.s hr.inv L[j] (hme.1 h3) b sq
       conv=>whnf
       refine⟨_,hev _,fun c hc'=>?_,?_⟩
       ·obtain⟨y,hy,rfl⟩:=List.mem_map.1 hc'
        simp only[encEv,List.mem_cons,List.not_mem_nil,or_false] at hy
        rcases hy with rfl|rfl|rfl|rfl|rfl <;> exact⟨_,rfl,rfl⟩
       conv=>whnf
       refine qcase hhg (fun hh=>?_) (fun hh=>?_)
       ·have hkn:keptBy (yK p) r.s [L[j]] (stepL p r.s (enAt p r k)).2=[]:=by simp[keptBy,yK,hh,hme.1 h3]
        rw[hkn,List.append_nil] at hkj
        conv=>whnf
        refine⟨j+1,_,Weak.refl,hjl,by show L.length - (j+1)<L.length - j;omega,⟨rfl,rfl,rfl,rfl,rfl,rfl,rfl,rfl,rfl,rfl,?_,rfl,rfl,rfl,rfl,rfl,next_i64 hjl (by omega),trivial⟩,⟨rfl,rfl,rfl,rfl,rfl,rfl,rfl,rfl,rfl,rfl,rfl,?_,trivial⟩,⟨fun j'=>rfl,trivial⟩⟩
        ·show AV.ref (.n 99) 0 (keptBy (yK p) r.s (L.take j) _).length=.ref (.n 99) 0 (keptBy (yK p) r.s (L.take (j+1)) _).length
         rw[hkj]
        ·show some (Ob.ds 3 1 ((keptBy (yK p) r.s (L.take j) _).map encN))=some (Ob.ds 3 1 ((keptBy (yK p) r.s (L.take (j+1)) _).map encN))
         rw[hkj]
       ·have hkp:yK p r.s L[j] (stepL p r.s (enAt p r k)).2:=fun e=>hh e.2
        have hkn:keptBy (yK p) r.s [L[j]] (stepL p r.s (enAt p r k)).2=[L[j]]:=by simp[keptBy,hkp]
        rw[hkn] at hkj
        conv=>whnf
        refine⟨⟨rfl,by show(_+1)*8≤_;omega,by show _+1≤_;omega⟩,?_⟩
        conv=>whnf
        refine⟨j+1,_,Weak.refl,hjl,by show L.length - (j+1)<L.length - j;omega,⟨rfl,rfl,rfl,rfl,rfl,rfl,rfl,rfl,rfl,rfl,?_,rfl,rfl,rfl,rfl,rfl,next_i64 hjl (by omega),trivial⟩,⟨rfl,rfl,rfl,rfl,rfl,rfl,rfl,?_,rfl,rfl,rfl,?_,trivial⟩,⟨fun j'=>?_,trivial⟩⟩
        ·show AV.ref (.n 99) 0 ((keptBy (yK p) r.s (L.take j) (stepL p r.s (enAt p r k)).2).length+1)=.ref (.n 99) 0 (keptBy (yK p) r.s (L.take (j+1)) _).length
         rw[hkj,List.length_append];rfl
        ·show some (Ob.rs 175 6 (((thRows 900 (runBy p r k).s.ths).map (scrPL (isK (.n 122)))).map (scrPL (isK (.n 99)))))=_
         rw[zR (fun _ _=>rfl)]
         exact congrArg (fun x=>some (Ob.rs 175 6 x)) (zR fun _ _=>rfl)
        ·show some (Ob.ds 3 1 (((keptBy (yK p) r.s (L.take j) (stepL p r.s (enAt p r k)).2).map encN).take _++[encN L[j]]))=some (Ob.ds 3 1 ((keptBy (yK p) r.s (L.take (j+1)) (stepL p r.s (enAt p r k)).2).map encN))
         rw[hkj,List.take_of_length_le (by simp),List.map_append];rfl
        ·show Option.map (scrPO (isK (.n 99))) (Option.map (scrPO (isK (.n 122))) (zQ (runBy p r k).s.ths j'))=zQ (runBy p r k).s.ths j'
         rw[zX,zX]
      ·have hkp:yK p r.s L[j] (stepL p r.s (enAt p r k)).2:=fun e=>h3 (hme.2 e.1)
       have hkn:keptBy (yK p) r.s [L[j]] (stepL p r.s (enAt p r k)).2=[L[j]]:=by simp[keptBy,hkp]
       rw[hkn] at hkj
       conv=>whnf
       refine⟨⟨rfl,by show(_+1)*8≤_;omega,by show _+1≤_;omega⟩,?_⟩
       conv=>whnf
       refine⟨j+1,_,Weak.refl,hjl,by show L.length - (j+1)<L.length - j;omega,⟨rfl,rfl,rfl,rfl,rfl,rfl,rfl,rfl,rfl,rfl,?_,rfl,rfl,rfl,rfl,rfl,next_i64 hjl (by omega),trivial⟩,⟨rfl,rfl,rfl,rfl,rfl,rfl,rfl,?_,rfl,rfl,rfl,?_,trivial⟩,⟨fun j'=>?_,trivial⟩⟩
       ·show AV.ref (.n 99) 0 ((keptBy (yK p) r.s (L.take j) (stepL p r.s (enAt p r k)).2).length+1)=.ref (.n 99) 0 (keptBy (yK p) r.s (L.take (j+1)) _).length
        rw[hkj,List.length_append];rfl
       ·show some (Ob.rs 175 6 (((thRows 900 (runBy p r k).s.ths).map (scrPL (isK (.n 122)))).map (scrPL (isK (.n 99)))))=_
        rw[zR (fun _ _=>rfl)]
        exact congrArg (fun x=>some (Ob.rs 175 6 x)) (zR fun _ _=>rfl)
       ·show some (Ob.ds 3 1 (((keptBy (yK p) r.s (L.take j) (stepL p r.s (enAt p r k)).2).map encN).take _++[encN L[j]]))=some (Ob.ds 3 1 ((keptBy (yK p) r.s (L.take (j+1)) (stepL p r.s (enAt p r k)).2).map encN))
        rw[hkj,List.take_of_length_le (by simp),List.map_append];rfl
       ·show Option.map (scrPO (isK (.n 99))) (Option.map (scrPO (isK (.n 122))) (zQ (runBy p r k).s.ths j'))=zQ (runBy p r k).s.ths j'
        rw[zX,zX]
     ·have hge:j=L.length:=by
       have:¬ (j:Int)<L.length:=fun e=>h (decide_eq_true e)
       omega
      subst hge
      have hon:keptBy (yK p) r.s (L.take L.length) (stepL p r.s (enAt p r k)).2=keptBy (yK p) r.s L (stepL p r.s (enAt p r k)).2:=by rw[List.take_length]
      subst hsq
      have hkk:(keptBy (yK p) r.s L (stepL p r.s (enAt p r k)).2).length≤5*(runBy p r k).tr.length:=by
       have:(keptBy (yK p) r.s L (stepL p r.s (enAt p r k)).2).length≤L.length:=List.length_filter_le _ _
       have e:(runBy p r k).tr.length=r.tr.length+1:=by simp[runBy]
       omega
      have hfu:b.toNat+1 - (runBy p r k).tr.length=n:=by
       have e:(runBy p r k).tr.length=r.tr.length+1:=by simp[runBy]
       omega
      conv=>whnf
      refine .inr (.inr (.inl ⟨_,63,[],(weak_frz (fun κ=>isSt κ || isK (.n 87) κ || isK (.n 93) κ || isK (.n 99) κ)).trans ((weak_cvt (.n 900) (e:=175) (sz:=6) (els:=(runBy p r k).s.ths.map zH) ?_).trans (weak_frz (isK (.n 900)))),rfl,999,99,dL,_,
       io_congr (tK p hp hg hv b hb _ n (runBy p r k) 0 (keptBy (yK p) r.s L (stepL p r.s (enAt p r k)).2) acc hnext hfu ha4 hkk _ ⟨rfl,rfl⟩) ?_,rfl,?_⟩))
      ·exact congrArg (fun x=>some (Ob.rs 175 6 x)) (fR (fun _=>rfl) fun j=>rfl)
      ·show[AV.ptr (.l 0) 0,AV.agg [i64 0,sl _,sl _,sl _,sl _,sl _,i64 (runBy p r k).s.fault],sl _]=[AV.ptr (.l 0) 0,AV.agg [i64 0,sl _,sl _,sl _,sl _,sl _,i64 (runBy p r k).s.fault],sl _]
       refine args5 ?_ ?_ ?_ ?_ ?_ ?_
       all_goals simp[List.take_of_length_le]
      rintro q H1 ⟨rfl,rfl⟩
      refine⟨bU,fun n hn=>?_,?_⟩
      ·have:n=0:=Nat.eq_of_beq_eq_true hn
       subst this
       exact⟨107,_,_,rfl,rfl⟩
      generalize hX:xgo p b _ (yK p) n (runBy p r k) (keptBy (yK p) r.s L (stepL p r.s (enAt p r k)).2) acc=X at *
      obtain⟨ys,okk⟩:=X
      cases okk with
      |false =>
       have hfin:=(xloop_stay (k:=k+1) (by rw[hnx]) (enabledL p r.s).length (by omega)).trans hnx
       rw[hfin]
       conv=>whnf
       refine⟨_,Weak.refl,?_⟩
       conv=>whnf
       exact⟨dL,rfl,tQ ⟨rfl,rfl⟩⟩
      |true =>
       conv=>whnf
       refine⟨⟨rfl,by show(L.length+1)*8≤_;omega,by show L.length+1≤_;omega⟩,?_⟩
       conv=>whnf
       refine⟨(k+1,⟨ys,tried++[enAt p r k],true⟩),_,Weak.refl,⟨rfl,hlt,hnx⟩,by show(enabledL p r.s).length - (k+1)<(enabledL p r.s).length - k;omega,⟨rfl,rfl,rfl,rfl,rfl,?_,rfl,rfl,next_i64 hlt (by omega),trivial⟩,⟨rfl,rfl,rfl,?_,trivial⟩,⟨fun j=>rfl,trivial⟩⟩
       ·show AV.ref (.n 57) 0 (L.length+1)=.ref (.n 57) 0 (sleep++(tried++[enAt p r k])).length
        rw[← List.append_assoc,hLe,List.length_append];rfl
       ·show some (Ob.ds 3 1 ((L.map encN).take L.length++[encN (enAt p r k)]))=some (Ob.ds 3 1 ((sleep++(tried++[enAt p r k])).map encN))
        rw[List.take_of_length_le (by simp),← List.append_assoc,hLe,List.map_append];rfl
   ·have hge:k=(enabledL p r.s).length:=by
     have:¬ (k:Int)<((enabledL p r.s).map encN).length:=fun e=>h (decide_eq_true e)
     simp at this;omega
    rw[← hge,hXe]
    conv=>whnf
    refine⟨_,Weak.refl,?_⟩
    conv=>whnf
    exact⟨dL,rfl,tQ ⟨rfl,rfl⟩⟩
end Ai
namespace Ai
set_option maxRecDepth 100000
open Go Go.Proofs Cyc
def oPre (p:ProgL) (x:RunT) (s:StL):List (Key × Ob):=[(.n 2,.vs 31 ((encProg p).map .d)),(.n 3,.vs 56 ((yO x).map .d)),(.n 6,.vs 54 (stRef s)),(.n 900,.rs 175 6 (thRows 900 s.ths)),(.n 901,.ds 132 1 (s.cells.map encF)),(.n 902,.ds 3 1 (s.owner.map encInt))]
theorem fz_at {S:St} {s:StL} {k:Nat} (h8:S.H (.n k)=some (.vs 54 (stRef s))) (h:StAt 900 s S):FzA S (.ptr (.n k) 0) (.fp (encSt s)):=p6 h8 (fz_st h rfl rfl rfl)
theorem preI_ok (p:ProgL) (hp:p.wf) (hg:p.goodS) (hv:p.flt) (b:Int) (hb:b≤1000) (x:RunT) (hx:XEnd p b x):CallsTo EE 135 [agg (encProg p),agg (yO x)] (·=i64 (preL p x:Nat)):=by
 obtain⟨b1,b2,b3,b4⟩:=hg.1
 have hok:=runOK hg
 have hri:=runI hg hv
 have hle:(x.tr.length:Int)≤b:=hx.fin.le
 refine callsTo_of_AW (fn:=Tryz.f135) Tryz.func135 rfl (by kernel_rfl) rfl ?_
 conv=>whnf
 refine⟨_,mV p ⟨b1.1,by have:=b1.2;omega⟩ ⟨b2.1,by have:=b2.2;omega⟩,?_⟩
 rintro r rfl
 conv=>whnf
 refine aloopF (fun k:Nat=>[(2,.ptr (.n 2) 0),(3,.ptr (.n 3) 0),(4,i64 0),(5,i64 (qW p x.tr k:Nat)),(6,.ptr (.n 6) 0),(13,sl (x.tr.map encEv)),(14,i64 (x.tr.map encEv).length),(15,i64 k)])
  (fun k=>oPre p x (xL p x.tr k)) (fun k=>[(900,zQ (xL p x.tr k).ths)]) (fun k=>x.tr.length - k) (fun k=>k≤x.tr.length) 0 .refl
  ⟨rfl,rfl,rfl,rfl,rfl,rfl,rfl,rfl,trivial⟩ ⟨rfl,rfl,?_,?_,?_,?_,trivial⟩ ⟨fun j=>?_,trivial⟩ (Nat.zero_le _) ?_
 ·show some (Ob.vs 54 [.dref (.n 900) ((xC p).ths.map bF).length,.ref (.n 901) 0 ((xC p).cells.map encF).length,.ref (.n 902) 0 ((xC p).owner.map encInt).length,i64 0])=some (Ob.vs 54 [.dref (.n 900) (xC p).ths.length,.ref (.n 901) 0 (xC p).cells.length,.ref (.n 902) 0 (xC p).owner.length,i64 0])
  rw[List.length_map,List.length_map,List.length_map]
 ·conv=>lhs;whnf
  refine congrArg some ?_
  repeat (first|exact rfl|refine yG ?_ (congrArg (Ob.rs 175 6) (zR fun _ _=>rfl)))
 ·rfl
 ·rfl
 ·conv=>lhs;whnf
  repeat (first|exact fV (xC p) j|(refine hscrO ?_ (zX _ _ _);conv=>lhs;whnf))
 rintro k τ H hk
 have hk:k≤x.tr.length:=hk
 have hai:=cG hg hv hx.en k hk
 have hin:SInv p (xL p x.tr k)∧(xL p x.tr k).flt:=⟨hai.si,hai.fl⟩
 have hsm:=hok.small _ hai.si
 have hen:=sT bY p (xL p x.tr k) hp hsm.1 (hok.seen _ hai.si)
 have h5:(enabledL p (xL p x.tr k)).length≤5:=Nat.le_trans (enabledTo_le) hai.si.len
 have hpl:=cT p x.tr k
 conv=>whnf
 refine kbi (fun h=>?_) (fun h=>?_)
 ·have hlt:k<x.tr.length:=by simpa using h
  have hme:=hx.en k hlt
  rw[uI hlt] at hme
  have hkl:=en_lt hme.1
  have hst:=fun H0 hH=>oE bY 54 p (xL p x.tr k) x.tr[k].th.toNat hp hkl hsm.2 hsm.1 (hri.ready _ hin _ hme.1 hkl) (hri.awake _ hin _ hme.1 hkl) (hri.flt _ hin _ (List.getElem_mem hkl)) (hri.joins _ hin _ hme.1 hkl) H0 hH
  rw[Int.toNat_of_nonneg hme.2] at hst
  have hS:xL p x.tr (k+1)=(stepL p (xL p x.tr k) x.tr[k].th.toNat).1:=by rw[xL,uI hlt]
  have hP:qW p x.tr (k+1)=qW p x.tr k+(if 0<k∧(x.tr.getD (k - 1) qC).th≠x.tr[k].th∧(x.tr.getD (k - 1) qC).th.toNat∈enabledL p (xL p x.tr k) then 1 else 0):=by rw[qW,uI hlt]
  generalize hs:xL p x.tr k=s at *
  generalize hs1:xL p x.tr (k+1)=s1 at *
  generalize hpk1:qW p x.tr (k+1)=c1 at *
  generalize hpk:qW p x.tr k=c at *
  conv=>whnf
  refine⟨encEv x.tr[k],yA encEv hlt rfl,?_⟩
  conv=>whnf
  refine kbi (fun h0=>?_) (fun h0=>?_)
  ·have h0:0<k:=by have:(k:Int) > 0:=of_decide_eq_true h0;omega
   have hl1:k - 1<x.tr.length:=by omega
   rw[uI hl1] at hP
   have hth:=(hx.en (k - 1) hl1).2
   rw[uI hl1] at hth
   have hhas:CallsTo EE 126 [sl ((enabledL p s).map encN),i64 x.tr[k-1].th] (·=bp (x.tr[k-1].th∈natI (enabledL p s))):=by
    rw[natI_enc];exact ContA_ok (natI _) _ (by simp[natI];omega)
   have hwr:IntKind.i64.wrap ((k:Int) - 1)=((k - 1:Nat):Int):=by rw[zG (by omega) (by omega)];omega
   conv=>whnf
   refine⟨encEv x.tr[k - 1],⟨by rw[hwr];omega,by rw[hwr];simp[hl1],rfl⟩,?_⟩
   conv=>whnf
   refine kbi (fun h1=>?_) (fun h1=>?_)
   ·have h1:x.tr[k - 1].th≠x.tr[k].th:=by simpa using h1
    conv=>whnf
    refine .inl ⟨[.fp (encSt s),agg (encProg p)],[],_,⟨_,_,rfl,fz_at rfl ⟨congrArg (fun x=>some (Ob.rs 175 6 x)) (zR fun _ _=>rfl),fun j hj=>(congrArg (Option.map (scrPO (isK (.n 8)))) (thFam_self hj)).trans rfl,rfl,rfl⟩,_,_,rfl,nU p,rfl⟩,rfl,hen,?_⟩
    rintro r rfl
    refine⟨?_,.inl ?_⟩
    ·intro c hc
     obtain⟨y,_,rfl⟩:=List.mem_map.1 hc
     rfl
    conv=>whnf
    refine ocase hhas (fun h2=>?_) (fun h2=>?_)
    ·rw[if_pos ⟨h0,h1,(fB hth).1 h2⟩] at hP
     conv=>whnf
     refine⟨_,vH true,?_⟩
     rintro r rfl
     conv=>whnf
     refine .inr (.inl ⟨6,0,vK,_,hst _ ⟨rfl,rfl,?_,fun j=>?_,rfl,rfl⟩,rfl,?_⟩)
     ·show some (Ob.rs 175 6 ((((thRows 900 s.ths).map (scrPL (isK (.n 8)))).map (renL (swp (.n 6) (.l 0)))).map (scrPL fun o=>!vK o)))=_
      rw[zR (fun _ _=>rfl),xA]
      exact congrArg (fun x=>some (Ob.rs 175 6 x)) (zR fun _ _=>rfl)
     ·show Option.map (scrPO (fun o=>!vK o)) (Option.map (renO (swp (.n 6) (.l 0))) (Option.map (scrPO (isK (.n 8))) (zQ s.ths j)))=zQ s.ths j
      rw[zX,thFam_ren,zX]
     rintro q H1 ⟨rfl,rfl⟩
     refine⟨kB,fun n hn=>?_,?_⟩
     ·have:n=0:=by simpa[vK] using hn
      subst this
      exact⟨54,_,_,rfl,rfl⟩
     conv=>whnf
     refine⟨k+1,_,Weak.refl,hlt,by show x.tr.length - (k+1)<x.tr.length - k;omega,⟨rfl,rfl,rfl,?_,rfl,rfl,rfl,next_i64 hlt (by omega),trivial⟩,⟨rfl,rfl,?_,?_,?_,?_,trivial⟩,⟨fun j=>?_,trivial⟩⟩
     ·show _=i64 (qW p x.tr (k+1):Nat)
      rw[hpk1,hP]
      exact next_i64 (n:=1048576) (by omega) (by omega)
     ·show _=some (Ob.vs 54 (stRef (xL p x.tr (k+1))))
      rw[hs1,hS];rfl
     ·show _=some (Ob.rs 175 6 (thRows 900 (xL p x.tr (k+1)).ths))
      rw[hs1,hS]
      exact congrArg (fun x=>some (Ob.rs 175 6 x)) (xA 6 0 900 _)
     ·show _=some (Ob.ds 132 1 ((xL p x.tr (k+1)).cells.map encF))
      rw[hs1,hS];rfl
     ·show _=some (Ob.ds 3 1 ((xL p x.tr (k+1)).owner.map encInt))
      rw[hs1,hS];rfl
     ·show _=zQ (xL p x.tr (k+1)).ths j
      rw[hs1,hS]
      exact thFam_ren (swp (.n 6) (.l 0)) _ j
    ·rw[if_neg (fun e=>h2 ((fB hth).2 e.2.2)),Nat.add_zero] at hP
     conv=>whnf
     refine⟨_,vH false,?_⟩
     rintro r rfl
     conv=>whnf
     refine .inr (.inl ⟨6,0,vK,_,hst _ ⟨rfl,rfl,?_,fun j=>?_,rfl,rfl⟩,rfl,?_⟩)
     ·show some (Ob.rs 175 6 ((((thRows 900 s.ths).map (scrPL (isK (.n 8)))).map (renL (swp (.n 6) (.l 0)))).map (scrPL fun o=>!vK o)))=_
      rw[zR (fun _ _=>rfl),xA]
      exact congrArg (fun x=>some (Ob.rs 175 6 x)) (zR fun _ _=>rfl)
     ·show Option.map (scrPO (fun o=>!vK o)) (Option.map (renO (swp (.n 6) (.l 0))) (Option.map (scrPO (isK (.n 8))) (zQ s.ths j)))=zQ s.ths j
      rw[zX,thFam_ren,zX]
     rintro q H1 ⟨rfl,rfl⟩
     refine⟨kB,fun n hn=>?_,?_⟩
     ·have:n=0:=by simpa[vK] using hn
      subst this
      exact⟨54,_,_,rfl,rfl⟩
     conv=>whnf
     refine⟨k+1,_,Weak.refl,hlt,by show x.tr.length - (k+1)<x.tr.length - k;omega,⟨rfl,rfl,rfl,?_,rfl,rfl,rfl,next_i64 hlt (by omega),trivial⟩,⟨rfl,rfl,?_,?_,?_,?_,trivial⟩,⟨fun j=>?_,trivial⟩⟩
     ·show _=i64 (qW p x.tr (k+1):Nat)
      rw[hpk1,hP]
      show AV.d (.int .i64 (IntKind.i64.wrap ((c:Int)+0)))=_;rw[Int.add_zero,zG (by omega) (by omega)]
     ·show _=some (Ob.vs 54 (stRef (xL p x.tr (k+1))))
      rw[hs1,hS];rfl
     ·show _=some (Ob.rs 175 6 (thRows 900 (xL p x.tr (k+1)).ths))
      rw[hs1,hS]
      exact congrArg (fun x=>some (Ob.rs 175 6 x)) (xA 6 0 900 _)
     ·show _=some (Ob.ds 132 1 ((xL p x.tr (k+1)).cells.map encF))
      rw[hs1,hS];rfl
     ·show _=some (Ob.ds 3 1 ((xL p x.tr (k+1)).owner.map encInt))
      rw[hs1,hS];rfl
     ·show _=zQ (xL p x.tr (k+1)).ths j
      rw[hs1,hS]
      exact thFam_ren (swp (.n 6) (.l 0)) _ j
   ·have h1:x.tr[k - 1].th=x.tr[k].th:=by simpa using h1
    rw[if_neg (fun e=>e.2.1 h1),Nat.add_zero] at hP
    conv=>whnf
    refine⟨_,vH false,?_⟩
    rintro r rfl
    conv=>whnf
    refine .inr (.inl ⟨6,0,vK,_,hst _ ⟨rfl,rfl,?_,fun j=>?_,rfl,rfl⟩,rfl,?_⟩)
    ·show some (Ob.rs 175 6 ((((thRows 900 s.ths).map (scrPL (isK (.n 8)))).map (renL (swp (.n 6) (.l 0)))).map (scrPL fun o=>!vK o)))=_
     rw[zR (fun _ _=>rfl),xA]
     exact congrArg (fun x=>some (Ob.rs 175 6 x)) (zR fun _ _=>rfl)
    ·show Option.map (scrPO (fun o=>!vK o)) (Option.map (renO (swp (.n 6) (.l 0))) (Option.map (scrPO (isK (.n 8))) (zQ s.ths j)))=zQ s.ths j
     rw[zX,thFam_ren,zX]
    rintro q H1 ⟨rfl,rfl⟩
    refine⟨kB,fun n hn=>?_,?_⟩
    ·have:n=0:=by simpa[vK] using hn
     subst this
     exact⟨54,_,_,rfl,rfl⟩
    conv=>whnf
    refine⟨k+1,_,Weak.refl,hlt,by show x.tr.length - (k+1)<x.tr.length - k;omega,⟨rfl,rfl,rfl,?_,rfl,rfl,rfl,next_i64 hlt (by omega),trivial⟩,⟨rfl,rfl,?_,?_,?_,?_,trivial⟩,⟨fun j=>?_,trivial⟩⟩
    ·show _=i64 (qW p x.tr (k+1):Nat)
     rw[hpk1,hP]
     show AV.d (.int .i64 (IntKind.i64.wrap ((c:Int)+0)))=_;rw[Int.add_zero,zG (by omega) (by omega)]
    ·show _=some (Ob.vs 54 (stRef (xL p x.tr (k+1))))
     rw[hs1,hS];rfl
    ·show _=some (Ob.rs 175 6 (thRows 900 (xL p x.tr (k+1)).ths))
     rw[hs1,hS]
     exact congrArg (fun x=>some (Ob.rs 175 6 x)) (xA 6 0 900 _)
    ·show _=some (Ob.ds 132 1 ((xL p x.tr (k+1)).cells.map encF))
     rw[hs1,hS];rfl
    ·show _=some (Ob.ds 3 1 ((xL p x.tr (k+1)).owner.map encInt))
     rw[hs1,hS];rfl
    ·show _=zQ (xL p x.tr (k+1)).ths j
     rw[hs1,hS]
     exact thFam_ren (swp (.n 6) (.l 0)) _ j
  ·have h0:¬ 0<k:=by
    intro e;apply h0;apply decide_eq_true;show(k:Int) > 0;omega
   rw[if_neg (fun e=>h0 e.1),Nat.add_zero] at hP
   conv=>whnf
   refine .inr (.inl ⟨6,0,vK,_,hst _ ⟨rfl,rfl,?_,fun j=>?_,rfl,rfl⟩,rfl,?_⟩)
   ·show some (Ob.rs 175 6 ((((thRows 900 s.ths).map (scrPL (isK (.n 8)))).map (renL (swp (.n 6) (.l 0)))).map (scrPL fun o=>!vK o)))=_
    rw[zR (fun _ _=>rfl),xA]
    exact congrArg (fun x=>some (Ob.rs 175 6 x)) (zR fun _ _=>rfl)
   ·show Option.map (scrPO (fun o=>!vK o)) (Option.map (renO (swp (.n 6) (.l 0))) (Option.map (scrPO (isK (.n 8))) (zQ s.ths j)))=zQ s.ths j
    rw[zX,thFam_ren,zX]
   rintro q H1 ⟨rfl,rfl⟩
   refine⟨kB,fun n hn=>?_,?_⟩
   ·have:n=0:=by simpa[vK] using hn
    subst this
    exact⟨54,_,_,rfl,rfl⟩
   conv=>whnf
   refine⟨k+1,_,Weak.refl,hlt,by show x.tr.length - (k+1)<x.tr.length - k;omega,⟨rfl,rfl,rfl,?_,rfl,rfl,rfl,next_i64 hlt (by omega),trivial⟩,⟨rfl,rfl,?_,?_,?_,?_,trivial⟩,⟨fun j=>?_,trivial⟩⟩
   ·show _=i64 (qW p x.tr (k+1):Nat)
    rw[hpk1,hP]
    rfl
   ·show _=some (Ob.vs 54 (stRef (xL p x.tr (k+1))))
    rw[hs1,hS];rfl
   ·show _=some (Ob.rs 175 6 (thRows 900 (xL p x.tr (k+1)).ths))
    rw[hs1,hS]
    exact congrArg (fun x=>some (Ob.rs 175 6 x)) (xA 6 0 900 _)
   ·show _=some (Ob.ds 132 1 ((xL p x.tr (k+1)).cells.map encF))
    rw[hs1,hS];rfl
   ·show _=some (Ob.ds 3 1 ((xL p x.tr (k+1)).owner.map encInt))
    rw[hs1,hS];rfl
   ·show _=zQ (xL p x.tr (k+1)).ths j
    rw[hs1,hS]
    exact thFam_ren (swp (.n 6) (.l 0)) _ j
 ·have hge:k=x.tr.length:=by
   have:¬ (k:Int)<(x.tr.map encEv).length:=fun e=>h (decide_eq_true e)
   simp at this;omega
  subst hge
  conv=>whnf
  rfl
end Ai
namespace Ai
set_option maxRecDepth 100000
open Go Go.Proofs Cyc
theorem allI_eq (p:ProgL) (b:Int):xgo p b false (yK p) (b.toNat+1) ⟨0,[],[],xC p⟩ [] []=qV p b:=allR_of p b _ _
theorem allI_ok (p:ProgL) (hp:p.wf) (hs:p.rs.length≤1048576∧∀ x∈p.rs,x.length≤1048576) (hv:p.flt) (b:Int) :
  CallsTo EE 59 [agg (encProg p),i64 b] (fun r=>(OkX p b∧r=.tup [sl ((qV p b).1.map yO),bv (qV p b).2])∨(¬ OkX p b∧r=.tup [sl [],bv false])):=by
 refine callsTo_of_AW (fn:=Tryz.f59) Tryz.func59 rfl (by kernel_rfl) rfl ?_
 conv=>whnf
 refine ocase (pG p hs) (fun hg=>?_) (fun hg=>?_)
 rotate_left 1
 ·conv=>whnf
  refine .inl ?_
  conv=>whnf
  exact .inr ⟨fun e=>hg ((lI p).1 e.1),rfl⟩
 have hg:p.goodS:=(lI p).2 hg
 conv=>whnf
 refine ocase (in_ok b 0 14) (fun hk=>?_) (fun hk=>?_)
 rotate_left 1
 ·conv=>whnf
  refine .inl ?_
  conv=>whnf
  exact .inr ⟨fun e=>hk e.2,rfl⟩
 obtain⟨b1,b2,b3,b4⟩:=hg.1
 have hr0:XR p b ⟨0,[],[],xC p⟩:=XR.new hg hk.1
 conv=>whnf
 refine⟨_,mV p ⟨b1.1,by have:=b1.2;omega⟩ ⟨b2.1,by have:=b2.2;omega⟩,?_⟩
 rintro r rfl
 conv=>whnf
 refine .inr (.inr (.inl ⟨_,63,[],(weak_frz (fun κ=>isSt κ || isK (.n 21) κ || isK (.n 22) κ)).trans ((weak_cvt (.n 900) (e:=175) (sz:=6) (els:=(xC p).ths.map zH) ?_).trans ((weak_frz (isK (.n 900))).trans
  ((wX (.n 19) (.n 950) 107 56 7 5 [i64 p.cells,i64 p.locks,i64 p.conds,.d (.sl (p.rs.map zS)),i64 b,.d .nil,bv false] (by intro n h;cases h) (by intro h;cases h) ?_ rfl).trans (weak_cvt (.n 950) (e:=56) (sz:=7) (els:=[]) ?_)))),rfl,19,0,dL,_,
   b7 (io_congr (tK p hp hg hv b ⟨hk.1,by have:=hk.2;omega⟩ false (b.toNat+1) ⟨0,[],[],xC p⟩ 0 [] [] hr0 (by simp) (by simp) (by simp) _ ?_) ?_),rfl,?_⟩))
 ·exact congrArg (fun x=>some (Ob.rs 175 6 x)) (fR (fun _=>rfl) fun j=>fV (xC p) j)
 ·rfl
 ·rfl
 ·exact⟨rfl,rfl⟩
 ·show[AV.ptr (.l 0) 0,AV.agg [i64 0,sl _,sl _,sl _,sl _,sl _,i64 (xC p).fault],sl []]=[AV.ptr (.l 0) 0,AV.agg [i64 0,sl _,sl _,sl _,sl _,sl _,i64 (xC p).fault],sl []]
  refine args5 ?_ ?_ ?_ ?_ ?_ rfl
  all_goals simp[List.take_of_length_le]
 rintro q H1 ⟨rfl,rfl⟩
 refine⟨bU,fun n hn=>?_,?_⟩
 ·have:n=0:=Nat.eq_of_beq_eq_true hn
  subst this
  exact⟨107,_,_,rfl,rfl⟩
 rw[allI_eq]
 conv=>whnf
 refine .inl ?_
 conv=>whnf
 refine .inl ⟨⟨hg,hk⟩,?_⟩
 show AV.tup [sl ((((qV p b).1.map yO).drop 0).take (qV p b).1.length),bv (qV p b).2]=_
 rw[List.drop_zero,List.take_of_length_le (by simp)]
end Ai
namespace Ai
open Go Go.Proofs Cyc
theorem lex_of {r x y:List Int} {i j:Int} (h1:r++[i] <+: x) (h2:r++[j] <+: y) (h:i<j):LexLt x y:=by
 obtain⟨s,rfl⟩:=h1
 obtain⟨t,rfl⟩:=h2
 exact⟨r,i,j,s,t,by simp,by simp,h⟩
structure NewL (acc out:List RunT) (P:RunT→Prop):Prop where
 ex:∃ new,out=acc++new∧(∀ x∈new,P x)∧new.Pairwise (fun x y=>LexLt x.tk y.tk)
theorem xgo_new {p:ProgL} {b:Int} {sl:Bool} {K:StL→Nat→Ev→Prop}:∀ (n:Nat) (r:RunT) (sleep:List Nat) (acc:List RunT),NewL acc (xgo p b sl K n r sleep acc).1 (fun x=>r.tk <+: x.tk)
 | 0,r,sleep,acc=>⟨[],by simp[xgo],fun x hx=>(by cases hx),.nil⟩
 |n+1,r,sleep,acc=>by
  rw[xgo]
  split
  ·exact⟨[leaf p b (codeL p r.s r.tr.length b) r],rfl,fun x hx=>by simp only[List.mem_cons,List.not_mem_nil,or_false] at hx;subst hx;exact List.prefix_rfl,List.pairwise_singleton _ _⟩
  ·have:∀ k,NewL acc (xloop p sl K (xgo p b sl K n) r sleep acc k).acc (fun x=>∃ j:Nat,j<k∧r.tk++[(j:Int)] <+: x.tk):=by
    intro k
    induction k with
    |zero=>exact⟨[],by simp[xloop],fun x hx=>(by cases hx),.nil⟩
    |succ k ih =>
     obtain⟨new,h1,h2,h3⟩:=ih
     rw[xloop]
     split
     ·exact⟨new,h1,fun x hx=>by obtain⟨j,hj,hp⟩:=h2 x hx;exact⟨j,by omega,hp⟩,h3⟩
     ·obtain⟨new2,g1,g2,g3⟩:=xgo_new n (runBy p r k) (keptBy K r.s (sleep++(xloop p sl K (xgo p b sl K n) r sleep acc k).tried) (stepL p r.s (enAt p r k)).2) (xloop p sl K (xgo p b sl K n) r sleep acc k).acc
      refine⟨new++new2,by rw[g1,h1,List.append_assoc],fun x hx=>?_,?_⟩
      ·rcases List.mem_append.1 hx with e|e
       ·obtain⟨j,hj,hp⟩:=h2 x e;exact⟨j,by omega,hp⟩
       ·exact⟨k,by omega,g2 x e⟩
      ·rw[List.pairwise_append]
       refine⟨h3,g3,fun x hx y hy=>?_⟩
       obtain⟨j,hj,hp⟩:=h2 x hx
       exact lex_of hp (g2 y hy) (by omega)
   obtain⟨new,h1,h2,h3⟩:=this (enabledL p r.s).length
   refine⟨new,h1,fun x hx=>?_,h3⟩
   obtain⟨j,_,hp⟩:=h2 x hx
   exact(List.prefix_append _ _).trans hp
end Ai
namespace Ai
set_option maxRecDepth 100000
open Go Go.Proofs Cyc
theorem pR {s:StL} {k u:Nat} {t:Th} (h:u≠k):(s.put k t).ths.getD u th0=s.ths.getD u th0:=by
 simp[StL.put,List.getD_eq_getElem?_getD,List.getElem?_set_ne (Ne.symm h)]
theorem do_other {s:StL} {k u:Nat} {o:OpL} {e:Ev} (hu:u<s.ths.length) (hne:u≠k) (h3:(s.ths.getD u th0).st≠3):(doL s k o e).1.ths.getD u th0=s.ths.getD u th0:=by
 have hput:∀ (s':StL) (t:Th),s'.ths.getD u th0=s.ths.getD u th0→(s'.put k t).ths.getD u th0=s.ths.getD u th0:=fun s' t h=>(pR hne).trans h
 unfold doL
 simp only
 by_cases h1:o.code=1
 ·rw[if_pos h1];exact hput _ _ rfl
 rw[if_neg h1]
 by_cases h2:o.code=2
 ·rw[if_pos h2];exact hput _ _ rfl
 rw[if_neg h2]
 by_cases h3':o.code=3
 ·rw[if_pos h3'];exact hput _ _ rfl
 rw[if_neg h3']
 by_cases h4:o.code=10
 ·rw[if_pos h4];exact hput _ _ rfl
 rw[if_neg h4]
 by_cases h5:o.code=11
 ·rw[if_pos h5];exact hput _ _ rfl
 rw[if_neg h5]
 by_cases h6:o.code=12
 ·rw[if_pos h6];exact hput _ _ rfl
 rw[if_neg h6]
 by_cases h7:o.code=13
 ·rw[if_pos h7];exact hput _ _ rfl
 rw[if_neg h7]
 by_cases h8:o.code=14
 ·rw[if_pos h8]
  refine hput _ _ ?_
  show(s.ths++[jM o.a]).getD u th0=_
  rw[List.getD_eq_getElem?_getD,List.getD_eq_getElem?_getD,List.getElem?_append_left hu]
 rw[if_neg h8]
 by_cases h9:o.code=15
 ·rw[if_pos h9];exact hput _ _ rfl
 rw[if_neg h9]
 by_cases h10:o.code=16
 ·rw[if_pos h10];exact hput _ _ rfl
 rw[if_neg h10]
 by_cases h11:o.code=17
 ·rw[if_pos h11]
  split
  ·rename_i j hj
   refine hput _ _ ?_
   obtain⟨hjl,hj3,_⟩:=bW hj
   have hju:j≠u:=by
    rintro rfl
    apply h3
    rw[List.getD_eq_getElem?_getD,List.getElem?_eq_getElem hjl];exact hj3
   show(s.ths.modify j _).getD u th0=_
   rw[List.getD_eq_getElem?_getD,List.getD_eq_getElem?_getD,List.getElem?_modify]
   cases s.ths[u]? <;> simp[hju]
  ·exact hput _ _ rfl
 rw[if_neg h11]
 exact hput _ _ rfl
theorem cF {p:ProgL} {s:StL} {k u:Nat} (hu:u<s.ths.length) (hne:u≠k) (h3:(s.ths.getD u th0).st≠3):(stepL p s k).1.ths.getD u th0=s.ths.getD u th0:=by
 unfold stepL
 simp only
 split
 ·exact pR hne
 ·split
  ·exact pR hne
  ·split
   ·exact do_other hu hne h3
   ·rfl
theorem gD {l:List Int} {i j:Int} {x:Int} (hi:0≤i) (hj:0≤j) (h:i≠j):(l.set i.toNat x).getD j.toNat 0=l.getD j.toNat 0:=by
 rw[List.getD_eq_getElem?_getD,List.getD_eq_getElem?_getD,List.getElem?_set_ne (by omega)]
theorem do_owner {s:StL} {k:Nat} {o:OpL} {e:Ev} {t:Th} {a:Int} (ha:0≤a) (hf:o.fits s t) (hl:xX (doL s k o e).2≠a):(doL s k o e).1.owner.getD a.toNat 0=s.owner.getD a.toNat 0:=by
 revert hl
 unfold doL
 simp only
 by_cases h1:o.code=1
 ·rw[if_pos h1];exact fun _=>rfl
 rw[if_neg h1]
 by_cases h2:o.code=2
 ·rw[if_pos h2];exact fun _=>rfl
 rw[if_neg h2]
 by_cases h3:o.code=3
 ·rw[if_pos h3];exact fun _=>rfl
 rw[if_neg h3]
 by_cases h4:o.code=10
 ·rw[if_pos h4];exact fun _=>rfl
 rw[if_neg h4]
 by_cases h5:o.code=11
 ·rw[if_pos h5];exact fun _=>rfl
 rw[if_neg h5]
 by_cases h6:o.code=12
 ·rw[if_pos h6]
  intro hl
  exact gD (hf.2.2.1 (.inl h6)).1 ha (by simpa[xX] using hl)
 rw[if_neg h6]
 by_cases h7:o.code=13
 ·rw[if_pos h7]
  intro hl
  exact gD (hf.2.2.1 (.inr h7)).1 ha (by simpa[xX] using hl)
 rw[if_neg h7]
 by_cases h8:o.code=14
 ·rw[if_pos h8];exact fun _=>rfl
 rw[if_neg h8]
 by_cases h9:o.code=15
 ·rw[if_pos h9];exact fun _=>rfl
 rw[if_neg h9]
 by_cases h10:o.code=16
 ·rw[if_pos h10]
  intro hl
  exact gD (hf.2.2.2.1 h10).1 ha (by simpa[xX] using hl)
 rw[if_neg h10]
 by_cases h11:o.code=17
 ·rw[if_pos h11]
  intro _
  split <;> rfl
 rw[if_neg h11]
 exact fun _=>rfl
theorem cE {p:ProgL} {s:StL} {k:Nat} (hk:k<s.ths.length) (hr:s.ths[k].ready p s k) {a:Int} (ha:0≤a) (hl:xX (stepL p s k).2≠a):(stepL p s k).1.owner.getD a.toNat 0=s.owner.getD a.toNat 0:=by
 have hg:s.ths.getD k th0=s.ths[k]:=by simp[List.getD_eq_getElem?_getD,hk]
 revert hl
 unfold stepL
 simp only[hg]
 split
 ·rename_i h4
  intro hl
  exact gD (hr.lock h4).1 ha (by simpa[xX] using hl)
 ·split
  ·exact fun _=>rfl
  ·rename_i o ho
   split
   ·rename_i hf
    exact do_owner ha ((hr.op o ho).2 hf)
   ·exact fun _=>rfl
theorem bind12 {a b:Ev} (h:a.kind=12):gM a b:=by
 unfold gM;simp[h]
theorem do_fault (s:StL) (k:Nat) (o:OpL) (e:Ev):(doL s k o e).1.fault=s.fault:=by
 unfold doL
 simp only
 by_cases h0:o.code=1
 ·rw[if_pos h0];rfl
 rw[if_neg h0]
 by_cases h1:o.code=2
 ·rw[if_pos h1];rfl
 rw[if_neg h1]
 by_cases h2:o.code=3
 ·rw[if_pos h2];rfl
 rw[if_neg h2]
 by_cases h3:o.code=10
 ·rw[if_pos h3];rfl
 rw[if_neg h3]
 by_cases h4:o.code=11
 ·rw[if_pos h4];rfl
 rw[if_neg h4]
 by_cases h5:o.code=12
 ·rw[if_pos h5];rfl
 rw[if_neg h5]
 by_cases h6:o.code=13
 ·rw[if_pos h6];rfl
 rw[if_neg h6]
 by_cases h7:o.code=14
 ·rw[if_pos h7];rfl
 rw[if_neg h7]
 by_cases h8:o.code=15
 ·rw[if_pos h8];rfl
 rw[if_neg h8]
 by_cases h9:o.code=16
 ·rw[if_pos h9];rfl
 rw[if_neg h9]
 by_cases h17:o.code=17
 ·rw[if_pos h17]
  split <;> rfl
 rw[if_neg h17];rfl
theorem step_fault (p:ProgL) (s:StL) (k:Nat):(stepL p s k).1.fault=s.fault∨(stepL p s k).2.kind=12:=by
 unfold stepL
 simp only
 split
 ·exact .inl rfl
 ·split
  ·exact .inl rfl
  ·split
   ·exact .inl (do_fault _ _ _ _)
   ·exact .inr rfl
def tU:Prop:=∀ (x:Nat) (n m j:Int),1≤n→n≤m→m≤5→yN x n=some j→yN x m=some j
theorem aT {p:ProgL} {s:StL} {u:Nat}:u∈enabledL p s↔u<s.ths.length∧s.fault=0∧((s.ths.getD u th0).st=1∨(s.ths.getD u th0).st=4)∧zJ p s (s.ths.getD u th0)<0:=by
 unfold enabledL zI
 rw[List.mem_filter,List.mem_range]
 unfold qU
 rw[decide_eq_true_iff]
theorem en_keep (hM:tU) {p:ProgL} (hg:p.goodS) (hv:p.flt) {s:StL} (hi:AInv p s) {u k:Nat} (hu:u∈enabledL p s) (hk:k∈enabledL p s) (hne:u≠k) (hh:¬ nR (stepL p s u).2 (stepL p s k).2):u∈enabledL p (stepL p s k).1:=by
 obtain⟨ul,u0,us,ub⟩:=aT.1 hu
 obtain⟨kl,k0,ks,kb⟩:=aT.1 hk
 have hru:=inv_ready hg hi.si ul
 have hrk:=inv_ready hg hi.si kl
 have hgu:s.ths.getD u th0=s.ths[u]:=by simp[List.getD_eq_getElem?_getD,ul]
 have hgk:s.ths.getD k th0=s.ths[k]:=by simp[List.getD_eq_getElem?_getD,kl]
 have hsame:(stepL p s k).1.ths.getD u th0=s.ths.getD u th0:=cF ul hne (by rcases us with e|e <;> rw[e] <;> decide)
 have hlen:=step_len p s k
 have hku:(stepL p s u).2.kind≠12:=fun e=>hh (.inr (.inl (bind12 e)))
 have hkk:(stepL p s k).2.kind≠12:=fun e=>hh (.inr (.inr (.inl (bind12 e))))
 have hlk:¬ (xX (stepL p s u).2=xX (stepL p s k).2∧xX (stepL p s u).2≠-2):=fun e=>hh (.inr (.inr (.inr e)))
 have hs5:(stepL p s k).1.ths.length≤5:=(runOK hg).small _ (rR hg hv hk hi).si |>.2
 refine aT.2 ⟨by omega,((step_fault p s k).resolve_right hkk).trans u0,by rw[hsame];exact us,?_⟩
 rw[hsame]
 rw[hgu] at ub us ⊢
 unfold zJ at ub ⊢
 by_cases h4:s.ths[u].st=4
 ·rw[if_pos h4] at ub ⊢
  have he:xX (stepL p s u).2=s.ths[u].lock:=by
   unfold stepL
   simp only[hgu,if_pos h4]
   simp[xX]
  have hl0:=(hru.lock h4).1
  rw[cE kl hrk hl0 (by rw[he] at hlk;omega)]
  exact ub
 ·rw[if_neg h4] at ub ⊢
  have h1:s.ths[u].st=1:=us.resolve_right h4
  cases hn:yE p s.ths[u] with
  |none=>simp
  |some o =>
   rw[hn] at ub
   simp only[if_pos h1] at ub ⊢
   have hf:zZ s u o=0:=by
    apply Classical.byContradiction
    intro hf
    apply hku
    unfold stepL
    simp only[hgu,if_neg h4,hn,if_neg hf]
   by_cases h12:o.code=12
   ·rw[if_pos h12] at ub ⊢
    have he:xX (stepL p s u).2=o.a:=by
     unfold stepL
     simp only[hgu,if_neg h4,hn,if_pos hf]
     unfold doL
     simp[h12,xX]
    have ha:=(((hru.op o hn).2 hf).2.2.1 (.inl h12)).1
    rw[cE kl hrk ha (by rw[he] at hlk;omega)]
    exact ub
   ·rw[if_neg h12] at ub ⊢
    by_cases h15:o.code=15
    ·rw[if_pos h15] at ub ⊢
     cases hj:zY s s.ths[u] with
     |none =>
      exfalso
      have:zZ s u o=0:=hf
      unfold zZ at this
      simp only[hgu,hj] at this
      split at this
      ·cases this
      ·split at this
       ·cases this
       ·rw[if_pos ⟨h15,by decide⟩] at this;cases this
     |some j =>
      rw[hj] at ub
      simp only at ub
      have hjr:=jO idxRange hj
      have hd:(s.ths.getD j.toNat th0).st=2:=by
       apply Classical.byContradiction
       intro e
       rw[if_neg e] at ub
       omega
      have hjk:j.toNat≠k:=by
       rintro rfl
       rcases ks with e|e <;> rw[hd] at e <;> cases e
      have hj':zY (stepL p s k).1 s.ths[u]=some j:=by
       unfold zY at hj ⊢
       cases hl:s.ths[u].stack.getLast? with
       |none=>rw[hl] at hj;cases hj
       |some x =>
        rw[hl] at hj
        exact hM x _ _ j (by omega) (by omega) (by omega) hj
      rw[hj']
      simp only
      rw[cF (by omega) hjk (by rw[hd];decide),if_pos hd]
      decide
    ·rw[if_neg h15]
     decide
end Ai
namespace Ai
set_option maxRecDepth 100000
open Go Go.Proofs Cyc
def rV (e:Ev):Prop:=((e.kind=4∨e.kind=5)→0≤e.obj)∧((e.kind=8∨e.kind=9)→0≤e.lock)
theorem oY {e:Ev} (h:rV e):(xX e=-2∧gI e=-1)∨(0≤xX e∧gI e=xX e):=by
 obtain⟨h1,h2⟩:=h
 unfold xX gI cD aU
 by_cases k4:e.kind=4
 ·have:=h1 (.inl k4);simp[k4];omega
 by_cases k5:e.kind=5
 ·have:=h1 (.inr k5);simp[k5];omega
 by_cases k8:e.kind=8
 ·have:=h2 (.inl k8);simp[k8];omega
 by_cases k9:e.kind=9
 ·have:=h2 (.inr k9);simp[k9];omega
 simp[k4,k5,k8,k9]
theorem hang_same {a b:Ev} (ha:rV a) (hb:rV b):nR a b↔aS a b:=by
 unfold nR aS
 have h1:=oY ha
 have h2:=oY hb
 have:(xX a=xX b∧xX a≠-2)↔(0≤gI a∧gI a=gI b):=by omega
 rw[this]
theorem do_lock {s:StL} {k:Nat} {o:OpL} {e:Ev} {t:Th} (hf:o.fits s t):rV (doL s k o e).2:=by
 have ok:∀ e':Ev,e'.kind≠4→e'.kind≠5→e'.kind≠8→e'.kind≠9→rV e':=fun e' a b c d=>⟨fun h=>(h.elim a b).elim,fun h=>(h.elim c d).elim⟩
 unfold doL
 simp only
 by_cases h1:o.code=1
 ·rw[if_pos h1];exact ok _ (by simp) (by simp) (by simp) (by simp)
 rw[if_neg h1]
 by_cases h2:o.code=2
 ·rw[if_pos h2];exact ok _ (by simp) (by simp) (by simp) (by simp)
 rw[if_neg h2]
 by_cases h3:o.code=3
 ·rw[if_pos h3];exact ok _ (by simp) (by simp) (by simp) (by simp)
 rw[if_neg h3]
 by_cases h4:o.code=10
 ·rw[if_pos h4];exact ok _ (by simp) (by simp) (by simp) (by simp)
 rw[if_neg h4]
 by_cases h5:o.code=11
 ·rw[if_pos h5];exact ok _ (by simp) (by simp) (by simp) (by simp)
 rw[if_neg h5]
 by_cases h6:o.code=12
 ·rw[if_pos h6]
  exact⟨fun _=>(hf.2.2.1 (.inl h6)).1,fun h=>by simp at h⟩
 rw[if_neg h6]
 by_cases h7:o.code=13
 ·rw[if_pos h7]
  exact⟨fun _=>(hf.2.2.1 (.inr h7)).1,fun h=>by simp at h⟩
 rw[if_neg h7]
 by_cases h8:o.code=14
 ·rw[if_pos h8];exact ok _ (by simp) (by simp) (by simp) (by simp)
 rw[if_neg h8]
 by_cases h9:o.code=15
 ·rw[if_pos h9];exact ok _ (by simp) (by simp) (by simp) (by simp)
 rw[if_neg h9]
 by_cases h10:o.code=16
 ·rw[if_pos h10]
  exact⟨fun h=>by simp at h,fun _=>(hf.2.2.2.1 h10).1⟩
 rw[if_neg h10]
 by_cases h11:o.code=17
 ·rw[if_pos h11]
  split <;> exact ok _ (by simp) (by simp) (by simp) (by simp)
 rw[if_neg h11]
 exact ok _ (by simp) (by simp) (by simp) (by simp)
theorem oD {p:ProgL} {s:StL} {k:Nat} (hk:k<s.ths.length) (hr:s.ths[k].ready p s k):rV (stepL p s k).2:=by
 have hg:s.ths.getD k th0=s.ths[k]:=by simp[List.getD_eq_getElem?_getD,hk]
 unfold stepL
 simp only[hg]
 split
 ·rename_i h4
  exact⟨fun h=>by simp at h,fun _=>(hr.lock h4).1⟩
 ·split
  ·exact⟨fun h=>by simp at h,fun h=>by simp at h⟩
  ·rename_i o ho
   split
   ·rename_i hf
    exact do_lock ((hr.op o ho).2 hf)
   ·exact⟨fun h=>by simp at h,fun h=>by simp at h⟩
theorem kept_same (hM:tU) {p:ProgL} (hg:p.goodS) (hv:p.flt) {s:StL} (hi:AInv p s) {L:List Nat} {k:Nat} (hL:∀ u∈L,u∈enabledL p s) (hk:k∈enabledL p s) :
  keptBy (keepS p) s L (stepL p s k).2=keptBy (yK p) s L (stepL p s k).2∧∀ u∈keptBy (yK p) s L (stepL p s k).2,u∈enabledL p (stepL p s k).1:=by
 have hsm:∀ u∈L,(nR (stepL p s u).2 (stepL p s k).2↔aS (stepL p s u).2 (stepL p s k).2):=fun u hu =>
  hang_same (oD (en_lt (hL u hu)) (inv_ready hg hi.si _)) (oD (en_lt hk) (inv_ready hg hi.si _))
 constructor
 ·unfold keptBy
  refine List.filter_congr fun u hu=>?_
  refine congrArg (fun q:Prop=>@decide q (Classical.propDecidable q)) (propext ?_)
  unfold keepS yK
  rw[hsm u hu]
  exact⟨fun h e=>h e.2,fun h e=>h ⟨hL u hu,e⟩⟩
 ·intro u hu
  unfold keptBy at hu
  obtain⟨h1,h2⟩:=List.mem_filter.1 hu
  have h2:=@of_decide_eq_true _ (Classical.propDecidable _) h2
  unfold yK at h2
  have hh:¬ nR (stepL p s u).2 (stepL p s k).2:=fun e=>h2 ⟨hL u h1,(hsm u h1).1 e⟩
  have hne:u≠k:=by
   rintro rfl
   exact hh (.inl rfl)
  exact en_keep hM hg hv hi (hL u h1) hk hne hh
theorem iU (hM:tU) {p:ProgL} (hg:p.goodS) (hv:p.flt) {b:Int}:∀ (n:Nat) (r:RunT) (sleep:List Nat) (acc:List RunT),XR p b r→(∀ u∈sleep,u∈enabledL p r.s)→xgo p b true (keepS p) n r sleep acc=xgo p b true (yK p) n r sleep acc
 | 0,_,_,_,_,_=>rfl
 |n+1,r,sleep,acc,hr,hs=>by
  rw[xgo,xgo]
  split
  ·rfl
  ·rename_i hc
   have:∀ k,k≤(enabledL p r.s).length→xloop p true (keepS p) (xgo p b true (keepS p) n) r sleep acc k=xloop p true (yK p) (xgo p b true (yK p) n) r sleep acc k:=by
    intro k
    induction k with
    |zero=>intro _;rfl
    |succ k ih =>
     intro hk
     have ih:=ih (by omega)
     rw[xloop,xloop,ih]
     split
     ·rfl
     ·have ht:=(xloop_tried (p:=p) (sl:=true) (K:=yK p) (f:=xgo p b true (yK p) n) (r:=r) (sleep:=sleep) (acc:=acc) k (by omega)).2
      have hm:=XR.mem (b:=b) (show k<(enabledL p r.s).length by omega)
      have hL:∀ u∈sleep++(xloop p true (yK p) (xgo p b true (yK p) n) r sleep acc k).tried,u∈enabledL p r.s:=fun u hu=>(List.mem_append.1 hu).elim (hs u) (ht u)
      obtain⟨e1,e2⟩:=kept_same hM hg hv hr.inv hL hm
      rw[e1,iU hM hg hv n (runBy p r k) _ _ (hr.step hg hv hc (by omega)) e2]
   rw[this _ (Nat.le_refl _)]
end Ai
namespace Ai
set_option maxRecDepth 100000
open Go Go.Proofs Ieee
theorem scl_fw {m b k:Nat} {i:Int} (o2:m*2 ^ (i - min i (-(k:Int))).toNat<b*2 ^ k*2 ^ (-(k:Int) - min i (-(k:Int))).toNat):m*2 ^ i.toNat<b*2 ^ (-i).toNat:=by
 by_cases hi:0≤i
 ·rw[Int.min_eq_right (by omega)] at o2
  have e1:(i - -(k:Int)).toNat=i.toNat+k:=by omega
  have e2:(-(k:Int) - -(k:Int)).toNat=0:=by omega
  rw[e1,e2,Nat.pow_add,Nat.pow_zero,Nat.mul_one,← Nat.mul_assoc] at o2
  have e3:(-i).toNat=0:=by omega
  rw[e3,Nat.pow_zero,Nat.mul_one]
  exact Nat.lt_of_mul_lt_mul_right o2
 ·have e3:i.toNat=0:=by omega
  rw[e3,Nat.pow_zero,Nat.mul_one]
  by_cases hik:i≤-(k:Int)
  ·rw[Int.min_eq_left hik] at o2
   have e1:(i - i).toNat=0:=by omega
   have e2:(-i).toNat=k+(-(k:Int) - i).toNat:=by omega
   rw[e1,Nat.pow_zero,Nat.mul_one,Nat.mul_assoc,← Nat.pow_add] at o2
   rw[e2];exact o2
  ·rw[Int.min_eq_right (by omega)] at o2
   have e1:k=(-i).toNat+(i - -(k:Int)).toNat:=by omega
   have e2:(-(k:Int) - -(k:Int)).toNat=0:=by omega
   rw[e2,Nat.pow_zero,Nat.mul_one] at o2
   generalize hq:(i - -(k:Int)).toNat=q at *
   rw[e1,Nat.pow_add,← Nat.mul_assoc] at o2
   exact Nat.lt_of_mul_lt_mul_right o2
theorem scl_bw {m b k:Nat} {i:Int} (o2:m*2 ^ i.toNat<b*2 ^ (-i).toNat):m*2 ^ (i - min i (-(k:Int))).toNat<b*2 ^ k*2 ^ (-(k:Int) - min i (-(k:Int))).toNat:=by
 by_cases hi:0≤i
 ·rw[Int.min_eq_right (by omega)]
  have e1:(i - -(k:Int)).toNat=i.toNat+k:=by omega
  have e2:(-(k:Int) - -(k:Int)).toNat=0:=by omega
  rw[e1,e2,Nat.pow_add,Nat.pow_zero,Nat.mul_one,← Nat.mul_assoc]
  have e3:(-i).toNat=0:=by omega
  rw[e3,Nat.pow_zero,Nat.mul_one] at o2
  exact Nat.mul_lt_mul_of_pos_right o2 (Nat.pow_pos (by decide))
 ·have e3:i.toNat=0:=by omega
  rw[e3,Nat.pow_zero,Nat.mul_one] at o2
  by_cases hik:i≤-(k:Int)
  ·rw[Int.min_eq_left hik]
   have e1:(i - i).toNat=0:=by omega
   have e2:(-i).toNat=k+(-(k:Int) - i).toNat:=by omega
   rw[e1,Nat.pow_zero,Nat.mul_one,Nat.mul_assoc,← Nat.pow_add]
   rw[e2] at o2;exact o2
  ·rw[Int.min_eq_right (by omega)]
   have e1:k=(-i).toNat+(i - -(k:Int)).toNat:=by omega
   have e2:(-(k:Int) - -(k:Int)).toNat=0:=by omega
   rw[e2,Nat.pow_zero,Nat.mul_one]
   generalize hq:(i - -(k:Int)).toNat=q at *
   rw[e1,Nat.pow_add,← Nat.mul_assoc]
   exact Nat.mul_lt_mul_of_pos_right o2 (Nat.pow_pos (by decide))
theorem lss_mono {x b c:Nat} (h1:1≤b) (hbc:b≤c) (hc:c≤1000) (hx0:fcmp .lss x 0=false) (h:fcmp .lss x (FloatKind.f64.nearest (b:Int))=true):fcmp .lss x (FloatKind.f64.nearest (c:Int))=true:=by
 obtain⟨k,hk⟩:=lM (m:=b) (by omega) (by omega)
 obtain⟨k2,hk2⟩:=lM (m:=c) (by omega) (by omega)
 have o1:double.order x 0≠some .lt:=by simpa[fcmp] using hx0
 have o2:double.order x (FloatKind.f64.nearest (b:Int))=some .lt:=by simpa[fcmp] using h
 suffices o3:double.order x (FloatKind.f64.nearest (c:Int))=some .lt by simpa[fcmp] using o3
 unfold Format.order at o1 o2 ⊢
 rw[kC] at o1
 rw[hk] at o2
 rw[hk2]
 cases hd:double.read x with
 |nan s f=>rw[hd] at o2;cases o2
 |infinity s =>
  rw[hd] at o1 o2
  simp only[Datum.order] at o1 o2
  exact absurd o2 o1
 |number s m i =>
  rw[hd] at o1 o2
  simp only[Datum.order,Option.some.injEq,ne_eq] at o1 o2 ⊢
  rw[cmp_lt] at o1 o2 ⊢
  have hs:s=false∨m=0:=by
   cases s with
   |false=>exact .inl rfl
   |true =>
    right
    simp only[signed,if_true,Nat.shiftLeft_eq] at o1
    by_cases hm:m=0
    ·exact hm
    ·exfalso
     apply o1
     have:0<m*2 ^ (i - min i double.leastPlace).toNat:=Nat.mul_pos (by omega) (Nat.pow_pos (by decide))
     simp
     omega
  rcases hs with rfl|rfl
  ·simp only[signed,Bool.false_eq_true,if_false,Nat.shiftLeft_eq,Int.ofNat_lt] at o2 ⊢
   have o2:m*2 ^ (i - min i (-(k:Int))).toNat<b*2 ^ k*2 ^ (-(k:Int) - min i (-(k:Int))).toNat:=by exact_mod_cast o2
   have o3:=scl_bw (k:=k2) (Nat.lt_of_lt_of_le (scl_fw o2) (Nat.mul_le_mul_right _ hbc))
   exact_mod_cast o3
  ·have hp:0<c*2 ^ k2*2 ^ (-(k2:Int) - min i (-(k2:Int))).toNat:=Nat.mul_pos (Nat.mul_pos (by omega) (Nat.pow_pos (by decide))) (Nat.pow_pos (by decide))
   cases s <;> simp only[signed,Bool.false_eq_true,if_false,if_true,Nat.shiftLeft_eq,Nat.zero_mul,Int.ofNat_lt]
   ·exact_mod_cast hp
   ·simp only[Int.natCast_zero,Int.neg_zero]
    exact_mod_cast hp
theorem idxMono:tU:=by
 intro x n m j h1 hnm h5 h
 obtain⟨b,rfl⟩:∃ b:Nat,n=(b:Int):=⟨n.toNat,by omega⟩
 obtain⟨c,rfl⟩:∃ c:Nat,m=(c:Int):=⟨m.toNat,by omega⟩
 unfold yN at h ⊢
 split at h
 ·rename_i hc
  rw[if_pos ⟨⟨by omega,by omega⟩,hc.2.1,lss_mono (by omega) (by omega) (by omega) hc.2.1 hc.2.2⟩]
  exact h
 ·cases h
end Ai
namespace Ai
open Go Go.Proofs Cyc
theorem r4 {p:ProgL} {b:Int} {sl:Bool} {K:StL→Nat→Ev→Prop} (n:Nat) (r:RunT) (sleep:List Nat):gQ ((xgo p b sl K n r sleep []).1.map RunT.tk):=by
 obtain⟨new,h1,_,h3⟩:=(xgo_new (p:=p) (b:=b) (sl:=sl) (K:=K) n r sleep []).ex
 rw[h1,List.nil_append]
 exact List.pairwise_map.2 h3
theorem allR_rise (p:ProgL) (b:Int):gQ ((qV p b).1.map RunT.tk):=r4 _ _ _
theorem allX_rise (p:ProgL) (b:Int) (sl:Bool):gQ ((mQ p b sl).1.map RunT.tk):=r4 _ _ _
theorem a0 {l:List RunT} (f:RunT→Bool) (h:gQ (l.map RunT.tk)):gQ ((l.filter f).map RunT.tk) :=
 List.pairwise_map.2 ((List.pairwise_map.1 h).sublist (List.filter_sublist))
theorem sleepI_eq {p:ProgL} (hg:p.goodS) (hv:p.flt) {b:Int} (hb:0≤b):xgo p b true (yK p) (b.toNat+1) ⟨0,[],[],xC p⟩ [] []=mQ p b true :=
 (iU idxMono hg hv _ _ _ _ (XR.new hg hb) (fun u hu=>(by cases hu))).symm
theorem allX_end {p:ProgL} (hg:p.goodS) (hv:p.flt) {b:Int} (hb:0≤b) (sl:Bool):∀ x∈(mQ p b sl).1,XEnd p b x:=u7 hg hv _ _ _ _ (XR.new hg hb) fun x hx=>(by cases hx)
theorem allX_len (p:ProgL) (b:Int) (sl:Bool):(mQ p b sl).1.length≤401:=(tI _ _ _ _ (Nat.zero_le _)).1
end Ai
namespace Ai
set_option maxRecDepth 100000
open Go Go.Proofs Cyc
theorem rows_of {p:ProgL} {b:Int} {xs:List RunT} (hb:b≤14) (hn:xs.length≤401) (hall:∀ x∈xs,XEnd p b x) (hr:gQ (xs.map RunT.tk)):RowsUp (xs.map RunT.tk) :=
 ⟨hr,by simp;omega,fun y hy=>by
  obtain⟨x,hx,rfl⟩:=List.mem_map.1 hy
  have h1:=(hall x hx).fin.le
  have h2:=(hall x hx).fin.len
  omega⟩
end Ai
namespace Ai
set_option maxRecDepth 100000
open Go Go.Proofs
def vA (l:List (List Int)) (i:Nat):Nat:=((l.take i).map List.length).sum
theorem pJ {l:List (List Int)} {i:Nat} (h:i<l.length):vA l (i+1)=vA l i+l[i].length:=by
 unfold vA
 rw[List.take_succ_eq_append_getElem h,List.map_append,List.sum_append]
 simp
theorem totQ_le (l:List (List Int)) (i:Nat):vA l i≤vA l l.length:=by
 unfold vA
 rw[List.take_length]
 have:∀ (l:List Nat) (i:Nat),(l.take i).sum≤l.sum:=by
  intro l
  induction l with
  |nil=>simp
  |cons x xs ih =>
   intro i
   cases i with
   |zero=>simp
   |succ i=>simp only[List.take_succ_cons,List.sum_cons];have:=ih i;omega
 rw[List.map_take]
 exact this _ i
def uF (l:List (List Int)) (k:Int) (i:Nat):List (List Int):=l.mapIdx fun j x=>if j<i then qY (k+vA l j) x.length else x
theorem jN (l:List (List Int)) (k:Int) (i:Nat):(uF l k i).length=l.length:=by simp[uF]
theorem mixQ_get (l:List (List Int)) (k:Int) (i j:Nat) (h:j<l.length):(uF l k i)[j]'(by rw[jN];exact h)=if j<i then qY (k+vA l j) l[j].length else l[j]:=by simp[uF]
theorem fA (l:List (List Int)) (k:Int) (i j:Nat) (h:j<l.length):(uF l k i).getD j []=if j<i then qY (k+vA l j) l[j].length else l[j]:=by
 rw[List.getD_eq_getElem?_getD,List.getElem?_eq_getElem (by rw[jN];exact h),Option.getD_some,mixQ_get _ _ _ _ h]
theorem mixQ_getlen (l:List (List Int)) (k:Int) (i j:Nat):((uF l k i).getD j []).length=(l.getD j []).length:=by
 by_cases h:j<l.length
 ·rw[fA _ _ _ _ h]
  have e:l.getD j []=l[j]:=by simp[List.getD_eq_getElem?_getD,h]
  rw[e]
  split
  ·rw[fC]
  ·rfl
 ·simp[List.getD_eq_getElem?_getD,List.getElem?_eq_none (show l.length≤j by omega),List.getElem?_eq_none (show(uF l k i).length≤j by rw[jN];omega)]
theorem mixQ_zero (l:List (List Int)) (k:Int):uF l k 0=l:=by
 apply List.ext_getElem?
 intro j
 simp[uF]
theorem rwsQ_mix (o:Nat) (l:List (List Int)) (k:Int) (i n:Nat):xW o (uF l k i) n=xW o l n:=by
 unfold xW
 refine List.map_congr_left fun j _=>?_
 unfold rwQ
 rw[mixQ_getlen]
theorem uM (l:List (List Int)) (hx:l.length≤1048576) (hx2:∀ x∈l,x.length≤1048576):CallsTo EE 15 [sl (l.map xG),sl (l.map xG)] (·=bv true):=by
 refine callsTo_of_AW (fn:=Tryz.f15) Tryz.func15 rfl (by kernel_rfl) rfl ?_
 conv=>whnf
 refine kbi (fun h=>absurd h (by simp)) (fun _=>?_)
 conv=>whnf
 refine yV (fun k:Nat=>[(0,sl (l.map xG)),(1,sl (l.map xG)),(5,i64 k)]) (fun k=>[]) (fun k=>l.length - k) (fun k=>k≤l.length) 0
  Weak.refl ⟨rfl,rfl,rfl,trivial⟩ trivial (Nat.zero_le _) ?_
 intro k τ H hk
 have hk:k≤l.length:=hk
 conv=>whnf
 refine kbi (fun h=>?_) (fun h=>?_)
 ·have hlt:=xF h
  conv=>whnf
  refine⟨by kernel_rfl,?_⟩
  conv=>whnf
  refine⟨xG l[k],yA xG hlt rfl,?_⟩
  conv=>whnf
  refine⟨xG l[k],yA xG hlt rfl,?_⟩
  conv=>whnf
  refine⟨_,eqIntS_ok l[k] (hx2 _ (List.getElem_mem hlt)),?_⟩
  conv=>whnf
  refine⟨k+1,hlt,by show l.length - (k+1)<l.length - k;omega,⟨rfl,rfl,next_i64 hlt (by omega),trivial⟩,trivial⟩
 ·conv=>whnf
  try rfl
theorem nQ (l:List (List Int)) (k:Int) (hx:l.length≤1048576) (ht:vA l l.length≤1048576) (h0:0≤k) (h1:k≤1048576):CallsTo EE 19 [sl ((uF l k l.length).map xG),i64 k] (·=i64 (k+vA l l.length)):=by
 refine callsTo_of_AW (fn:=Tryz.f19) Tryz.func19 rfl (by kernel_rfl) rfl ?_
 conv=>whnf
 refine yV (fun i:Nat=>[(0,sl ((uF l k l.length).map xG)),(1,i64 (k+(vA l i:Int))),(5,i64 i)]) (fun i=>[]) (fun i=>l.length - i) (fun i=>i≤l.length) 0
  Weak.refl ⟨rfl,?_,rfl,trivial⟩ trivial (Nat.zero_le _) ?_
 ·show i64 k=i64 (k+((vA l 0:Nat):Int))
  rw[show k+((vA l 0:Nat):Int)=k by simp[vA]]
 intro i τ H hi
 have hi:i≤l.length:=hi
 conv=>whnf
 refine kbi (fun h=>?_) (fun h=>?_)
 ·have hlt0:=xF h
  have hlt:i<l.length:=by rw[jN] at hlt0;exact hlt0
  have hts:=pJ hlt
  have htl:=totQ_le l (i+1)
  have hg:(uF l k l.length)[i]=qY (k+vA l i) l[i].length:=by rw[mixQ_get _ _ _ _ hlt,if_pos hlt]
  conv=>whnf
  refine⟨xG (uF l k l.length)[i],yA xG hlt0 rfl,?_⟩
  rw[hg]
  conv=>whnf
  refine⟨_,heldIntS_ok (k+vA l i) l[i].length (by omega) (by omega) (by omega),?_⟩
  rintro r rfl
  conv=>whnf
  refine kbi (fun h=>absurd h (by simp;omega)) (fun _=>?_)
  conv=>whnf
  refine⟨i+1,hlt,by show l.length - (i+1)<l.length - i;omega,⟨rfl,?_,next_i64 hlt (by omega),trivial⟩,trivial⟩
  show i64 (k+((vA l i:Nat):Int)+((l[i].length:Nat):Int))=i64 (k+((vA l (i+1):Nat):Int))
  rw[hts]
  exact congrArg i64 (by omega)
 ·have hkk:i=l.length:=by
   have:¬ i<(uF l k l.length).length:=by simpa using h
   rw[jN] at this
   omega
  subst hkk
  conv=>whnf
  try rfl
end Ai
namespace Ai
set_option maxRecDepth 100000
open Go Go.Proofs
def aL:Key→Bool
 | .n k=>false
 | .s o _=>Nat.beq o 943
 | .l k=>Nat.beq k 76
theorem nK (l:List (List Int)) (k:Int) (hx:l.length≤1048576) (ht:vA l l.length≤1048576) (h0:0≤k) (h1:k≤1048576) (H0:Key→Option Ob)
  (hH:H0 (.l 76)=some (.rs 41 1 (xW 943 l l.length))) (hF:∀ j,H0 (.s 943 j)=fmQ l l.length j) :
  IOCall EE 18 [.dref (.l 76) l.length,i64 k] H0 (fun r H1=>r=i64 (k+vA l l.length)∧H1 (.l 76)=some (.rs 41 1 (xW 943 l l.length))∧(∀ j,H1 (.s 943 j)=fmQ (uF l k l.length) l.length j)∧∀ κ,aL κ=false→H1 κ=none):=by
 refine io_of_AW (fn:=Tryz.f18) (c:=Tryz.f18.body.getD .skip) Tryz.func18 rfl (by kernel_rfl) rfl ?_
 have hat:At [(0,.dref (.l 76) l.length),(1,i64 k)] [(.l 76,.rs 41 1 (xW 943 l l.length))] [(943,fmQ l l.length)] ⟨fun i=>[AV.dref (.l 76) l.length,i64 k].getD i .junk,H0⟩:=⟨⟨rfl,rfl,trivial⟩,⟨hH,trivial⟩,⟨hF,trivial⟩⟩
 obtain⟨τ,H,hf⟩:=hat.form
 rw[hf]
 conv=>whnf
 refine aloopF (fun i:Nat=>[(0,.dref (.l 76) l.length),(1,i64 (k+(vA l i:Int))),(5,i64 i)]) (fun i=>[(.l 76,.rs 41 1 (xW 943 l l.length))]) (fun i=>[(943,fmQ (uF l k i) l.length)]) (fun i=>l.length - i) (fun i=>i≤l.length) 0
  Weak.refl ⟨rfl,?_,rfl,trivial⟩ ⟨rfl,trivial⟩ ⟨fun j=>?_,trivial⟩ (Nat.zero_le _) ?_
 ·show i64 k=i64 (k+((vA l 0:Nat):Int))
  rw[show k+((vA l 0:Nat):Int)=k by simp[vA]]
 ·rw[mixQ_zero];rfl
 intro i τ H hi
 have hi:i≤l.length:=hi
 conv=>whnf
 refine kbi (fun h=>?_) (fun h=>?_)
 ·have hlt:i<l.length:=by simpa using h
  have hts:=pJ hlt
  have htl:=totQ_le l (i+1)
  have hgi:l.getD i []=l[i]:=by simp[List.getD_eq_getElem?_getD,hlt]
  conv=>whnf
  refine⟨⟨by omega,by omega⟩,?_⟩
  conv=>whnf
  refine⟨[.ref (.s 943 i) 0 l[i].length],⟨?_,Nat.le_refl _⟩,?_⟩
  ·simp[xW,rwQ,hlt]
  conv=>whnf
  have hfi:fmQ (uF l k i) l.length i=some (.ds 3 1 (l[i].map encInt)):=by
   unfold fmQ
   rw[if_pos hlt,fA _ _ _ _ hlt,if_neg (by omega)]
  have hsw:swp (.n 77) (.s 943 i) (.s 943 i)=.n 77:=by simp[swp,Key.beq]
  have hsn:swp (.n 77) (.s 943 i) (.n 77)=.s 943 i:=by simp[swp,Key.beq]
  have hne:∀ j,j≠i→swp (.n 77) (.s 943 i) (.s 943 j)=.s 943 j:=fun j hj=>by simp[swp,Key.beq,nbeq_ne hj]
  split
  case' h_1=>conv=>whnf
  case' h_1=>refine .inr (.inr (.inr (.inr (.inr ?_))))
  case' h_2=>refine .inr (.inr (.inr (.inr ?_)))
  all_goals
   refine⟨_,31,[],uC 77 943 i,rfl,77,77,isK (.l 77),(fun r H1=>r=i64 ((k+(vA l i:Int))+l[i].length)∧H1 (.l 77)=some (.ds 3 1 ((qY (k+(vA l i:Int)) l[i].length).map encInt))∧∀ κ',isK (.l 77) κ'=false→H1 κ'=none),?_,rfl,?_⟩
   ·refine io_congr (markIntS_ok (.l 77) (.inr rfl) l[i] (k+(vA l i:Int)) (by omega) (by omega) (by omega) _ ?_) ?_
    ·show Option.map _ (Option.map _ (Option.map _ (fmQ (uF l k i) l.length i)))=_
     rw[hfi];rfl
    ·show[scrP _ (.ref (swp (.n 77) (.l 77) (swp (.n 77) (.s 943 i) (.s 943 i))) 0 l[i].length),_]=_
     rw[hsw];rfl
   ·rintro r H1 ⟨rfl,e1,q⟩
    refine⟨q,fun n hn=>⟨.ds 3 1 (l[i].map encInt),?_,(qY (k+(vA l i:Int)) l[i].length).map encInt,?_,by simp[fC]⟩,?_⟩
    ·have:n=77:=Nat.eq_of_beq_eq_true hn
     subst this
     show Option.map _ (Option.map _ (fmQ (uF l k i) l.length i))=_
     rw[hfi];rfl
    ·have:n=77:=Nat.eq_of_beq_eq_true hn
     subst this
     exact e1
    conv=>whnf
    refine⟨i+1,_,uC 77 943 i,by show i+1≤l.length;omega,by show l.length - (i+1)<l.length - i;omega,⟨rfl,?_,next_i64 hlt (by omega),trivial⟩,⟨?_,trivial⟩,⟨fun j=>?_,trivial⟩⟩
    ·show i64 (k+((vA l i:Nat):Int)+((l[i].length:Nat):Int))=i64 (k+((vA l (i+1):Nat):Int))
     rw[hts]
     exact congrArg i64 (by omega)
    ·show some (Ob.rs 41 1 ((((((xW 943 l l.length).map (renL (swp (.n 77) (.s 943 i)))).map (renL (swp (.n 77) (.l 77)))).map (scrPL (qI (isK (.l 77))))).map (renL (swp (.n 77) (.l 77)))).map (renL (swp (.n 77) (.s 943 i)))))=_
     rw[List.map_map,List.map_map,List.map_map,List.map_map]
     refine congrArg (fun x=>some (Ob.rs 41 1 x)) ?_
     unfold xW
     rw[List.map_map]
     refine List.map_congr_left fun j _=>?_
     by_cases hj:j=i
     ·subst hj
      show renL _ (renL _ (scrPL _ (renL _ [AV.ref (swp (.n 77) (.s 943 j) (.s 943 j)) 0 _])))=_
      rw[hsw]
      show[AV.ref (swp (.n 77) (.s 943 j) (.n 77)) 0 _]=_
      rw[hsn]
      rfl
     ·show renL _ (renL _ (scrPL _ (renL _ [AV.ref (swp (.n 77) (.s 943 i) (.s 943 j)) 0 _])))=_
      rw[hne j hj]
      show[AV.ref (swp (.n 77) (.s 943 i) (.s 943 j)) 0 _]=_
      rw[hne j hj]
      rfl
    ·show(St.H _ (swp (.n 77) (.s 943 i) (.s 943 j))).map _=_
     by_cases hj:j=i
     ·subst hj
      rw[hsw]
      show Option.map _ (Option.map _ (H1 (.l 77)))=_
      rw[e1]
      unfold fmQ
      rw[if_pos hlt,fA _ _ _ _ hlt,if_pos (by omega)]
      rfl
     ·rw[hne j hj]
      show Option.map _ (Option.map _ (Option.map _ (Option.map _ (Option.map _ (St.H _ (swp (.n 77) (.s 943 i) (.s 943 j)))))))=_
      rw[hne j hj]
      show Option.map _ (Option.map _ (Option.map _ (Option.map _ (Option.map _ (fmQ (uF l k i) l.length j)))))=_
      rw[vE,vE,vY,vE,vE]
      unfold fmQ
      by_cases hjl:j<l.length
      ·rw[if_pos hjl,if_pos hjl,fA _ _ _ _ hjl,fA _ _ _ _ hjl]
       by_cases hji:j<i
       ·rw[if_pos hji,if_pos (by omega)]
       ·rw[if_neg hji,if_neg (by omega)]
      ·rw[if_neg hjl,if_neg hjl]
 ·conv=>whnf
  have hkk:i=l.length:=by
   have:¬ i<l.length:=by simpa using h
   omega
  subst hkk
  refine⟨_,Weak.refl,?_⟩
  conv=>whnf
  refine⟨aL,rfl,?_,fun j=>?_,fun κ hκ=>?_⟩
  ·show some (Ob.rs 41 1 ((xW 943 l l.length).map (scrPL (fun o=>!aL o))))=_
   rw[vJ _ _ (fun j=>rfl)]
  ·show Option.map _ (fmQ (uF l k l.length) l.length j)=_
   rw[vY]
  ·unfold yL
   rw[hκ];rfl
end Ai
namespace Ai
set_option maxRecDepth 100000
open Go Go.Proofs
def sG (p:ProgL):List AV:=[i64 p.cells,i64 p.locks,i64 p.conds,.uqd 157 1 0 183 4 (p.rs.map fun _=>[.nil]) (zE p)]
theorem pT (o:Nat) (p:ProgL):ownRows o 0 (p.rs.map fun _=>[.nil]) (zE p)=(List.range p.rs.length).map fun j=>[.ref (.s o j) 0 ((zE p).getD j []).length]:=by
 unfold ownRows
 apply List.ext_getElem?
 intro j
 by_cases h:j<p.rs.length
 ·simp[h]
 ·rw[List.getElem?_eq_none (by simp;omega),List.getElem?_eq_none (by simp;omega)]
theorem i9 {o o':Nat} {p:ProgL} (f:List AV→List AV) (h:∀ j n,f [.ref (.s o j) 0 n]=[.ref (.s o' j) 0 n]):(ownRows o 0 (p.rs.map fun _=>[.nil]) (zE p)).map f=ownRows o' 0 (p.rs.map fun _=>[.nil]) (zE p):=by
 rw[pT,pT,List.map_map]
 exact List.map_congr_left fun j _=>h j _
theorem lJ (p:ProgL):ownRows 903 0 (p.rs.map fun _=>[.nil]) (zE p)=wE (zE p) 0:=by
 rw[pT]
 unfold wE
 rw[show(zE p).length=p.rs.length by simp[zE]]
 refine List.map_congr_left fun j _=>?_
 unfold tC
 rw[if_neg (by omega)]
theorem fQ (p:ProgL) (h:p.rs.length≤1048576∧∀ x∈p.rs,x.length≤1048576):CallsTo EE 13 [agg (encProg p)] (·=.own (sG p)):=by
 refine callsTo_of_AW (fn:=Tryz.f13) Tryz.func13 rfl (by kernel_rfl) rfl ?_
 conv=>whnf
 refine⟨_,toOpSS_own _ h.1 h.2,?_⟩
 rintro r rfl
 conv=>whnf
 refine .inr (.inr ⟨sG p,_,q5 shA,rfl,?_,dI ⟨trivial,trivial,trivial,⟨?_,fun j q hq=>?_⟩,trivial⟩,rfl⟩)
 ·intro v hv
  simp only[sG,List.mem_cons,List.not_mem_nil,or_false] at hv
  rcases hv with rfl|rfl|rfl|rfl
  ·trivial
  ·trivial
  ·trivial
  ·show(p.rs.map _).length=(zE p).length
   simp[zE]
 ·show some (Ob.rs 157 1 ((ownRows 900 0 (p.rs.map fun _=>[.nil]) (zE p)).map (renL shA.f)))=some (Ob.rs 157 1 (ownRows 903 0 (p.rs.map fun _=>[.nil]) (zE p)))
  exact congrArg (fun x=>some (Ob.rs 157 1 x)) (i9 _ fun j n=>rfl)
 ·have hq:(zE p)[j]?=some q:=hq
  have e:ownH [.uqd 157 1 0 183 4 (p.rs.map fun _=>[.nil]) (zE p)] (.s 900 j)=some (.ds 183 4 q):=by
   show((zE p)[j]?).map (Ob.ds 183 4)=_
   rw[hq]
   rfl
  show Option.map (renO shA.f) (match ownH [.uqd 157 1 0 183 4 (p.rs.map fun _=>[.nil]) (zE p)] (.s 900 j) with|some ob=>some ob|none=>_)=_
  rw[e]
  rfl
end Ai
namespace Ai
set_option maxRecDepth 100000
open Go Go.Proofs Cyc
theorem lK {p:ProgL} {j:Nat}:ownH (sG p) (.s 903 j)=vN (zE p) 0 j:=by
 show((zE p)[j]?).map (Ob.ds 183 4)=_
 unfold vN
 rw[if_neg (by omega)]
theorem dP {p:ProgL} {S:St} {n:Nat} (h1:S.H (.n 903)=some (.rs 157 1 (wE (zE p) 0))) (h2:∀ j,S.H (.s 903 j)=vN (zE p) 0 j) (hn:n=p.rs.length) :
  FzC S [i64 p.cells,i64 p.locks,i64 p.conds,.dref (.n 903) n] (encProg p):=by
 subst hn
 refine⟨di p.cells,_,rfl,rfl,di p.locks,_,rfl,rfl,di p.conds,_,rfl,rfl,.sl (p.rs.map zS),_,rfl,⟨_,rfl,oB h1 (by simp) (by simp[wE,zE]) ?_⟩,rfl⟩
 intro j row d hr hd
 have hj:j<p.rs.length:=by
  have:=(List.getElem?_eq_some_iff.1 hd).1
  simpa using this
 have hjs:j<(zE p).length:=by simpa[zE] using hj
 rw[oM hjs] at hr
 rw[List.getElem?_map,List.getElem?_eq_getElem hj] at hd
 simp only[Option.map_some,Option.some.injEq] at hr hd
 subst hr hd
 have hg:(zE p)[j]=p.rs[j].map encOp:=by simp[zE,gY]
 have h3:=h2 j
 unfold vN at h3
 rw[if_neg (by omega),List.getElem?_eq_getElem hjs,hg] at h3
 unfold tC
 rw[if_neg (by omega)]
 simp[fz1s,fz1,h3,List.getD_eq_getElem?_getD,hjs,hg,zS,List.take_of_length_le]
theorem mT {p:ProgL} (h:p.size≤1048576):tot (zE p) (zE p).length≤1048576:=by
 unfold ProgL.size dB at h
 unfold tot zE
 rw[List.take_length,List.map_map]
 have e:(List.length ∘ gY:List OpL→Nat)=List.length:=by funext r;simp[gY]
 rw[e];omega
theorem ops4 (p:ProgL):∀ q∈zE p,∀ c∈q,c.length=4:=by
 intro q hq c hc
 obtain⟨r,_,rfl⟩:=List.mem_map.1 hq
 obtain⟨y,_,rfl⟩:=List.mem_map.1 hc
 rfl
structure SmC (p:ProgL):Prop where
 hs:p.rs.length≤1048576∧∀ x∈p.rs,x.length≤1048576
 hz:p.size≤1048576
structure PkOK (l:List (List Int)):Prop where
 len:l.length≤1048576
 row:∀ x∈l,x.length≤1048576
 tot:vA l l.length≤1048576
theorem totQ_of {l:List (List Int)} {m:Nat} (h:∀ x∈l,x.length≤m):∀ i,vA l i≤i*m
 | 0=>by simp[vA]
 |i+1=>by
  have ih:=totQ_of h i
  by_cases hi:i<l.length
  ·rw[pJ hi,Nat.add_mul,Nat.one_mul]
   have:=h _ (List.getElem_mem hi)
   omega
  ·have e:vA l (i+1)=vA l i:=by
    unfold vA
    rw[List.take_of_length_le (by omega),List.take_of_length_le (by omega)]
   rw[e,Nat.add_mul];omega
theorem pkQ_of {p:ProgL} {b:Int} {xs:List RunT} (hb:b≤14) (hn:xs.length≤401) (hall:∀ x∈xs,XEnd p b x):PkOK (xs.map RunT.tk):=by
 have h14:∀ y∈xs.map RunT.tk,y.length≤14:=fun y hy=>by
  obtain⟨x,hx,rfl⟩:=List.mem_map.1 hy
  have h1:=(hall x hx).fin.le
  have h2:=(hall x hx).fin.len
  omega
 have:=totQ_of h14 (xs.map RunT.tk).length
 have hl:(xs.map RunT.tk).length=xs.length:=by simp
 refine⟨by omega,fun x hx=>by have:=h14 x hx;omega,?_⟩
 have:(xs.map RunT.tk).length*14≤401*14:=Nat.mul_le_mul_right _ (by omega)
 omega
end Ai
namespace Ai
set_option maxRecDepth 100000
open Go Go.Proofs Cyc
def numQ (k:Nat):Nat:=bif Nat.beq k 900 then 943 else bif Nat.beq k 943 then 900 else k
theorem numQ_numQ (k:Nat):numQ (numQ k)=k:=by
 by_cases h1:k=900
 ·subst h1;rfl
 by_cases h2:k=943
 ·subst h2;rfl
 simp[numQ,nbeq_ne h1,nbeq_ne h2]
def shQ:Sh:=mkSh numQ numQ_numQ
def qL (m:Int) (w:List (List Int)):List (Nat × AV):=[(1,i64 m),(2,.ptr (.n 2) 0),(6,sl (w.map xG)),(7,bv true),(8,.ptr (.n 8) 0)]
def qO (p:ProgL):List (Key × Ob):=[(.n 2,.vs 24 ((encProg p).map .d)),(.n 8,.vs 31 [i64 p.cells,i64 p.locks,i64 p.conds,.dref (.n 903) p.rs.length]),(.n 903,.rs 157 1 (wE (zE p) 0))]
def qL2 (m:Int) (w:List (List Int)):List (Nat × AV):=[(1,i64 m),(2,.ptr (.n 2) 0),(6,sl (w.map xG)),(7,bv true),(8,.ptr (.n 8) 0),(9,.dref (.n 900) w.length),(10,bv true)]
def qO2 (p:ProgL) (w:List (List Int)):List (Key × Ob):=[(.n 2,.vs 24 ((encProg p).map .d)),(.n 8,.vs 31 [i64 p.cells,i64 p.locks,i64 p.conds,.dref (.n 903) p.rs.length]),(.n 903,.rs 157 1 (wE (zE p) 0)),(.n 900,.rs 41 1 (xW 900 w w.length))]
def qF2 (p:ProgL) (w:List (List Int)):List (Nat × (Nat→Option Ob)):=[(903,vN (zE p) 0),(900,fmQ w w.length),(943,fun _=>none)]
def qL3 (m:Int) (w:List (List Int)) (k:Int):List (Nat × AV):=[(1,i64 m),(2,.ptr (.n 2) 0),(6,sl (w.map xG)),(7,bv true),(9,.dref (.n 900) w.length),(10,bv true),(11,i64 k)]
def qO3 (p:ProgL) (w:List (List Int)):List (Key × Ob):=[(.n 2,.vs 24 ((encProg p).map .d)),(.n 900,.rs 41 1 (xW 900 w w.length))]
def qF3 (w:List (List Int)):List (Nat × (Nat→Option Ob)):=[(900,fmQ w w.length),(943,fun _=>none)]
def qL4 (m:Int) (w:List (List Int)):List (Nat × AV):=[(1,i64 m),(2,.ptr (.n 2) 0),(6,sl (w.map xG)),(7,bv true),(9,.dref (.n 943) w.length),(12,i64 (1+(vA w w.length:Int)))]
def qO4 (p:ProgL) (w:List (List Int)):List (Key × Ob):=[(.n 2,.vs 24 ((encProg p).map .d)),(.n 943,.rs 41 1 (xW 943 w w.length))]
def qF4 (w:List (List Int)):List (Nat × (Nat→Option Ob)):=[(943,fmQ (uF w 1 w.length) w.length),(900,fun _=>none)]
def qF (p:ProgL):List (Nat × (Nat→Option Ob)):=[(903,vN (zE p) 0),(900,fun _=>none),(943,fun _=>none)]
theorem gW {w:List (List Int)} {x:AV} {H:Option Ob} (h:H=none) (j:Nat):(match ownH [nD w,x] (.s 900 j) with|some ob=>some ob|none=>H)=fmQ w w.length j:=by
 have e:ownH [nD w,x] (.s 900 j)=fmQ w w.length j:=by
  rw[fmQ_own]
  rfl
 rw[e,h]
 cases fmQ w w.length j <;> rfl
theorem tL {S:St} {w:List (List Int)} {k:Int} (h:S.H (.n 943)=some (.rs 41 1 (xW 943 w w.length))) (hf:∀ j,S.H (.s 943 j)=fmQ (uF w k w.length) w.length j):jY S (.n 943) w.length ((uF w k w.length).map xG):=by
 have:=rZ (S:=S) (l:=uF w k w.length) (o:=.n 943) (q:=943) (by rw[h,rwsQ_mix,jN]) (fun j=>by rw[hf j,jN])
 rwa [jN] at this
end Ai
namespace Ai
set_option maxRecDepth 100000
open Go Go.Proofs Cyc
def zL (m:Int):List (Nat × AV):=[(1,i64 m),(2,.ptr (.n 2) 0),(6,sl []),(7,bv false),(8,.ptr (.n 8) 0)]
def zF (p:ProgL):List (Nat × (Nat→Option Ob)):=[(903,vN (zE p) 0)]
def zL2 (m:Int):List (Nat × AV):=[(1,i64 m),(2,.ptr (.n 2) 0),(6,sl []),(7,bv false),(8,.ptr (.n 8) 0),(9,sl []),(10,bv false)]
def zL3 (m:Int) (k:Int):List (Nat × AV):=[(1,i64 m),(2,.ptr (.n 2) 0),(6,sl []),(7,bv false),(9,sl []),(10,bv false),(11,i64 k)]
def zO (p:ProgL):List (Key × Ob):=[(.n 2,.vs 24 ((encProg p).map .d))]
def zL4 (m:Int):List (Nat × AV):=[(1,i64 m),(2,.ptr (.n 2) 0),(6,sl []),(7,bv false),(9,sl []),(12,i64 1)]
theorem aF (k:Int):CallsTo EE 18 [sl [],i64 k] (·=i64 k):=by
 refine callsTo_of_AW (fn:=Tryz.f18) Tryz.func18 rfl (by kernel_rfl) rfl ?_
 conv=>whnf
 refine eO ?_
 conv=>whnf
 refine kbi (fun h=>absurd h (by simp)) (fun _=>?_)
 conv=>whnf
 try rfl
theorem fZ (k:Int):CallsTo EE 19 [sl [],i64 k] (·=i64 k):=by
 refine callsTo_of_AW (fn:=Tryz.f19) Tryz.func19 rfl (by kernel_rfl) rfl ?_
 conv=>whnf
 refine eO ?_
 conv=>whnf
 refine kbi (fun h=>absurd h (by simp)) (fun _=>?_)
 conv=>whnf
 try rfl
theorem fI:CallsTo EE 15 [sl [],sl []] (·=bv true):=uM [] (by simp) (fun x hx=>by cases hx)
theorem vU {E:Env} {g:FuncId} {xs:List AV} {R R':AV→Prop} (h:CallsTo E g xs R) (hr:∀ r,R r→R' r):CallsTo E g xs R' :=
 fun w A vs hI hA=>(h w A vs hI hA).mono fun v w' ⟨r,hR,hb⟩=>⟨r,hr r hR,hb⟩
end Ai
