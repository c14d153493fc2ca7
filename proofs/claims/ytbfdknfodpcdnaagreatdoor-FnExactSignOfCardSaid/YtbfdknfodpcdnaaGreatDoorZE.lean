import Derived.Test.YtbfdknfodpcdnaaGreatDoorZD
import Derived.WalkKit
set_option maxHeartbeats 8000000
set_option linter.unusedVariables false
set_option linter.unusedSimpArgs false
namespace Ai
set_option maxRecDepth 100000
open Go Go.Proofs
theorem draw13 {p:ProgL} {s s1:StL} {ev:Ev} {tr:List Ev} {tk:List Int} {kk:Int} {w:Nat} {budget:Int} {g:FuncId} {c:List D} (hk0:0≤kk) (hen:((zA p s).map wK)[kk.toNat]?=some (wK w)) (htr:tr.length≤1048576)
  (hst:∀ (v0 v1:Value) (H0:Key→Option Ob),AtC 46 [i64 0,.lit v0,.lit v1] s H0→IOCall EE 129 [.ptr (.l 0) 3,agg (encProg p),i64 w] H0 (fun r H1=>r=agg (encEv ev)∧H1=stHC 46 [i64 0,.lit v0,.lit v1] s1))
  (Q:AX→St→Prop) (S:St) (h:R13 p s s1 ev tr tk kk w budget g c (fun _=>false) S) (hQ:∀ L S',(∀ i,i<13→L i=true)→R13 p s s1 ev tr tk kk w budget g c L S'→Q .normal S'):ADrawI EE Tryz.f158.ntmps ops13 Q S:=by
 refine⟨R13 p s s1 ev tr tk kk w budget g c,h,?_,fun L S' hL hS=>hQ L S' hL hS,by kernel_rfl,trivial⟩
 intro i o ho L S hL hd hI
 match i,ho,hL with
 | 0,ho,hL =>
  obtain rfl:ops13[0]'(by decide)=o:=Option.some.inj (show some (ops13[0]'(by decide))=some o from ho)
  exact op13_0 L S hI hL
 | 1,ho,hL =>
  obtain rfl:ops13[1]'(by decide)=o:=Option.some.inj (show some (ops13[1]'(by decide))=some o from ho)
  have k0:L 0=true:=hd _ (Array.getElem_mem (i:=0) (by decide)) rfl
  exact op13_1 L S hI hL k0
 | 2,ho,hL =>
  obtain rfl:ops13[2]'(by decide)=o:=Option.some.inj (show some (ops13[2]'(by decide))=some o from ho)
  exact op13_2 L S hI hL
 | 3,ho,hL =>
  obtain rfl:ops13[3]'(by decide)=o:=Option.some.inj (show some (ops13[3]'(by decide))=some o from ho)
  exact op13_3 L S hI hL
 | 4,ho,hL =>
  obtain rfl:ops13[4]'(by decide)=o:=Option.some.inj (show some (ops13[4]'(by decide))=some o from ho)
  exact op13_4 L S hI hL
 | 5,ho,hL =>
  obtain rfl:ops13[5]'(by decide)=o:=Option.some.inj (show some (ops13[5]'(by decide))=some o from ho)
  exact op13_5 L S hI hL
 | 6,ho,hL =>
  obtain rfl:ops13[6]'(by decide)=o:=Option.some.inj (show some (ops13[6]'(by decide))=some o from ho)
  have k4:L 4=true:=hd _ (Array.getElem_mem (i:=0) (by decide)) rfl
  have k5:L 5=true:=hd _ (Array.getElem_mem (i:=1) (by decide)) rfl
  exact op13_6 hk0 hen L S hI hL k4 k5
 | 7,ho,hL =>
  obtain rfl:ops13[7]'(by decide)=o:=Option.some.inj (show some (ops13[7]'(by decide))=some o from ho)
  have k6:L 6=true:=hd _ (Array.getElem_mem (i:=0) (by decide)) rfl
  exact op13_7 L S hI hL k6
 | 8,ho,hL =>
  obtain rfl:ops13[8]'(by decide)=o:=Option.some.inj (show some (ops13[8]'(by decide))=some o from ho)
  have k2:L 2=true:=hd _ (Array.getElem_mem (i:=0) (by decide)) rfl
  have k3:L 3=true:=hd _ (Array.getElem_mem (i:=1) (by decide)) rfl
  have k7:L 7=true:=hd _ (Array.getElem_mem (i:=2) (by decide)) rfl
  exact op13_8 hst L S hI hL k2 k3 k7
 | 9,ho,hL =>
  obtain rfl:ops13[9]'(by decide)=o:=Option.some.inj (show some (ops13[9]'(by decide))=some o from ho)
  have k8:L 8=true:=hd _ (Array.getElem_mem (i:=0) (by decide)) rfl
  exact op13_9 L S hI hL k8
 | 10,ho,hL =>
  obtain rfl:ops13[10]'(by decide)=o:=Option.some.inj (show some (ops13[10]'(by decide))=some o from ho)
  have k1:L 1=true:=hd _ (Array.getElem_mem (i:=0) (by decide)) rfl
  have k8:L 8=true:=hd _ (Array.getElem_mem (i:=2) (by decide)) rfl
  have k9:L 9=true:=hd _ (Array.getElem_mem (i:=1) (by decide)) rfl
  exact op13_10 htr L S hI hL k1 k8 k9
 | 11,ho,hL =>
  obtain rfl:ops13[11]'(by decide)=o:=Option.some.inj (show some (ops13[11]'(by decide))=some o from ho)
  exact op13_11 L S hI hL
 | 12,ho,hL =>
  obtain rfl:ops13[12]'(by decide)=o:=Option.some.inj (show some (ops13[12]'(by decide))=some o from ho)
  have k10:L 10=true:=hd _ (Array.getElem_mem (i:=1) (by decide)) rfl
  have k11:L 11=true:=hd _ (Array.getElem_mem (i:=0) (by decide)) rfl
  exact op13_12 L S hI hL k10 k11
 |n+13,ho,hL =>
  have h1:n+13<ops13.size:=(Array.getElem?_eq_some_iff.1 ho).1
  have h2:ops13.size=13:=by decide
  omega
theorem runI_ok (hI:yX) (p:ProgL) (hp:p.wf) (h1:InR p.cells 0 1048576) (h2:InR p.locks 0 1048576) (Inv:StL→Prop) (hI0:Inv (xY p)) (hok:RunI p Inv) (budget:Int) (hb:InR budget 0 1048576) (g:FuncId) (c:List D)
  (pk:List Nat→Nat→Int) (hg:∀ (en:List Nat) (n:Nat),en≠[]→CallsTo EE g [sl (en.map wK),i64 n,.fp c] (·=i64 (pk en n))) (hpk:∀ en:List Nat,∀ n,en≠[]→0≤pk en n∧pk en n<en.length) :
  CallsTo EE 158 [agg (encProg p),i64 budget,.fn g [.fp c]] (·=.ownF 8 (hJ (fR p pk budget (budget.toNat+1) (xY p) [] [])++[bv true])):=by
 refine callsTo_of_AW (fn:=Tryz.f158) Tryz.func158 rfl (by kernel_rfl) rfl ?_
 conv=>whnf
 refine⟨_,start_ok p h1 h2,?_⟩
 rintro r rfl
 conv=>whnf
 refine pE (fun x:StL × List Ev × List Int=>[(1,i64 budget),(2,.fn g [.fp c]),(3,.ptr (.n 3) 0),(6,.ptr (.n 6) 0),(7,bv false),(8,.ptr (.n 8) 0),(9,i64 x.2.1.length)]) (fun x=>oRI p x.1 x.2.1 x.2.2) (fun x=>[(900,zP x.1.ths)]) (fun x=>budget.toNat - x.2.1.length)
  (fun x=>Inv x.1∧x.2.1.length=x.2.2.length∧(x.2.1.length:Int)≤budget∧fR p pk budget (budget.toNat+1 - x.2.1.length) x.1 x.2.1 x.2.2=fR p pk budget (budget.toNat+1) (xY p) [] []) (xY p,[],[])
  Weak.refl ?_ ?_ ?_ ⟨hI0,rfl,hb.1,rfl⟩ ?_
 ·exact⟨rfl,rfl,rfl,rfl,rfl,rfl,rfl,trivial⟩
 ·refine⟨rfl,rfl,?_,rfl,rfl,?_,?_,?_,trivial⟩
  ·show some (Ob.vs 46 [i64 0,.ref (.n 12) 0 0,.ref (.n 13) 0 0,.dref (.n 900) ((xY p).ths.map vL).length,.ref (.n 901) 0 ((xY p).cells.map encF).length,.ref (.n 902) 0 ((xY p).owner.map encInt).length,i64 0])=some (Ob.vs 46 [i64 0,.ref (.n 12) 0 0,.ref (.n 13) 0 0,.dref (.n 900) (xY p).ths.length,.ref (.n 901) 0 (xY p).cells.length,.ref (.n 902) 0 (xY p).owner.length,i64 0])
   rw[List.length_map,List.length_map,List.length_map]
  ·conv=>lhs;whnf
   refine congrArg some ?_
   repeat (first|exact rfl|refine xJ ?_ (congrArg (Ob.rs 109 6) (yB fun _ _=>rfl)))
  ·rfl
  ·rfl
 ·refine⟨fun j=>?_,trivial⟩
  conv=>lhs;whnf
  repeat (first|exact own_fam (xY p) j|(refine hscrO ?_ (yE _ _ _);conv=>lhs;whnf))
 rintro⟨s,tr,tk⟩ τ H ⟨hinv,hlen,hle,hrun⟩
 have hs:=hok.small s hinv
 conv=>whnf
 refine .inl ⟨[.fp (zZ s),agg (encProg p)],[],_,⟨_,_,rfl,fz_run (x0:=i64 0) (x1:=.ref (.n 12) 0 tr.length) (x2:=.ref (.n 13) 0 tk.length) rfl ⟨rfl,fun j hj=>thFam_self hj,rfl,rfl⟩,_,_,rfl,q6 p,rfl⟩,rfl,enabledI_ok hI p s hp hs.1 (hok.seen s hinv),?_⟩
 rintro r rfl
 refine⟨?_,.inl ?_⟩
 ·intro c hc
  obtain⟨y,_,rfl⟩:=List.mem_map.1 hc
  rfl
 conv=>whnf
 refine .inl ⟨[agg (encProg p),.fp (zZ s),sl ((zA p s).map wK),i64 tr.length,i64 budget],[],_,⟨_,_,rfl,q6 p,_,_,rfl,fz_run (x0:=i64 0) (x1:=.ref (.n 12) 0 tr.length) (x2:=.ref (.n 13) 0 tk.length) rfl ⟨rfl,fun j hj=>thFam_self hj,rfl,rfl⟩,_,_,rfl,rfl,_,_,rfl,rfl,_,_,rfl,rfl,rfl⟩,rfl,codeOf_ok p s tr.length budget hs.1,?_⟩
 rintro r rfl
 refine⟨rfl,?_⟩
 conv=>whnf
 have hfuel:budget.toNat+1 - tr.length=(budget.toNat - tr.length)+1:=by
  have:(tr.length:Int)≤budget:=hle
  omega
 have hrun:fR p pk budget (budget.toNat+1 - tr.length) s tr tk=_:=hrun
 rw[hfuel] at hrun
 refine kbi (fun hc=>?_) (fun hc=>?_)
 ·have hc:yI p s tr.length budget≠0:=by simpa using hc
  conv=>whnf
  refine .inl ⟨[agg (zZ s)],[],_,⟨_,_,rfl,⟨zZ s,rfl,fz_st ⟨rfl,fun j hj=>thFam_self hj,rfl,rfl⟩ rfl rfl rfl⟩,rfl⟩,rfl,copied_ok s hs.1,?_⟩
  rintro r rfl
  refine⟨tE s,?_⟩
  conv=>whnf
  refine .inr ⟨8,hJ (yI p s tr.length budget,tr,tk,s)++[bv true],_,[.agg [i64 (yI p s tr.length budget),.ref (.n 901) 0 tr.length,.ref (.n 902) 0 tk.length,.dref (.n 903) s.ths.length,.ref (.n 904) 0 s.cells.length,.ref (.n 905) 0 s.owner.length,i64 s.fault],bv true],(bP shA).trans (bP shB),?_,(by simp),?_,?_,gK ⟨trivial,?_,?_,⟨?_,fun j q hq=>?_⟩,?_,?_,trivial,trivial,trivial⟩,?_⟩
  ·show some [.agg [i64 (yI p s tr.length budget),.ref (.n 901) 0 tr.length,.ref (.n 902) 0 tk.length,.dref (.n 903) (s.ths.map vL).length,.ref (.n 904) 0 (s.cells.map encF).length,.ref (.n 905) 0 (s.owner.map encInt).length,i64 s.fault],bv true]=_
   rw[List.length_map,List.length_map,List.length_map]
  ·simp[hJ,vA,ownR,ownR1,jH]
  ·intro v hv
   simp only[hJ,vA,List.mem_append,List.mem_cons,List.not_mem_nil,or_false] at hv
   rcases hv with ((rfl|rfl|rfl)|(rfl|rfl|rfl|rfl))|rfl
   all_goals first|trivial|(show(s.ths.map vL).length=(s.ths.map stk).length;simp)
  ·rfl
  ·rfl
  ·conv=>lhs;whnf
   show some (Ob.rs 109 6 (((thRows 900 s.ths).map (renL (mkSh numA nO).f)).map (renL (mkSh numB iD).f)))=some (Ob.rs 109 6 (thRows 903 s.ths))
   rw[bS,bS]
   rfl
  ·have hq:(s.ths.map stk)[j]?=some q:=hq
   rw[List.getElem?_map] at hq
   obtain⟨t,ht,rfl⟩:=Option.map_eq_some_iff.1 hq
   have e:∀ X:Option Ob,X=zP s.ths j→(X.map (renO shA.f)).map (renO shB.f)=some (.ds 100 1 (stk t)):=by
    rintro _ rfl
    rw[thFam_ren,thFam_ren,zP,ht];rfl
   refine e _ ?_
   show(match ownH (vA s) (.s 900 j) with|some ob=>some ob|none=>_)=zP s.ths j
   show(match ((s.ths.map stk)[j]?).map (Ob.ds 100 1) with|some ob=>some ob|none=>_)=_
   rw[List.getElem?_map,zP,ht]
   rfl
  ·rfl
  ·rfl
  ·rw[← hrun]
   simp only[fR,if_pos hc]
 have hc:¬ yI p s tr.length budget≠0:=by simpa using hc
 have hc:yI p s tr.length budget=0:=by simpa using hc
 conv=>whnf
 have hen:zA p s≠[]:=by
  intro he
  have:=hc
  unfold yI at this
  by_cases hf:s.fault≠0
  ·rw[if_pos hf] at this;exact absurd this (by decide)
  ·rw[if_neg hf,if_pos he] at this;split at this <;> exact absurd this (by decide)
 refine⟨_,hg (zA p s) tr.length hen,?_⟩
 rintro r rfl
 have hlb:(tr.length:Int)≠budget:=by
  intro he
  have:=hc
  unfold yI at this
  by_cases hf:s.fault≠0
  ·rw[if_pos hf] at this;exact absurd this (by decide)
  ·rw[if_neg hf,if_neg hen,if_pos he] at this;exact absurd this (by decide)
 obtain⟨hk1,hk2⟩:=hpk (zA p s) tr.length hen
 have hrun2:fR p pk budget (budget.toNat - tr.length) (zQ p s ((zA p s).getD (pk (zA p s) tr.length).toNat 0)).1 (tr++[(zQ p s ((zA p s).getD (pk (zA p s) tr.length).toNat 0)).2]) (tk++[pk (zA p s) tr.length])=fR p pk budget (budget.toNat+1) (xY p) [] []:=by
  rw[← hrun];simp only[fR,hc];rfl
 generalize hkv:pk (zA p s) tr.length=kk at *
 have hkl:kk.toNat<(zA p s).length:=by omega
 have hmem:(zA p s).getD kk.toNat 0∈zA p s:=by rw[List.getD_eq_getElem?_getD,List.getElem?_eq_getElem hkl];exact List.getElem_mem hkl
 have hwl:(zA p s).getD kk.toNat 0<s.ths.length:=by have:=(List.mem_filter.1 hmem).1;simpa using this
 conv=>whnf
 refine kbi (fun hk=>?_) (fun hk=>?_)
 ·have hk:kk<0:=by simpa using hk
  omega
 conv=>whnf
 have hlen':tr.length=tk.length:=hlen
 have hle':(tr.length:Int)≤budget:=hle
 have hb2:=hb.2
 refine⟨⟨rfl,by show(tk.length+1)*8≤_;omega,by show tk.length+1≤_;omega⟩,?_⟩
 conv=>whnf
 generalize hwd:(zA p s).getD kk.toNat 0=w at *
 have hen13:((zA p s).map wK)[kk.toNat]?=some (wK w):=by rw[← hwd];exact en_get hkl
 have htr:tr.length≤1048576:=by omega
 refine .inr (.inr (.inl (draw13 (p:=p) (s:=s) (s1:=(zQ p s w).1) (ev:=(zQ p s w).2) (tr:=tr) (tk:=tk) (kk:=kk) (w:=w) (budget:=budget) (g:=g) (c:=c) hk1 hen13 htr
  (fun v0 v1 H0 hH=>stepI_ok hI 46 (i64 0) (.lit v0) (.lit v1) (inert_d _) (iR _) (iR _) p s w hp hwl hs.2 hs.1 (hok.ready s hinv w hmem hwl) (hok.awake s hinv w hmem hwl) (hok.flt s hinv _ (List.getElem_mem hwl)) (hok.joins s hinv w hmem hwl) H0 hH) _ _ ?_ ?_)))
 ·exact {
   u1:=rfl
   u2:=rfl
   u3:=rfl
   u6:=rfl
   u7:=rfl
   u8:=rfl
   u9:=rfl
   u10:=rfl
   u11:=rfl
   h3:=rfl
   h6:=rfl
   h13:=by
    show some (Ob.ds 3 1 ((tk.map encInt).take tk.length++[encInt kk]))=_
    rw[List.take_of_length_le (by simp)]
    simp
   c0:=fun h=>by cases h
   c1:=fun h=>by cases h
   c2:=fun h=>by cases h
   c3:=fun h=>by cases h
   c4:=fun h=>by cases h
   c5:=fun h=>by cases h
   c6:=fun h=>by cases h
   c7:=fun h=>by cases h
   c8:=fun h=>by cases h
   c9:=fun h=>by cases h
   c10:=fun h=>by cases h
   c11:=fun h=>by cases h
   e9:=fun h=>by cases h
   d12a:=fun _=>rfl
   d12b:=fun h=>by cases h
   d8a:=fun _=>by
    show some (Ob.vs 46 ([i64 (yI p s tr.length budget),.ref (.n 12) 0 tr.length,.ref (.n 13) 0 (tk.length+1)]++stRef s))=_
    rw[hc]
   d8b:=fun h=>by cases h
   d8c:=fun h=>by cases h
   d8d:=fun h=>by cases h
   sa0:=fun _=>by
    conv=>lhs;whnf
    refine congrArg some ?_
    repeat (first|exact rfl|refine xJ ?_ (congrArg (Ob.rs 109 6) (yB fun _ _=>rfl)))
   saF:=fun _ j=>by
    repeat (first|exact rfl|refine hscrO ?_ (yE _ _ _)|conv=>lhs;whnf)
   sa1:=fun _=>rfl
   sa2:=fun _=>rfl
   sb0:=fun h=>by cases h
   sbF:=fun h=>by cases h
   sb1:=fun h=>by cases h
   sb2:=fun h=>by cases h
   o1:=fun h=>by cases h
   o2:=fun h=>by cases h
   o3:=fun h=>by cases h
   o4:=fun h=>by cases h }
 intro L S' hL r
 have hat:At [(1,i64 budget),(2,.fn g [.fp c]),(3,.ptr (.n 3) 0),(6,.ptr (.n 6) 0),(7,bv false),(8,.ptr (.n 8) 0),(9,i64 tr.length)]
  [(.n 3,.vs 39 ((encProg p).map .d)),(.n 6,.vs 46 [i64 0,.d .nil,.d .nil,.d .nil,.d .nil,.d .nil,i64 0]),(.n 8,.vs 46 ([i64 0,.ref (.n 12) 0 (tr.length+1),.ref (.n 13) 0 (tk.length+1)]++stRef (zQ p s w).1)),(.n 12,.ds 107 5 ((tr++[(zQ p s w).2]).map encEv)),(.n 13,.ds 3 1 ((tk++[kk]).map encInt)),
   (.n 900,.rs 109 6 (thRows 900 (zQ p s w).1.ths)),(.n 901,.ds 100 1 ((zQ p s w).1.cells.map encF)),(.n 902,.ds 3 1 ((zQ p s w).1.owner.map encInt))] [(900,zP (zQ p s w).1.ths)] S' :=
  ⟨⟨r.u1,r.u2,r.u3,r.u6,r.u7,r.u8,r.u9,trivial⟩,⟨r.h3,r.h6,r.d8d (hL 12 (by decide)),r.d12b (hL 10 (by decide)),r.h13,r.sb0 (hL 8 (by decide)),r.sb1 (hL 8 (by decide)),r.sb2 (hL 8 (by decide)),trivial⟩,⟨r.sbF (hL 8 (by decide)),trivial⟩⟩
 obtain⟨τ',H',rfl⟩:=hat.form
 clear r hat
 have hrun2:=hrun2
 generalize hst:zQ p s w=st at *
 have ew:IntKind.i64.wrap ((tr.length:Int)+1)=(((tr++[st.2]).length:Nat):Int):=by rw[zM (by omega) (by omega)];simp
 conv=>whnf
 refine⟨(st.1,tr++[st.2],tk++[kk]),_,Weak.refl,⟨hst▸hok.step s hinv w hmem,by simp;exact hlen',by simp;omega,?_⟩,?_,⟨rfl,rfl,rfl,rfl,rfl,rfl,?_,trivial⟩,⟨rfl,rfl,?_,rfl,rfl,rfl,rfl,rfl,trivial⟩,⟨fun j=>rfl,trivial⟩⟩
 ·show fR p pk budget (budget.toNat+1 - (tr++[st.2]).length) st.1 (tr++[st.2]) (tk++[kk])=_
  rw[show budget.toNat+1 - (tr++[st.2]).length=budget.toNat - tr.length by simp]
  exact hrun2
 ·show budget.toNat - (tr++[st.2]).length<budget.toNat - tr.length
  simp;omega
 ·show AV.d (.int .i64 (IntKind.i64.wrap ((tr.length:Int)+1)))=i64 ((tr++[st.2]).length:Nat)
  rw[ew]
 ·show some (Ob.vs 46 ([i64 0,.ref (.n 12) 0 (tr.length+1),.ref (.n 13) 0 (tk.length+1)]++stRef st.1))=some (Ob.vs 46 ([i64 0,.ref (.n 12) 0 (tr++[st.2]).length,.ref (.n 13) 0 (tk++[kk]).length]++stRef st.1))
  rw[List.length_append,List.length_append]
  rfl
end Ai
namespace Ai
set_option maxRecDepth 100000
open Go Go.Proofs
def pkP (picks:List Int) (en:List Nat) (n:Nat):Int:=if n<picks.length then (picks.getD n 0).tmod en.length else 0
theorem pickP_ok (picks:List Int) (hl:picks.length≤1048576) (en:List Nat) (n:Nat) (he:en≠[]):CallsTo EE 159 [sl (en.map wK),i64 n,.fp [.sl (picks.map encInt)]] (·=i64 (pkP picks en n)):=by
 refine callsTo_of_AW (fn:=Tryz.f159) Tryz.func159 rfl (by kernel_rfl) rfl ?_
 have hep:0<en.length:=List.length_pos_iff.2 he
 conv=>whnf
 refine kbi (fun h=>?_) (fun h=>?_)
 ·have h:picks.length≤n:=by simpa using h
  conv=>whnf
  unfold pkP
  rw[if_neg (by omega)]
 ·have h:n<picks.length:=by simpa using h
  conv=>whnf
  refine⟨encInt picks[n],⟨by omega,by simp[h],rfl⟩,?_⟩
  conv=>whnf
  refine⟨by simp;omega,?_⟩
  conv=>whnf
  unfold pkP
  rw[if_pos h]
  simp[List.getD_eq_getElem?_getD,h]
  try rfl
theorem pkP_in {picks:List Int} (h0:∀ i∈picks,0≤i) (en:List Nat) (n:Nat) (he:en≠[]):0≤pkP picks en n∧pkP picks en n<en.length:=by
 have hep:0<en.length:=List.length_pos_iff.2 he
 unfold pkP
 split
 ·rename_i h
  have hp:0≤picks.getD n 0:=by
   rw[List.getD_eq_getElem?_getD,List.getElem?_eq_getElem h]
   exact h0 _ (List.getElem_mem h)
  exact⟨Int.tmod_nonneg _ hp,Int.tmod_lt_of_pos _ (by omega)⟩
 ·omega
theorem e7 (x:Int × List Ev × List Int × StL) (b:Bool):mY (.ownF 8 (hJ x++[bv b])):=by
 intro c hc
 rcases List.mem_append.1 hc with h|h
 ·rcases List.mem_append.1 h with h|h
  ·simp only[List.mem_cons,List.not_mem_nil,or_false] at h
   rcases h with rfl|rfl|rfl
   ·rfl
   ·intro c hc
    obtain⟨y,_,rfl⟩:=List.mem_map.1 hc;rfl
   ·intro c hc
    obtain⟨y,_,rfl⟩:=List.mem_map.1 hc;rfl
  ·exact tE x.2.2.2 c h
 ·simp only[List.mem_cons,List.not_mem_nil,or_false] at h
  subst h;rfl
theorem fz_runS {S:St} {c:Int} {tr:List Ev} {tk:List Int} {s:StL} (h1:S.H (.n 901)=some (.ds 107 5 (tr.map encEv))) (h2:S.H (.n 902)=some (.ds 3 1 (tk.map encInt))) (h3:S.H (.n 903)=some (.rs 109 6 (thRows 903 s.ths)))
  (hf:∀ j,(h:j<s.ths.length)→S.H (.s 903 j)=some (.ds 100 1 (stk s.ths[j]))) (h4:S.H (.n 904)=some (.ds 100 1 (s.cells.map encF))) (h5:S.H (.n 905)=some (.ds 3 1 (s.owner.map encInt))) {a b d f g:Nat} (ha:a=tr.length) (hb:b=tk.length) (hd:d=s.ths.length) (hff:f=s.cells.length) (hg:g=s.owner.length) :
  FzC S [i64 c,.ref (.n 901) 0 a,.ref (.n 902) 0 b,.dref (.n 903) d,.ref (.n 904) 0 f,.ref (.n 905) 0 g,i64 s.fault] (vW c tr tk s):=by
 subst ha hb
 refine⟨di c,_,rfl,rfl,.sl (tr.map encEv),_,rfl,?_,.sl (tk.map encInt),_,rfl,?_,fz_st (o:=903) (s:=s) ⟨h3,hf,h4,h5⟩ hd hff hg⟩
 ·simp[FzD,fz1,h1,List.take_of_length_le]
 ·simp[FzD,fz1,h2,List.take_of_length_le]
theorem runK_L (p:ProgL) (picks:List Int) (budget:Int):∀ (n:Nat) (s:StL) (tr:List Ev) (tk:List Int),tr.length=tk.length →
  vW (fR p (pkP picks) budget n s tr tk).1 (fR p (pkP picks) budget n s tr tk).2.1 (fR p (pkP picks) budget n s tr tk).2.2.1 (fR p (pkP picks) budget n s tr tk).2.2.2=gJ p picks budget n s tr tk
 | 0,s,tr,tk,h=>rfl
 |n+1,s,tr,tk,h=>by
  have hpk:pkP picks (zA p s) tr.length=wJ picks tk (zA p s).length:=by
   unfold pkP wJ
   rw[h]
  by_cases hc:yI p s tr.length budget=0
  ·simp only[fR,gJ,hc]
   rw[if_neg (by simp),if_neg (by decide)]
   rw[hpk]
   exact runK_L p picks budget n _ _ _ (by simp[h])
  ·have:=codeL_nn p s tr.length budget
   simp only[fR,gJ]
   rw[if_pos hc,if_pos (by omega)]
theorem y4 (hI:yX) (p:ProgL) (hp:p.wf) (h1:InR p.cells 0 1048576) (h2:InR p.locks 0 1048576) (Inv:StL→Prop) (hI0:Inv (xY p)) (hok:RunI p Inv) (picks:List Int) (budget:Int) (hpk:∀ i∈picks,0≤i) (hl:picks.length≤1048576) (hb:InR budget 0 1048576) :
  CallsTo EE 108 [agg (encProg p),sl (picks.map encInt),i64 budget] (·=agg (gJ p picks budget (budget.toNat+1) (xY p) [] [])):=by
 refine callsTo_of_AW (fn:=Tryz.f108) Tryz.func108 rfl (by kernel_rfl) rfl ?_
 conv=>whnf
 refine .inl ⟨_,runI_ok hI p hp h1 h2 Inv hI0 hok budget hb 159 [.sl (picks.map encInt)] (pkP picks) (fun en n he=>pickP_ok picks hl en n he) (fun en n he=>pkP_in hpk en n he),?_⟩
 rintro r rfl
 refine⟨e7 _ _,?_⟩
 rw[← runK_L p picks budget _ _ _ _ rfl]
 generalize fR p (pkP picks) budget (budget.toNat+1) (xY p) [] []=x
 obtain⟨c,tr,tk,s⟩:=x
 conv=>whnf
 refine .inr ?_
 conv=>whnf
 refine .inl ⟨agg (vW c tr tk s),⟨vW c tr tk s,rfl,fz_runS (c:=c) (tr:=tr) (tk:=tk) (s:=s) rfl rfl ?_ (fun j hj=>?_) rfl rfl ?_ ?_ ?_ ?_ ?_⟩,rfl⟩
 ·conv=>lhs;whnf
  refine congrArg some ?_
  repeat (first|exact rfl|refine xJ ?_ (congrArg (Ob.rs 109 6) (yB fun _ _=>rfl)))
 ·have e:ownH (hJ (c,tr,tk,s)++[bv true]) (.s 903 j)=some (.ds 100 1 (stk s.ths[j])):=by
   show((s.ths.map stk)[j]?).map (Ob.ds 100 1)=_
   simp[hj]
  show Option.map (nG (.n 7)) (match ownH (hJ (c,tr,tk,s)++[bv true]) (.s 903 j) with|some ob=>some ob|none=>_)=_
  rw[e]
  rfl
 ·simp
 ·simp
 ·simp
 ·simp
 ·simp
end Ai
namespace Ai
set_option maxRecDepth 100000
open Go Go.Proofs Ieee
theorem order_symm {x y:Nat}:double.order x y=some .eq↔double.order y x=some .eq:=by
 have key:∀ {x y:Nat},double.order x y=some .eq→double.order y x=some .eq:=by
  intro x y h
  unfold Format.order at *
  cases hx:double.read x with
  |nan s f=>rw[hx] at h;cases h
  |infinity s =>
   cases hy:double.read y with
   |nan t f=>rw[hx,hy] at h;cases h
   |infinity t=>rw[hx,hy] at h;cases s <;> cases t <;> first|rfl|cases h
   |number t n i=>rw[hx,hy] at h;cases s <;> cases h
  |number s m e =>
   cases hy:double.read y with
   |nan t f=>rw[hx,hy] at h;cases h
   |infinity t=>rw[hx,hy] at h;cases t <;> cases h
   |number t n i =>
    rw[hx,hy] at h
    simp only[Datum.order,Option.some.injEq] at h ⊢
    have h:=Std.LawfulEqCmp.eq_of_compare h
    rw[Int.min_comm i e,h]
    exact Std.ReflCmp.compare_self
 exact⟨key,key⟩
theorem eql_symm {x y:Nat}:fcmp .eql x y=fcmp .eql y x:=by
 have:∀ a b:Nat,fcmp .eql a b=true↔double.order a b=some .eq:=fun a b=>by simp[fcmp]
 rw[Bool.eq_iff_iff,this,this]
 exact order_symm
theorem near_cut:(List.range 1001).all (fun q=>canon (double.nearest false q 0)==FloatKind.f64.nearest (q:Int))=true:=by decide +kernel
theorem near_cut' {q:Nat} (h:q≤1000):canon (double.nearest false q 0)=FloatKind.f64.nearest (q:Int):=by
 have:=near_cut
 simp only[List.all_eq_true,List.mem_range,beq_iff_eq] at this
 exact this q (by omega)
theorem inI56_ok (n lo hi:Int):CallsTo EE 80 [i64 n,i64 lo,i64 hi] (·=bp (InR n lo hi)):=by
 refine callsTo_of_AW (fn:=Tryz.f80) Tryz.func80 rfl (by kernel_rfl) rfl ?_
 conv=>whnf
 repeat' (refine kbi (fun h=>?_) (fun h=>?_) <;> first|contradiction|conv=>whnf)
 all_goals simp only[decide_eq_true_eq] at *
 all_goals first|exact bpt (by unfold InR;omega)|exact bpf (by unfold InR;omega)
theorem tP {x:Nat} {many n:Int} (h1:1≤many∧many≤1000) (hx0:fcmp .lss x 0=false) (hxm:fcmp .lss x (FloatKind.f64.nearest many)=true) (hn:floatToIntVal .f64 x .i64=some n) (hr:0≤n∧n<many) :
  (wE x=2∨wE x=3)↔fcmp .eql (FloatKind.f64.nearest n) x=true:=by
 have hdec:FloatKind.f64.decode x=double.read x:=rfl
 unfold floatToIntVal at hn
 rw[hdec] at hn
 have z0:FloatKind.f64.nearest 0=0:=by decide
 unfold wE
 cases hd:double.read x with
 |nan s f =>
  rw[hd] at hn;cases hn
 |infinity s=>rw[hd] at hn;cases hn
 |number s m i =>
  have hnan:¬ zO x=true:=by unfold zO;rw[hd];simp[Datum.isNaN]
  rw[if_neg hnan]
  rw[hd] at hn
  simp only[Datum.toInt,Datum.integral] at hn
  simp only
  have hcut0:m=0→Toward.cut .zero s (m <<< i.toNat) (-i).toNat=0:=by
   rintro rfl
   rw[cO];simp
  by_cases e0:fcmp .eql x 0=true
  ·rw[if_pos e0]
   have hm:m=0:=by
    have o:double.order x 0=some .eq:=by simpa[fcmp] using e0
    unfold Format.order at o
    rw[hd,kS] at o
    simp only[Datum.order,Option.some.injEq] at o
    have o:=Std.LawfulEqCmp.eq_of_compare o
    simp only[signed,Nat.shiftLeft_eq] at o
    have:0<2 ^ (i - min i double.leastPlace).toNat:=Nat.pow_pos (by decide)
    have o2:m*2 ^ (i - min i double.leastPlace).toNat=0:=by
     simp only[Nat.zero_mul] at o
     generalize m*2 ^ (i - min i double.leastPlace).toNat=u at o ⊢
     cases s <;> simp at o <;> omega
    rcases Nat.mul_eq_zero.1 o2 with e|e
    ·exact e
    ·omega
   have hn0:n=0:=by
    rw[hcut0 hm] at hn
    split at hn
    ·simp only[Option.some.injEq] at hn
     rw[← hn]
     cases s <;> rfl
    ·cases hn
   subst hn0
   rw[z0,eql_symm,e0]
   simp
  ·rw[if_neg e0]
   have hs:s=false:=by
    cases s with
    |false=>rfl
    |true =>
     exfalso
     have o:double.order x 0≠some .lt:=by simpa[fcmp] using hx0
     have o2:double.order x 0≠some .eq:=by simpa[fcmp] using e0
     unfold Format.order at o o2
     rw[hd,kS] at o o2
     simp only[Datum.order,Option.some.injEq,ne_eq] at o o2
     rw[cmp_lt] at o
     simp only[signed,if_true,Nat.shiftLeft_eq,Nat.zero_mul] at o o2
     by_cases hm:m=0
     ·subst hm;simp at o2;try exact o2 rfl
     ·have:0<m*2 ^ (i - min i double.leastPlace).toNat:=Nat.mul_pos (by omega) (Nat.pow_pos (by decide))
      generalize m*2 ^ (i - min i double.leastPlace).toNat=u at o o2 this
      simp at o
      omega
   subst hs
   generalize hq:Toward.cut .zero false (m <<< i.toNat) (-i).toNat=q at *
   have hnq:n=(q:Int):=by
    split at hn
    ·simp only[Option.some.injEq] at hn
     rw[← hn]
     show((q <<< 0:Nat):Int)=q
     rw[Nat.shiftLeft_zero]
    ·cases hn
   have ht:dV x=FloatKind.f64.nearest n:=by
    unfold dV
    rw[hd]
    simp only[Datum.integral,hq,Format.write]
    rw[hnq,near_cut' (by omega)]
   rw[ht,eql_symm]
   by_cases h:fcmp .eql (FloatKind.f64.nearest n) x=true
   ·rw[if_pos h];simp[h]
   ·rw[if_neg h];simp[h]
theorem kind_nan {x:Nat} (h:wE x=2∨wE x=3):zO x=false:=by
 cases hn:zO x with
 |false=>rfl
 |true =>
  exfalso
  have:wE x=0:=by unfold wE;rw[if_pos hn]
  omega
theorem geq_lss {x y:Nat} (h:fcmp .geq x y=true) (e:fcmp .lss x y=true):False:=by
 have h:(double.order x y==some .gt || double.order x y==some .eq)=true:=h
 have e:(double.order x y==some .lt)=true:=e
 simp only[Bool.or_eq_true,beq_iff_eq] at h e
 rw[e] at h
 rcases h with h|h <;> cases h
theorem pW {x:Nat} {many:Int} (h1:InR many 1 1000) (hn:zO x=false) (h:fcmp .geq x (FloatKind.f64.nearest many)=false):fcmp .lss x (FloatKind.f64.nearest many)=true:=by
 obtain⟨b,rfl⟩:∃ b:Nat,many=(b:Int):=⟨many.toNat,by have:=h1.1;omega⟩
 obtain⟨k,hk⟩:=iF (m:=b) (by have:=h1.1;omega) (by have:=h1.2;omega)
 have h:(double.order x (FloatKind.f64.nearest (b:Int))==some .gt || double.order x (FloatKind.f64.nearest (b:Int))==some .eq)=false:=h
 show(double.order x (FloatKind.f64.nearest (b:Int))==some .lt)=true
 obtain⟨c,hc⟩:∃ c,double.order x (FloatKind.f64.nearest (b:Int))=some c:=by
  unfold Format.order
  rw[hk]
  unfold zO at hn
  cases hd:double.read x with
  |nan s f=>rw[hd] at hn;cases hn
  |infinity s=>exact⟨_,rfl⟩
  |number s m e=>exact⟨_,rfl⟩
 rw[hc] at h ⊢
 cases c with
 |lt=>rfl
 |eq=>cases h
 |gt=>cases h
theorem idx_none {x:Nat} {many:Int} (hk:¬ (wE x=2∨wE x=3)):yV x many=none:=by
 unfold yV
 split
 ·rename_i hc
  obtain⟨n,g1,g2,g3⟩:=mN x many hc.1.1 hc.1.2 hc.2.1 hc.2.2
  rw[g1]
  simp only
  rw[if_neg]
  intro e
  exact hk ((tP hc.1 hc.2.1 hc.2.2 g1 ⟨g2,g3⟩).2 e)
 ·rfl
theorem p8:yX:=by
 intro x many
 refine callsTo_of_AW (fn:=Tryz.f209) Tryz.func209 rfl (by kernel_rfl) rfl ?_
 conv=>whnf
 refine⟨_,oQ x,?_⟩
 rintro r rfl
 conv=>whnf
 refine ocase (inI56_ok _ _ _) (fun h1=>?_) (fun h1=>?_)
 ·conv=>whnf
  refine kbi (fun k2=>?_) (fun k2=>?_)
  ·have k2:¬ wE x=2:=by simpa using k2
   conv=>whnf
   refine kbi (fun k3=>?_) (fun k3=>?_)
   ·have k3:¬ wE x=3:=by simpa using k3
    conv=>whnf
    rw[idx_none (by omega)]
    rfl
   have hk:wE x=2∨wE x=3:=.inr (by simpa using k3)
   conv=>whnf
   refine kbi (fun hx0=>?_) (fun hx0=>?_)
   ·have hx0:fcmp .lss x 0=true:=hx0
    conv=>whnf
    rw[show yV x many=none by unfold yV;rw[if_neg];rintro⟨_,e,_⟩;rw[hx0] at e;cases e]
    rfl
   have hx0:fcmp .lss x 0=false:=by
    have hx0:¬ fcmp .lss x 0=true:=hx0
    simpa using hx0
   conv=>whnf
   refine kbi (fun hg=>?_) (fun hg=>?_)
   ·have hg:fcmp .geq x (FloatKind.f64.nearest many)=true:=hg
    conv=>whnf
    rw[show yV x many=none by unfold yV;rw[if_neg];rintro⟨_,_,e⟩;exact geq_lss hg e]
    rfl
   have hg:fcmp .geq x (FloatKind.f64.nearest many)=false:=by
    have hg:¬ fcmp .geq x (FloatKind.f64.nearest many)=true:=hg
    simpa using hg
   have hxm:=pW h1 (kind_nan hk) hg
   obtain⟨n,g1,g2,g3⟩:=mN x many h1.1 h1.2 hx0 hxm
   have he:=(tP h1 hx0 hxm g1 ⟨g2,g3⟩).1 hk
   conv=>whnf
   refine⟨n,g1,?_⟩
   conv=>whnf
   rw[show yV x many=some n by unfold yV;rw[if_pos ⟨h1,hx0,hxm⟩,g1];simp only;rw[if_pos he]]
   rfl
  ·have hk:wE x=2∨wE x=3:=.inl (by simpa using k2)
   conv=>whnf
   refine kbi (fun hx0=>?_) (fun hx0=>?_)
   ·have hx0:fcmp .lss x 0=true:=hx0
    conv=>whnf
    rw[show yV x many=none by unfold yV;rw[if_neg];rintro⟨_,e,_⟩;rw[hx0] at e;cases e]
    rfl
   have hx0:fcmp .lss x 0=false:=by
    have hx0:¬ fcmp .lss x 0=true:=hx0
    simpa using hx0
   conv=>whnf
   refine kbi (fun hg=>?_) (fun hg=>?_)
   ·have hg:fcmp .geq x (FloatKind.f64.nearest many)=true:=hg
    conv=>whnf
    rw[show yV x many=none by unfold yV;rw[if_neg];rintro⟨_,_,e⟩;exact geq_lss hg e]
    rfl
   have hg:fcmp .geq x (FloatKind.f64.nearest many)=false:=by
    have hg:¬ fcmp .geq x (FloatKind.f64.nearest many)=true:=hg
    simpa using hg
   have hxm:=pW h1 (kind_nan hk) hg
   obtain⟨n,g1,g2,g3⟩:=mN x many h1.1 h1.2 hx0 hxm
   have he:=(tP h1 hx0 hxm g1 ⟨g2,g3⟩).1 hk
   conv=>whnf
   refine⟨n,g1,?_⟩
   conv=>whnf
   rw[show yV x many=some n by unfold yV;rw[if_pos ⟨h1,hx0,hxm⟩,g1];simp only;rw[if_pos he]]
   rfl
 ·conv=>whnf
  rw[show yV x many=none by unfold yV;rw[if_neg];rintro⟨e,_⟩;exact h1 e]
  rfl
end Ai
namespace Ai
set_option maxRecDepth 100000
open Go Go.Proofs Ieee
def F64 (x:Nat):Prop:=x<18446744073709551616
theorem nearest_f64 (s:Bool) (m:Nat) (i:Int):F64 (double.nearest s m i):=by
 unfold F64 Format.nearest
 have e1:double.signWeight=9223372036854775808:=by decide
 have e2:double.infRung=9218868437227405312:=by decide
 split
 ·unfold Format.word;rw[e1];split <;> omega
 ·unfold Format.word
  rw[e1,e2]
  simp only
  generalize (max (i+↑m.log2 - ↑double.fractionBits) double.leastPlace - double.leastPlace).toNat*double.binade+Toward.even.cut s (m <<< (i - max (i+↑m.log2 - ↑double.fractionBits) double.leastPlace).toNat) (max (i+↑m.log2 - ↑double.fractionBits) double.leastPlace - i).toNat=r
  split <;> omega
theorem eA (d:Datum):F64 (double.write d):=by
 cases d with
 |number s m i=>exact nearest_f64 s m i
 |infinity s=>unfold F64 Format.write Format.word;cases s <;> decide
 |nan s f =>
  show(if s=true then double.signWeight+(double.infRung+f % double.binade) else double.infRung+f % double.binade)<18446744073709551616
  rw[show double.signWeight=9223372036854775808 by decide,show double.infRung=9218868437227405312 by decide,show double.binade=4503599627370496 by decide]
  split <;> omega
theorem nearN_f64 (n:Int):F64 (FloatKind.f64.nearest n):=eA (.number (n<0) n.natAbs 0)
theorem fop_f64 (op:BinOp) (x y:Nat):F64 (fop op x y):=by
 have hn:F64 nanC:=by unfold F64;decide
 have key:∀ o:Option Datum,F64 ((o.map double.write).getD nanC):=by
  intro o
  cases o with
  |none=>exact hn
  |some d=>exact eA d
 unfold fop floatBits
 cases op <;> first|exact hn|exact key _
theorem reckon_f64 (c:Int) (x y:Nat):F64 (yP c x y):=by
 unfold yP
 repeat' split
 all_goals first|exact fop_f64 _ _ _|(unfold F64 oneF;decide)|(unfold F64;decide)
def StL.flt (s:StL):Prop:=(∀ c∈s.cells,F64 c)∧∀ t∈s.ths,∀ x∈t.stack,F64 x
theorem wV {s:StL} {k:Nat} {t:Th} (h:s.flt) (ht:∀ x∈t.stack,F64 x):(s.put k t).flt:=by
 refine⟨h.1,fun u hu=>?_⟩
 rcases List.mem_or_eq_of_mem_set hu with e|e
 ·exact h.2 u e
 ·subst e;exact ht
theorem topN_f64 {t:Th} {o:OpL} {i:Nat} (h:∀ x∈t.stack,F64 x):F64 (xC t o i):=oY h
theorem flt_do {s:StL} {k:Nat} {o:OpL} {e:Ev} (hk:k<s.ths.length) (h:s.flt) (ho:F64 o.v):(doL s k o e).1.flt:=by
 have hgd:s.ths.getD k th0=s.ths[k]:=by simp[List.getD_eq_getElem?_getD,hk]
 have ht:=h.2 _ (List.getElem_mem hk)
 generalize s.ths[k]=t at *
 unfold doL
 simp only[hgd]
 have hpop:∀ x∈(zG t o).stack,F64 x:=fun x hx=>ht x (List.mem_of_mem_take hx)
 have hpush:∀ v,F64 v→∀ x∈(zS (zG t o) v).stack,F64 x:=by
  intro v hv x hx
  rcases List.mem_append.1 hx with e|e
  ·exact hpop x e
  ·simp only[List.mem_cons,List.not_mem_nil,or_false] at e
   subst e;exact hv
 by_cases n1:o.code=1
 ·rw[if_pos n1];exact wV h (hpush _ ho)
 rw[if_neg n1]
 by_cases n2:o.code=2
 ·rw[if_pos n2]
  refine wV h (hpush _ ?_)
  rw[List.getD_eq_getElem?_getD]
  cases hg:s.cells[o.a.toNat]? with
  |none=>unfold F64;decide
  |some c=>exact h.1 c (List.mem_of_getElem? hg)
 rw[if_neg n2]
 by_cases n3:o.code=3
 ·rw[if_pos n3]
  refine wV ⟨fun c hc=>?_,h.2⟩ hpop
  rcases List.mem_or_eq_of_mem_set hc with e|e
  ·exact h.1 c e
  ·subst e;exact topN_f64 ht
 rw[if_neg n3]
 by_cases n10:o.code=10
 ·rw[if_pos n10];exact wV h hpop
 rw[if_neg n10]
 by_cases n11:o.code=11
 ·rw[if_pos n11]
  refine wV h ?_
  split
  ·exact hpop
  ·exact hpop
 rw[if_neg n11]
 by_cases n12:o.code=12
 ·rw[if_pos n12];exact wV (s:={ s with owner:=_ }) h hpop
 rw[if_neg n12]
 by_cases n13:o.code=13
 ·rw[if_pos n13];exact wV (s:={ s with owner:=_ }) h hpop
 rw[if_neg n13]
 by_cases n14:o.code=14
 ·rw[if_pos n14]
  refine wV (s:={ s with ths:=_ }) ⟨h.1,fun u hu=>?_⟩ (hpush _ (nearN_f64 _))
  rcases List.mem_append.1 hu with e|e
  ·exact h.2 u e
  ·simp only[List.mem_cons,List.not_mem_nil,or_false] at e
   subst e;intro x hx;cases hx
 rw[if_neg n14]
 by_cases n15:o.code=15
 ·rw[if_pos n15];exact wV h hpop
 rw[if_neg n15]
 by_cases n16:o.code=16
 ·rw[if_pos n16];exact wV (s:={ s with owner:=_ }) h hpop
 rw[if_neg n16]
 by_cases n17:o.code=17
 ·rw[if_pos n17]
  cases wO s.ths o.a with
  |none=>exact wV h hpop
  |some j =>
   refine wV (s:={ s with ths:=_ }) ⟨h.1,fun u hu=>?_⟩ hpop
   obtain⟨i,hi,rfl⟩:=List.mem_iff_getElem.1 hu
   have hil:i<s.ths.length:=by simpa using hi
   have:=h.2 _ (List.getElem_mem hil)
   rw[List.getElem_modify]
   split
   ·exact this
   ·exact this
 rw[if_neg n17]
 exact wV h (hpush _ (reckon_f64 _ _ _))
theorem flt_step {p:ProgL} (hv:p.flt) {s:StL} {k:Nat} (hk:k<s.ths.length) (h:s.flt):(zQ p s k).1.flt:=by
 have hgd:s.ths.getD k th0=s.ths[k]:=by simp[List.getD_eq_getElem?_getD,hk]
 have ht:=h.2 _ (List.getElem_mem hk)
 unfold zQ
 simp only[hgd]
 split
 ·exact wV (s:={ s with owner:=_ }) h ht
 ·split
  ·exact wV h ht
  ·rename_i o hn
   split
   ·refine flt_do hk h ?_
    unfold yL at hn
    by_cases hr:s.ths[k].rt.toNat<p.rs.length
    ·have e:p.rs.getD s.ths[k].rt.toNat []=p.rs[s.ths[k].rt.toNat]:=by rw[List.getD_eq_getElem?_getD,List.getElem?_eq_getElem hr];rfl
     rw[e] at hn
     exact hv _ (List.getElem_mem hr) o (List.mem_of_getElem? hn)
    ·have e:p.rs.getD s.ths[k].rt.toNat []=[]:=by rw[List.getD_eq_getElem?_getD,List.getElem?_eq_none (by omega)];rfl
     rw[e] at hn
     simp at hn
   ·exact h
theorem flt_new (p:ProgL):(xY p).flt:=by
 refine⟨fun c hc=>?_,fun t ht=>?_⟩
 ·obtain⟨_,rfl⟩:=List.mem_replicate.1 hc
  unfold F64;decide
 ·have:t=qV 0:=by simpa[xY] using ht
  subst this
  intro x hx;cases hx
theorem goes_st {p:ProgL} {s:StL} {k:Nat} (h:k∈zA p s) (hk:k<s.ths.length):s.ths[k].st=1∨s.ths[k].st=4:=by
 have:=(List.mem_filter.1 h).2
 unfold qA at this
 have this:=of_decide_eq_true this
 simp only[List.getD_eq_getElem?_getD,List.getElem?_eq_getElem hk,Option.getD_some] at this
 exact this.2.1
theorem joins_top {s:StL} {k:Nat} {o:OpL} (hk:k<s.ths.length) (hf:yD s k o=0) (h15:o.code=15):∃ j,yV (xC s.ths[k] o 0) s.ths.length=some j∧yC s s.ths[k]=some j:=by
 have hgd:s.ths.getD k th0=s.ths[k]:=by simp[List.getD_eq_getElem?_getD,hk]
 unfold yD at hf
 simp only[hgd] at hf
 generalize s.ths[k]=t at *
 have ht:zC o.code=(1,0):=by rw[h15];decide
 rw[ht] at hf
 simp only at hf
 split at hf
 ·cases hf
 rename_i h1
 have hl:1≤t.stack.length:=by
  have:=fun e=>h1 (.inl e)
  omega
 split at hf
 ·cases hf
 split at hf
 ·cases hf
 rename_i h3
 have hj:¬ (yC s t).getD (-1)<0:=fun e=>h3 ⟨h15,e⟩
 have hkn:yH t o=t.stack.length - 1:=by simp[yH,wN,ht]
 have htop:t.stack.getLast?=some (xC t o 0):=by
  unfold xC
  rw[hkn,List.getLast?_eq_getElem?,List.getD_eq_getElem?_getD,List.getElem?_drop]
  rw[Nat.add_zero,List.getElem?_eq_getElem (by omega)]
  rfl
 unfold yC at hj ⊢
 rw[htop] at hj ⊢
 simp only[Option.bind_some] at hj ⊢
 cases hi:yV (xC t o 0) s.ths.length with
 |none=>rw[hi] at hj;exact absurd (by decide) hj
 |some j=>exact⟨j,rfl,rfl⟩
theorem runI {p:ProgL} (hg:p.goodS) (hv:p.flt):RunI p (fun s=>SInv p s∧s.flt):={
 small:=fun s h=>(pR hg).small s h.1
 seen:=fun s h=>(pR hg).seen s h.1
 ready:=fun s h=>(pR hg).ready s h.1
 awake:=fun s h k hk hl=>by
  have:=goes_st hk hl
  omega
 flt:=fun s h=>h.2.2
 joins:=fun s h k hk hl o hn hf h15=>joins_top hl hf h15
 step:=fun s h k hk=>by
  have:k<s.ths.length:=by have:=(List.mem_filter.1 hk).1;simpa using this
  exact⟨(pR hg).step s h.1 k hk,flt_step hv this h.2⟩ }
theorem aO (p:ProgL) (hp:p.wf) (hg:p.goodS) (hv:p.flt) (picks:List Int) (budget:Int) (hpk:∀ i∈picks,0≤i) (hl:picks.length≤1048576) (hb:InR budget 0 1048576) :
  CallsTo EE 108 [agg (encProg p),sl (picks.map encInt),i64 budget] (·=agg (gJ p picks budget (budget.toNat+1) (xY p) [] [])):=by
 obtain⟨b1,b2,b3,b4⟩:=hg.1
 exact y4 p8 p hp ⟨b1.1,by have:=b1.2;omega⟩ ⟨b2.1,by have:=b2.2;omega⟩ _ ⟨w6 hg,flt_new p⟩ (runI hg hv) picks budget hpk hl hb
end Ai
namespace Ai
set_option maxRecDepth 100000
open Go Go.Proofs
noncomputable def yA (p:ProgL) (s:StL) (n:Nat):List (Nat × Int):=((List.range n).filter fun k=>decide (0≤zH p s (s.ths.getD k th0))).map fun k=>(k,zH p s (s.ths.getD k th0))
noncomputable def bI (p:ProgL) (s:StL):List (Nat × Int):=yA p s s.ths.length
def pA (e:Nat × Int):List D:=[.sl [[di e.1],[di e.2]]]
theorem zW {p:ProgL} {s:StL} {n:Nat}:yA p s (n+1)=yA p s n++(if 0≤zH p s (s.ths.getD n th0) then [(n,zH p s (s.ths.getD n th0))] else []):=by
 unfold yA
 rw[List.range_succ,List.filter_append,List.map_append]
 congr 1
 by_cases h:0≤zH p s (s.ths.getD n th0)
 ·rw[List.filter_cons_of_pos (by simpa using h),if_pos h];rfl
 ·rw[List.filter_cons_of_neg (by simpa using h),if_neg h];rfl
theorem cL {p:ProgL} {s:StL} {n:Nat}:(yA p s n).length≤n:=by
 unfold yA
 rw[List.length_map]
 exact Nat.le_trans (List.length_filter_le _ _) (by simp)
theorem oW (hI:yX) (p:ProgL) (s:StL) (hp:p.wf) (hs:s.small) (hv:∀ t∈s.ths,t.seen p s) :
  CallsTo EE 69 [.fp (zZ s),agg (encProg p)] (·=.uq 26 1 ((bI p s).map pA)):=by
 refine callsTo_of_AW (fn:=Tryz.f69) Tryz.func69 rfl (by kernel_rfl) rfl ?_
 conv=>whnf
 refine yJ (fun k:Nat=>[(0,.fp (zZ s)),(3,.ptr (.n 3) 0),(5,.ref (.n 10) 0 (yA p s k).length),(14,sl (s.ths.map zD)),(15,i64 (s.ths.map zD).length),(16,i64 k)])
  (fun k=>[(.n 3,.vs 39 ((encProg p).map .d)),(.n 10,.ds 26 1 ((yA p s k).map pA))]) (fun k=>s.ths.length - k) (fun k=>k≤s.ths.length) 0
  Weak.refl ⟨rfl,rfl,rfl,rfl,rfl,rfl,trivial⟩ ⟨rfl,rfl,trivial⟩ (Nat.zero_le _) ?_
 intro k τ H hk
 have hk:k≤s.ths.length:=hk
 conv=>whnf
 refine kbi (fun h=>?_) (fun h=>?_)
 ·have hlt:=yF h
  conv=>whnf
  refine⟨zD s.ths[k],zL zD hlt rfl,?_⟩
  conv=>whnf
  have hg:s.ths.getD k th0=s.ths[k]:=by simp[List.getD_eq_getElem?_getD,hlt]
  have hle:(yA p s k).length≤k:=cL
  have hn:=hs.1
  refine⟨_,eE hI p s s.ths[k] hp (hs.2.1 _ (List.getElem_mem hlt)) (hv _ (List.getElem_mem hlt)),?_⟩
  rintro r ⟨w,rfl,hw⟩
  by_cases hb:0≤zH p s s.ths[k]
  ·have hw:=hw hb
   subst hw
   have hsk:yA p s (k+1)=yA p s k++[(k,zH p s s.ths[k])]:=by rw[zW,hg,if_pos hb]
   simp only[bp,tC hb]
   conv=>whnf
   refine .inl ?_
   conv=>whnf
   refine⟨⟨rfl,by show((yA p s k).length+1)*24≤_;omega,by show(yA p s k).length+1≤_;omega⟩,?_⟩
   conv=>whnf
   refine⟨k+1,by show k+1≤s.ths.length;omega,by show s.ths.length - (k+1)<s.ths.length - k;omega,⟨rfl,rfl,?_,rfl,rfl,zF hlt (by omega),trivial⟩,⟨rfl,?_,trivial⟩⟩
   ·rw[hsk]
    show AV.ref (.n 10) 0 ((yA p s k).length+1)=_
    simp
   ·rw[hsk]
    show some (Ob.ds 26 1 (((yA p s k).map pA).take (yA p s k).length++[pA (k,zH p s s.ths[k])]))=_
    rw[List.take_of_length_le (by simp)]
    simp
  ·simp only[bp,x3 hb]
   conv=>whnf
   have hsk:yA p s (k+1)=yA p s k:=by rw[zW,hg,if_neg hb];simp
   refine⟨k+1,by show k+1≤s.ths.length;omega,by show s.ths.length - (k+1)<s.ths.length - k;omega,⟨rfl,rfl,?_,rfl,rfl,zF hlt (by omega),trivial⟩,⟨rfl,?_,trivial⟩⟩
   ·rw[hsk];rfl
   ·rw[hsk];rfl
 ·have hge:s.ths.length≤k:=by simpa using h
  have hkk:k=s.ths.length:=by omega
  subst hkk
  conv=>whnf
  show AV.uq 26 1 (List.take (yA p s s.ths.length).length (List.map pA (yA p s s.ths.length)))=_
  rw[List.take_of_length_le (by simp)]
  rfl
end Ai
namespace Ai.Cyc
structure BS where
 out:List Nat
 queue:List Nat
 far:List (Nat × Nat)
deriving DecidableEq
def setF (l:List (Nat × Nat)) (k v:Nat):List (Nat × Nat):=if l.any (fun p=>p.1==k)=true then l.map (fun p=>if p.1==k then (k,v) else p) else l++[(k,v)]
def v6 (l:List (Nat × Nat)) (k:Nat):Nat:=((l.find? fun p=>p.1==k).map (·.2)).getD 0
def bsE (goal cur:Nat) (st:BS) (e:Nat × Nat):BS :=
 if (e.2 != cur || decide (0<st.out.getD e.1 0))=true then st
 else if (e.1 != goal)=true then ⟨st.out.set e.1 (v6 st.far cur+1),st.queue++[e.1],setF st.far e.1 (v6 st.far cur+1)⟩
 else ⟨st.out.set e.1 (v6 st.far cur+1),st.queue,st.far⟩
def bs0 (goal:Nat):BS:=⟨List.replicate 100 0,[goal],[(goal,0)]⟩
def qM (goal:Nat) (edges:List (Nat × Nat)):Nat→Nat→BS→Option BS
 | 0,_,_=>none
 |f+1,i,st=>if i<st.queue.length then qM goal edges f (i+1) (edges.foldl (bsE goal (st.queue.getD i 0)) st) else some st
def nextI (edges:List (Nat × Nat)) (far:List Nat) (n at_ left:Nat):Nat :=
 edges.foldl (fun nx e=>if (e.1==at_&&e.2 != n&&far.getD e.2 0==left)=true then min nx e.2 else nx) 100
def oV (edges:List (Nat × Nat)) (far:List Nat) (n:Nat):Nat→List Nat→Nat→List Nat
 | 0,out,_=>out
 |left+1,out,at_=>oV edges far n left (out++[nextI edges far n at_ (left+1)]) (nextI edges far n at_ (left+1))
def gV (edges:List (Nat × Nat)) (n:Nat):Option (List Nat) :=
 match qM n edges 7 0 (bs0 n) with
 |none=>none
 |some st=>if st.out.getD n 0=0 then some [] else some (oV edges st.out n (st.out.getD n 0 - 1) [n] n)
def fM (edges:List (Nat × Nat)) (to:Nat):Nat→Nat→List (List Nat)→List Nat→Option (List Nat)
 | 0,_,_,_=>none
 |f+1,i,ways,seen =>
  if i<ways.length then
   match edges.find? (fun e=>e.1==(ways.getD i []).getLastD 0) with
   |none=>fM edges to f (i+1) ways seen
   |some e=>if e.2=to then some (ways.getD i []) else if seen.contains e.2=true then fM edges to f (i+1) ways seen
     else fM edges to f (i+1) (ways++[ways.getD i []++[e.2]]) (seen++[e.2])
  else some []
def dH (edges:List (Nat × Nat)) (n:Nat):Option (List Nat):=fM edges n 8 0 [[n]] []
def opts:List (Option Nat):=[none,some 0,some 1,some 2,some 3,some 4]
def ed (k:Nat) (o:Option Nat):List (Nat × Nat):=match o with|some b=>[(k,b)]|none=>[]
def ok (edges:List (Nat × Nat)):Bool:=(List.range 5).all fun n=>(gV edges n).isSome&&gV edges n==dH edges n
def fW (a:Option Nat):Bool:=opts.all fun b=>opts.all fun c=>opts.all fun d=>opts.all fun e=>ok (ed 0 a++ed 1 b++ed 2 c++ed 3 d++ed 4 e)
theorem okN:fW none=true:=by decide +kernel
theorem ok0:fW (some 0)=true:=by decide +kernel
theorem ok1:fW (some 1)=true:=by decide +kernel
theorem ok2:fW (some 2)=true:=by decide +kernel
theorem ok3:fW (some 3)=true:=by decide +kernel
theorem ok4:fW (some 4)=true:=by decide +kernel
theorem ok_all (a b c d e:Option Nat) (ha:a∈opts) (hb:b∈opts) (hc:c∈opts) (hd:d∈opts) (he:e∈opts):ok (ed 0 a++ed 1 b++ed 2 c++ed 3 d++ed 4 e)=true:=by
 have h:fW a=true:=by
  simp only[opts,List.mem_cons,List.not_mem_nil,or_false] at ha
  rcases ha with rfl|rfl|rfl|rfl|rfl|rfl
  ·exact okN
  ·exact ok0
  ·exact ok1
  ·exact ok2
  ·exact ok3
  ·exact ok4
 simp only[fW,List.all_eq_true] at h
 exact h b hb c hc d hd e he
end Ai.Cyc
namespace Ai
set_option maxRecDepth 100000
open Go Go.Proofs Cyc
def vQ (e:Nat × Nat):List D:=[.sl [[di e.1],[di e.2]]]
def arr (l:List Nat):List D:=l.map fun (x:Nat)=>di (x:Int)
def xI (x:Nat):List D:=[di (x:Int)]
def uI (l:List (Nat × Nat)):List (Int × List D):=l.map fun p=>(((p.1:Nat):Int),[di (p.2:Int)])
structure BSok (goal:Nat) (st:BS) (m:Nat):Prop where
 len:st.out.length=100
 far:∀ p∈st.far,p.2≤m
 que:st.queue.length≤m+1
 key:∀ q∈st.queue,∃ v,st.far.find? (fun p=>p.1==q)=some (q,v)
 pos:∀ p∈st.far,p.1=goal∨0<st.out.getD p.1 0
 flen:st.far.length≤m+1
theorem bs0_ok (goal:Nat):BSok goal (bs0 goal) 0:=⟨by simp[bs0],by simp[bs0],by simp[bs0],by simp[bs0],by simp[bs0],by simp[bs0]⟩
theorem sA {goal:Nat} {st:BS} {m k:Nat} (h:BSok goal st m):v6 st.far k≤m:=by
 unfold v6
 cases hf:st.far.find? (fun p=>p.1==k) with
 |none=>simp
 |some p=>exact h.far p (List.mem_of_find?_eq_some hf)
theorem atM_far (l:List (Nat × Nat)) (k:Nat):atM (uI l) (k:Int)=(l.find? fun p=>p.1==k).map fun p=>[di (p.2:Int)]:=by
 unfold atM uI
 rw[List.find?_map]
 have:((fun p:Int × List D=>p.1==(k:Int)) ∘ fun p:Nat × Nat=>(((p.1:Nat):Int),[di (p.2:Int)]))=fun p:Nat × Nat=>p.1==k:=by
  funext p
  show(((p.1:Nat):Int)==(k:Int))=(p.1==k)
  rw[Bool.eq_iff_iff,beq_iff_eq,beq_iff_eq]
  omega
 rw[this]
 cases l.find? fun p=>p.1==k <;> rfl
theorem hasM_far (l:List (Nat × Nat)) (k:Nat):aT (uI l) (k:Int)=l.any fun p=>p.1==k:=by
 unfold aT uI
 rw[List.any_map]
 congr 1
 funext p
 show(((p.1:Nat):Int)==(k:Int))=(p.1==k)
 rw[Bool.eq_iff_iff,beq_iff_eq,beq_iff_eq]
 omega
theorem idxM_far {l:List (Nat × Nat)} {k:Nat} (h:(l.any fun p=>p.1==k)=false):vJ (uI l) (k:Int)=l.length:=by
 unfold vJ
 have h2:=hasM_far l k
 rw[h] at h2
 have:(uI l).findIdx? (fun p=>p.1==(k:Int))=none:=by
  rw[List.findIdx?_eq_none_iff]
  unfold aT at h2
  simpa using h2
 rw[this]
 simp[uI]
theorem addM_far {l:List (Nat × Nat)} {k:Nat} (h:(l.any fun p=>p.1==k)=false):cY (uI l) (k:Int)=uI l++[((k:Int),[])]:=by
 unfold cY
 rw[hasM_far,h]
 rfl
theorem putM_far {l:List (Nat × Nat)} {k v:Nat}:kV (uI l++[((k:Int),[])]) l.length [di (v:Int)]=uI (l++[(k,v)]):=by
 unfold kV
 apply List.ext_getElem?
 intro i
 rw[List.getElem?_modify]
 by_cases h:i<l.length
 ·rw[List.getElem?_append_left (by simpa[uI] using h)]
  have:¬ l.length=i:=by omega
  simp only[uI,this,if_false,List.map_append]
  rw[List.getElem?_append_left (by simpa using h)]
  simp
 ·by_cases h2:i=l.length
  ·subst h2
   simp[uI]
  ·have e1:(uI l++[((k:Int),[])])[i]?=none:=List.getElem?_eq_none (by simp[uI];omega)
   have e2:(uI (l++[(k,v)]))[i]?=none:=List.getElem?_eq_none (by simp[uI];omega)
   rw[e1,e2];rfl
theorem r8 {l:List (Nat × Nat)} {k v:Nat} (h:(l.any fun p=>p.1==k)=false):setF l k v=l++[(k,v)]:=by
 unfold setF
 rw[h]
 rfl
theorem absent {goal:Nat} {st:BS} {m k:Nat} (h:BSok goal st m) (h0:st.out.getD k 0=0) (hg:k≠goal):(st.far.any fun p=>p.1==k)=false:=by
 rw[List.any_eq_false]
 intro p hp e
 have e:p.1=k:=by simpa using e
 rcases h.pos p hp with h1|h1
 ·exact hg (e▸h1)
 ·rw[e,h0] at h1;omega
theorem j9 {goal cur:Nat} {st:BS} {m:Nat} {e:Nat × Nat} (h:BSok goal st m) (he:e.1<100):BSok goal (bsE goal cur st e) (m+1):=by
 have hmono:BSok goal st (m+1):=⟨h.len,fun p hp=>Nat.le_succ_of_le (h.far p hp),Nat.le_succ_of_le h.que,h.key,h.pos,Nat.le_succ_of_le h.flen⟩
 unfold bsE
 split
 ·exact hmono
 rename_i h1
 have h0:st.out.getD e.1 0=0:=by
  simp only[Bool.or_eq_true,decide_eq_true_eq,not_or] at h1
  omega
 have hset:∀ (i:Nat),0<st.out.getD i 0→0<(st.out.set e.1 (v6 st.far cur+1)).getD i 0:=by
  intro i hi
  simp only[List.getD_eq_getElem?_getD,List.getElem?_set]
  split
  ·split
   ·simp
   ·rename_i h2 h3
    rw[h.len] at h3
    omega
  ·simpa[List.getD_eq_getElem?_getD] using hi
 split
 ·rename_i hg
  have hg:e.1≠goal:=by simpa using hg
  have hab:=absent h h0 hg
  rw[r8 hab]
  refine⟨by simpa using h.len,fun p hp=>?_,by simp;exact h.que,fun q hq=>?_,fun p hp=>?_,by simp;exact h.flen⟩
  ·rcases List.mem_append.1 hp with h2|h2
   ·exact Nat.le_succ_of_le (h.far p h2)
   ·simp only[List.mem_cons,List.not_mem_nil,or_false] at h2
    subst h2
    exact Nat.succ_le_succ (sA h)
  ·rw[List.find?_append]
   rcases List.mem_append.1 hq with h2|h2
   ·obtain⟨v,hv⟩:=h.key q h2
    exact⟨v,by rw[hv];rfl⟩
   ·simp only[List.mem_cons,List.not_mem_nil,or_false] at h2
    subst h2
    have:st.far.find? (fun p=>p.1==e.1)=none:=by
     rw[List.find?_eq_none]
     intro p hp
     have:=List.any_eq_false.1 hab p hp
     exact this
    rw[this]
    exact⟨v6 st.far cur+1,by simp⟩
  ·rcases List.mem_append.1 hp with h2|h2
   ·rcases h.pos p h2 with h3|h3
    ·exact .inl h3
    ·exact .inr (hset _ h3)
   ·simp only[List.mem_cons,List.not_mem_nil,or_false] at h2
    subst h2
    right
    simp[List.getD_eq_getElem?_getD,h.len,he]
 ·refine⟨by simpa using h.len,fun p hp=>Nat.le_succ_of_le (h.far p hp),Nat.le_succ_of_le h.que,h.key,fun p hp=>?_,Nat.le_succ_of_le h.flen⟩
  rcases h.pos p hp with h3|h3
  ·exact .inl h3
  ·exact .inr (hset _ h3)
end Ai
namespace Ai
set_option maxRecDepth 100000
open Go Go.Proofs Cyc
noncomputable def ops12:Array Oper:=(fV 12 (Tryz.f109.body.getD .skip)).getD #[]
theorem dR {S:St} {A:AV} {o:Key} {T:Nat} {out:List Nat} {k:Nat} (hA:A=.ptr o (0+k*1)) (hH:S.H o=some (.vs T ((arr out).map .d))) (hk:k<out.length):vN S A 1=some [i64 (out.getD k 0:Nat)]:=by
 subst hA
 unfold vN
 simp only[hH]
 have h1:Nat.ble (0+k*1+1) ((arr out).map AV.d).length=true:=by rw[Nat.ble_eq];simp[arr];omega
 simp only[h1,cond_true]
 have:((arr out).map AV.d).drop (0+k*1)=i64 (out.getD k 0:Nat)::((arr out).map AV.d).drop (k+1):=by
  rw[Nat.zero_add,Nat.mul_one,List.drop_eq_getElem_cons (by simpa[arr] using hk)]
  congr 1
  simp[arr,List.getD_eq_getElem?_getD,hk]
 rw[this]
 rfl
theorem jF (p:Key→Bool) (l:List Nat):scrPL p ((arr l).map .d)=(arr l).map .d:=by
 have:∀ ds:List D,scrPL p (ds.map .d)=ds.map .d:=by
  intro ds
  induction ds with
  |nil=>rfl
  |cons d ds ih=>simp only[List.map_cons,scrPL,ih];rfl
 exact this _
theorem sP {α:Type} (x:α):∀ (l:List α) (k:Nat),k<l.length→zY l k [x]=l.set k x
 | [],k,h=>by cases h
 |a::l,0,h=>rfl
 |a::l,k+1,h=>by
  show a::zY l k [x]=a::l.set k x
  rw[sP x l k (by simpa using h)]
theorem sQ {L:List AV} {l:List Nat} {k v:Nat} {x:AV} (hL:L=(arr l).map .d) (hk:k<l.length) (hx:x=i64 (v:Nat)):zY L (0+k*1) [x]=(arr (l.set k v)).map .d:=by
 subst hL hx
 rw[Nat.zero_add,Nat.mul_one,sP _ _ _ (by simpa[arr] using hk)]
 simp[arr,List.map_set]
structure R12 (edges:List (Nat × Nat)) (goal e0 e1 i j:Nat) (que out:List Nat) (far:List (Nat × Nat)) (v1:Nat) (L:Nat→Bool) (S:St):Prop where
 u0:S.τ 0=sl (edges.map vQ)
 u1:S.τ 1=i64 goal
 u4:S.τ 4=.ptr (.n 4) 0
 u5:S.τ 5=.ptr (.n 5) 0
 u7:S.τ 7=.mref (.n 14)
 u8:S.τ 8=i64 i
 u10:S.τ 10=.d (.sl [[di (e0:Int)],[di (e1:Int)]])
 u23:S.τ 23=sl (edges.map vQ)
 u24:S.τ 24=i64 (edges.map vQ).length
 u25:S.τ 25=i64 j
 h4:S.H (.n 4)=some (.vs 155 ((arr (List.replicate 100 0)).map .d))
 h5:S.H (.n 5)=some (.vs 155 ((arr out).map .d))
 c0:L 0=true→S.τ 61=.mref (.n 14)
 c1:L 1=true→S.τ 62=.d (.sl [[di (e0:Int)],[di (e1:Int)]])
 c2:L 2=true→S.τ 63=.fp [di (e0:Int)]
 c3:L 3=true→S.τ 64=i64 e0
 c4:L 4=true→S.τ 65=.d (.sl [[di (e0:Int)],[di (e1:Int)]])
 c5:L 5=true→S.τ 66=.fp [di (e0:Int)]
 c6:L 6=true→S.τ 67=i64 e0
 c7:L 7=true→S.τ 68=.ptr (.n 5) (0+e0*1)
 c8:L 8=true→S.τ 69=i64 v1
 c9:L 9=true→L 14=false→S.τ 70=.ref (.n 13) 0 que.length
 c10:L 10=true→S.τ 71=.d (.sl [[di (e0:Int)],[di (e1:Int)]])
 c11:L 11=true→S.τ 72=.fp [di (e0:Int)]
 c12:L 12=true→S.τ 73=i64 e0
 c13:L 13=true→L 14=false→S.τ 74=.ref (.n 74) 0 1
 c14:L 14=true→S.τ 75=.ref (.n 13) 0 (que.length+1)
 c15:L 15=true→S.τ 76=.tup [.junk,i64 far.length]
 c16:L 16=true→S.τ 77=i64 far.length
 e13:L 13=true→L 14=false→S.H (.n 74)=some (.ds 3 1 [[di (e0:Int)]])
 q6a:L 14=false→S.τ 6=.ref (.n 13) 0 que.length
 q6b:L 18=true→S.τ 6=.ref (.n 13) 0 (que.length+1)
 h13a:L 14=false→S.H (.n 13)=some (.ds 3 1 (que.map xI))
 h13b:L 14=true→S.H (.n 13)=some (.ds 3 1 ((que++[e0]).map xI))
 h14a:L 15=false→S.H (.n 14)=some (.mp false (uI far))
 h14b:L 15=true→L 17=false→S.H (.n 14)=some (.mp false (uI far++[((e0:Int),[])]))
 h14c:L 17=true→S.H (.n 14)=some (.mp false (uI (far++[(e0,v1)])))
 o1:L 14=true→L 9=true
 o2:L 14=true→L 13=true
 o3:L 17=true→L 15=true
 o4:L 15=true→L 14=true
 o5:L 18=true→L 14=true
 o6:L 18=true→L 17=true
theorem opB_0 {edges:List (Nat × Nat)} {goal e0 e1 i j:Nat} {que out:List Nat} {far:List (Nat × Nat)} {v1:Nat} (L:Nat→Bool) (S:St) (r:R12 edges goal e0 e1 i j que out far v1 L S) (hL:L 0=false):aDo EE Tryz.f109.ntmps ops12 (ops12[0]'(by decide)) S (R12 edges goal e0 e1 i j que out far v1 (fun j=>L j || j==0)):=by
 have hat:At [(7,.mref (.n 14))] [] [] S:=⟨⟨r.u7,trivial⟩,trivial,trivial⟩
 obtain⟨τ,H,rfl⟩:=hat.form
 conv=>whnf
 exact {
  u0:=r.u0
  u1:=r.u1
  u4:=r.u4
  u5:=r.u5
  u7:=r.u7
  u8:=r.u8
  u10:=r.u10
  u23:=r.u23
  u24:=r.u24
  u25:=r.u25
  h4:=r.h4
  h5:=r.h5
  c0:=fun _=>rfl
  c1:=fun g0=>r.c1 (by simpa using g0)
  c2:=fun g0=>r.c2 (by simpa using g0)
  c3:=fun g0=>r.c3 (by simpa using g0)
  c4:=fun g0=>r.c4 (by simpa using g0)
  c5:=fun g0=>r.c5 (by simpa using g0)
  c6:=fun g0=>r.c6 (by simpa using g0)
  c7:=fun g0=>r.c7 (by simpa using g0)
  c8:=fun g0=>r.c8 (by simpa using g0)
  c9:=fun g0 g1=>r.c9 (by simpa using g0) (by simpa using g1)
  c10:=fun g0=>r.c10 (by simpa using g0)
  c11:=fun g0=>r.c11 (by simpa using g0)
  c12:=fun g0=>r.c12 (by simpa using g0)
  c13:=fun g0 g1=>r.c13 (by simpa using g0) (by simpa using g1)
  c14:=fun g0=>r.c14 (by simpa using g0)
  c15:=fun g0=>r.c15 (by simpa using g0)
  c16:=fun g0=>r.c16 (by simpa using g0)
  e13:=fun g0 g1=>r.e13 (by simpa using g0) (by simpa using g1)
  q6a:=fun g0=>r.q6a (by simpa using g0)
  q6b:=fun g0=>r.q6b (by simpa using g0)
  h13a:=fun g0=>r.h13a (by simpa using g0)
  h13b:=fun g0=>r.h13b (by simpa using g0)
  h14a:=fun g0=>r.h14a (by simpa using g0)
  h14b:=fun g0 g1=>r.h14b (by simpa using g0) (by simpa using g1)
  h14c:=fun g0=>r.h14c (by simpa using g0)
  o1:=fun g0=>by have:=r.o1 (by simpa using g0);simp[this]
  o2:=fun g0=>by have:=r.o2 (by simpa using g0);simp[this]
  o3:=fun g0=>by have:=r.o3 (by simpa using g0);simp[this]
  o4:=fun g0=>by have:=r.o4 (by simpa using g0);simp[this]
  o5:=fun g0=>by have:=r.o5 (by simpa using g0);simp[this]
  o6:=fun g0=>by have:=r.o6 (by simpa using g0);simp[this] }
theorem opB_1 {edges:List (Nat × Nat)} {goal e0 e1 i j:Nat} {que out:List Nat} {far:List (Nat × Nat)} {v1:Nat} (L:Nat→Bool) (S:St) (r:R12 edges goal e0 e1 i j que out far v1 L S) (hL:L 1=false):aDo EE Tryz.f109.ntmps ops12 (ops12[1]'(by decide)) S (R12 edges goal e0 e1 i j que out far v1 (fun j=>L j || j==1)):=by
 have hat:At [(10,.d (.sl [[di (e0:Int)],[di (e1:Int)]]))] [] [] S:=⟨⟨r.u10,trivial⟩,trivial,trivial⟩
 obtain⟨τ,H,rfl⟩:=hat.form
 conv=>whnf
 exact {
  u0:=r.u0
  u1:=r.u1
  u4:=r.u4
  u5:=r.u5
  u7:=r.u7
  u8:=r.u8
  u10:=r.u10
  u23:=r.u23
  u24:=r.u24
  u25:=r.u25
  h4:=r.h4
  h5:=r.h5
  c0:=fun g0=>r.c0 (by simpa using g0)
  c1:=fun _=>rfl
  c2:=fun g0=>r.c2 (by simpa using g0)
  c3:=fun g0=>r.c3 (by simpa using g0)
  c4:=fun g0=>r.c4 (by simpa using g0)
  c5:=fun g0=>r.c5 (by simpa using g0)
  c6:=fun g0=>r.c6 (by simpa using g0)
  c7:=fun g0=>r.c7 (by simpa using g0)
  c8:=fun g0=>r.c8 (by simpa using g0)
  c9:=fun g0 g1=>r.c9 (by simpa using g0) (by simpa using g1)
  c10:=fun g0=>r.c10 (by simpa using g0)
  c11:=fun g0=>r.c11 (by simpa using g0)
  c12:=fun g0=>r.c12 (by simpa using g0)
  c13:=fun g0 g1=>r.c13 (by simpa using g0) (by simpa using g1)
  c14:=fun g0=>r.c14 (by simpa using g0)
  c15:=fun g0=>r.c15 (by simpa using g0)
  c16:=fun g0=>r.c16 (by simpa using g0)
  e13:=fun g0 g1=>r.e13 (by simpa using g0) (by simpa using g1)
  q6a:=fun g0=>r.q6a (by simpa using g0)
  q6b:=fun g0=>r.q6b (by simpa using g0)
  h13a:=fun g0=>r.h13a (by simpa using g0)
  h13b:=fun g0=>r.h13b (by simpa using g0)
  h14a:=fun g0=>r.h14a (by simpa using g0)
  h14b:=fun g0 g1=>r.h14b (by simpa using g0) (by simpa using g1)
  h14c:=fun g0=>r.h14c (by simpa using g0)
  o1:=fun g0=>by have:=r.o1 (by simpa using g0);simp[this]
  o2:=fun g0=>by have:=r.o2 (by simpa using g0);simp[this]
  o3:=fun g0=>by have:=r.o3 (by simpa using g0);simp[this]
  o4:=fun g0=>by have:=r.o4 (by simpa using g0);simp[this]
  o5:=fun g0=>by have:=r.o5 (by simpa using g0);simp[this]
  o6:=fun g0=>by have:=r.o6 (by simpa using g0);simp[this] }
theorem opB_2 {edges:List (Nat × Nat)} {goal e0 e1 i j:Nat} {que out:List Nat} {far:List (Nat × Nat)} {v1:Nat} (L:Nat→Bool) (S:St) (r:R12 edges goal e0 e1 i j que out far v1 L S) (hL:L 2=false) (k1:L 1=true):aDo EE Tryz.f109.ntmps ops12 (ops12[2]'(by decide)) S (R12 edges goal e0 e1 i j que out far v1 (fun j=>L j || j==2)):=by
 have hat:At [(62,.d (.sl [[di (e0:Int)],[di (e1:Int)]]))] [] [] S:=⟨⟨r.c1 k1,trivial⟩,trivial,trivial⟩
 obtain⟨τ,H,rfl⟩:=hat.form
 conv=>whnf
 refine⟨[di (e0:Int)],⟨by decide,rfl,rfl⟩,?_⟩
 conv=>whnf
 exact {
  u0:=r.u0
  u1:=r.u1
  u4:=r.u4
  u5:=r.u5
  u7:=r.u7
  u8:=r.u8
  u10:=r.u10
  u23:=r.u23
  u24:=r.u24
  u25:=r.u25
  h4:=r.h4
  h5:=r.h5
  c0:=fun g0=>r.c0 (by simpa using g0)
  c1:=fun g0=>r.c1 (by simpa using g0)
  c2:=fun _=>rfl
  c3:=fun g0=>r.c3 (by simpa using g0)
  c4:=fun g0=>r.c4 (by simpa using g0)
  c5:=fun g0=>r.c5 (by simpa using g0)
  c6:=fun g0=>r.c6 (by simpa using g0)
  c7:=fun g0=>r.c7 (by simpa using g0)
  c8:=fun g0=>r.c8 (by simpa using g0)
  c9:=fun g0 g1=>r.c9 (by simpa using g0) (by simpa using g1)
  c10:=fun g0=>r.c10 (by simpa using g0)
  c11:=fun g0=>r.c11 (by simpa using g0)
  c12:=fun g0=>r.c12 (by simpa using g0)
  c13:=fun g0 g1=>r.c13 (by simpa using g0) (by simpa using g1)
  c14:=fun g0=>r.c14 (by simpa using g0)
  c15:=fun g0=>r.c15 (by simpa using g0)
  c16:=fun g0=>r.c16 (by simpa using g0)
  e13:=fun g0 g1=>r.e13 (by simpa using g0) (by simpa using g1)
  q6a:=fun g0=>r.q6a (by simpa using g0)
  q6b:=fun g0=>r.q6b (by simpa using g0)
  h13a:=fun g0=>r.h13a (by simpa using g0)
  h13b:=fun g0=>r.h13b (by simpa using g0)
  h14a:=fun g0=>r.h14a (by simpa using g0)
  h14b:=fun g0 g1=>r.h14b (by simpa using g0) (by simpa using g1)
  h14c:=fun g0=>r.h14c (by simpa using g0)
  o1:=fun g0=>by have:=r.o1 (by simpa using g0);simp[this]
  o2:=fun g0=>by have:=r.o2 (by simpa using g0);simp[this]
  o3:=fun g0=>by have:=r.o3 (by simpa using g0);simp[this]
  o4:=fun g0=>by have:=r.o4 (by simpa using g0);simp[this]
  o5:=fun g0=>by have:=r.o5 (by simpa using g0);simp[this]
  o6:=fun g0=>by have:=r.o6 (by simpa using g0);simp[this] }
theorem opB_3 {edges:List (Nat × Nat)} {goal e0 e1 i j:Nat} {que out:List Nat} {far:List (Nat × Nat)} {v1:Nat} (L:Nat→Bool) (S:St) (r:R12 edges goal e0 e1 i j que out far v1 L S) (hL:L 3=false) (k2:L 2=true):aDo EE Tryz.f109.ntmps ops12 (ops12[3]'(by decide)) S (R12 edges goal e0 e1 i j que out far v1 (fun j=>L j || j==3)):=by
 have hat:At [(63,.fp [di (e0:Int)])] [] [] S:=⟨⟨r.c2 k2,trivial⟩,trivial,trivial⟩
 obtain⟨τ,H,rfl⟩:=hat.form
 conv=>whnf
 exact {
  u0:=r.u0
  u1:=r.u1
  u4:=r.u4
  u5:=r.u5
  u7:=r.u7
  u8:=r.u8
  u10:=r.u10
  u23:=r.u23
  u24:=r.u24
  u25:=r.u25
  h4:=r.h4
  h5:=r.h5
  c0:=fun g0=>r.c0 (by simpa using g0)
  c1:=fun g0=>r.c1 (by simpa using g0)
  c2:=fun g0=>r.c2 (by simpa using g0)
  c3:=fun _=>rfl
  c4:=fun g0=>r.c4 (by simpa using g0)
  c5:=fun g0=>r.c5 (by simpa using g0)
  c6:=fun g0=>r.c6 (by simpa using g0)
  c7:=fun g0=>r.c7 (by simpa using g0)
  c8:=fun g0=>r.c8 (by simpa using g0)
  c9:=fun g0 g1=>r.c9 (by simpa using g0) (by simpa using g1)
  c10:=fun g0=>r.c10 (by simpa using g0)
  c11:=fun g0=>r.c11 (by simpa using g0)
  c12:=fun g0=>r.c12 (by simpa using g0)
  c13:=fun g0 g1=>r.c13 (by simpa using g0) (by simpa using g1)
  c14:=fun g0=>r.c14 (by simpa using g0)
  c15:=fun g0=>r.c15 (by simpa using g0)
  c16:=fun g0=>r.c16 (by simpa using g0)
  e13:=fun g0 g1=>r.e13 (by simpa using g0) (by simpa using g1)
  q6a:=fun g0=>r.q6a (by simpa using g0)
  q6b:=fun g0=>r.q6b (by simpa using g0)
  h13a:=fun g0=>r.h13a (by simpa using g0)
  h13b:=fun g0=>r.h13b (by simpa using g0)
  h14a:=fun g0=>r.h14a (by simpa using g0)
  h14b:=fun g0 g1=>r.h14b (by simpa using g0) (by simpa using g1)
  h14c:=fun g0=>r.h14c (by simpa using g0)
  o1:=fun g0=>by have:=r.o1 (by simpa using g0);simp[this]
  o2:=fun g0=>by have:=r.o2 (by simpa using g0);simp[this]
  o3:=fun g0=>by have:=r.o3 (by simpa using g0);simp[this]
  o4:=fun g0=>by have:=r.o4 (by simpa using g0);simp[this]
  o5:=fun g0=>by have:=r.o5 (by simpa using g0);simp[this]
  o6:=fun g0=>by have:=r.o6 (by simpa using g0);simp[this] }
theorem opB_4 {edges:List (Nat × Nat)} {goal e0 e1 i j:Nat} {que out:List Nat} {far:List (Nat × Nat)} {v1:Nat} (L:Nat→Bool) (S:St) (r:R12 edges goal e0 e1 i j que out far v1 L S) (hL:L 4=false):aDo EE Tryz.f109.ntmps ops12 (ops12[4]'(by decide)) S (R12 edges goal e0 e1 i j que out far v1 (fun j=>L j || j==4)):=by
 have hat:At [(10,.d (.sl [[di (e0:Int)],[di (e1:Int)]]))] [] [] S:=⟨⟨r.u10,trivial⟩,trivial,trivial⟩
 obtain⟨τ,H,rfl⟩:=hat.form
 conv=>whnf
 exact {
  u0:=r.u0
  u1:=r.u1
  u4:=r.u4
  u5:=r.u5
  u7:=r.u7
  u8:=r.u8
  u10:=r.u10
  u23:=r.u23
  u24:=r.u24
  u25:=r.u25
  h4:=r.h4
  h5:=r.h5
  c0:=fun g0=>r.c0 (by simpa using g0)
  c1:=fun g0=>r.c1 (by simpa using g0)
  c2:=fun g0=>r.c2 (by simpa using g0)
  c3:=fun g0=>r.c3 (by simpa using g0)
  c4:=fun _=>rfl
  c5:=fun g0=>r.c5 (by simpa using g0)
  c6:=fun g0=>r.c6 (by simpa using g0)
  c7:=fun g0=>r.c7 (by simpa using g0)
  c8:=fun g0=>r.c8 (by simpa using g0)
  c9:=fun g0 g1=>r.c9 (by simpa using g0) (by simpa using g1)
  c10:=fun g0=>r.c10 (by simpa using g0)
  c11:=fun g0=>r.c11 (by simpa using g0)
  c12:=fun g0=>r.c12 (by simpa using g0)
  c13:=fun g0 g1=>r.c13 (by simpa using g0) (by simpa using g1)
  c14:=fun g0=>r.c14 (by simpa using g0)
  c15:=fun g0=>r.c15 (by simpa using g0)
  c16:=fun g0=>r.c16 (by simpa using g0)
  e13:=fun g0 g1=>r.e13 (by simpa using g0) (by simpa using g1)
  q6a:=fun g0=>r.q6a (by simpa using g0)
  q6b:=fun g0=>r.q6b (by simpa using g0)
  h13a:=fun g0=>r.h13a (by simpa using g0)
  h13b:=fun g0=>r.h13b (by simpa using g0)
  h14a:=fun g0=>r.h14a (by simpa using g0)
  h14b:=fun g0 g1=>r.h14b (by simpa using g0) (by simpa using g1)
  h14c:=fun g0=>r.h14c (by simpa using g0)
  o1:=fun g0=>by have:=r.o1 (by simpa using g0);simp[this]
  o2:=fun g0=>by have:=r.o2 (by simpa using g0);simp[this]
  o3:=fun g0=>by have:=r.o3 (by simpa using g0);simp[this]
  o4:=fun g0=>by have:=r.o4 (by simpa using g0);simp[this]
  o5:=fun g0=>by have:=r.o5 (by simpa using g0);simp[this]
  o6:=fun g0=>by have:=r.o6 (by simpa using g0);simp[this] }
theorem opB_5 {edges:List (Nat × Nat)} {goal e0 e1 i j:Nat} {que out:List Nat} {far:List (Nat × Nat)} {v1:Nat} (L:Nat→Bool) (S:St) (r:R12 edges goal e0 e1 i j que out far v1 L S) (hL:L 5=false) (k4:L 4=true):aDo EE Tryz.f109.ntmps ops12 (ops12[5]'(by decide)) S (R12 edges goal e0 e1 i j que out far v1 (fun j=>L j || j==5)):=by
 have hat:At [(65,.d (.sl [[di (e0:Int)],[di (e1:Int)]]))] [] [] S:=⟨⟨r.c4 k4,trivial⟩,trivial,trivial⟩
 obtain⟨τ,H,rfl⟩:=hat.form
 conv=>whnf
 refine⟨[di (e0:Int)],⟨by decide,rfl,rfl⟩,?_⟩
 conv=>whnf
 exact {
  u0:=r.u0
  u1:=r.u1
  u4:=r.u4
  u5:=r.u5
  u7:=r.u7
  u8:=r.u8
  u10:=r.u10
  u23:=r.u23
  u24:=r.u24
  u25:=r.u25
  h4:=r.h4
  h5:=r.h5
  c0:=fun g0=>r.c0 (by simpa using g0)
  c1:=fun g0=>r.c1 (by simpa using g0)
  c2:=fun g0=>r.c2 (by simpa using g0)
  c3:=fun g0=>r.c3 (by simpa using g0)
  c4:=fun g0=>r.c4 (by simpa using g0)
  c5:=fun _=>rfl
  c6:=fun g0=>r.c6 (by simpa using g0)
  c7:=fun g0=>r.c7 (by simpa using g0)
  c8:=fun g0=>r.c8 (by simpa using g0)
  c9:=fun g0 g1=>r.c9 (by simpa using g0) (by simpa using g1)
  c10:=fun g0=>r.c10 (by simpa using g0)
  c11:=fun g0=>r.c11 (by simpa using g0)
  c12:=fun g0=>r.c12 (by simpa using g0)
  c13:=fun g0 g1=>r.c13 (by simpa using g0) (by simpa using g1)
  c14:=fun g0=>r.c14 (by simpa using g0)
  c15:=fun g0=>r.c15 (by simpa using g0)
  c16:=fun g0=>r.c16 (by simpa using g0)
  e13:=fun g0 g1=>r.e13 (by simpa using g0) (by simpa using g1)
  q6a:=fun g0=>r.q6a (by simpa using g0)
  q6b:=fun g0=>r.q6b (by simpa using g0)
  h13a:=fun g0=>r.h13a (by simpa using g0)
  h13b:=fun g0=>r.h13b (by simpa using g0)
  h14a:=fun g0=>r.h14a (by simpa using g0)
  h14b:=fun g0 g1=>r.h14b (by simpa using g0) (by simpa using g1)
  h14c:=fun g0=>r.h14c (by simpa using g0)
  o1:=fun g0=>by have:=r.o1 (by simpa using g0);simp[this]
  o2:=fun g0=>by have:=r.o2 (by simpa using g0);simp[this]
  o3:=fun g0=>by have:=r.o3 (by simpa using g0);simp[this]
  o4:=fun g0=>by have:=r.o4 (by simpa using g0);simp[this]
  o5:=fun g0=>by have:=r.o5 (by simpa using g0);simp[this]
  o6:=fun g0=>by have:=r.o6 (by simpa using g0);simp[this] }
theorem opB_6 {edges:List (Nat × Nat)} {goal e0 e1 i j:Nat} {que out:List Nat} {far:List (Nat × Nat)} {v1:Nat} (L:Nat→Bool) (S:St) (r:R12 edges goal e0 e1 i j que out far v1 L S) (hL:L 6=false) (k5:L 5=true):aDo EE Tryz.f109.ntmps ops12 (ops12[6]'(by decide)) S (R12 edges goal e0 e1 i j que out far v1 (fun j=>L j || j==6)):=by
 have hat:At [(66,.fp [di (e0:Int)])] [] [] S:=⟨⟨r.c5 k5,trivial⟩,trivial,trivial⟩
 obtain⟨τ,H,rfl⟩:=hat.form
 conv=>whnf
 exact {
  u0:=r.u0
  u1:=r.u1
  u4:=r.u4
  u5:=r.u5
  u7:=r.u7
  u8:=r.u8
  u10:=r.u10
  u23:=r.u23
  u24:=r.u24
  u25:=r.u25
  h4:=r.h4
  h5:=r.h5
  c0:=fun g0=>r.c0 (by simpa using g0)
  c1:=fun g0=>r.c1 (by simpa using g0)
  c2:=fun g0=>r.c2 (by simpa using g0)
  c3:=fun g0=>r.c3 (by simpa using g0)
  c4:=fun g0=>r.c4 (by simpa using g0)
  c5:=fun g0=>r.c5 (by simpa using g0)
  c6:=fun _=>rfl
  c7:=fun g0=>r.c7 (by simpa using g0)
  c8:=fun g0=>r.c8 (by simpa using g0)
  c9:=fun g0 g1=>r.c9 (by simpa using g0) (by simpa using g1)
  c10:=fun g0=>r.c10 (by simpa using g0)
  c11:=fun g0=>r.c11 (by simpa using g0)
  c12:=fun g0=>r.c12 (by simpa using g0)
  c13:=fun g0 g1=>r.c13 (by simpa using g0) (by simpa using g1)
  c14:=fun g0=>r.c14 (by simpa using g0)
  c15:=fun g0=>r.c15 (by simpa using g0)
  c16:=fun g0=>r.c16 (by simpa using g0)
  e13:=fun g0 g1=>r.e13 (by simpa using g0) (by simpa using g1)
  q6a:=fun g0=>r.q6a (by simpa using g0)
  q6b:=fun g0=>r.q6b (by simpa using g0)
  h13a:=fun g0=>r.h13a (by simpa using g0)
  h13b:=fun g0=>r.h13b (by simpa using g0)
  h14a:=fun g0=>r.h14a (by simpa using g0)
  h14b:=fun g0 g1=>r.h14b (by simpa using g0) (by simpa using g1)
  h14c:=fun g0=>r.h14c (by simpa using g0)
  o1:=fun g0=>by have:=r.o1 (by simpa using g0);simp[this]
  o2:=fun g0=>by have:=r.o2 (by simpa using g0);simp[this]
  o3:=fun g0=>by have:=r.o3 (by simpa using g0);simp[this]
  o4:=fun g0=>by have:=r.o4 (by simpa using g0);simp[this]
  o5:=fun g0=>by have:=r.o5 (by simpa using g0);simp[this]
  o6:=fun g0=>by have:=r.o6 (by simpa using g0);simp[this] }
theorem opB_7 {edges:List (Nat × Nat)} {goal e0 e1 i j:Nat} {que out:List Nat} {far:List (Nat × Nat)} {v1:Nat} (he0:e0<100) (L:Nat→Bool) (S:St) (r:R12 edges goal e0 e1 i j que out far v1 L S) (hL:L 7=false) (k6:L 6=true):aDo EE Tryz.f109.ntmps ops12 (ops12[7]'(by decide)) S (R12 edges goal e0 e1 i j que out far v1 (fun j=>L j || j==7)):=by
 have hat:At [(5,.ptr (.n 5) 0),(67,i64 e0)] [] [] S:=⟨⟨r.u5,r.c6 k6,trivial⟩,trivial,trivial⟩
 obtain⟨τ,H,rfl⟩:=hat.form
 conv=>whnf
 refine⟨⟨by omega,by show(e0:Int)<100;omega⟩,?_⟩
 conv=>whnf
 exact {
  u0:=r.u0
  u1:=r.u1
  u4:=r.u4
  u5:=r.u5
  u7:=r.u7
  u8:=r.u8
  u10:=r.u10
  u23:=r.u23
  u24:=r.u24
  u25:=r.u25
  h4:=r.h4
  h5:=r.h5
  c0:=fun g0=>r.c0 (by simpa using g0)
  c1:=fun g0=>r.c1 (by simpa using g0)
  c2:=fun g0=>r.c2 (by simpa using g0)
  c3:=fun g0=>r.c3 (by simpa using g0)
  c4:=fun g0=>r.c4 (by simpa using g0)
  c5:=fun g0=>r.c5 (by simpa using g0)
  c6:=fun g0=>r.c6 (by simpa using g0)
  c7:=fun _=>rfl
  c8:=fun g0=>r.c8 (by simpa using g0)
  c9:=fun g0 g1=>r.c9 (by simpa using g0) (by simpa using g1)
  c10:=fun g0=>r.c10 (by simpa using g0)
  c11:=fun g0=>r.c11 (by simpa using g0)
  c12:=fun g0=>r.c12 (by simpa using g0)
  c13:=fun g0 g1=>r.c13 (by simpa using g0) (by simpa using g1)
  c14:=fun g0=>r.c14 (by simpa using g0)
  c15:=fun g0=>r.c15 (by simpa using g0)
  c16:=fun g0=>r.c16 (by simpa using g0)
  e13:=fun g0 g1=>r.e13 (by simpa using g0) (by simpa using g1)
  q6a:=fun g0=>r.q6a (by simpa using g0)
  q6b:=fun g0=>r.q6b (by simpa using g0)
  h13a:=fun g0=>r.h13a (by simpa using g0)
  h13b:=fun g0=>r.h13b (by simpa using g0)
  h14a:=fun g0=>r.h14a (by simpa using g0)
  h14b:=fun g0 g1=>r.h14b (by simpa using g0) (by simpa using g1)
  h14c:=fun g0=>r.h14c (by simpa using g0)
  o1:=fun g0=>by have:=r.o1 (by simpa using g0);simp[this]
  o2:=fun g0=>by have:=r.o2 (by simpa using g0);simp[this]
  o3:=fun g0=>by have:=r.o3 (by simpa using g0);simp[this]
  o4:=fun g0=>by have:=r.o4 (by simpa using g0);simp[this]
  o5:=fun g0=>by have:=r.o5 (by simpa using g0);simp[this]
  o6:=fun g0=>by have:=r.o6 (by simpa using g0);simp[this] }
theorem opB_8 {edges:List (Nat × Nat)} {goal e0 e1 i j:Nat} {que out:List Nat} {far:List (Nat × Nat)} {v1:Nat} (he0:e0<out.length) (hv1:out.getD e0 0=v1) (L:Nat→Bool) (S:St) (r:R12 edges goal e0 e1 i j que out far v1 L S) (hL:L 8=false) (k7:L 7=true):aDo EE Tryz.f109.ntmps ops12 (ops12[8]'(by decide)) S (R12 edges goal e0 e1 i j que out far v1 (fun j=>L j || j==8)):=by
 have hat:At [(68,.ptr (.n 5) (0+e0*1))] [(.n 5,.vs 155 ((arr out).map .d))] [] S:=⟨⟨r.c7 k7,trivial⟩,⟨r.h5,trivial⟩,trivial⟩
 obtain⟨τ,H,rfl⟩:=hat.form
 conv=>whnf
 split
 rotate_left 1
 ·rename_i hld
  exact absurd (hld.symm.trans (dR (out:=out) (k:=e0) rfl rfl he0)) (by simp)
 rename_i cs hld
 obtain rfl:=Option.some.inj (hld.symm.trans (dR (out:=out) (k:=e0) rfl rfl he0))
 clear hld
 conv=>whnf
 exact {
  u0:=r.u0
  u1:=r.u1
  u4:=r.u4
  u5:=r.u5
  u7:=r.u7
  u8:=r.u8
  u10:=r.u10
  u23:=r.u23
  u24:=r.u24
  u25:=r.u25
  h4:=r.h4
  h5:=r.h5
  c0:=fun g0=>r.c0 (by simpa using g0)
  c1:=fun g0=>r.c1 (by simpa using g0)
  c2:=fun g0=>r.c2 (by simpa using g0)
  c3:=fun g0=>r.c3 (by simpa using g0)
  c4:=fun g0=>r.c4 (by simpa using g0)
  c5:=fun g0=>r.c5 (by simpa using g0)
  c6:=fun g0=>r.c6 (by simpa using g0)
  c7:=fun g0=>r.c7 (by simpa using g0)
  c8:=fun _=>by show i64 (out.getD e0 0:Nat)=_;rw[hv1]
  c9:=fun g0 g1=>r.c9 (by simpa using g0) (by simpa using g1)
  c10:=fun g0=>r.c10 (by simpa using g0)
  c11:=fun g0=>r.c11 (by simpa using g0)
  c12:=fun g0=>r.c12 (by simpa using g0)
  c13:=fun g0 g1=>r.c13 (by simpa using g0) (by simpa using g1)
  c14:=fun g0=>r.c14 (by simpa using g0)
  c15:=fun g0=>r.c15 (by simpa using g0)
  c16:=fun g0=>r.c16 (by simpa using g0)
  e13:=fun g0 g1=>r.e13 (by simpa using g0) (by simpa using g1)
  q6a:=fun g0=>r.q6a (by simpa using g0)
  q6b:=fun g0=>r.q6b (by simpa using g0)
  h13a:=fun g0=>r.h13a (by simpa using g0)
  h13b:=fun g0=>r.h13b (by simpa using g0)
  h14a:=fun g0=>r.h14a (by simpa using g0)
  h14b:=fun g0 g1=>r.h14b (by simpa using g0) (by simpa using g1)
  h14c:=fun g0=>r.h14c (by simpa using g0)
  o1:=fun g0=>by have:=r.o1 (by simpa using g0);simp[this]
  o2:=fun g0=>by have:=r.o2 (by simpa using g0);simp[this]
  o3:=fun g0=>by have:=r.o3 (by simpa using g0);simp[this]
  o4:=fun g0=>by have:=r.o4 (by simpa using g0);simp[this]
  o5:=fun g0=>by have:=r.o5 (by simpa using g0);simp[this]
  o6:=fun g0=>by have:=r.o6 (by simpa using g0);simp[this] }
theorem opB_9 {edges:List (Nat × Nat)} {goal e0 e1 i j:Nat} {que out:List Nat} {far:List (Nat × Nat)} {v1:Nat} (L:Nat→Bool) (S:St) (r:R12 edges goal e0 e1 i j que out far v1 L S) (hL:L 9=false):aDo EE Tryz.f109.ntmps ops12 (ops12[9]'(by decide)) S (R12 edges goal e0 e1 i j que out far v1 (fun j=>L j || j==9)):=by
 have n14:L 14=false:=by
  cases h:L 14 with
  |false=>rfl
  |true=>exact absurd (r.o1 h) (by rw[hL];decide)
 have hat:At [(6,.ref (.n 13) 0 que.length)] [] [] S:=⟨⟨r.q6a n14,trivial⟩,trivial,trivial⟩
 obtain⟨τ,H,rfl⟩:=hat.form
 conv=>whnf
 exact {
  u0:=r.u0
  u1:=r.u1
  u4:=r.u4
  u5:=r.u5
  u7:=r.u7
  u8:=r.u8
  u10:=r.u10
  u23:=r.u23
  u24:=r.u24
  u25:=r.u25
  h4:=r.h4
  h5:=r.h5
  c0:=fun g0=>r.c0 (by simpa using g0)
  c1:=fun g0=>r.c1 (by simpa using g0)
  c2:=fun g0=>r.c2 (by simpa using g0)
  c3:=fun g0=>r.c3 (by simpa using g0)
  c4:=fun g0=>r.c4 (by simpa using g0)
  c5:=fun g0=>r.c5 (by simpa using g0)
  c6:=fun g0=>r.c6 (by simpa using g0)
  c7:=fun g0=>r.c7 (by simpa using g0)
  c8:=fun g0=>r.c8 (by simpa using g0)
  c9:=fun _ _=>rfl
  c10:=fun g0=>r.c10 (by simpa using g0)
  c11:=fun g0=>r.c11 (by simpa using g0)
  c12:=fun g0=>r.c12 (by simpa using g0)
  c13:=fun g0 g1=>r.c13 (by simpa using g0) (by simpa using g1)
  c14:=fun g0=>r.c14 (by simpa using g0)
  c15:=fun g0=>r.c15 (by simpa using g0)
  c16:=fun g0=>r.c16 (by simpa using g0)
  e13:=fun g0 g1=>r.e13 (by simpa using g0) (by simpa using g1)
  q6a:=fun g0=>r.q6a (by simpa using g0)
  q6b:=fun g0=>r.q6b (by simpa using g0)
  h13a:=fun g0=>r.h13a (by simpa using g0)
  h13b:=fun g0=>r.h13b (by simpa using g0)
  h14a:=fun g0=>r.h14a (by simpa using g0)
  h14b:=fun g0 g1=>r.h14b (by simpa using g0) (by simpa using g1)
  h14c:=fun g0=>r.h14c (by simpa using g0)
  o1:=fun g0=>by have:=r.o1 (by simpa using g0);simp[this]
  o2:=fun g0=>by have:=r.o2 (by simpa using g0);simp[this]
  o3:=fun g0=>by have:=r.o3 (by simpa using g0);simp[this]
  o4:=fun g0=>by have:=r.o4 (by simpa using g0);simp[this]
  o5:=fun g0=>by have:=r.o5 (by simpa using g0);simp[this]
  o6:=fun g0=>by have:=r.o6 (by simpa using g0);simp[this] }
theorem opB_10 {edges:List (Nat × Nat)} {goal e0 e1 i j:Nat} {que out:List Nat} {far:List (Nat × Nat)} {v1:Nat} (L:Nat→Bool) (S:St) (r:R12 edges goal e0 e1 i j que out far v1 L S) (hL:L 10=false):aDo EE Tryz.f109.ntmps ops12 (ops12[10]'(by decide)) S (R12 edges goal e0 e1 i j que out far v1 (fun j=>L j || j==10)):=by
 have hat:At [(10,.d (.sl [[di (e0:Int)],[di (e1:Int)]]))] [] [] S:=⟨⟨r.u10,trivial⟩,trivial,trivial⟩
 obtain⟨τ,H,rfl⟩:=hat.form
 conv=>whnf
 exact {
  u0:=r.u0
  u1:=r.u1
  u4:=r.u4
  u5:=r.u5
  u7:=r.u7
  u8:=r.u8
  u10:=r.u10
  u23:=r.u23
  u24:=r.u24
  u25:=r.u25
  h4:=r.h4
  h5:=r.h5
  c0:=fun g0=>r.c0 (by simpa using g0)
  c1:=fun g0=>r.c1 (by simpa using g0)
  c2:=fun g0=>r.c2 (by simpa using g0)
  c3:=fun g0=>r.c3 (by simpa using g0)
  c4:=fun g0=>r.c4 (by simpa using g0)
  c5:=fun g0=>r.c5 (by simpa using g0)
  c6:=fun g0=>r.c6 (by simpa using g0)
  c7:=fun g0=>r.c7 (by simpa using g0)
  c8:=fun g0=>r.c8 (by simpa using g0)
  c9:=fun g0 g1=>r.c9 (by simpa using g0) (by simpa using g1)
  c10:=fun _=>rfl
  c11:=fun g0=>r.c11 (by simpa using g0)
  c12:=fun g0=>r.c12 (by simpa using g0)
  c13:=fun g0 g1=>r.c13 (by simpa using g0) (by simpa using g1)
  c14:=fun g0=>r.c14 (by simpa using g0)
  c15:=fun g0=>r.c15 (by simpa using g0)
  c16:=fun g0=>r.c16 (by simpa using g0)
  e13:=fun g0 g1=>r.e13 (by simpa using g0) (by simpa using g1)
  q6a:=fun g0=>r.q6a (by simpa using g0)
  q6b:=fun g0=>r.q6b (by simpa using g0)
  h13a:=fun g0=>r.h13a (by simpa using g0)
  h13b:=fun g0=>r.h13b (by simpa using g0)
  h14a:=fun g0=>r.h14a (by simpa using g0)
  h14b:=fun g0 g1=>r.h14b (by simpa using g0) (by simpa using g1)
  h14c:=fun g0=>r.h14c (by simpa using g0)
  o1:=fun g0=>by have:=r.o1 (by simpa using g0);simp[this]
  o2:=fun g0=>by have:=r.o2 (by simpa using g0);simp[this]
  o3:=fun g0=>by have:=r.o3 (by simpa using g0);simp[this]
  o4:=fun g0=>by have:=r.o4 (by simpa using g0);simp[this]
  o5:=fun g0=>by have:=r.o5 (by simpa using g0);simp[this]
  o6:=fun g0=>by have:=r.o6 (by simpa using g0);simp[this] }
theorem opB_11 {edges:List (Nat × Nat)} {goal e0 e1 i j:Nat} {que out:List Nat} {far:List (Nat × Nat)} {v1:Nat} (L:Nat→Bool) (S:St) (r:R12 edges goal e0 e1 i j que out far v1 L S) (hL:L 11=false) (k10:L 10=true):aDo EE Tryz.f109.ntmps ops12 (ops12[11]'(by decide)) S (R12 edges goal e0 e1 i j que out far v1 (fun j=>L j || j==11)):=by
 have hat:At [(71,.d (.sl [[di (e0:Int)],[di (e1:Int)]]))] [] [] S:=⟨⟨r.c10 k10,trivial⟩,trivial,trivial⟩
 obtain⟨τ,H,rfl⟩:=hat.form
 conv=>whnf
 refine⟨[di (e0:Int)],⟨by decide,rfl,rfl⟩,?_⟩
 conv=>whnf
 exact {
  u0:=r.u0
  u1:=r.u1
  u4:=r.u4
  u5:=r.u5
  u7:=r.u7
  u8:=r.u8
  u10:=r.u10
  u23:=r.u23
  u24:=r.u24
  u25:=r.u25
  h4:=r.h4
  h5:=r.h5
  c0:=fun g0=>r.c0 (by simpa using g0)
  c1:=fun g0=>r.c1 (by simpa using g0)
  c2:=fun g0=>r.c2 (by simpa using g0)
  c3:=fun g0=>r.c3 (by simpa using g0)
  c4:=fun g0=>r.c4 (by simpa using g0)
  c5:=fun g0=>r.c5 (by simpa using g0)
  c6:=fun g0=>r.c6 (by simpa using g0)
  c7:=fun g0=>r.c7 (by simpa using g0)
  c8:=fun g0=>r.c8 (by simpa using g0)
  c9:=fun g0 g1=>r.c9 (by simpa using g0) (by simpa using g1)
  c10:=fun g0=>r.c10 (by simpa using g0)
  c11:=fun _=>rfl
  c12:=fun g0=>r.c12 (by simpa using g0)
  c13:=fun g0 g1=>r.c13 (by simpa using g0) (by simpa using g1)
  c14:=fun g0=>r.c14 (by simpa using g0)
  c15:=fun g0=>r.c15 (by simpa using g0)
  c16:=fun g0=>r.c16 (by simpa using g0)
  e13:=fun g0 g1=>r.e13 (by simpa using g0) (by simpa using g1)
  q6a:=fun g0=>r.q6a (by simpa using g0)
  q6b:=fun g0=>r.q6b (by simpa using g0)
  h13a:=fun g0=>r.h13a (by simpa using g0)
  h13b:=fun g0=>r.h13b (by simpa using g0)
  h14a:=fun g0=>r.h14a (by simpa using g0)
  h14b:=fun g0 g1=>r.h14b (by simpa using g0) (by simpa using g1)
  h14c:=fun g0=>r.h14c (by simpa using g0)
  o1:=fun g0=>by have:=r.o1 (by simpa using g0);simp[this]
  o2:=fun g0=>by have:=r.o2 (by simpa using g0);simp[this]
  o3:=fun g0=>by have:=r.o3 (by simpa using g0);simp[this]
  o4:=fun g0=>by have:=r.o4 (by simpa using g0);simp[this]
  o5:=fun g0=>by have:=r.o5 (by simpa using g0);simp[this]
  o6:=fun g0=>by have:=r.o6 (by simpa using g0);simp[this] }
theorem opB_12 {edges:List (Nat × Nat)} {goal e0 e1 i j:Nat} {que out:List Nat} {far:List (Nat × Nat)} {v1:Nat} (L:Nat→Bool) (S:St) (r:R12 edges goal e0 e1 i j que out far v1 L S) (hL:L 12=false) (k11:L 11=true):aDo EE Tryz.f109.ntmps ops12 (ops12[12]'(by decide)) S (R12 edges goal e0 e1 i j que out far v1 (fun j=>L j || j==12)):=by
 have hat:At [(72,.fp [di (e0:Int)])] [] [] S:=⟨⟨r.c11 k11,trivial⟩,trivial,trivial⟩
 obtain⟨τ,H,rfl⟩:=hat.form
 conv=>whnf
 exact {
  u0:=r.u0
  u1:=r.u1
  u4:=r.u4
  u5:=r.u5
  u7:=r.u7
  u8:=r.u8
  u10:=r.u10
  u23:=r.u23
  u24:=r.u24
  u25:=r.u25
  h4:=r.h4
  h5:=r.h5
  c0:=fun g0=>r.c0 (by simpa using g0)
  c1:=fun g0=>r.c1 (by simpa using g0)
  c2:=fun g0=>r.c2 (by simpa using g0)
  c3:=fun g0=>r.c3 (by simpa using g0)
  c4:=fun g0=>r.c4 (by simpa using g0)
  c5:=fun g0=>r.c5 (by simpa using g0)
  c6:=fun g0=>r.c6 (by simpa using g0)
  c7:=fun g0=>r.c7 (by simpa using g0)
  c8:=fun g0=>r.c8 (by simpa using g0)
  c9:=fun g0 g1=>r.c9 (by simpa using g0) (by simpa using g1)
  c10:=fun g0=>r.c10 (by simpa using g0)
  c11:=fun g0=>r.c11 (by simpa using g0)
  c12:=fun _=>rfl
  c13:=fun g0 g1=>r.c13 (by simpa using g0) (by simpa using g1)
  c14:=fun g0=>r.c14 (by simpa using g0)
  c15:=fun g0=>r.c15 (by simpa using g0)
  c16:=fun g0=>r.c16 (by simpa using g0)
  e13:=fun g0 g1=>r.e13 (by simpa using g0) (by simpa using g1)
  q6a:=fun g0=>r.q6a (by simpa using g0)
  q6b:=fun g0=>r.q6b (by simpa using g0)
  h13a:=fun g0=>r.h13a (by simpa using g0)
  h13b:=fun g0=>r.h13b (by simpa using g0)
  h14a:=fun g0=>r.h14a (by simpa using g0)
  h14b:=fun g0 g1=>r.h14b (by simpa using g0) (by simpa using g1)
  h14c:=fun g0=>r.h14c (by simpa using g0)
  o1:=fun g0=>by have:=r.o1 (by simpa using g0);simp[this]
  o2:=fun g0=>by have:=r.o2 (by simpa using g0);simp[this]
  o3:=fun g0=>by have:=r.o3 (by simpa using g0);simp[this]
  o4:=fun g0=>by have:=r.o4 (by simpa using g0);simp[this]
  o5:=fun g0=>by have:=r.o5 (by simpa using g0);simp[this]
  o6:=fun g0=>by have:=r.o6 (by simpa using g0);simp[this] }
theorem opB_13 {edges:List (Nat × Nat)} {goal e0 e1 i j:Nat} {que out:List Nat} {far:List (Nat × Nat)} {v1:Nat} (L:Nat→Bool) (S:St) (r:R12 edges goal e0 e1 i j que out far v1 L S) (hL:L 13=false) (k12:L 12=true):aDo EE Tryz.f109.ntmps ops12 (ops12[13]'(by decide)) S (R12 edges goal e0 e1 i j que out far v1 (fun j=>L j || j==13)):=by
 have hat:At [(73,i64 e0)] [] [] S:=⟨⟨r.c12 k12,trivial⟩,trivial,trivial⟩
 obtain⟨τ,H,rfl⟩:=hat.form
 conv=>whnf
 exact {
  u0:=(congrArg (scrP (isK (.n 74))) (r.u0)).trans rfl
  u1:=(congrArg (scrP (isK (.n 74))) (r.u1)).trans rfl
  u4:=(congrArg (scrP (isK (.n 74))) (r.u4)).trans rfl
  u5:=(congrArg (scrP (isK (.n 74))) (r.u5)).trans rfl
  u7:=(congrArg (scrP (isK (.n 74))) (r.u7)).trans rfl
  u8:=(congrArg (scrP (isK (.n 74))) (r.u8)).trans rfl
  u10:=(congrArg (scrP (isK (.n 74))) (r.u10)).trans rfl
  u23:=(congrArg (scrP (isK (.n 74))) (r.u23)).trans rfl
  u24:=(congrArg (scrP (isK (.n 74))) (r.u24)).trans rfl
  u25:=(congrArg (scrP (isK (.n 74))) (r.u25)).trans rfl
  h4:=(congrArg (Option.map (scrPO (isK (.n 74)))) (r.h4)).trans (congrArg (fun x=>some (Ob.vs 155 x)) (jF _ _))
  h5:=(congrArg (Option.map (scrPO (isK (.n 74)))) (r.h5)).trans (congrArg (fun x=>some (Ob.vs 155 x)) (jF _ _))
  c0:=fun g0=>(congrArg (scrP (isK (.n 74))) (r.c0 (by simpa using g0))).trans rfl
  c1:=fun g0=>(congrArg (scrP (isK (.n 74))) (r.c1 (by simpa using g0))).trans rfl
  c2:=fun g0=>(congrArg (scrP (isK (.n 74))) (r.c2 (by simpa using g0))).trans rfl
  c3:=fun g0=>(congrArg (scrP (isK (.n 74))) (r.c3 (by simpa using g0))).trans rfl
  c4:=fun g0=>(congrArg (scrP (isK (.n 74))) (r.c4 (by simpa using g0))).trans rfl
  c5:=fun g0=>(congrArg (scrP (isK (.n 74))) (r.c5 (by simpa using g0))).trans rfl
  c6:=fun g0=>(congrArg (scrP (isK (.n 74))) (r.c6 (by simpa using g0))).trans rfl
  c7:=fun g0=>(congrArg (scrP (isK (.n 74))) (r.c7 (by simpa using g0))).trans rfl
  c8:=fun g0=>(congrArg (scrP (isK (.n 74))) (r.c8 (by simpa using g0))).trans rfl
  c9:=fun g0 g1=>(congrArg (scrP (isK (.n 74))) (r.c9 (by simpa using g0) (by simpa using g1))).trans rfl
  c10:=fun g0=>(congrArg (scrP (isK (.n 74))) (r.c10 (by simpa using g0))).trans rfl
  c11:=fun g0=>(congrArg (scrP (isK (.n 74))) (r.c11 (by simpa using g0))).trans rfl
  c12:=fun g0=>(congrArg (scrP (isK (.n 74))) (r.c12 (by simpa using g0))).trans rfl
  c13:=fun _ _=>rfl
  c14:=fun g0=>(congrArg (scrP (isK (.n 74))) (r.c14 (by simpa using g0))).trans rfl
  c15:=fun g0=>(congrArg (scrP (isK (.n 74))) (r.c15 (by simpa using g0))).trans rfl
  c16:=fun g0=>(congrArg (scrP (isK (.n 74))) (r.c16 (by simpa using g0))).trans rfl
  e13:=fun _ _=>rfl
  q6a:=fun g0=>(congrArg (scrP (isK (.n 74))) (r.q6a (by simpa using g0))).trans rfl
  q6b:=fun g0=>(congrArg (scrP (isK (.n 74))) (r.q6b (by simpa using g0))).trans rfl
  h13a:=fun g0=>(congrArg (Option.map (scrPO (isK (.n 74)))) (r.h13a (by simpa using g0))).trans rfl
  h13b:=fun g0=>(congrArg (Option.map (scrPO (isK (.n 74)))) (r.h13b (by simpa using g0))).trans rfl
  h14a:=fun g0=>(congrArg (Option.map (scrPO (isK (.n 74)))) (r.h14a (by simpa using g0))).trans rfl
  h14b:=fun g0 g1=>(congrArg (Option.map (scrPO (isK (.n 74)))) (r.h14b (by simpa using g0) (by simpa using g1))).trans rfl
  h14c:=fun g0=>(congrArg (Option.map (scrPO (isK (.n 74)))) (r.h14c (by simpa using g0))).trans rfl
  o1:=fun g0=>by have:=r.o1 (by simpa using g0);simp[this]
  o2:=fun g0=>by have:=r.o2 (by simpa using g0);simp[this]
  o3:=fun g0=>by have:=r.o3 (by simpa using g0);simp[this]
  o4:=fun g0=>by have:=r.o4 (by simpa using g0);simp[this]
  o5:=fun g0=>by have:=r.o5 (by simpa using g0);simp[this]
  o6:=fun g0=>by have:=r.o6 (by simpa using g0);simp[this] }
theorem opB_14 {edges:List (Nat × Nat)} {goal e0 e1 i j:Nat} {que out:List Nat} {far:List (Nat × Nat)} {v1:Nat} (hq:que.length≤1000) (L:Nat→Bool) (S:St) (r:R12 edges goal e0 e1 i j que out far v1 L S) (hL:L 14=false) (k9:L 9=true) (k13:L 13=true):aDo EE Tryz.f109.ntmps ops12 (ops12[14]'(by decide)) S (R12 edges goal e0 e1 i j que out far v1 (fun j=>L j || j==14)):=by
 have hat:At [(70,.ref (.n 13) 0 que.length),(74,.ref (.n 74) 0 1)] [(.n 13,.ds 3 1 (que.map xI)),(.n 74,.ds 3 1 [[di (e0:Int)]])] [] S:=⟨⟨r.c9 k9 hL,r.c13 k13 hL,trivial⟩,⟨r.h13a hL,r.e13 k13 hL,trivial⟩,trivial⟩
 obtain⟨τ,H,rfl⟩:=hat.form
 conv=>whnf
 refine⟨⟨rfl,by show(que.length+1)*8≤_;omega,by show que.length+1≤_;omega⟩,?_⟩
 conv=>whnf
 exact {
  u0:=(congrArg (scrP (isK (.n 13))) (r.u0)).trans rfl
  u1:=(congrArg (scrP (isK (.n 13))) (r.u1)).trans rfl
  u4:=(congrArg (scrP (isK (.n 13))) (r.u4)).trans rfl
  u5:=(congrArg (scrP (isK (.n 13))) (r.u5)).trans rfl
  u7:=(congrArg (scrP (isK (.n 13))) (r.u7)).trans rfl
  u8:=(congrArg (scrP (isK (.n 13))) (r.u8)).trans rfl
  u10:=(congrArg (scrP (isK (.n 13))) (r.u10)).trans rfl
  u23:=(congrArg (scrP (isK (.n 13))) (r.u23)).trans rfl
  u24:=(congrArg (scrP (isK (.n 13))) (r.u24)).trans rfl
  u25:=(congrArg (scrP (isK (.n 13))) (r.u25)).trans rfl
  h4:=(congrArg (Option.map (scrPO (isK (.n 13)))) (r.h4)).trans (congrArg (fun x=>some (Ob.vs 155 x)) (jF _ _))
  h5:=(congrArg (Option.map (scrPO (isK (.n 13)))) (r.h5)).trans (congrArg (fun x=>some (Ob.vs 155 x)) (jF _ _))
  c0:=fun g0=>(congrArg (scrP (isK (.n 13))) (r.c0 (by simpa using g0))).trans rfl
  c1:=fun g0=>(congrArg (scrP (isK (.n 13))) (r.c1 (by simpa using g0))).trans rfl
  c2:=fun g0=>(congrArg (scrP (isK (.n 13))) (r.c2 (by simpa using g0))).trans rfl
  c3:=fun g0=>(congrArg (scrP (isK (.n 13))) (r.c3 (by simpa using g0))).trans rfl
  c4:=fun g0=>(congrArg (scrP (isK (.n 13))) (r.c4 (by simpa using g0))).trans rfl
  c5:=fun g0=>(congrArg (scrP (isK (.n 13))) (r.c5 (by simpa using g0))).trans rfl
  c6:=fun g0=>(congrArg (scrP (isK (.n 13))) (r.c6 (by simpa using g0))).trans rfl
  c7:=fun g0=>(congrArg (scrP (isK (.n 13))) (r.c7 (by simpa using g0))).trans rfl
  c8:=fun g0=>(congrArg (scrP (isK (.n 13))) (r.c8 (by simpa using g0))).trans rfl
  c9:=fun g0 g1=>absurd g1 (by simp)
  c10:=fun g0=>(congrArg (scrP (isK (.n 13))) (r.c10 (by simpa using g0))).trans rfl
  c11:=fun g0=>(congrArg (scrP (isK (.n 13))) (r.c11 (by simpa using g0))).trans rfl
  c12:=fun g0=>(congrArg (scrP (isK (.n 13))) (r.c12 (by simpa using g0))).trans rfl
  c13:=fun g0 g1=>absurd g1 (by simp)
  c14:=fun _=>rfl
  c15:=fun g0=>(congrArg (scrP (isK (.n 13))) (r.c15 (by simpa using g0))).trans rfl
  c16:=fun g0=>(congrArg (scrP (isK (.n 13))) (r.c16 (by simpa using g0))).trans rfl
  e13:=fun g0 g1=>absurd g1 (by simp)
  q6a:=fun g0=>absurd g0 (by simp)
  q6b:=fun g0=>absurd (r.o5 (by simpa using g0)) (by rw[hL];decide)
  h13a:=fun g0=>absurd g0 (by simp)
  h13b:=fun _=>by
   show some (Ob.ds 3 1 ((que.map xI).take que.length++[xI e0]))=_
   rw[List.take_of_length_le (by simp)]
   simp
  h14a:=fun g0=>(congrArg (Option.map (scrPO (isK (.n 13)))) (r.h14a (by simpa using g0))).trans rfl
  h14b:=fun g0 g1=>(congrArg (Option.map (scrPO (isK (.n 13)))) (r.h14b (by simpa using g0) (by simpa using g1))).trans rfl
  h14c:=fun g0=>(congrArg (Option.map (scrPO (isK (.n 13)))) (r.h14c (by simpa using g0))).trans rfl
  o1:=fun _=>by simp[k9]
  o2:=fun _=>by simp[k13]
  o3:=fun g0=>by have:=r.o3 (by simpa using g0);simp[this]
  o4:=fun g0=>by have:=r.o4 (by simpa using g0);simp[this]
  o5:=fun g0=>by have:=r.o5 (by simpa using g0);simp[this]
  o6:=fun g0=>by have:=r.o6 (by simpa using g0);simp[this] }
theorem opB_15 {edges:List (Nat × Nat)} {goal e0 e1 i j:Nat} {que out:List Nat} {far:List (Nat × Nat)} {v1:Nat} (hab:(far.any fun p=>p.1==e0)=false) (L:Nat→Bool) (S:St) (r:R12 edges goal e0 e1 i j que out far v1 L S) (hL:L 15=false) (k0:L 0=true) (k3:L 3=true) (k14:L 14=true):aDo EE Tryz.f109.ntmps ops12 (ops12[15]'(by decide)) S (R12 edges goal e0 e1 i j que out far v1 (fun j=>L j || j==15)):=by
 have hat:At [(61,.mref (.n 14)),(64,i64 e0)] [(.n 14,.mp false (uI far))] [] S:=⟨⟨r.c0 k0,r.c3 k3,trivial⟩,⟨r.h14a hL,trivial⟩,trivial⟩
 obtain⟨τ,H,rfl⟩:=hat.form
 conv=>whnf
 exact {
  u0:=r.u0
  u1:=r.u1
  u4:=r.u4
  u5:=r.u5
  u7:=r.u7
  u8:=r.u8
  u10:=r.u10
  u23:=r.u23
  u24:=r.u24
  u25:=r.u25
  h4:=r.h4
  h5:=r.h5
  c0:=fun g0=>r.c0 (by simpa using g0)
  c1:=fun g0=>r.c1 (by simpa using g0)
  c2:=fun g0=>r.c2 (by simpa using g0)
  c3:=fun g0=>r.c3 (by simpa using g0)
  c4:=fun g0=>r.c4 (by simpa using g0)
  c5:=fun g0=>r.c5 (by simpa using g0)
  c6:=fun g0=>r.c6 (by simpa using g0)
  c7:=fun g0=>r.c7 (by simpa using g0)
  c8:=fun g0=>r.c8 (by simpa using g0)
  c9:=fun g0 g1=>r.c9 (by simpa using g0) (by simpa using g1)
  c10:=fun g0=>r.c10 (by simpa using g0)
  c11:=fun g0=>r.c11 (by simpa using g0)
  c12:=fun g0=>r.c12 (by simpa using g0)
  c13:=fun g0 g1=>r.c13 (by simpa using g0) (by simpa using g1)
  c14:=fun g0=>r.c14 (by simpa using g0)
  c15:=fun _=>by show AV.tup [.junk,.d (.int .i64 (vJ (uI far) (e0:Int):Nat))]=_;rw[idxM_far hab]
  c16:=fun g0=>r.c16 (by simpa using g0)
  e13:=fun g0 g1=>r.e13 (by simpa using g0) (by simpa using g1)
  q6a:=fun g0=>r.q6a (by simpa using g0)
  q6b:=fun g0=>r.q6b (by simpa using g0)
  h13a:=fun g0=>r.h13a (by simpa using g0)
  h13b:=fun g0=>r.h13b (by simpa using g0)
  h14a:=fun g0=>absurd g0 (by simp)
  h14b:=fun _ _=>by show some (Ob.mp false (cY (uI far) (e0:Int)))=_;rw[addM_far hab]
  h14c:=fun g0=>absurd (r.o3 (by simpa using g0)) (by rw[hL];decide)
  o1:=fun g0=>by have:=r.o1 (by simpa using g0);simp[this]
  o2:=fun g0=>by have:=r.o2 (by simpa using g0);simp[this]
  o3:=fun g0=>by have:=r.o3 (by simpa using g0);simp[this]
  o4:=fun _=>by simp[k14]
  o5:=fun g0=>by have:=r.o5 (by simpa using g0);simp[this]
  o6:=fun g0=>by have:=r.o6 (by simpa using g0);simp[this] }
theorem opB_16 {edges:List (Nat × Nat)} {goal e0 e1 i j:Nat} {que out:List Nat} {far:List (Nat × Nat)} {v1:Nat} (L:Nat→Bool) (S:St) (r:R12 edges goal e0 e1 i j que out far v1 L S) (hL:L 16=false) (k15:L 15=true):aDo EE Tryz.f109.ntmps ops12 (ops12[16]'(by decide)) S (R12 edges goal e0 e1 i j que out far v1 (fun j=>L j || j==16)):=by
 have hat:At [(76,.tup [.junk,i64 far.length])] [] [] S:=⟨⟨r.c15 k15,trivial⟩,trivial,trivial⟩
 obtain⟨τ,H,rfl⟩:=hat.form
 conv=>whnf
 exact {
  u0:=r.u0
  u1:=r.u1
  u4:=r.u4
  u5:=r.u5
  u7:=r.u7
  u8:=r.u8
  u10:=r.u10
  u23:=r.u23
  u24:=r.u24
  u25:=r.u25
  h4:=r.h4
  h5:=r.h5
  c0:=fun g0=>r.c0 (by simpa using g0)
  c1:=fun g0=>r.c1 (by simpa using g0)
  c2:=fun g0=>r.c2 (by simpa using g0)
  c3:=fun g0=>r.c3 (by simpa using g0)
  c4:=fun g0=>r.c4 (by simpa using g0)
  c5:=fun g0=>r.c5 (by simpa using g0)
  c6:=fun g0=>r.c6 (by simpa using g0)
  c7:=fun g0=>r.c7 (by simpa using g0)
  c8:=fun g0=>r.c8 (by simpa using g0)
  c9:=fun g0 g1=>r.c9 (by simpa using g0) (by simpa using g1)
  c10:=fun g0=>r.c10 (by simpa using g0)
  c11:=fun g0=>r.c11 (by simpa using g0)
  c12:=fun g0=>r.c12 (by simpa using g0)
  c13:=fun g0 g1=>r.c13 (by simpa using g0) (by simpa using g1)
  c14:=fun g0=>r.c14 (by simpa using g0)
  c15:=fun g0=>r.c15 (by simpa using g0)
  c16:=fun _=>rfl
  e13:=fun g0 g1=>r.e13 (by simpa using g0) (by simpa using g1)
  q6a:=fun g0=>r.q6a (by simpa using g0)
  q6b:=fun g0=>r.q6b (by simpa using g0)
  h13a:=fun g0=>r.h13a (by simpa using g0)
  h13b:=fun g0=>r.h13b (by simpa using g0)
  h14a:=fun g0=>r.h14a (by simpa using g0)
  h14b:=fun g0 g1=>r.h14b (by simpa using g0) (by simpa using g1)
  h14c:=fun g0=>r.h14c (by simpa using g0)
  o1:=fun g0=>by have:=r.o1 (by simpa using g0);simp[this]
  o2:=fun g0=>by have:=r.o2 (by simpa using g0);simp[this]
  o3:=fun g0=>by have:=r.o3 (by simpa using g0);simp[this]
  o4:=fun g0=>by have:=r.o4 (by simpa using g0);simp[this]
  o5:=fun g0=>by have:=r.o5 (by simpa using g0);simp[this]
  o6:=fun g0=>by have:=r.o6 (by simpa using g0);simp[this] }
theorem opB_17 {edges:List (Nat × Nat)} {goal e0 e1 i j:Nat} {que out:List Nat} {far:List (Nat × Nat)} {v1:Nat} (L:Nat→Bool) (S:St) (r:R12 edges goal e0 e1 i j que out far v1 L S) (hL:L 17=false) (k0:L 0=true) (k8:L 8=true) (k15:L 15=true) (k16:L 16=true):aDo EE Tryz.f109.ntmps ops12 (ops12[17]'(by decide)) S (R12 edges goal e0 e1 i j que out far v1 (fun j=>L j || j==17)):=by
 have hat:At [(61,.mref (.n 14)),(69,i64 v1),(77,i64 far.length)] [(.n 14,.mp false (uI far++[((e0:Int),[])]))] [] S:=⟨⟨r.c0 k0,r.c8 k8,r.c16 k16,trivial⟩,⟨r.h14b k15 hL,trivial⟩,trivial⟩
 obtain⟨τ,H,rfl⟩:=hat.form
 conv=>whnf
 refine⟨⟨by omega,by simp[uI];omega⟩,?_⟩
 conv=>whnf
 exact {
  u0:=r.u0
  u1:=r.u1
  u4:=r.u4
  u5:=r.u5
  u7:=r.u7
  u8:=r.u8
  u10:=r.u10
  u23:=r.u23
  u24:=r.u24
  u25:=r.u25
  h4:=r.h4
  h5:=r.h5
  c0:=fun g0=>r.c0 (by simpa using g0)
  c1:=fun g0=>r.c1 (by simpa using g0)
  c2:=fun g0=>r.c2 (by simpa using g0)
  c3:=fun g0=>r.c3 (by simpa using g0)
  c4:=fun g0=>r.c4 (by simpa using g0)
  c5:=fun g0=>r.c5 (by simpa using g0)
  c6:=fun g0=>r.c6 (by simpa using g0)
  c7:=fun g0=>r.c7 (by simpa using g0)
  c8:=fun g0=>r.c8 (by simpa using g0)
  c9:=fun g0 g1=>r.c9 (by simpa using g0) (by simpa using g1)
  c10:=fun g0=>r.c10 (by simpa using g0)
  c11:=fun g0=>r.c11 (by simpa using g0)
  c12:=fun g0=>r.c12 (by simpa using g0)
  c13:=fun g0 g1=>r.c13 (by simpa using g0) (by simpa using g1)
  c14:=fun g0=>r.c14 (by simpa using g0)
  c15:=fun g0=>r.c15 (by simpa using g0)
  c16:=fun g0=>r.c16 (by simpa using g0)
  e13:=fun g0 g1=>r.e13 (by simpa using g0) (by simpa using g1)
  q6a:=fun g0=>r.q6a (by simpa using g0)
  q6b:=fun g0=>r.q6b (by simpa using g0)
  h13a:=fun g0=>r.h13a (by simpa using g0)
  h13b:=fun g0=>r.h13b (by simpa using g0)
  h14a:=fun g0=>absurd g0 (by simp[k15])
  h14b:=fun g0 g1=>absurd g1 (by simp)
  h14c:=fun _=>by show some (Ob.mp false (kV (uI far++[((e0:Int),[])]) far.length [di (v1:Int)]))=_;rw[putM_far]
  o1:=fun g0=>by have:=r.o1 (by simpa using g0);simp[this]
  o2:=fun g0=>by have:=r.o2 (by simpa using g0);simp[this]
  o3:=fun _=>by simp[k15]
  o4:=fun g0=>by have:=r.o4 (by simpa using g0);simp[this]
  o5:=fun g0=>by have:=r.o5 (by simpa using g0);simp[this]
  o6:=fun g0=>by have:=r.o6 (by simpa using g0);simp[this] }
theorem opB_18 {edges:List (Nat × Nat)} {goal e0 e1 i j:Nat} {que out:List Nat} {far:List (Nat × Nat)} {v1:Nat} (L:Nat→Bool) (S:St) (r:R12 edges goal e0 e1 i j que out far v1 L S) (hL:L 18=false) (k14:L 14=true) (k17:L 17=true):aDo EE Tryz.f109.ntmps ops12 (ops12[18]'(by decide)) S (R12 edges goal e0 e1 i j que out far v1 (fun j=>L j || j==18)):=by
 have hat:At [(75,.ref (.n 13) 0 (que.length+1))] [] [] S:=⟨⟨r.c14 k14,trivial⟩,trivial,trivial⟩
 obtain⟨τ,H,rfl⟩:=hat.form
 conv=>whnf
 exact {
  u0:=r.u0
  u1:=r.u1
  u4:=r.u4
  u5:=r.u5
  u7:=r.u7
  u8:=r.u8
  u10:=r.u10
  u23:=r.u23
  u24:=r.u24
  u25:=r.u25
  h4:=r.h4
  h5:=r.h5
  c0:=fun g0=>r.c0 (by simpa using g0)
  c1:=fun g0=>r.c1 (by simpa using g0)
  c2:=fun g0=>r.c2 (by simpa using g0)
  c3:=fun g0=>r.c3 (by simpa using g0)
  c4:=fun g0=>r.c4 (by simpa using g0)
  c5:=fun g0=>r.c5 (by simpa using g0)
  c6:=fun g0=>r.c6 (by simpa using g0)
  c7:=fun g0=>r.c7 (by simpa using g0)
  c8:=fun g0=>r.c8 (by simpa using g0)
  c9:=fun g0 g1=>r.c9 (by simpa using g0) (by simpa using g1)
  c10:=fun g0=>r.c10 (by simpa using g0)
  c11:=fun g0=>r.c11 (by simpa using g0)
  c12:=fun g0=>r.c12 (by simpa using g0)
  c13:=fun g0 g1=>r.c13 (by simpa using g0) (by simpa using g1)
  c14:=fun g0=>r.c14 (by simpa using g0)
  c15:=fun g0=>r.c15 (by simpa using g0)
  c16:=fun g0=>r.c16 (by simpa using g0)
  e13:=fun g0 g1=>r.e13 (by simpa using g0) (by simpa using g1)
  q6a:=fun g0=>absurd g0 (by simp[k14])
  q6b:=fun _=>rfl
  h13a:=fun g0=>r.h13a (by simpa using g0)
  h13b:=fun g0=>r.h13b (by simpa using g0)
  h14a:=fun g0=>r.h14a (by simpa using g0)
  h14b:=fun g0 g1=>r.h14b (by simpa using g0) (by simpa using g1)
  h14c:=fun g0=>r.h14c (by simpa using g0)
  o1:=fun g0=>by have:=r.o1 (by simpa using g0);simp[this]
  o2:=fun g0=>by have:=r.o2 (by simpa using g0);simp[this]
  o3:=fun g0=>by have:=r.o3 (by simpa using g0);simp[this]
  o4:=fun g0=>by have:=r.o4 (by simpa using g0);simp[this]
  o5:=fun _=>by simp[k14]
  o6:=fun _=>by simp[k17] }
theorem draw12 {edges:List (Nat × Nat)} {goal e0 e1 i j:Nat} {que out:List Nat} {far:List (Nat × Nat)} {v1:Nat} (he:e0<100) (he0:e0<out.length) (hv1:out.getD e0 0=v1) (hq:que.length≤1000) (hab:(far.any fun p=>p.1==e0)=false)
  (Q:AX→St→Prop) (S:St) (h:R12 edges goal e0 e1 i j que out far v1 (fun _=>false) S) (hQ:∀ L S',(∀ i,i<19→L i=true)→R12 edges goal e0 e1 i j que out far v1 L S'→Q .normal S'):ADrawI EE Tryz.f109.ntmps ops12 Q S:=by
 refine⟨R12 edges goal e0 e1 i j que out far v1,h,?_,fun L S' hL hS=>hQ L S' hL hS,by kernel_rfl,trivial⟩
 intro n o ho L S hL hd hI
 match n,ho,hL with
 | 0,ho,hL =>
  obtain rfl:ops12[0]'(by decide)=o:=Option.some.inj (show some (ops12[0]'(by decide))=some o from ho)
  exact opB_0 L S hI hL
 | 1,ho,hL =>
  obtain rfl:ops12[1]'(by decide)=o:=Option.some.inj (show some (ops12[1]'(by decide))=some o from ho)
  exact opB_1 L S hI hL
 | 2,ho,hL =>
  obtain rfl:ops12[2]'(by decide)=o:=Option.some.inj (show some (ops12[2]'(by decide))=some o from ho)
  have k1:L 1=true:=hd _ (Array.getElem_mem (i:=0) (by decide)) rfl
  exact opB_2 L S hI hL k1
 | 3,ho,hL =>
  obtain rfl:ops12[3]'(by decide)=o:=Option.some.inj (show some (ops12[3]'(by decide))=some o from ho)
  have k2:L 2=true:=hd _ (Array.getElem_mem (i:=0) (by decide)) rfl
  exact opB_3 L S hI hL k2
 | 4,ho,hL =>
  obtain rfl:ops12[4]'(by decide)=o:=Option.some.inj (show some (ops12[4]'(by decide))=some o from ho)
  exact opB_4 L S hI hL
 | 5,ho,hL =>
  obtain rfl:ops12[5]'(by decide)=o:=Option.some.inj (show some (ops12[5]'(by decide))=some o from ho)
  have k4:L 4=true:=hd _ (Array.getElem_mem (i:=0) (by decide)) rfl
  exact opB_5 L S hI hL k4
 | 6,ho,hL =>
  obtain rfl:ops12[6]'(by decide)=o:=Option.some.inj (show some (ops12[6]'(by decide))=some o from ho)
  have k5:L 5=true:=hd _ (Array.getElem_mem (i:=0) (by decide)) rfl
  exact opB_6 L S hI hL k5
 | 7,ho,hL =>
  obtain rfl:ops12[7]'(by decide)=o:=Option.some.inj (show some (ops12[7]'(by decide))=some o from ho)
  have k6:L 6=true:=hd _ (Array.getElem_mem (i:=0) (by decide)) rfl
  exact opB_7 he L S hI hL k6
 | 8,ho,hL =>
  obtain rfl:ops12[8]'(by decide)=o:=Option.some.inj (show some (ops12[8]'(by decide))=some o from ho)
  have k7:L 7=true:=hd _ (Array.getElem_mem (i:=0) (by decide)) rfl
  exact opB_8 he0 hv1 L S hI hL k7
 | 9,ho,hL =>
  obtain rfl:ops12[9]'(by decide)=o:=Option.some.inj (show some (ops12[9]'(by decide))=some o from ho)
  exact opB_9 L S hI hL
 | 10,ho,hL =>
  obtain rfl:ops12[10]'(by decide)=o:=Option.some.inj (show some (ops12[10]'(by decide))=some o from ho)
  exact opB_10 L S hI hL
 | 11,ho,hL =>
  obtain rfl:ops12[11]'(by decide)=o:=Option.some.inj (show some (ops12[11]'(by decide))=some o from ho)
  have k10:L 10=true:=hd _ (Array.getElem_mem (i:=0) (by decide)) rfl
  exact opB_11 L S hI hL k10
 | 12,ho,hL =>
  obtain rfl:ops12[12]'(by decide)=o:=Option.some.inj (show some (ops12[12]'(by decide))=some o from ho)
  have k11:L 11=true:=hd _ (Array.getElem_mem (i:=0) (by decide)) rfl
  exact opB_12 L S hI hL k11
 | 13,ho,hL =>
  obtain rfl:ops12[13]'(by decide)=o:=Option.some.inj (show some (ops12[13]'(by decide))=some o from ho)
  have k12:L 12=true:=hd _ (Array.getElem_mem (i:=0) (by decide)) rfl
  exact opB_13 L S hI hL k12
 | 14,ho,hL =>
  obtain rfl:ops12[14]'(by decide)=o:=Option.some.inj (show some (ops12[14]'(by decide))=some o from ho)
  have k9:L 9=true:=hd _ (Array.getElem_mem (i:=0) (by decide)) rfl
  have k13:L 13=true:=hd _ (Array.getElem_mem (i:=1) (by decide)) rfl
  exact opB_14 hq L S hI hL k9 k13
 | 15,ho,hL =>
  obtain rfl:ops12[15]'(by decide)=o:=Option.some.inj (show some (ops12[15]'(by decide))=some o from ho)
  have k0:L 0=true:=hd _ (Array.getElem_mem (i:=0) (by decide)) rfl
  have k3:L 3=true:=hd _ (Array.getElem_mem (i:=1) (by decide)) rfl
  have k14:L 14=true:=hd _ (Array.getElem_mem (i:=2) (by decide)) rfl
  exact opB_15 hab L S hI hL k0 k3 k14
 | 16,ho,hL =>
  obtain rfl:ops12[16]'(by decide)=o:=Option.some.inj (show some (ops12[16]'(by decide))=some o from ho)
  have k15:L 15=true:=hd _ (Array.getElem_mem (i:=0) (by decide)) rfl
  exact opB_16 L S hI hL k15
 | 17,ho,hL =>
  obtain rfl:ops12[17]'(by decide)=o:=Option.some.inj (show some (ops12[17]'(by decide))=some o from ho)
  have k0:L 0=true:=hd _ (Array.getElem_mem (i:=0) (by decide)) rfl
  have k8:L 8=true:=hd _ (Array.getElem_mem (i:=2) (by decide)) rfl
  have k15:L 15=true:=hd _ (Array.getElem_mem (i:=3) (by decide)) rfl
  have k16:L 16=true:=hd _ (Array.getElem_mem (i:=1) (by decide)) rfl
  exact opB_17 L S hI hL k0 k8 k15 k16
 | 18,ho,hL =>
  obtain rfl:ops12[18]'(by decide)=o:=Option.some.inj (show some (ops12[18]'(by decide))=some o from ho)
  have k14:L 14=true:=hd _ (Array.getElem_mem (i:=0) (by decide)) rfl
  have k17:L 17=true:=hd _ (Array.getElem_mem (i:=1) (by decide)) rfl
  exact opB_18 L S hI hL k14 k17
 |n+19,ho,hL =>
  have h1:n+19<ops12.size:=(Array.getElem?_eq_some_iff.1 ho).1
  have h2:ops12.size=19:=by decide
  omega
end Ai
namespace Ai
set_option maxRecDepth 100000
open Go Go.Proofs Cyc
theorem g9 (edges:List (Nat × Nat)) (goal:Nat) (hl:edges.length≤5) (he:∀ e∈edges,e.1<100) (fin:BS) (hr:qM goal edges 7 0 (bs0 goal)=some fin) :
  CallsTo EE 109 [sl (edges.map vQ),i64 goal] (·=agg (arr fin.out)):=by
 refine callsTo_of_AW (fn:=Tryz.f109) Tryz.func109 rfl (by kernel_rfl) rfl ?_
 conv=>whnf
 refine yJ (fun x:Nat × BS=>[(0,sl (edges.map vQ)),(1,i64 goal),(4,.ptr (.n 4) 0),(5,.ptr (.n 5) 0),(6,.ref (.n 13) 0 x.2.queue.length),(7,.mref (.n 14)),(8,i64 x.1)])
  (fun x=>[(.n 4,.vs 155 ((arr (List.replicate 100 0)).map .d)),(.n 5,.vs 155 ((arr x.2.out).map .d)),(.n 13,.ds 3 1 (x.2.queue.map xI)),(.n 14,.mp false (uI x.2.far))]) (fun x=>7 - x.1)
  (fun x=>∃ f m,f+x.1=7∧qM goal edges f x.1 x.2=some fin∧BSok goal x.2 m∧m≤5*x.1) (0,bs0 goal)
  Weak.refl ?_ ?_ ⟨7,0,rfl,hr,bs0_ok goal,Nat.zero_le _⟩ ?_
 ·exact⟨rfl,rfl,rfl,rfl,rfl,rfl,rfl,trivial⟩
 ·refine⟨rfl,rfl,rfl,rfl,trivial⟩
 rintro⟨i,st⟩ τ H ⟨f,m,hf,hrun,hok,hm⟩
 have hf:f+i=7:=hf
 have hrun:qM goal edges f i st=some fin:=hrun
 have hok:BSok goal st m:=hok
 have hm:m≤5*i:=hm
 cases f with
 |zero=>cases hrun
 |succ f =>
 conv=>whnf
 refine kbi (fun hi=>?_) (fun hi=>?_)
 ·have hi:i<st.queue.length:=by simpa using hi
  unfold qM at hrun
  rw[if_pos hi] at hrun
  conv=>whnf
  refine yJ (fun y:Nat × BS=>[(0,sl (edges.map vQ)),(1,i64 goal),(4,.ptr (.n 4) 0),(5,.ptr (.n 5) 0),(6,.ref (.n 13) 0 y.2.queue.length),(7,.mref (.n 14)),(8,i64 i),(23,sl (edges.map vQ)),(24,i64 (edges.map vQ).length),(25,i64 y.1)])
   (fun y=>[(.n 4,.vs 155 ((arr (List.replicate 100 0)).map .d)),(.n 5,.vs 155 ((arr y.2.out).map .d)),(.n 13,.ds 3 1 (y.2.queue.map xI)),(.n 14,.mp false (uI y.2.far))]) (fun y=>edges.length - y.1)
   (fun y=>y.1≤edges.length∧y.2=(edges.take y.1).foldl (bsE goal (st.queue.getD i 0)) st∧BSok goal y.2 (m+y.1)∧y.2.queue.getD i 0=st.queue.getD i 0∧i<y.2.queue.length) (0,st)
   Weak.refl ⟨rfl,rfl,rfl,rfl,rfl,rfl,rfl,rfl,rfl,rfl,trivial⟩ ⟨rfl,rfl,rfl,rfl,trivial⟩ ⟨Nat.zero_le _,rfl,hok,rfl,hi⟩ ?_
  rintro⟨j,st'⟩ τ' H' ⟨hj,hst,hok',hcur,hiq⟩
  have hj:j≤edges.length:=hj
  have hst:st'=(edges.take j).foldl (bsE goal (st.queue.getD i 0)) st:=hst
  have hok':BSok goal st' (m+j):=hok'
  have hcur:st'.queue.getD i 0=st.queue.getD i 0:=hcur
  have hiq:i<st'.queue.length:=hiq
  generalize hcd:st.queue.getD i 0=cur at *
  conv=>whnf
  refine kbi (fun hje=>?_) (fun hje=>?_)
  ·have hje:j<edges.length:=by simpa using hje
   have hel:=he _ (List.getElem_mem hje)
   conv=>whnf
   refine⟨vQ edges[j],⟨by omega,by simp[hje],rfl⟩,?_⟩
   conv=>whnf
   refine⟨by kernel_rfl,?_⟩
   conv=>whnf
   refine⟨[di edges[j].2],⟨by decide,rfl,rfl⟩,?_⟩
   conv=>whnf
   refine⟨⟨by omega,by show(i:Int)<st'.queue.length;omega⟩,?_⟩
   conv=>whnf
   have hq:(st'.queue.map xI)[i]?=some (xI (cur)):=by
    rw[List.getElem?_map,List.getElem?_eq_getElem hiq,← hcur,List.getD_eq_getElem?_getD,List.getElem?_eq_getElem hiq];rfl
   refine⟨xI (cur),⟨by rw[Nat.zero_add];exact hq,by show 0+1≤1;omega⟩,?_⟩
   conv=>whnf
   have hnext:(edges.take (j+1)).foldl (bsE goal (cur)) st=bsE goal (cur) st' edges[j]:=by
    rw[List.take_succ_eq_append_getElem hje,List.foldl_append,← hst];rfl
   refine kbi (fun h1=>?_) (fun h1=>?_)
   ·have h1:edges[j].2≠cur:=by
     intro e
     simp[e] at h1
    have hE:bsE goal (cur) st' edges[j]=st':=by
     unfold bsE
     rw[if_pos (by rw[Bool.or_eq_true];exact .inl (bne_iff_ne.2 h1))]
    conv=>whnf
    refine⟨(j+1,st'),⟨by show j+1≤edges.length;omega,by show st'=_;rw[hnext,hE],?_,hcur,hiq⟩,by show edges.length - (j+1)<edges.length - j;omega,⟨rfl,rfl,rfl,rfl,rfl,rfl,rfl,rfl,rfl,?_,trivial⟩,⟨rfl,rfl,rfl,rfl,trivial⟩⟩
    ·exact⟨hok'.len,fun p hp=>Nat.le_trans (hok'.far p hp) (by show m+j≤m+(j+1);omega),by show st'.queue.length≤m+(j+1)+1;have:st'.queue.length≤m+j+1:=hok'.que;omega,hok'.key,hok'.pos,by show st'.far.length≤m+(j+1)+1;have:st'.far.length≤m+j+1:=hok'.flen;omega⟩
    ·show AV.d (.int .i64 (IntKind.i64.wrap ((j:Int)+1)))=i64 ((j+1:Nat):Int)
     rw[zM (by omega) (by omega)]
     rfl
   have h1:edges[j].2=cur:=by
    have h2:¬ ((edges[j].2:Int) != (cur:Int))=true:=h1
    simp only[bne_iff_ne,ne_eq,Classical.not_not] at h2
    omega
   conv=>whnf
   refine⟨[di edges[j].1],⟨by decide,rfl,rfl⟩,?_⟩
   conv=>whnf
   refine⟨⟨by omega,by show((edges[j].1:Nat):Int)<100;omega⟩,?_⟩
   conv=>whnf
   have hlt:edges[j].1<st'.out.length:=by rw[hok'.len];exact hel
   split
   rotate_left 1
   ·rename_i hld
    exact absurd (hld.symm.trans (dR (out:=st'.out) (k:=edges[j].1) rfl rfl hlt)) (by simp)
   rename_i cs hld
   obtain rfl:=Option.some.inj (hld.symm.trans (dR (out:=st'.out) (k:=edges[j].1) rfl rfl hlt))
   clear hld
   conv=>whnf
   refine kbi (fun h2=>?_) (fun h2=>?_)
   ·have h2:0<st'.out.getD edges[j].1 0:=by
     have h3:=of_decide_eq_true h2
     omega
    have hE:bsE goal cur st' edges[j]=st':=by
     unfold bsE
     rw[if_pos (by rw[Bool.or_eq_true];exact .inr (decide_eq_true h2))]
    conv=>whnf
    refine⟨(j+1,st'),⟨by show j+1≤edges.length;omega,by show st'=_;rw[hnext,hE],?_,hcur,hiq⟩,by show edges.length - (j+1)<edges.length - j;omega,⟨rfl,rfl,rfl,rfl,rfl,rfl,rfl,rfl,rfl,?_,trivial⟩,⟨rfl,rfl,rfl,rfl,trivial⟩⟩
    ·exact⟨hok'.len,fun p hp=>Nat.le_trans (hok'.far p hp) (by show m+j≤m+(j+1);omega),by show st'.queue.length≤m+(j+1)+1;have:st'.queue.length≤m+j+1:=hok'.que;omega,hok'.key,hok'.pos,by show st'.far.length≤m+(j+1)+1;have:st'.far.length≤m+j+1:=hok'.flen;omega⟩
    ·show AV.d (.int .i64 (IntKind.i64.wrap ((j:Int)+1)))=i64 ((j+1:Nat):Int)
     rw[zM (by omega) (by omega)]
     rfl
   have h2:st'.out.getD edges[j].1 0=0:=by
    have h3:¬ ((st'.out.getD edges[j].1 0:Nat):Int) > 0:=fun e=>h2 (decide_eq_true e)
    omega
   obtain⟨v,hv⟩:=hok'.key cur (by rw[← hcur,List.getD_eq_getElem?_getD,List.getElem?_eq_getElem hiq];exact List.getElem_mem hiq)
   have hgv:v6 st'.far cur=v:=by unfold v6;rw[hv];rfl
   have hvm:v≤m+j:=by rw[← hgv];exact sA hok'
   conv=>whnf
   refine .inr (.inl ⟨10,[],?_⟩)
   conv=>whnf
   refine⟨[di edges[j].1],⟨by decide,rfl,rfl⟩,?_⟩
   conv=>whnf
   refine⟨⟨by omega,by show(i:Int)<st'.queue.length;omega⟩,?_⟩
   conv=>whnf
   refine⟨xI cur,⟨by rw[Nat.zero_add];exact hq,by show 0+1≤1;omega⟩,?_⟩
   conv=>whnf
   refine .inl ⟨di (v:Int),by rw[atM_far,hv];rfl,?_⟩
   conv=>whnf
   refine⟨by kernel_rfl,?_⟩
   conv=>whnf
   refine⟨⟨by omega,by show((edges[j].1:Nat):Int)<100;omega⟩,?_⟩
   conv=>whnf
   split
   rotate_left 1
   ·rename_i hb
    exact absurd hb (by
     rw[jF]
     have:Nat.ble (0+edges[j].1*1+1) ((arr st'.out).map AV.d).length=true:=by rw[Nat.ble_eq];simp[arr];omega
     exact fun e=>by rw[show Nat.ble (0+edges[j].1*1+1) ((arr st'.out).map AV.d).length=false from e] at this;cases this)
   conv=>whnf
   have ew:IntKind.i64.wrap ((v:Int)+1)=((v+1:Nat):Int):=by rw[zM (by omega) (by omega)];rfl
   refine⟨[di edges[j].1],⟨by decide,rfl,rfl⟩,?_⟩
   conv=>whnf
   refine kbi (fun hg=>?_) (fun hg=>?_)
   ·have hg:edges[j].1≠goal:=by
     have h3:((edges[j].1:Int) != (goal:Int))=true:=hg
     simp only[bne_iff_ne,ne_eq] at h3
     omega
    have hab:=absent hok' h2 hg
    have hE:bsE goal cur st' edges[j]=⟨st'.out.set edges[j].1 (v+1),st'.queue++[edges[j].1],st'.far++[(edges[j].1,v+1)]⟩:=by
     unfold bsE
     rw[if_neg (by rw[Bool.or_eq_true,bne_iff_ne,decide_eq_true_eq];omega),if_pos (by rw[bne_iff_ne];exact hg),hgv,r8 hab]
    have hql:st'.queue.length≤m+j+1:=hok'.que
    have hok2:BSok goal ⟨st'.out.set edges[j].1 (v+1),st'.queue++[edges[j].1],st'.far++[(edges[j].1,v+1)]⟩ (m+(j+1)):=by rw[← hE];exact j9 hok' hel
    have hcur2:(st'.queue++[edges[j].1]).getD i 0=cur:=by
     rw[← hcur,List.getD_eq_getElem?_getD,List.getElem?_append_left hiq,List.getD_eq_getElem?_getD]
    conv=>whnf
    refine .inr (.inr (.inl (draw12 (edges:=edges) (goal:=goal) (e0:=edges[j].1) (e1:=edges[j].2) (i:=i) (j:=j) (que:=st'.queue) (out:=st'.out.set edges[j].1 (v+1)) (far:=st'.far) (v1:=v+1) hel (by simpa using hlt) (by simp[List.getD_eq_getElem?_getD,hlt]) (by omega) hab _ _ ?_ ?_)))
    ·exact {
      u0:=rfl
      u1:=rfl
      u4:=rfl
      u5:=rfl
      u7:=rfl
      u8:=rfl
      u10:=rfl
      u23:=rfl
      u24:=rfl
      u25:=rfl
      h4:=congrArg (fun x=>some (Ob.vs 155 x)) (jF _ _)
      h5:=congrArg (fun x=>some (Ob.vs 155 x)) (sQ (v:=v+1) (jF _ _) hlt (congrArg (fun n=>AV.d (.int .i64 n)) ew))
      c0:=fun h=>by cases h
      c1:=fun h=>by cases h
      c2:=fun h=>by cases h
      c3:=fun h=>by cases h
      c4:=fun h=>by cases h
      c5:=fun h=>by cases h
      c6:=fun h=>by cases h
      c7:=fun h=>by cases h
      c8:=fun h=>by cases h
      c9:=fun h=>by cases h
      c10:=fun h=>by cases h
      c11:=fun h=>by cases h
      c12:=fun h=>by cases h
      c13:=fun h=>by cases h
      c14:=fun h=>by cases h
      c15:=fun h=>by cases h
      c16:=fun h=>by cases h
      e13:=fun h=>by cases h
      q6a:=fun _=>rfl
      q6b:=fun h=>by cases h
      h13a:=fun _=>rfl
      h13b:=fun h=>by cases h
      h14a:=fun _=>rfl
      h14b:=fun h=>by cases h
      h14c:=fun h=>by cases h
      o1:=fun h=>by cases h
      o2:=fun h=>by cases h
      o3:=fun h=>by cases h
      o4:=fun h=>by cases h
      o5:=fun h=>by cases h
      o6:=fun h=>by cases h }
    intro L S' hL r
    have hat:At [(0,sl (edges.map vQ)),(1,i64 goal),(4,.ptr (.n 4) 0),(5,.ptr (.n 5) 0),(6,.ref (.n 13) 0 (st'.queue.length+1)),(7,.mref (.n 14)),(8,i64 i),(23,sl (edges.map vQ)),(24,i64 (edges.map vQ).length),(25,i64 j)]
     [(.n 4,.vs 155 ((arr (List.replicate 100 0)).map .d)),(.n 5,.vs 155 ((arr (st'.out.set edges[j].1 (v+1))).map .d)),(.n 13,.ds 3 1 ((st'.queue++[edges[j].1]).map xI)),(.n 14,.mp false (uI (st'.far++[(edges[j].1,v+1)])))] [] S' :=
     ⟨⟨r.u0,r.u1,r.u4,r.u5,r.q6b (hL 18 (by decide)),r.u7,r.u8,r.u23,r.u24,r.u25,trivial⟩,⟨r.h4,r.h5,r.h13b (hL 14 (by decide)),r.h14c (hL 17 (by decide)),trivial⟩,trivial⟩
    obtain⟨τ2,H2,rfl⟩:=hat.form
    clear r hat
    conv=>whnf
    refine⟨(j+1,⟨st'.out.set edges[j].1 (v+1),st'.queue++[edges[j].1],st'.far++[(edges[j].1,v+1)]⟩),⟨by show j+1≤edges.length;omega,by show _=List.foldl _ _ _;rw[hnext,hE],hok2,hcur2,by show i<(st'.queue++[edges[j].1]).length;simp;omega⟩,by show edges.length - (j+1)<edges.length - j;omega,⟨rfl,rfl,rfl,rfl,?_,rfl,rfl,rfl,rfl,?_,trivial⟩,⟨rfl,rfl,rfl,rfl,trivial⟩⟩
    ·show AV.ref (.n 13) 0 (st'.queue.length+1)=.ref (.n 13) 0 (st'.queue++[edges[j].1]).length
     rw[List.length_append]
     rfl
    ·show AV.d (.int .i64 (IntKind.i64.wrap ((j:Int)+1)))=i64 ((j+1:Nat):Int)
     rw[zM (by omega) (by omega)]
     rfl
   ·have hg:edges[j].1=goal:=by
     have h3:¬ ((edges[j].1:Int) != (goal:Int))=true:=hg
     simp only[bne_iff_ne,ne_eq,Classical.not_not] at h3
     omega
    have hE:bsE goal cur st' edges[j]=⟨st'.out.set edges[j].1 (v+1),st'.queue,st'.far⟩:=by
     unfold bsE
     rw[if_neg (by rw[Bool.or_eq_true,bne_iff_ne,decide_eq_true_eq];omega),if_neg (by rw[bne_iff_ne];omega),hgv]
    conv=>whnf
    have hok2:BSok goal ⟨st'.out.set edges[j].1 (v+1),st'.queue,st'.far⟩ (m+(j+1)):=by rw[← hE];exact j9 hok' hel
    refine⟨(j+1,⟨st'.out.set edges[j].1 (v+1),st'.queue,st'.far⟩),⟨by show j+1≤edges.length;omega,by show _=List.foldl _ _ _;rw[hnext,hE],hok2,hcur,hiq⟩,by show edges.length - (j+1)<edges.length - j;omega,⟨rfl,rfl,rfl,rfl,rfl,rfl,rfl,rfl,rfl,?_,trivial⟩,⟨?_,?_,rfl,rfl,trivial⟩⟩
    ·show AV.d (.int .i64 (IntKind.i64.wrap ((j:Int)+1)))=i64 ((j+1:Nat):Int)
     rw[zM (by omega) (by omega)]
     rfl
    ·exact congrArg (fun x=>some (Ob.vs 155 x)) (jF _ _)
    ·exact congrArg (fun x=>some (Ob.vs 155 x)) (sQ (v:=v+1) (jF _ _) hlt (congrArg (fun n=>AV.d (.int .i64 n)) ew))
  ·have hje:edges.length≤j:=by simpa using hje
   have hjj:j=edges.length:=by omega
   subst hjj
   conv=>whnf
   rw[List.take_length] at hst
   rw[← hst] at hrun
   refine⟨(i+1,st'),⟨f,m+edges.length,by show f+(i+1)=7;omega,hrun,hok',by show m+edges.length≤5*(i+1);omega⟩,by show 7 - (i+1)<7 - i;omega,⟨rfl,rfl,rfl,rfl,rfl,rfl,?_,trivial⟩,⟨rfl,rfl,rfl,rfl,trivial⟩⟩
   show AV.d (.int .i64 (IntKind.i64.wrap ((i:Int)+1)))=i64 ((i+1:Nat):Int)
   rw[zM (by omega) (by omega)]
   rfl
 ·have hi:¬ i<st.queue.length:=by simpa using hi
  unfold qM at hrun
  rw[if_neg hi] at hrun
  obtain rfl:=Option.some.inj hrun
  obtain⟨g,hg⟩:∃ g:Nat→Nat,st.out=(List.range 100).map g:=⟨fun i=>st.out.getD i 0,by
   apply List.ext_getElem?
   intro k
   by_cases hk:k<100
   ·have:k<st.out.length:=by rw[hok.len];exact hk
    rw[List.getElem?_map,List.getElem?_range hk,List.getElem?_eq_getElem this]
    simp[List.getD_eq_getElem?_getD,this]
   ·rw[List.getElem?_eq_none (by rw[hok.len];omega),List.getElem?_eq_none (by simp;omega)]⟩
  obtain⟨out,queue,far⟩:=st
  have hg:out=(List.range 100).map g:=hg
  subst hg
  conv=>whnf
  rfl
end Ai
namespace Ai
set_option maxRecDepth 100000
open Go Go.Proofs Cyc
theorem tZ {goal cur:Nat}:∀ (es:List (Nat × Nat)) (st:BS) (m:Nat),(∀ e∈es,e.1<100)→BSok goal st m→BSok goal (es.foldl (bsE goal cur) st) (m+es.length)
 | [],st,m,he,h=>h
 |e::es,st,m,he,h=>by
  have:=tZ (cur:=cur) es (bsE goal cur st e) (m+1) (fun x hx=>he x (List.mem_cons_of_mem _ hx)) (j9 h (he e List.mem_cons_self))
  rw[List.foldl_cons,List.length_cons,show m+(es.length+1)=m+1+es.length by omega]
  exact this
theorem oJ {goal:Nat} {edges:List (Nat × Nat)} (he:∀ e∈edges,e.1<100):∀ (f i m:Nat) (st fin:BS),BSok goal st m→qM goal edges f i st=some fin→fin.out.length=100
 | 0,i,m,st,fin,h,hr=>by cases hr
 |f+1,i,m,st,fin,h,hr=>by
  unfold qM at hr
  split at hr
  ·exact oJ he f (i+1) _ _ fin (tZ edges st m he h) hr
  ·obtain rfl:=Option.some.inj hr
   exact h.len
theorem iX {goal cur:Nat}:∀ (es:List (Nat × Nat)) (st:BS) (m:Nat),(∀ e∈es,e.1<100)→BSok goal st m→(∀ x∈st.out,x≤m)→∀ x∈(es.foldl (bsE goal cur) st).out,x≤m+es.length
 | [],st,m,he,h,ho=>ho
 |e::es,st,m,he,h,ho=>by
  have h1:∀ x∈(bsE goal cur st e).out,x≤m+1:=by
   intro x hx
   unfold bsE at hx
   split at hx
   ·exact Nat.le_succ_of_le (ho x hx)
   ·split at hx
    ·rcases List.mem_or_eq_of_mem_set hx with h2|h2
     ·exact Nat.le_succ_of_le (ho x h2)
     ·subst h2;exact Nat.succ_le_succ (sA h)
    ·rcases List.mem_or_eq_of_mem_set hx with h2|h2
     ·exact Nat.le_succ_of_le (ho x h2)
     ·subst h2;exact Nat.succ_le_succ (sA h)
  have:=iX (cur:=cur) es (bsE goal cur st e) (m+1) (fun x hx=>he x (List.mem_cons_of_mem _ hx)) (j9 h (he e List.mem_cons_self)) h1
  rw[List.foldl_cons,List.length_cons,show m+(es.length+1)=m+1+es.length by omega]
  exact this
theorem oI {goal:Nat} {edges:List (Nat × Nat)} (hl:edges.length≤5) (he:∀ e∈edges,e.1<100):∀ (f i m:Nat) (st fin:BS),BSok goal st m→(∀ x∈st.out,x≤m)→qM goal edges f i st=some fin→∀ x∈fin.out,x≤m+5*f
 | 0,i,m,st,fin,h,ho,hr=>by cases hr
 |f+1,i,m,st,fin,h,ho,hr=>by
  unfold qM at hr
  split at hr
  ·intro x hx
   have:=oI hl he f (i+1) _ _ fin (tZ edges st m he h) (iX edges st m he h ho) hr x hx
   omega
  ·obtain rfl:=Option.some.inj hr
   intro x hx
   have:=ho x hx
   omega
theorem range_form {l:List Nat} (h:l.length=100):∃ g:Nat→Nat,l=(List.range 100).map g:=⟨fun i=>l.getD i 0,by
 apply List.ext_getElem?
 intro k
 by_cases hk:k<100
 ·have:k<l.length:=by omega
  rw[List.getElem?_map,List.getElem?_range hk,List.getElem?_eq_getElem this]
  simp[List.getD_eq_getElem?_getD,this]
 ·rw[List.getElem?_eq_none (by omega),List.getElem?_eq_none (by simp;omega)]⟩
def rG (edges:List (Nat × Nat)):List Nat:=((List.range 100).findSome? fun n=>match gV edges n with|some (x::xs)=>some (x::xs)|_=>none).getD []
theorem cycOf_at {edges:List (Nat × Nat)} {n:Nat} {o:List Nat} (h:n<100) (hno:∀ k,k<n→gV edges k=some []) (ho:gV edges n=some o) (hne:o≠[]):rG edges=o:=by
 unfold rG
 have hs:List.range 100=(List.range 100).take n++n::(List.range 100).drop (n+1):=by
  have:=(List.take_append_drop n (List.range 100)).symm
  rw[List.drop_eq_getElem_cons (by simp;omega),List.getElem_range] at this
  exact this
 have hf:(List.range 100).findSome? (fun n=>match gV edges n with|some (x::xs)=>some (x::xs)|_=>none)=some o:=by
  rw[List.findSome?_eq_some_iff]
  refine⟨_,n,_,hs,?_,fun x hx=>?_⟩
  ·rw[ho]
   cases o with
   |nil=>exact absurd rfl hne
   |cons x xs=>rfl
  ·obtain⟨i,hi,rfl⟩:=List.mem_iff_getElem.1 hx
   have hi2:i<n:=by
    have:=hi
    simp at this
    omega
   rw[List.getElem_take,List.getElem_range,hno i hi2]
 rw[hf]
 rfl
theorem cycleI_ok (edges:List (Nat × Nat)) (hl:edges.length≤5) (he:∀ e∈edges,e.1<100∧e.2<100) (hr:∀ n,n<100→(qM n edges 7 0 (bs0 n)).isSome=true) :
  CallsTo EE 68 [sl (edges.map vQ)] (·=.tup [sl ((rG edges).map xI),bv (!(rG edges).isEmpty)]):=by
 refine callsTo_of_AW (fn:=Tryz.f68) Tryz.func68 rfl (by kernel_rfl) rfl ?_
 conv=>whnf
 refine yJ (fun n:Nat=>[(0,sl (edges.map vQ)),(12,i64 n)]) (fun n=>[]) (fun n=>100 - n) (fun n=>n≤100∧∀ k,k<n→gV edges k=some []) 0
  Weak.refl ⟨rfl,rfl,trivial⟩ trivial ⟨Nat.zero_le _,fun k hk=>by omega⟩ ?_
 rintro n τ H ⟨hn,hno⟩
 conv=>whnf
 refine kbi (fun h=>?_) (fun h=>?_)
 ·have h:n<100:=by
   have:=of_decide_eq_true h
   omega
  obtain⟨fin,hfin⟩:=Option.isSome_iff_exists.1 (hr n h)
  have hlen:=oJ (fun e h=>(he e h).1) 7 0 0 (bs0 n) fin (bs0_ok n) hfin
  have hcy:gV edges n=if fin.out.getD n 0=0 then some [] else some (oV edges fin.out n (fin.out.getD n 0 - 1) [n] n):=by
   unfold gV;rw[hfin]
  conv=>whnf
  refine⟨_,g9 edges n hl (fun e h=>(he e h).1) fin hfin,?_⟩
  rintro r rfl
  obtain⟨out,queue,far⟩:=fin
  have hlen:out.length=100:=hlen
  obtain⟨g,hg⟩:=range_form hlen
  subst hg
  conv=>whnf
  have hnl:n<((List.range 100).map g).length:=by simp;omega
  refine⟨⟨by omega,by show(n:Int)<100;omega⟩,?_⟩
  conv=>whnf
  split
  rotate_left 1
  ·rename_i hld
   exact absurd (hld.symm.trans (dR (out:=(List.range 100).map g) (k:=n) rfl rfl hnl)) (by simp)
  rename_i cs hld
  obtain rfl:=Option.some.inj (hld.symm.trans (dR (out:=(List.range 100).map g) (k:=n) rfl rfl hnl))
  clear hld
  have hcy:gV edges n=if ((List.range 100).map g).getD n 0=0 then some [] else some (oV edges ((List.range 100).map g) n (((List.range 100).map g).getD n 0 - 1) [n] n):=hcy
  generalize hfn:((List.range 100).map g).getD n 0=fn at *
  conv=>whnf
  refine kbi (fun h0=>?_) (fun h0=>?_)
  ·have h0:fn=0:=by
    have h1:((fn:Int)==0)=true:=h0
    rw[beq_iff_eq] at h1
    omega
   rw[if_pos h0] at hcy
   conv=>whnf
   refine⟨n+1,⟨by omega,fun k hk=>?_⟩,by show 100 - (n+1)<100 - n;omega,⟨rfl,?_,trivial⟩,trivial⟩
   ·by_cases hkn:k=n
    ·rw[hkn];exact hcy
    ·exact hno k (by omega)
   ·show AV.d (.int .i64 (IntKind.i64.wrap ((n:Int)+1)))=i64 ((n+1:Nat):Int)
    rw[zM (by omega) (by omega)]
    rfl
  have h0:fn≠0:=by
   intro e
   subst e
   exact h0 rfl
  rw[if_neg h0] at hcy
  have hfb:fn≤35:=by
   have:=oI hl (fun e h=>(he e h).1) 7 0 0 (bs0 n) _ (bs0_ok n) (by intro x hx;simp[bs0] at hx;omega) hfin fn (by
    rw[← hfn,List.getD_eq_getElem?_getD,List.getElem?_eq_getElem hnl]
    exact List.getElem_mem hnl)
   omega
  conv=>whnf
  refine⟨⟨by omega,by show(n:Int)<100;omega⟩,?_⟩
  conv=>whnf
  split
  rotate_left 1
  ·rename_i hld
   exact absurd (hld.symm.trans (dR (out:=(List.range 100).map g) (k:=n) rfl rfl hnl)) (by simp)
  rename_i cs hld
  obtain rfl:=Option.some.inj (hld.symm.trans (dR (out:=(List.range 100).map g) (k:=n) rfl rfl hnl))
  clear hld
  rw[hfn]
  conv=>whnf
  have ew:IntKind.i64.wrap ((fn:Int) - 1)=((fn - 1:Nat):Int):=by rw[zM (by omega) (by omega)];omega
  refine yJ (fun y:Nat × List Nat × Nat=>[(0,sl (edges.map vQ)),(4,i64 n),(5,.ptr (.n 5) 0),(6,.ref (.n 23) 0 y.2.1.length),(7,i64 y.2.2),(8,i64 y.1),(12,i64 n)])
   (fun y=>[(.n 5,.vs 155 ((arr ((List.range 100).map g)).map .d)),(.n 23,.ds 3 1 (y.2.1.map xI))]) (fun y=>y.1)
   (fun y=>oV edges ((List.range 100).map g) n y.1 y.2.1 y.2.2=oV edges ((List.range 100).map g) n (fn - 1) [n] n∧y.1+y.2.1.length=fn∧y.2.1.length≥1) (fn - 1,[n],n)
   Weak.refl ?_ ?_ ⟨rfl,by show fn - 1+1=fn;omega,Nat.le_refl _⟩ ?_
  ·refine⟨rfl,rfl,rfl,rfl,rfl,?_,rfl,trivial⟩
   show AV.d (.int .i64 (IntKind.i64.wrap ((fn:Int) - 1)))=i64 ((fn - 1:Nat):Int)
   rw[ew]
  ·exact⟨rfl,rfl,trivial⟩
  rintro⟨left,o,a⟩ τ2 H2 ⟨hw,hlo,ho1⟩
  have hw:oV edges ((List.range 100).map g) n left o a=oV edges ((List.range 100).map g) n (fn - 1) [n] n:=hw
  have hlo:left+o.length=fn:=hlo
  conv=>whnf
  refine kbi (fun h5=>?_) (fun h5=>?_)
  ·have h5:0<left:=by
    have:=of_decide_eq_true h5
    omega
   obtain⟨l,rfl⟩:∃ l,left=l+1:=⟨left - 1,by omega⟩
   conv=>whnf
   refine yJ (fun z:Nat × Nat=>[(0,sl (edges.map vQ)),(4,i64 n),(5,.ptr (.n 5) 0),(6,.ref (.n 23) 0 o.length),(7,i64 a),(8,i64 (l+1:Nat)),(9,i64 z.2),(12,i64 n),(33,sl (edges.map vQ)),(34,i64 (edges.map vQ).length),(35,i64 z.1)])
    (fun z=>[(.n 5,.vs 155 ((arr ((List.range 100).map g)).map .d)),(.n 23,.ds 3 1 (o.map xI))]) (fun z=>edges.length - z.1)
    (fun z=>z.1≤edges.length∧z.2=(edges.take z.1).foldl (fun nx e=>if (e.1==a&&e.2 != n&&((List.range 100).map g).getD e.2 0==l+1)=true then min nx e.2 else nx) 100) (0,100)
    Weak.refl ⟨rfl,rfl,rfl,rfl,rfl,rfl,rfl,rfl,rfl,rfl,rfl,trivial⟩ ⟨rfl,rfl,trivial⟩ ⟨Nat.zero_le _,rfl⟩ ?_
   rintro⟨j,nx⟩ τ3 H3 ⟨hj,hnx⟩
   have hj:j≤edges.length:=hj
   have hnx:nx=(edges.take j).foldl (fun nx e=>if (e.1==a&&e.2 != n&&((List.range 100).map g).getD e.2 0==l+1)=true then min nx e.2 else nx) 100:=hnx
   conv=>whnf
   refine kbi (fun h6=>?_) (fun h6=>?_)
   ·have hje:j<edges.length:=by simpa using h6
    obtain⟨he1,he2⟩:=he _ (List.getElem_mem hje)
    have hnext:(edges.take (j+1)).foldl (fun nx e=>if (e.1==a&&e.2 != n&&((List.range 100).map g).getD e.2 0==l+1)=true then min nx e.2 else nx) 100=if (edges[j].1==a&&edges[j].2 != n&&((List.range 100).map g).getD edges[j].2 0==l+1)=true then min nx edges[j].2 else nx:=by
     rw[List.take_succ_eq_append_getElem hje,List.foldl_append,← hnx];rfl
    conv=>whnf
    refine⟨vQ edges[j],⟨by omega,by simp[hje],rfl⟩,?_⟩
    conv=>whnf
    refine⟨[di edges[j].1],⟨by decide,rfl,rfl⟩,?_⟩
    conv=>whnf
    refine kbi (fun h7=>?_) (fun h7=>?_)
    ·have h7:edges[j].1=a:=by
      have h8:((edges[j].1:Int)==(a:Int))=true:=h7
      rw[beq_iff_eq] at h8
      omega
     conv=>whnf
     refine⟨[di edges[j].2],⟨by decide,rfl,rfl⟩,?_⟩
     conv=>whnf
     refine kbi (fun h9=>?_) (fun h9=>?_)
     ·have h9:edges[j].2≠n:=by
       have h8:((edges[j].2:Int) != (n:Int))=true:=h9
       rw[bne_iff_ne] at h8
       omega
      conv=>whnf
      refine⟨[di edges[j].2],⟨by decide,rfl,rfl⟩,?_⟩
      conv=>whnf
      have he2l:edges[j].2<((List.range 100).map g).length:=by simp;omega
      refine⟨⟨by omega,by show(edges[j].2:Int)<100;omega⟩,?_⟩
      conv=>whnf
      split
      rotate_left 1
      ·rename_i hld
       exact absurd (hld.symm.trans (dR (out:=(List.range 100).map g) (k:=edges[j].2) rfl rfl he2l)) (by simp)
      rename_i cs hld
      obtain rfl:=Option.some.inj (hld.symm.trans (dR (out:=(List.range 100).map g) (k:=edges[j].2) rfl rfl he2l))
      clear hld
      conv=>whnf
      refine kbi (fun h10=>?_) (fun h10=>?_)
      ·have h10:((List.range 100).map g).getD edges[j].2 0=l+1:=by
        have h8:(((((List.range 100).map g).getD edges[j].2 0:Nat):Int)==((l+1:Nat):Int))=true:=h10
        rw[beq_iff_eq] at h8
        omega
       conv=>whnf
       refine⟨[di edges[j].2],⟨by decide,rfl,rfl⟩,?_⟩
       conv=>whnf
       refine⟨(j+1,min nx edges[j].2),⟨by show j+1≤edges.length;omega,by rw[hnext,if_pos (by simp only[Bool.and_eq_true,beq_iff_eq,bne_iff_ne];exact⟨⟨h7,h9⟩,h10⟩)]⟩,by show edges.length - (j+1)<edges.length - j;omega,⟨rfl,rfl,rfl,rfl,rfl,rfl,?_,rfl,rfl,rfl,?_,trivial⟩,⟨rfl,rfl,trivial⟩⟩
       ·show AV.d (.int .i64 (if (edges[j].2:Int)<(nx:Int) then (edges[j].2:Int) else (nx:Int)))=i64 ((min nx edges[j].2:Nat):Int)
        by_cases hlt:edges[j].2<nx
        ·rw[if_pos (by omega),Nat.min_eq_right (by omega)]
        ·rw[if_neg (by omega),Nat.min_eq_left (by omega)]
       ·show AV.d (.int .i64 (IntKind.i64.wrap ((j:Int)+1)))=i64 ((j+1:Nat):Int)
        rw[zM (by omega) (by omega)]
        rfl
      ·have h10:((List.range 100).map g).getD edges[j].2 0≠l+1:=by
        intro e
        apply h10
        show(((((List.range 100).map g).getD edges[j].2 0:Nat):Int)==((l+1:Nat):Int))=true
        rw[beq_iff_eq,e]
       conv=>whnf
       refine⟨(j+1,nx),⟨by show j+1≤edges.length;omega,by rw[hnext];rw[if_neg (by simp only[Bool.and_eq_true,beq_iff_eq,bne_iff_ne];rintro⟨⟨q1,q2⟩,q3⟩;exact h10 q3)]⟩,by show edges.length - (j+1)<edges.length - j;omega,⟨rfl,rfl,rfl,rfl,rfl,rfl,rfl,rfl,rfl,rfl,?_,trivial⟩,⟨rfl,rfl,trivial⟩⟩
       show AV.d (.int .i64 (IntKind.i64.wrap ((j:Int)+1)))=i64 ((j+1:Nat):Int)
       rw[zM (by omega) (by omega)]
       rfl
     ·have h9:edges[j].2=n:=by
       have h8:¬ ((edges[j].2:Int) != (n:Int))=true:=h9
       rw[bne_iff_ne,ne_eq,Classical.not_not] at h8
       omega
      conv=>whnf
      refine⟨(j+1,nx),⟨by show j+1≤edges.length;omega,by rw[hnext];rw[if_neg (by simp only[Bool.and_eq_true,beq_iff_eq,bne_iff_ne];rintro⟨⟨q1,q2⟩,q3⟩;exact q2 h9)]⟩,by show edges.length - (j+1)<edges.length - j;omega,⟨rfl,rfl,rfl,rfl,rfl,rfl,rfl,rfl,rfl,rfl,?_,trivial⟩,⟨rfl,rfl,trivial⟩⟩
      show AV.d (.int .i64 (IntKind.i64.wrap ((j:Int)+1)))=i64 ((j+1:Nat):Int)
      rw[zM (by omega) (by omega)]
      rfl
    ·have h7:edges[j].1≠a:=by
      intro e
      apply h7
      show((edges[j].1:Int)==(a:Int))=true
      rw[beq_iff_eq,e]
     conv=>whnf
     refine⟨(j+1,nx),⟨by show j+1≤edges.length;omega,by rw[hnext];rw[if_neg (by simp only[Bool.and_eq_true,beq_iff_eq,bne_iff_ne];rintro⟨⟨q1,q2⟩,q3⟩;exact h7 q1)]⟩,by show edges.length - (j+1)<edges.length - j;omega,⟨rfl,rfl,rfl,rfl,rfl,rfl,rfl,rfl,rfl,rfl,?_,trivial⟩,⟨rfl,rfl,trivial⟩⟩
     show AV.d (.int .i64 (IntKind.i64.wrap ((j:Int)+1)))=i64 ((j+1:Nat):Int)
     rw[zM (by omega) (by omega)]
     rfl
   ·have hje:edges.length≤j:=by simpa using h6
    have hjj:j=edges.length:=by omega
    rw[hjj,List.take_length] at hnx
    have hnx:nx=nextI edges ((List.range 100).map g) n a (l+1):=hnx
    conv=>whnf
    refine⟨⟨rfl,by show(o.length+1)*8≤_;omega,by show o.length+1≤_;omega⟩,?_⟩
    conv=>whnf
    refine⟨(l,o++[nx],nx),⟨by show oV edges ((List.range 100).map g) n l (o++[nx]) nx=_;rw[← hw,hnx];rfl,by show l+(o++[nx]).length=fn;simp;omega,by show(o++[nx]).length≥1;simp⟩,by show l<l+1;omega,⟨rfl,rfl,rfl,?_,rfl,?_,rfl,trivial⟩,⟨rfl,?_,trivial⟩⟩
    ·show AV.ref (.n 23) 0 (o.length+1)=.ref (.n 23) 0 (o++[nx]).length
     rw[List.length_append];rfl
    ·show AV.d (.int .i64 (IntKind.i64.wrap (((l+1:Nat):Int) - 1)))=i64 ((l:Nat):Int)
     rw[zM (by omega) (by omega)]
     congr 2
     omega
    ·show some (Ob.ds 3 1 ((o.map xI).take o.length++[xI nx]))=some (Ob.ds 3 1 ((o++[nx]).map xI))
     rw[List.take_of_length_le (by simp)]
     simp
  ·have h5:left=0:=by
    have:¬ (left:Int) > 0:=fun e=>h5 (decide_eq_true e)
    omega
   subst h5
   conv=>whnf
   refine .inl ?_
   conv=>whnf
   have hoe:gV edges n=some o:=by rw[hcy,← hw];rfl
   rw[cycOf_at h hno hoe (by have:1≤o.length:=ho1;intro e;rw[e] at this;simp at this)]
   have ho1:1≤o.length:=ho1
   show AV.tup [AV.d (.sl ((o.map xI).take o.length)),bv true]=_
   rw[List.take_of_length_le (by simp)]
   cases o with
   |nil=>simp at ho1
   |cons x xs=>rfl
 ·have h:n=100:=by
   have:¬ (n:Int)<100:=fun e=>h (decide_eq_true e)
   omega
  subst h
  have h0:rG edges=[]:=by
   unfold rG
   have:(List.range 100).findSome? (fun n=>match gV edges n with|some (x::xs)=>some (x::xs)|_=>none)=none:=by
    rw[List.findSome?_eq_none_iff]
    intro k hk
    rw[hno k (by simpa using hk)]
   rw[this];rfl
  conv=>whnf
  rw[h0]
  refine .inl ?_
  conv=>whnf
  rfl
end Ai
namespace Ai.Cyc
theorem iW {goal cur:Nat}:∀ (es:List (Nat × Nat)) (st:BS),(∀ e∈es,e.2≠cur)→es.foldl (bsE goal cur) st=st
 | [],st,h=>rfl
 |e::es,st,h=>by
  have:bsE goal cur st e=st:=by
   unfold bsE
   rw[if_pos (by rw[Bool.or_eq_true];exact .inl (bne_iff_ne.2 (h e List.mem_cons_self)))]
  rw[List.foldl_cons,this]
  exact iW es st fun x hx=>h x (List.mem_cons_of_mem _ hx)
theorem run_far {n:Nat} {edges:List (Nat × Nat)} (h:∀ e∈edges,e.2≠n):qM n edges 7 0 (bs0 n)=some (bs0 n):=by
 unfold qM
 rw[if_pos (by simp[bs0])]
 rw[show(bs0 n).queue.getD 0 0=n from rfl,iW edges _ h]
 unfold qM
 rw[if_neg (by simp[bs0])]
theorem cycI_far {n:Nat} {edges:List (Nat × Nat)} (h:∀ e∈edges,e.2≠n):gV edges n=some []:=by
 unfold gV
 rw[run_far h]
 have:(bs0 n).out.getD n 0=0:=by
  simp only[bs0,List.getD_eq_getElem?_getD,List.getElem?_replicate]
  split <;> rfl
 show(if (bs0 n).out.getD n 0=0 then some [] else _)=_
 rw[if_pos this]
theorem cycS_far {n:Nat} {edges:List (Nat × Nat)} (h:∀ e∈edges,e.1≠n):dH edges n=some []:=by
 have hf:edges.find? (fun e=>e.1==n)=none:=by
  rw[List.find?_eq_none]
  intro e he
  simpa using h e he
 unfold dH fM
 rw[if_pos (by simp)]
 have:(([[n]]:List (List Nat)).getD 0 []).getLastD 0=n:=rfl
 rw[this,hf]
 unfold fM
 rw[if_neg (by simp)]
structure Graph (edges:List (Nat × Nat)):Prop where
 g:∃ a b c d e:Option Nat,(a∈opts∧b∈opts∧c∈opts∧d∈opts∧e∈opts)∧edges=ed 0 a++ed 1 b++ed 2 c++ed 3 d++ed 4 e
theorem ed_in {k:Nat} {o:Option Nat} (ho:o∈opts) (hk:k<5):∀ e∈ed k o,e.1<5∧e.2<5:=by
 intro e he
 simp only[opts,List.mem_cons,List.not_mem_nil,or_false] at ho
 rcases ho with rfl|rfl|rfl|rfl|rfl|rfl <;> simp[ed] at he <;> subst he <;> exact⟨hk,by simp⟩
theorem Graph.small {edges:List (Nat × Nat)} (h:Graph edges):∀ e∈edges,e.1<5∧e.2<5:=by
 obtain⟨a,b,c,d,e,⟨ha,hb,hc,hd,he⟩,rfl⟩:=h.g
 intro x hx
 simp only[List.mem_append] at hx
 rcases hx with (((hx|hx)|hx)|hx)|hx
 ·exact ed_in ha (by decide) x hx
 ·exact ed_in hb (by decide) x hx
 ·exact ed_in hc (by decide) x hx
 ·exact ed_in hd (by decide) x hx
 ·exact ed_in he (by decide) x hx
theorem cM (k:Nat) (o:Option Nat):(ed k o).length≤1:=by cases o <;> simp[ed]
theorem Graph.len {edges:List (Nat × Nat)} (h:Graph edges):edges.length≤5:=by
 obtain⟨a,b,c,d,e,-,rfl⟩:=h.g
 simp only[List.length_append]
 have:=cM 0 a;have:=cM 1 b;have:=cM 2 c;have:=cM 3 d;have:=cM 4 e
 omega
theorem Graph.same {edges:List (Nat × Nat)} (h:Graph edges) (n:Nat):(gV edges n).isSome=true∧gV edges n=dH edges n:=by
 by_cases hn:n<5
 ·obtain⟨a,b,c,d,e,⟨ha,hb,hc,hd,he⟩,rfl⟩:=h.g
  have:=ok_all a b c d e ha hb hc hd he
  simp only[ok,List.all_eq_true,List.mem_range,Bool.and_eq_true,beq_iff_eq] at this
  exact this n hn
 ·have h1:gV edges n=some []:=cycI_far fun e he=>by have:=h.small e he;omega
  have h2:dH edges n=some []:=cycS_far fun e he=>by have:=h.small e he;omega
  rw[h1,h2]
  exact⟨rfl,rfl⟩
theorem Graph.run {edges:List (Nat × Nat)} (h:Graph edges) (n:Nat):(qM n edges 7 0 (bs0 n)).isSome=true:=by
 have:=(h.same n).1
 unfold gV at this
 cases hr:qM n edges 7 0 (bs0 n) with
 |none=>rw[hr] at this;cases this
 |some x=>rfl
end Ai.Cyc
namespace Ai
set_option maxRecDepth 100000
open Go Go.Proofs Cyc
def xS (edges:List (Nat × Nat)):List Nat:=((List.range 100).findSome? fun n=>match dH edges n with|some (x::xs)=>some (x::xs)|_=>none).getD []
theorem cyc_same {edges:List (Nat × Nat)} (h:Graph edges):rG edges=xS edges:=by
 unfold rG xS
 refine congrArg (fun f=>((List.range 100).findSome? f).getD []) (funext fun n=>?_)
 have e:=(h.same n).2
 generalize gV edges n=a at e ⊢
 subst e
 cases dH edges n with
 |none=>rfl
 |some l=>cases l <;> rfl
theorem cycS_at {edges:List (Nat × Nat)} {n:Nat} {o:List Nat} (h:n<100) (hno:∀ k,k<n→dH edges k=some []) (ho:dH edges n=some o) (hne:o≠[]):xS edges=o:=by
 unfold xS
 have hs:List.range 100=(List.range 100).take n++n::(List.range 100).drop (n+1):=by
  have:=(List.take_append_drop n (List.range 100)).symm
  rw[List.drop_eq_getElem_cons (by simp;omega),List.getElem_range] at this
  exact this
 have hf:(List.range 100).findSome? (fun n=>match dH edges n with|some (x::xs)=>some (x::xs)|_=>none)=some o:=by
  rw[List.findSome?_eq_some_iff]
  refine⟨_,n,_,hs,?_,fun x hx=>?_⟩
  ·rw[ho]
   cases o with
   |nil=>exact absurd rfl hne
   |cons x xs=>rfl
  ·obtain⟨i,hi,rfl⟩:=List.mem_iff_getElem.1 hx
   have hi2:i<n:=by
    have:=hi
    simp at this
    omega
   rw[List.getElem_take,List.getElem_range,hno i hi2]
 rw[hf]
 rfl
theorem l3Cycle_ok (edges:List (Nat × Nat)) (hG:Graph edges) (hW:∀ n w,n<100→dH edges n=some w→CallsTo EE 152 [sl (edges.map vQ),i64 n,i64 n] (·=sl (w.map xI))) :
  CallsTo EE 103 [sl (edges.map vQ)] (·=sl ((xS edges).map xI)):=by
 refine callsTo_of_AW (fn:=Tryz.f103) Tryz.func103 rfl (by kernel_rfl) rfl ?_
 conv=>whnf
 refine yJ (fun n:Nat=>[(0,sl (edges.map vQ)),(3,i64 n)]) (fun n=>[]) (fun n=>100 - n) (fun n=>n≤100∧∀ k,k<n→dH edges k=some []) 0
  Weak.refl ⟨rfl,rfl,trivial⟩ trivial ⟨Nat.zero_le _,fun k hk=>by omega⟩ ?_
 rintro n τ H ⟨hn,hno⟩
 conv=>whnf
 refine kbi (fun h=>?_) (fun h=>?_)
 ·have h:n<100:=by
   have:=of_decide_eq_true h
   omega
  obtain⟨w,hw⟩:∃ w,dH edges n=some w:=by
   have:=(hG.same n).1
   rw[(hG.same n).2] at this
   exact Option.isSome_iff_exists.1 this
  conv=>whnf
  refine⟨_,hW n w h hw,?_⟩
  rintro r rfl
  conv=>whnf
  refine kbi (fun h0=>?_) (fun h0=>?_)
  ·have h0:0<w.length:=by
    have:=of_decide_eq_true h0
    simpa using this
   conv=>whnf
   rw[cycS_at h hno hw (by intro e;rw[e] at h0;simp at h0)]
   try rfl
  ·have h0:w=[]:=by
    have h1:¬ ((w.map xI).length:Int) > 0:=fun e=>h0 (decide_eq_true e)
    have:w.length=0:=by simp at h1;simpa using h1
    exact List.length_eq_zero_iff.1 this
   subst h0
   conv=>whnf
   refine⟨n+1,⟨by omega,fun k hk=>?_⟩,by show 100 - (n+1)<100 - n;omega,⟨rfl,?_,trivial⟩,trivial⟩
   ·by_cases hkn:k=n
    ·rw[hkn];exact hw
    ·exact hno k (by omega)
   ·show AV.d (.int .i64 (IntKind.i64.wrap ((n:Int)+1)))=i64 ((n+1:Nat):Int)
    rw[zM (by omega) (by omega)]
    rfl
 ·have h:n=100:=by
   have:¬ (n:Int)<100:=fun e=>h (decide_eq_true e)
   omega
  subst h
  have h0:xS edges=[]:=by
   unfold xS
   have:(List.range 100).findSome? (fun n=>match dH edges n with|some (x::xs)=>some (x::xs)|_=>none)=none:=by
    rw[List.findSome?_eq_none_iff]
    intro k hk
    rw[hno k (by simpa using hk)]
   rw[this];rfl
  conv=>whnf
  rw[h0]
  exact .inl rfl
end Ai
namespace Ai
set_option maxRecDepth 100000
open Go Go.Proofs
theorem dash_ok (l:List UInt8):CallsTo EE 70 [sv l] (·=sv (if l=[] then [45] else l)):=by
 refine callsTo_of_AW (fn:=Tryz.f70) Tryz.func70 rfl (by kernel_rfl) rfl ?_
 conv=>whnf
 refine kbi (fun h=>?_) (fun h=>?_)
 ·have h:l=[]:=by simpa using h
  conv=>whnf
  rw[if_pos h]
  try rfl
 ·have h:¬ l=[]:=by simpa using h
  conv=>whnf
  rw[if_neg h]
  try rfl
theorem tR (xs:List Nat) (hl:xs.length≤1000) (hx:∀ x∈xs,x≤1000000) (hlen:(Lib.join (xs.map fun x=>Lib.itoa ((x:Nat):Int)) [44]).length≤140737488355328) :
  CallsTo EE 71 [sl (xs.map xI)] (·=sv (Lib.join (xs.map fun x=>Lib.itoa ((x:Nat):Int)) [44])):=by
 refine callsTo_of_AW (fn:=Tryz.f71) Tryz.func71 rfl (by kernel_rfl) rfl ?_
 conv=>whnf
 refine yJ (fun k:Nat=>[(0,sl (xs.map xI)),(3,.ref (.n 6) 0 k),(7,sl (xs.map xI)),(8,i64 (xs.map xI).length),(9,i64 k)]) (fun k=>[(.n 6,.ds 9 1 (((xs.take k).map fun x=>Lib.itoa ((x:Nat):Int)).map gU))]) (fun k=>xs.length - k) (fun k=>k≤xs.length) 0
  Weak.refl ⟨rfl,rfl,rfl,rfl,rfl,trivial⟩ ⟨rfl,trivial⟩ (Nat.zero_le _) ?_
 intro k τ H hk
 have hk:k≤xs.length:=hk
 conv=>whnf
 refine kbi (fun h=>?_) (fun h=>?_)
 ·have hlt:k<xs.length:=by simpa using h
  have hxk:=hx _ (List.getElem_mem hlt)
  conv=>whnf
  refine⟨xI xs[k],⟨by omega,by simp[hlt],rfl⟩,?_⟩
  conv=>whnf
  refine⟨_,Itoa_ok ((xs[k]:Nat):Int) (by omega) (by omega),?_⟩
  rintro r rfl
  conv=>whnf
  refine⟨⟨rfl,by show(k+1)*16≤_;omega,by show k+1≤_;omega⟩,?_⟩
  conv=>whnf
  refine⟨k+1,by show k+1≤xs.length;omega,by show xs.length - (k+1)<xs.length - k;omega,⟨rfl,rfl,rfl,rfl,?_,trivial⟩,⟨?_,trivial⟩⟩
  ·show AV.d (.int .i64 (IntKind.i64.wrap ((k:Int)+1)))=i64 ((k+1:Nat):Int)
   rw[zM (by omega) (by omega)]
   rfl
  ·show some (Ob.ds 9 1 ((((xs.take k).map fun x=>Lib.itoa ((x:Nat):Int)).map gU).take k++[gU (Lib.itoa ((xs[k]:Nat):Int))]))=some (Ob.ds 9 1 (((xs.take (k+1)).map fun x=>Lib.itoa ((x:Nat):Int)).map gU))
   have e0:(((xs.take k).map fun x=>Lib.itoa ((x:Nat):Int)).map gU).take k=((xs.take k).map fun x=>Lib.itoa ((x:Nat):Int)).map gU:=List.take_of_length_le (by simp;omega)
   rw[e0,List.take_succ_eq_append_getElem hlt,List.map_append,List.map_append]
   rfl
 ·have hge:xs.length≤k:=by simpa using h
  have hkk:k=xs.length:=by omega
  subst hkk
  conv=>whnf
  have e:((((xs.take xs.length).map fun x=>Lib.itoa ((x:Nat):Int)).map gU).drop 0).take xs.length=(xs.map fun x=>Lib.itoa ((x:Nat):Int)).map gU:=by
   rw[List.drop_zero,List.take_length,List.take_of_length_le (by simp)]
  refine .inl ⟨_,Eq.mp (congrArg (fun x=>CallsTo EE 111 [sl x,sv [44]] _) e.symm) (Join_ok (xs.map fun x=>Lib.itoa ((x:Nat):Int)) [44] (by simp;omega) hlen),?_⟩
  rintro r rfl
  refine⟨rfl,?_⟩
  conv=>whnf
  try rfl
end Ai
namespace Ai
set_option maxRecDepth 100000
open Go Go.Proofs Cyc
theorem l1Put0_ok (n:Int):CallsTo EE 203 [sl [],i64 n] (·=.uq 3 1 [[di n]]):=by
 refine callsTo_of_AW (fn:=Tryz.f203) Tryz.func203 rfl (by kernel_rfl) rfl ?_
 conv=>whnf
 refine yJ (fun _:Unit=>[(0,sl []),(1,i64 n),(5,i64 0)]) (fun _=>[]) (fun _=>0) (fun _=>True) ()
  Weak.refl ⟨rfl,rfl,rfl,trivial⟩ trivial trivial ?_
 rintro⟨⟩ τ H -
 conv=>whnf
 refine kbi (fun h=>absurd h (by decide)) (fun h=>?_)
 conv=>whnf
 refine kbi (fun h2=>absurd h2 (by decide)) (fun h2=>?_)
 conv=>whnf
 refine⟨⟨Int.le_refl _,Int.le_refl _,Int.le_refl _,fun c hc=>(by cases hc)⟩,?_⟩
 conv=>whnf
 refine⟨⟨rfl,by decide,by decide⟩,?_⟩
 conv=>whnf
 refine⟨⟨rfl,by show(8:Nat)≤_;decide,by show(1:Nat)≤_;decide⟩,?_⟩
 conv=>whnf
 refine⟨⟨Int.le_refl _,Int.le_refl _,Int.le_refl _,fun c hc=>(by cases hc)⟩,?_⟩
 conv=>whnf
 refine⟨⟨rfl,by show(8:Nat)≤_;decide,by show(1:Nat)≤_;decide⟩,?_⟩
 conv=>whnf
 try rfl
end Ai
namespace Ai
set_option maxRecDepth 100000
open Go Go.Proofs Cyc
def cK (w:List Nat):List D:=[.sl (w.map xI)]
def OneEach (edges:List (Nat × Nat)):Prop:=∀ i j (hi:i<edges.length) (hj:j<edges.length),edges[i].1=edges[j].1→i=j
def nxv:Option Nat→AV
 |none=>.d .nil
 |some b=>.d (.sl [[di (b:Int)]])
theorem l3Way_ok (edges:List (Nat × Nat)) (n:Nat) (w:List Nat) (hl:edges.length≤5) (ho:OneEach edges) (hw:fM edges n 8 0 [[n]] []=some w) :
  CallsTo EE 152 [sl (edges.map vQ),i64 n,i64 n] (·=sl (w.map xI)):=by
 refine callsTo_of_AW (fn:=Tryz.f152) Tryz.func152 rfl (by kernel_rfl) rfl ?_
 conv=>whnf
 refine .inl ?_
 conv=>whnf
 refine yJ (fun x:Nat × List (List Nat) × List Nat=>[(0,sl (edges.map vQ)),(1,i64 n),(2,i64 n),(6,.d .nil),(7,.ref (.n 18) 0 x.2.1.length),(8,.ref (.n 68) 0 x.2.2.length),(9,i64 x.1)])
  (fun x=>[(.n 18,.ds 26 1 (x.2.1.map cK)),(.n 68,.ds 3 1 (x.2.2.map xI))]) (fun x=>8 - x.1)
  (fun x=>∃ f,f+x.1=8∧fM edges n f x.1 x.2.1 x.2.2=some w∧x.2.1.length≤x.1+1∧(∀ v∈x.2.1,1≤v.length∧v.length≤x.1+1)∧x.2.2.length≤x.1) (0,[[n]],[])
  (sH 8 (.n 68) 3 1 rfl) ?_ ?_ ⟨8,rfl,hw,by simp,by simp,by simp⟩ ?_
 ·exact⟨rfl,rfl,rfl,rfl,rfl,rfl,rfl,trivial⟩
 ·exact⟨rfl,rfl,trivial⟩
 rintro⟨i,ways,seen⟩ τ H ⟨f,hf,hrun,hwl,hne,hsl⟩
 cases f with
 |zero=>cases hrun
 |succ f =>
 have hf:f+1+i=8:=hf
 have hrun:fM edges n (f+1) i ways seen=some w:=hrun
 have hwl:ways.length≤i+1:=hwl
 have hne:∀ v∈ways,1≤v.length∧v.length≤i+1:=hne
 have hsl:seen.length≤i:=hsl
 conv=>whnf
 refine kbi (fun hi=>?_) (fun hi=>?_)
 ·have hi:i<ways.length:=by
   have:=of_decide_eq_true hi
   simpa using this
  have hwi:=hne _ (List.getElem_mem hi)
  have hgd:ways.getD i []=ways[i]:=by simp[List.getD_eq_getElem?_getD,hi]
  unfold fM at hrun
  rw[if_pos hi,hgd] at hrun
  generalize hv:ways[i]=v at *
  have hvl:v.getLastD 0=v.getD (v.length - 1) 0:=by
   rw[List.getLastD_eq_getLast?,List.getLast?_eq_getElem?,List.getD_eq_getElem?_getD]
  conv=>whnf
  refine⟨⟨by omega,by show(i:Int)<ways.length;omega⟩,?_⟩
  conv=>whnf
  refine⟨cK v,⟨by rw[Nat.zero_add];show(ways.map cK)[i]?=_;rw[List.getElem?_map,List.getElem?_eq_getElem hi,hv];rfl,by show 0+1≤1;omega⟩,?_⟩
  conv=>whnf
  have ewl:IntKind.i64.wrap ((v.length:Int) - 1)=((v.length - 1:Nat):Int):=by rw[zM (by omega) (by omega)];omega
  generalize hlast:v.getLastD 0=last at *
  refine yJ (fun y:Nat × Option Nat=>[(0,sl (edges.map vQ)),(1,i64 n),(2,i64 n),(6,.d .nil),(7,.ref (.n 18) 0 ways.length),(8,.ref (.n 68) 0 seen.length),(9,i64 i),(10,sl (v.map xI)),(11,nxv y.2),(29,sl (edges.map vQ)),(30,i64 (edges.map vQ).length),(31,i64 y.1)])
   (fun y=>[(.n 18,.ds 26 1 (ways.map cK)),(.n 68,.ds 3 1 (seen.map xI))]) (fun y=>edges.length - y.1)
   (fun y=>y.1≤edges.length∧y.2=((edges.take y.1).find? (fun e=>e.1==last)).map (·.2)) (0,none)
   Weak.refl ⟨rfl,rfl,rfl,rfl,rfl,rfl,rfl,rfl,rfl,rfl,rfl,rfl,trivial⟩ ⟨rfl,rfl,trivial⟩ ⟨Nat.zero_le _,rfl⟩ ?_
  rintro⟨j,q⟩ τ2 H2 ⟨hj,hq⟩
  have hj:j≤edges.length:=hj
  have hq:q=((edges.take j).find? (fun e=>e.1==last)).map (·.2):=hq
  conv=>whnf
  refine kbi (fun hje=>?_) (fun hje=>?_)
  ·have hje:j<edges.length:=by simpa using hje
   have hnext:(edges.take (j+1)).find? (fun e=>e.1==last)=((edges.take j).find? (fun e=>e.1==last)).or (if edges[j].1==last then some edges[j] else none):=by
    rw[List.take_succ_eq_append_getElem hje,List.find?_append]
    congr 1
    simp only[List.find?_cons]
    cases (edges[j].1==last) <;> rfl
   conv=>whnf
   refine⟨vQ edges[j],⟨by omega,by simp[hje],rfl⟩,?_⟩
   conv=>whnf
   refine⟨by kernel_rfl,?_⟩
   conv=>whnf
   refine⟨[di edges[j].1],⟨by decide,rfl,rfl⟩,?_⟩
   conv=>whnf
   refine⟨xI last,⟨?_,?_,rfl⟩,?_⟩
   ·show(0:Int)≤IntKind.i64.wrap (((v.map xI).length:Int) - 1)
    rw[List.length_map,ewl];omega
   ·show(v.map xI)[(IntKind.i64.wrap (((v.map xI).length:Int) - 1)).toNat]?=_
    rw[List.length_map,ewl,hvl,List.getElem?_map,List.getD_eq_getElem?_getD]
    show(v[v.length - 1]?).map xI=_
    rw[List.getElem?_eq_getElem (by omega)]
    rfl
   conv=>whnf
   refine kbi (fun h7=>?_) (fun h7=>?_)
   ·have h7:edges[j].1=last:=by
     have h8:((edges[j].1:Int)==(last:Int))=true:=h7
     rw[beq_iff_eq] at h8
     omega
    have hnone:(edges.take j).find? (fun e=>e.1==last)=none:=by
     rw[List.find?_eq_none]
     intro e he
     obtain⟨k,hk,rfl⟩:=List.mem_take_iff_getElem.1 he
     intro e2
     have e2:edges[k].1=last:=by simpa using e2
     have:=ho k j (by omega) hje (by rw[e2,h7])
     omega
    rw[hnone] at hq hnext
    have hq:q=none:=hq
    subst hq
    conv=>whnf
    refine⟨[di edges[j].2],⟨by decide,rfl,rfl⟩,?_⟩
    conv=>whnf
    refine⟨_,l1Put0_ok (edges[j].2:Int),?_⟩
    rintro r rfl
    refine .inl ?_
    conv=>whnf
    refine⟨(j+1,some edges[j].2),⟨by show j+1≤edges.length;omega,by show some edges[j].2=_;rw[hnext,h7];simp⟩,by show edges.length - (j+1)<edges.length - j;omega,⟨rfl,rfl,rfl,rfl,rfl,rfl,rfl,rfl,rfl,rfl,rfl,?_,trivial⟩,⟨rfl,rfl,trivial⟩⟩
    show AV.d (.int .i64 (IntKind.i64.wrap ((j:Int)+1)))=i64 ((j+1:Nat):Int)
    rw[zM (by omega) (by omega)]
    rfl
   ·have h7:edges[j].1≠last:=by
     intro e
     apply h7
     show((edges[j].1:Int)==(last:Int))=true
     rw[beq_iff_eq,e]
    conv=>whnf
    refine⟨(j+1,q),⟨by show j+1≤edges.length;omega,by show q=_;rw[hnext,hq];simp[h7]⟩,by show edges.length - (j+1)<edges.length - j;omega,⟨rfl,rfl,rfl,rfl,rfl,rfl,rfl,rfl,rfl,rfl,rfl,?_,trivial⟩,⟨rfl,rfl,trivial⟩⟩
    show AV.d (.int .i64 (IntKind.i64.wrap ((j:Int)+1)))=i64 ((j+1:Nat):Int)
    rw[zM (by omega) (by omega)]
    rfl
  ·have hje:edges.length≤j:=by simpa using hje
   have hjj:j=edges.length:=by omega
   rw[hjj,List.take_length] at hq
   cases hfd:edges.find? (fun e=>e.1==last) with
   |none =>
    rw[hfd] at hq hrun
    have hq:q=none:=hq
    subst hq
    conv=>whnf
    refine yJ (fun _:Unit=>[(0,sl (edges.map vQ)),(1,i64 n),(2,i64 n),(6,.d .nil),(7,.ref (.n 18) 0 ways.length),(8,.ref (.n 68) 0 seen.length),(9,i64 i),(52,i64 0),(53,i64 0)])
     (fun _=>[(.n 18,.ds 26 1 (ways.map cK)),(.n 68,.ds 3 1 (seen.map xI))]) (fun _=>0) (fun _=>True) ()
     Weak.refl ⟨rfl,rfl,rfl,rfl,rfl,rfl,rfl,rfl,rfl,trivial⟩ ⟨rfl,rfl,trivial⟩ trivial ?_
    rintro⟨⟩ τ3 H3 -
    conv=>whnf
    refine kbi (fun h8=>absurd h8 (by decide)) (fun h8=>?_)
    conv=>whnf
    refine⟨(i+1,ways,seen),⟨f,by show f+(i+1)=8;omega,hrun,by show ways.length≤i+1+1;omega,fun v hv=>⟨(hne v hv).1,Nat.le_succ_of_le (hne v hv).2⟩,Nat.le_succ_of_le hsl⟩,by show 8 - (i+1)<8 - i;omega,⟨rfl,rfl,rfl,rfl,rfl,rfl,?_,trivial⟩,⟨rfl,rfl,trivial⟩⟩
    show AV.d (.int .i64 (IntKind.i64.wrap ((i:Int)+1)))=i64 ((i+1:Nat):Int)
    rw[zM (by omega) (by omega)]
    rfl
   |some e =>
    rw[hfd] at hq hrun
    have hq:q=some e.2:=hq
    subst hq
    conv=>whnf
    have hrun:(if e.2=n then some v else if seen.contains e.2=true then fM edges n f (i+1) ways seen else fM edges n f (i+1) (ways++[v++[e.2]]) (seen++[e.2]))=some w:=hrun
    refine yJ (fun z:Nat × List (List Nat) × List Nat=>[(0,sl (edges.map vQ)),(1,i64 n),(2,i64 n),(6,.d .nil),(7,.ref (.n 18) 0 z.2.1.length),(8,.ref (.n 68) 0 z.2.2.length),(9,i64 i),(10,sl (v.map xI)),(51,.d (.sl [[di (e.2:Int)]])),(52,i64 1),(53,i64 z.1)])
     (fun z=>[(.n 18,.ds 26 1 (z.2.1.map cK)),(.n 68,.ds 3 1 (z.2.2.map xI))]) (fun z=>1 - z.1)
     (fun z=>(z.1=0∧z.2.1=ways∧z.2.2=seen)∨(z.1=1∧fM edges n f (i+1) z.2.1 z.2.2=some w∧z.2.1.length≤i+2∧(∀ v∈z.2.1,1≤v.length∧v.length≤i+2)∧z.2.2.length≤i+1)) (0,ways,seen)
     Weak.refl ⟨rfl,rfl,rfl,rfl,rfl,rfl,rfl,rfl,rfl,rfl,rfl,trivial⟩ ⟨rfl,rfl,trivial⟩ (.inl ⟨rfl,rfl,rfl⟩) ?_
    rintro⟨k,W,Sn⟩ τ3 H3 hz
    rcases hz with ⟨hk,hW,hS⟩|⟨hk,hrun2,hWl,hWn,hSl⟩
    ·obtain rfl:k=0:=hk
     obtain rfl:W=ways:=hW
     obtain rfl:Sn=seen:=hS
     conv=>whnf
     refine kbi (fun _=>?_) (fun h8=>absurd (show decide ((0:Int)<1)=true from rfl) h8)
     conv=>whnf
     refine⟨[di (e.2:Int)],⟨Int.le_refl _,rfl,rfl⟩,?_⟩
     conv=>whnf
     refine kbi (fun h9=>?_) (fun h9=>?_)
     ·have h9:e.2=n:=by
       have h8:((e.2:Int)==(n:Int))=true:=h9
       rw[beq_iff_eq] at h8
       omega
      rw[if_pos h9] at hrun
      obtain rfl:=Option.some.inj hrun
      conv=>whnf
      try rfl
     have h9:e.2≠n:=by
      intro q
      apply h9
      show((e.2:Int)==(n:Int))=true
      rw[beq_iff_eq,q]
     rw[if_neg h9] at hrun
     conv=>whnf
     have hsn:((Sn.map xI).drop 0).take Sn.length=(Sn.map fun x=>((x:Nat):Int)).map encInt:=by
      rw[List.drop_zero,List.take_of_length_le (by simp),List.map_map];rfl
     refine .inl ⟨_,l1Has_at _ (Sn.map fun x=>((x:Nat):Int)) (e.2:Int) hsn (by simp;omega),?_⟩
     rintro r rfl
     refine⟨rfl,?_⟩
     by_cases hc:e.2∈Sn
     ·rw[if_pos (by simpa using hc)] at hrun
      simp only[bp,tC (show((e.2:Nat):Int)∈Sn.map fun x=>((x:Nat):Int) from List.mem_map.2 ⟨e.2,hc,rfl⟩)]
      conv=>whnf
      refine⟨(1,W,Sn),.inr ⟨rfl,hrun,by show W.length≤i+2;omega,fun v hv=>⟨(hne v hv).1,Nat.le_succ_of_le (hne v hv).2⟩,by show Sn.length≤i+1;omega⟩,by show 1 - 1<1 - 0;omega,⟨rfl,rfl,rfl,rfl,rfl,rfl,rfl,rfl,rfl,rfl,rfl,trivial⟩,⟨rfl,rfl,trivial⟩⟩
     ·rw[if_neg (by simpa using hc)] at hrun
      have hm2:¬ ((e.2:Nat):Int)∈Sn.map fun x=>((x:Nat):Int):=by
       intro hm
       obtain⟨x,hx,hx2⟩:=List.mem_map.1 hm
       have hxe:x=e.2:=by omega
       rw[hxe] at hx
       exact hc hx
      simp only[bp,x3 hm2]
      conv=>whnf
      refine⟨⟨rfl,by show(Sn.length+1)*8≤_;omega,by show Sn.length+1≤_;omega⟩,?_⟩
      conv=>whnf
      have hvq:v.map xI=(v.map fun x=>((x:Nat):Int)).map encInt:=by rw[List.map_map];rfl
      refine⟨_,Eq.mp (congrArg (fun x=>CallsTo EE 116 [sl x] _) hvq.symm) (l1Own_ok (v.map fun x=>((x:Nat):Int)) (by simp;omega)),?_⟩
      rintro r rfl
      rw[← hvq]
      refine .inr ⟨71,rfl,?_⟩
      conv=>whnf
      refine⟨⟨rfl,by show((v.map xI).length+1)*8≤_;simp;omega,by show(v.map xI).length+1≤_;simp;omega⟩,?_⟩
      conv=>whnf
      refine .inl ?_
      conv=>whnf
      have evw:(((v.map xI).take (v.map xI).length++[[di (e.2:Int)]]).drop 0).take ((v.map xI).length+1)=(v++[e.2]).map xI:=by
       rw[List.take_length,List.drop_zero,List.take_of_length_le (by simp),List.map_append];rfl
      refine⟨⟨rfl,by show(W.length+1)*24≤_;omega,by show W.length+1≤_;omega⟩,?_⟩
      conv=>whnf
      refine⟨(1,W++[v++[e.2]],Sn++[e.2]),.inr ⟨rfl,hrun,by show(W++[v++[e.2]]).length≤i+2;simp;omega,fun u hu=>?_,by show(Sn++[e.2]).length≤i+1;simp;omega⟩,by show 1 - 1<1 - 0;omega,⟨rfl,rfl,rfl,rfl,?_,?_,rfl,rfl,rfl,rfl,rfl,trivial⟩,⟨?_,?_,trivial⟩⟩
      ·rcases List.mem_append.1 hu with hu|hu
       ·exact⟨(hne u hu).1,Nat.le_succ_of_le (hne u hu).2⟩
       ·simp only[List.mem_cons,List.not_mem_nil,or_false] at hu
        subst hu
        simp;omega
      ·show AV.ref (.n 18) 0 (W.length+1)=.ref (.n 18) 0 (W++[v++[e.2]]).length
       rw[List.length_append];rfl
      ·show AV.ref (.n 68) 0 (Sn.length+1)=.ref (.n 68) 0 (Sn++[e.2]).length
       rw[List.length_append];rfl
      ·show some (Ob.ds 26 1 ((W.map cK).take W.length++[[.sl ((((v.map xI).take (v.map xI).length++[[di (e.2:Int)]]).drop 0).take ((v.map xI).length+1))]]))=some (Ob.ds 26 1 ((W++[v++[e.2]]).map cK))
       have e2:(W++[v++[e.2]]).map cK=W.map cK++[cK (v++[e.2])]:=by rw[List.map_append];rfl
       rw[evw,List.take_of_length_le (by simp),e2];rfl
      ·show some (Ob.ds 3 1 ((Sn.map xI).take Sn.length++[[di (e.2:Int)]]))=some (Ob.ds 3 1 ((Sn++[e.2]).map xI))
       rw[List.take_of_length_le (by simp),List.map_append];rfl
    ·obtain rfl:k=1:=hk
     conv=>whnf
     refine kbi (fun h8=>absurd h8 (show ¬ decide ((1:Int)<1)=true from by decide)) (fun h8=>?_)
     conv=>whnf
     refine⟨(i+1,W,Sn),⟨f,by show f+(i+1)=8;omega,hrun2,hWl,hWn,hSl⟩,by show 8 - (i+1)<8 - i;omega,⟨rfl,rfl,rfl,rfl,rfl,rfl,?_,trivial⟩,⟨rfl,rfl,trivial⟩⟩
     show AV.d (.int .i64 (IntKind.i64.wrap ((i:Int)+1)))=i64 ((i+1:Nat):Int)
     rw[zM (by omega) (by omega)]
     rfl
 ·have hi:¬ i<ways.length:=by
   have:=fun e=>hi (decide_eq_true e)
   intro e
   apply this
   show(i:Int)<ways.length
   omega
  unfold fM at hrun
  rw[if_neg hi] at hrun
  obtain rfl:=Option.some.inj hrun
  conv=>whnf
  exact .inl rfl
end Ai
namespace Ai
set_option maxRecDepth 100000
open Go Go.Proofs Cyc
theorem one_each {edges:List (Nat × Nat)} (h:Graph edges):OneEach edges:=by
 have hn:edges.Pairwise fun x y=>x.1≠y.1:=by
  obtain⟨a,b,c,d,e,-,rfl⟩:=h.g
  cases a <;> cases b <;> cases c <;> cases d <;> cases e <;> simp[ed]
 rw[List.pairwise_iff_getElem] at hn
 intro i j hi hj e
 rcases Nat.lt_trichotomy i j with h1|h1|h1
 ·exact absurd e (hn i j hi hj h1)
 ·exact h1
 ·exact absurd e.symm (hn j i hj hi h1)
theorem l3CycleG_ok (edges:List (Nat × Nat)) (hG:Graph edges):CallsTo EE 103 [sl (edges.map vQ)] (·=sl ((xS edges).map xI)) :=
 l3Cycle_ok edges hG fun n w hn hw=>l3Way_ok edges n w hG.len (one_each hG) hw
theorem cycleG_ok (edges:List (Nat × Nat)) (hG:Graph edges):CallsTo EE 68 [sl (edges.map vQ)] (·=.tup [sl ((xS edges).map xI),bv (!(xS edges).isEmpty)]):=by
 rw[← cyc_same hG]
 exact cycleI_ok edges hG.len (fun e he=>by have:=hG.small e he;omega) fun n _=>hG.run n
end Ai
namespace Ai
set_option maxRecDepth 100000
open Go Go.Proofs Cyc
def pJ (s:StL):Prop:=∀ x∈s.owner,-1≤x∧x<s.ths.length
theorem xV {s:StL} {k:Nat} {t:Th} (h:pJ s):pJ (s.put k t):=by
 intro x hx
 have:=h x hx
 simpa[StL.put] using this
theorem mC {s:StL} {i:Nat} {v:Int} (h:pJ s) (hv:-1≤v∧v<s.ths.length):pJ { s with owner:=s.owner.set i v }:=by
 intro x hx
 rcases List.mem_or_eq_of_mem_set hx with e|e
 ·exact h x e
 ·subst e;exact hv
theorem oinv_do {s:StL} {k:Nat} {o:OpL} {e:Ev} (hk:k<s.ths.length) (h:pJ s):pJ (doL s k o e).1:=by
 unfold doL
 simp only
 generalize s.ths.getD k th0=t at *
 by_cases n1:o.code=1
 ·rw[if_pos n1];exact xV h
 rw[if_neg n1]
 by_cases n2:o.code=2
 ·rw[if_pos n2];exact xV h
 rw[if_neg n2]
 by_cases n3:o.code=3
 ·rw[if_pos n3];exact xV (s:={ s with cells:=_ }) h
 rw[if_neg n3]
 by_cases n10:o.code=10
 ·rw[if_pos n10];exact xV h
 rw[if_neg n10]
 by_cases n11:o.code=11
 ·rw[if_pos n11];exact xV h
 rw[if_neg n11]
 by_cases n12:o.code=12
 ·rw[if_pos n12];exact xV (mC h ⟨by omega,by omega⟩)
 rw[if_neg n12]
 by_cases n13:o.code=13
 ·rw[if_pos n13];exact xV (mC h ⟨by omega,by omega⟩)
 rw[if_neg n13]
 by_cases n14:o.code=14
 ·rw[if_pos n14]
  refine xV (s:={ s with ths:=_ }) fun x hx=>?_
  have:=h x hx
  refine⟨this.1,?_⟩
  show x<((s.ths++[qV o.a]).length:Int)
  simp;omega
 rw[if_neg n14]
 by_cases n15:o.code=15
 ·rw[if_pos n15];exact xV h
 rw[if_neg n15]
 by_cases n16:o.code=16
 ·rw[if_pos n16];exact xV (mC h ⟨by omega,by omega⟩)
 rw[if_neg n16]
 by_cases n17:o.code=17
 ·rw[if_pos n17]
  cases wO s.ths o.a with
  |none=>exact xV h
  |some j =>
   refine xV (s:={ s with ths:=_ }) fun x hx=>?_
   have:=h x hx
   refine⟨this.1,?_⟩
   show x<((s.ths.modify j fun u=>{ u with st:=4 }).length:Int)
   simp;omega
 rw[if_neg n17]
 exact xV h
theorem oinv_step {p:ProgL} {s:StL} {k:Nat} (hk:k<s.ths.length) (h:pJ s):pJ (zQ p s k).1:=by
 unfold zQ
 simp only
 split
 ·exact xV (mC h ⟨by omega,by omega⟩)
 ·split
  ·exact xV h
  ·split
   ·exact oinv_do hk h
   ·exact h
theorem oinv_new (p:ProgL):pJ (xY p):=by
 intro x hx
 obtain⟨_,rfl⟩:=List.mem_replicate.1 hx
 simp[xY]
end Ai
namespace Ai
set_option maxRecDepth 100000
open Go Go.Proofs Cyc
theorem a8 {s:StL} (h:pJ s) (h1:1≤s.ths.length) (i:Nat):s.owner.getD i 0<s.ths.length:=by
 rw[List.getD_eq_getElem?_getD]
 cases hg:s.owner[i]? with
 |none=>show(0:Int)<_;omega
 |some x=>exact(h x (List.mem_of_getElem? hg)).2
theorem blocks_lt {p:ProgL} {s:StL} (h:pJ s) (h1:1≤s.ths.length) (t:Th):zH p s t<s.ths.length:=by
 unfold zH
 split
 ·exact a8 h h1 _
 ·split
  ·omega
  ·split
   ·split
    ·exact a8 h h1 _
    ·split
     ·split
      ·rename_i k hk
       split
       ·omega
       ·exact(kB bA hk).2
      ·omega
     ·omega
   ·omega
end Ai
namespace Ai
set_option maxRecDepth 100000
open Go Go.Proofs Cyc
noncomputable def wW (p:ProgL) (s:StL):List (Nat × Nat):=(bI p s).map fun e=>(e.1,e.2.toNat)
theorem edges_nn {p:ProgL} {s:StL}:∀ e∈bI p s,0≤e.2:=by
 intro e he
 obtain⟨k,hk,rfl⟩:=List.mem_map.1 he
 simpa using (List.mem_filter.1 hk).2
theorem oF (p:ProgL) (s:StL):(bI p s).map pA=(wW p s).map vQ:=by
 unfold wW
 rw[List.map_map]
 refine List.map_congr_left fun e he=>?_
 have:=edges_nn e he
 show[D.sl [[di e.1],[di e.2]]]=[D.sl [[di e.1],[di ((e.2.toNat:Nat):Int)]]]
 rw[Int.toNat_of_nonneg this]
noncomputable def waitO (p:ProgL) (s:StL) (k:Nat):Option Nat:=if 0≤zH p s (s.ths.getD k th0) then some (zH p s (s.ths.getD k th0)).toNat else none
theorem wP (p:ProgL) (s:StL) (k:Nat):((if 0≤zH p s (s.ths.getD k th0) then [(k,zH p s (s.ths.getD k th0))] else []).map fun e:Nat × Int=>(e.1,e.2.toNat))=ed k (waitO p s k):=by
 unfold waitO
 split <;> rfl
theorem opts_lt {o:Option Nat} (h:∀ b,o=some b→b<5):o∈opts:=by
 cases o with
 |none=>simp[opts]
 |some b =>
  have:=h b rfl
  have:b=0∨b=1∨b=2∨b=3∨b=4:=by omega
  rcases this with rfl|rfl|rfl|rfl|rfl <;> simp[opts]
theorem edges_graph {p:ProgL} {s:StL} (h:pJ s) (h1:1≤s.ths.length) (h5:s.ths.length≤5):Graph (wW p s):=by
 have hw:∀ k,waitO p s k∈opts:=fun k=>opts_lt fun b hb=>by
  unfold waitO at hb
  split at hb
  ·rename_i h0
   have:=blocks_lt (p:=p) h h1 (s.ths.getD k th0)
   simp only[Option.some.injEq] at hb
   omega
  ·cases hb
 have hn:(none:Option Nat)∈opts:=by simp[opts]
 have e0:yA p s 0=[]:=rfl
 unfold wW bI
 have:s.ths.length=1∨s.ths.length=2∨s.ths.length=3∨s.ths.length=4∨s.ths.length=5:=by omega
 rcases this with e|e|e|e|e <;> rw[e]
 ·exact⟨_,none,none,none,none,⟨hw 0,hn,hn,hn,hn⟩,by rw[zW,e0,List.map_append,wP];simp[ed]⟩
 ·exact⟨_,_,none,none,none,⟨hw 0,hw 1,hn,hn,hn⟩,by rw[zW,zW,e0,List.map_append,List.map_append,wP,wP];simp[ed]⟩
 ·exact⟨_,_,_,none,none,⟨hw 0,hw 1,hw 2,hn,hn⟩,by rw[zW,zW,zW,e0,List.map_append,List.map_append,List.map_append,wP,wP,wP];simp[ed]⟩
 ·exact⟨_,_,_,_,none,⟨hw 0,hw 1,hw 2,hw 3,hn⟩,by rw[zW,zW,zW,zW,e0,List.map_append,List.map_append,List.map_append,List.map_append,wP,wP,wP,wP];simp[ed]⟩
 ·exact⟨_,_,_,_,_,⟨hw 0,hw 1,hw 2,hw 3,hw 4⟩,by rw[zW,zW,zW,zW,zW,e0,List.map_append,List.map_append,List.map_append,List.map_append,List.map_append,wP,wP,wP,wP,wP];simp⟩
end Ai
namespace Ai
set_option maxRecDepth 100000
open Go Go.Proofs Cyc
theorem y1 (p:ProgL) (s:StL) (c:Int) (tr:List Ev) (tk:List Int) (hp:p.wf) (hs:s.small) (hv:∀ t∈s.ths,t.seen p s) (hG:Graph (wW p s)) (hc:c=3) (hj1:(xS (wW p s)).length≤1000) (hj2:∀ x∈xS (wW p s),x≤1000000) (hj3:(Lib.join ((xS (wW p s)).map fun x=>Lib.itoa ((x:Nat):Int)) [44]).length≤140737488355328) :
  CallsTo EE 37 [agg (encProg p),agg (vW c tr tk s)] (·=sv ([115,116,117,99,107,32]++(if Lib.join ((xS (wW p s)).map fun x=>Lib.itoa ((x:Nat):Int)) [44]=[] then [45] else Lib.join ((xS (wW p s)).map fun x=>Lib.itoa ((x:Nat):Int)) [44]))):=by
 refine callsTo_of_AW (fn:=Tryz.f37) Tryz.func37 rfl (by kernel_rfl) rfl ?_
 subst hc
 conv=>whnf
 refine kbi (fun h=>absurd h (by decide)) (fun _=>?_)
 conv=>whnf
 refine kbi (fun h=>absurd h (by decide)) (fun _=>?_)
 conv=>whnf
 refine kbi (fun _=>?_) (fun h=>absurd rfl h)
 conv=>whnf
 refine .inr (.inr (.inr (.inl ⟨_,69,[],weak_frz (isK (.n 3)),rfl,999,99,fun _=>false,_,io_of_calls (oW p8 p s hp hs hv),rfl,?_⟩)))
 rintro r H1 ⟨⟨r0,rfl,hr⟩,rfl⟩
 have hr:r=sl ((bI p s).map pA):=by
  rcases hr with hr|hr
  ·cases hr
  ·exact(Option.some.inj hr).symm
 subst hr
 refine⟨fun _ _=>rfl,fun n hn=>(by cases hn),?_⟩
 conv=>whnf
 rw[oF]
 refine⟨_,cycleG_ok (wW p s) hG,?_⟩
 rintro r rfl
 conv=>whnf
 refine⟨_,tR (xS (wW p s)) hj1 hj2 hj3,?_⟩
 rintro r rfl
 conv=>whnf
 refine⟨_,dash_ok _,?_⟩
 rintro r rfl
 conv=>whnf
 refine⟨?_,?_⟩
 ·show 6+(if Lib.join ((xS (wW p s)).map fun x=>Lib.itoa ((x:Nat):Int)) [44]=[] then [45] else Lib.join ((xS (wW p s)).map fun x=>Lib.itoa ((x:Nat):Int)) [44]).length≤_
  split
  ·show 6+1≤_;omega
  ·omega
 conv=>whnf
 try rfl
end Ai
namespace Ai
set_option maxRecDepth 100000
open Go Go.Proofs Cyc
theorem r7 (p:ProgL) (s:StL) (tr:List Ev) (tk:List Int):CallsTo EE 37 [agg (encProg p),agg (vW 1 tr tk s)] (·=sv [100,111,110,101]):=by
 refine callsTo_of_AW (fn:=Tryz.f37) Tryz.func37 rfl (by kernel_rfl) rfl ?_
 conv=>whnf
 refine kbi (fun _=>?_) (fun h=>absurd rfl h)
 conv=>whnf
 try rfl
theorem aN (p:ProgL) (s:StL) (tr:List Ev) (tk:List Int):CallsTo EE 37 [agg (encProg p),agg (vW 4 tr tk s)] (·=sv [98,117,100,103,101,116]):=by
 refine callsTo_of_AW (fn:=Tryz.f37) Tryz.func37 rfl (by kernel_rfl) rfl ?_
 conv=>whnf
 refine kbi (fun h=>absurd h (by decide)) (fun _=>?_)
 conv=>whnf
 refine kbi (fun _=>?_) (fun h=>absurd rfl h)
 conv=>whnf
 try rfl
end Ai
namespace Ai
set_option maxRecDepth 100000
open Go Go.Proofs Cyc
def GTh (p:ProgL) (t:Th):Prop:=((t.st=1∨t.st=2)∧t.cond=-1∧t.lock=-1)∨((t.st=3∨t.st=4)∧0≤t.cond∧t.cond<p.conds∧0≤t.lock∧t.lock<p.locks)
structure GInv (p:ProgL) (s:StL):Prop where
 ths:∀ t∈s.ths,GTh p t
 ne:1≤s.ths.length
 fault:InR s.fault 0 4
theorem xW {p:ProgL} {s:StL} {k:Nat} {t:Th} (h:GInv p s) (ht:GTh p t):GInv p (s.put k t):=by
 refine⟨fun u hu=>?_,by simpa[StL.put] using h.ne,h.fault⟩
 rcases List.mem_or_eq_of_mem_set hu with e|e
 ·exact h.ths u e
 ·subst e;exact ht
theorem fault_in (s:StL) (k:Nat) (o:OpL):InR (yD s k o) 0 4:=by
 unfold yD InR
 simp only
 split
 ·omega
 split
 ·omega
 split
 ·omega
 split <;> omega
theorem ginv_do {p:ProgL} (hg:p.goodS) {s:StL} (hi:SInv p s) {k:Nat} (h:k<s.ths.length) {o:OpL} (hn:yL p s.ths[k]=some o) (e:Ev) (hG:GInv p s) (h1:s.ths[k].st=1):GInv p (doL s k o e).1:=by
 have hT:=hi.ths _ (List.getElem_mem h)
 have hgd:s.ths.getD k th0=s.ths[k]:=by simp[List.getD_eq_getElem?_getD,h]
 obtain⟨⟨g1,g2⟩,hlt⟩:=fU hg hT hn
 obtain⟨c1,c2,c3,_⟩:=g1
 obtain⟨a1,a2,a3,a4,a5,a6⟩:=g2
 have ht:=hG.ths _ (List.getElem_mem h)
 generalize s.ths[k]=t at *
 unfold doL
 simp only[hgd]
 have hp:GTh p (zG t o):=ht
 have hpush:∀ v,GTh p (zS (zG t o) v):=fun v=>ht
 have hpc:∀ a,GTh p { zG t o with pc:=a }:=fun a=>ht
 by_cases n1:o.code=1
 ·rw[if_pos n1];exact xW hG (hpush _)
 rw[if_neg n1]
 by_cases n2:o.code=2
 ·rw[if_pos n2];exact xW hG (hpush _)
 rw[if_neg n2]
 by_cases n3:o.code=3
 ·rw[if_pos n3];exact xW (s:={ s with cells:=_ }) ⟨hG.ths,hG.ne,hG.fault⟩ hp
 rw[if_neg n3]
 by_cases n10:o.code=10
 ·rw[if_pos n10];exact xW hG (hpc _)
 rw[if_neg n10]
 by_cases n11:o.code=11
 ·rw[if_pos n11]
  refine xW hG ?_
  split
  ·exact hpc _
  ·exact hp
 rw[if_neg n11]
 by_cases n12:o.code=12
 ·rw[if_pos n12];exact xW (s:={ s with owner:=_ }) ⟨hG.ths,hG.ne,hG.fault⟩ hp
 rw[if_neg n12]
 by_cases n13:o.code=13
 ·rw[if_pos n13];exact xW (s:={ s with owner:=_ }) ⟨hG.ths,hG.ne,hG.fault⟩ hp
 rw[if_neg n13]
 by_cases n14:o.code=14
 ·rw[if_pos n14]
  refine xW (s:={ s with ths:=_ }) ⟨fun u hu=>?_,by show 1≤(s.ths++[qV o.a]).length;simp,hG.fault⟩ (hpush _)
  rcases List.mem_append.1 hu with e|e
  ·exact hG.ths u e
  ·simp only[List.mem_cons,List.not_mem_nil,or_false] at e
   subst e;exact .inl ⟨.inl rfl,rfl,rfl⟩
 rw[if_neg n14]
 by_cases n15:o.code=15
 ·rw[if_pos n15];exact xW hG hp
 rw[if_neg n15]
 by_cases n16:o.code=16
 ·rw[if_pos n16]
  exact xW (s:={ s with owner:=_ }) ⟨hG.ths,hG.ne,hG.fault⟩ (.inr ⟨.inl rfl,c2.1,(a5 n16).1,c3.1,(a5 n16).2⟩)
 rw[if_neg n16]
 by_cases n17:o.code=17
 ·rw[if_pos n17]
  cases hw:wO s.ths o.a with
  |none=>exact xW hG hp
  |some j =>
   refine xW (s:={ s with ths:=_ }) ⟨fun u hu=>?_,by simpa using hG.ne,hG.fault⟩ hp
   obtain⟨i,hi2,rfl⟩:=List.mem_iff_getElem.1 hu
   have hil:i<s.ths.length:=by simpa using hi2
   have hU:=hG.ths _ (List.getElem_mem hil)
   rw[List.getElem_modify]
   split
   ·rename_i hji
    subst hji
    unfold wO at hw
    rw[List.findIdx?_eq_some_iff_getElem] at hw
    obtain⟨_,hpw,_⟩:=hw
    simp only[Bool.and_eq_true,beq_iff_eq] at hpw
    rcases hU with ⟨h9,_⟩|⟨_,h9⟩
    ·have:=hpw.1;omega
    ·exact .inr ⟨.inr rfl,h9⟩
   ·exact hU
 rw[if_neg n17]
 exact xW hG (hpush _)
theorem ginv_step {p:ProgL} (hg:p.goodS) {s:StL} (hi:SInv p s) {k:Nat} (h:k<s.ths.length) (hk:k∈zA p s) (hG:GInv p s):GInv p (zQ p s k).1:=by
 have ht:=hG.ths _ (List.getElem_mem h)
 have hgo:=goes_st hk h
 have hgd:s.ths.getD k th0=s.ths[k]:=by simp[List.getD_eq_getElem?_getD,h]
 unfold zQ
 simp only[hgd]
 split
 ·exact xW (s:={ s with owner:=_ }) ⟨hG.ths,hG.ne,hG.fault⟩ (.inl ⟨.inl rfl,rfl,rfl⟩)
 ·rename_i h4
  have h1:s.ths[k].st=1:=by omega
  split
  ·refine xW hG (.inl ⟨.inr rfl,?_⟩)
   rcases ht with ⟨_,h9⟩|⟨h9,_⟩
   ·exact h9
   ·omega
  ·rename_i o hn
   split
   ·exact ginv_do hg hi h hn _ hG h1
   ·exact⟨hG.ths,hG.ne,fault_in s k o⟩
theorem ginv_new (p:ProgL):GInv p (xY p):=by
 refine⟨fun t ht=>?_,by simp[xY],by simp[xY,InR]⟩
 have:t=qV 0:=by simpa[xY] using ht
 subst this
 exact .inl ⟨.inl rfl,rfl,rfl⟩
structure AInv (p:ProgL) (s:StL):Prop where
 si:SInv p s
 fl:s.flt
 ow:pJ s
 gi:GInv p s
theorem oE {p:ProgL} {s:StL} {k:Nat} (hk:k∈zA p s):k<s.ths.length:=by have:=(List.mem_filter.1 hk).1;simpa using this
theorem pF {p:ProgL} (hg:p.goodS) (hv:p.flt) {s:StL} {k:Nat} (hk:k∈zA p s) (h:AInv p s):AInv p (zQ p s k).1 :=
 ⟨inv_step hg h.si (oE hk),flt_step hv (oE hk) h.fl,oinv_step (oE hk) h.ow,ginv_step hg h.si (oE hk) hk h.gi⟩
theorem cW {p:ProgL} (hg:p.goodS):AInv p (xY p):=⟨w6 hg,flt_new p,oinv_new p,ginv_new p⟩
theorem do_lev (s:StL) (k:Nat) (o:OpL) (e:Ev):s.ths.length≤(doL s k o e).1.ths.length∧(doL s k o e).2.th=e.th∧(doL s k o e).2.pc=e.pc:=by
 have hput:∀ (s:StL) (t:Th),(s.put k t).ths.length=s.ths.length:=fun s t=>by simp[StL.put]
 have hle:∀ (s2:StL) (t:Th),s.ths.length≤s2.ths.length→s.ths.length≤(s2.put k t).ths.length:=fun s2 t h=>by rw[hput];exact h
 unfold doL
 simp only
 by_cases n1:o.code=1
 ·rw[if_pos n1];exact⟨hle _ _ (Nat.le_refl _),rfl,rfl⟩
 rw[if_neg n1]
 by_cases n2:o.code=2
 ·rw[if_pos n2];exact⟨hle _ _ (Nat.le_refl _),rfl,rfl⟩
 rw[if_neg n2]
 by_cases n3:o.code=3
 ·rw[if_pos n3];exact⟨hle _ _ (Nat.le_refl _),rfl,rfl⟩
 rw[if_neg n3]
 by_cases n10:o.code=10
 ·rw[if_pos n10];exact⟨hle _ _ (Nat.le_refl _),rfl,rfl⟩
 rw[if_neg n10]
 by_cases n11:o.code=11
 ·rw[if_pos n11];exact⟨hle _ _ (Nat.le_refl _),rfl,rfl⟩
 rw[if_neg n11]
 by_cases n12:o.code=12
 ·rw[if_pos n12];exact⟨hle _ _ (Nat.le_refl _),rfl,rfl⟩
 rw[if_neg n12]
 by_cases n13:o.code=13
 ·rw[if_pos n13];exact⟨hle _ _ (Nat.le_refl _),rfl,rfl⟩
 rw[if_neg n13]
 by_cases n14:o.code=14
 ·rw[if_pos n14];exact⟨hle _ _ (by show _≤(s.ths++[qV o.a]).length;simp),rfl,rfl⟩
 rw[if_neg n14]
 by_cases n15:o.code=15
 ·rw[if_pos n15];exact⟨hle _ _ (Nat.le_refl _),rfl,rfl⟩
 rw[if_neg n15]
 by_cases n16:o.code=16
 ·rw[if_pos n16];exact⟨hle _ _ (Nat.le_refl _),rfl,rfl⟩
 rw[if_neg n16]
 by_cases n17:o.code=17
 ·rw[if_pos n17]
  cases wO s.ths o.a with
  |none=>exact⟨hle _ _ (Nat.le_refl _),rfl,rfl⟩
  |some j=>exact⟨hle _ _ (by show _≤(s.ths.modify j _).length;simp),rfl,rfl⟩
 rw[if_neg n17]
 exact⟨hle _ _ (Nat.le_refl _),rfl,rfl⟩
theorem step_len (p:ProgL) (s:StL) (k:Nat):s.ths.length≤(zQ p s k).1.ths.length:=by
 have hput:∀ (s:StL) (t:Th),(s.put k t).ths.length=s.ths.length:=fun s t=>by simp[StL.put]
 unfold zQ
 simp only
 split
 ·rw[hput];exact Nat.le_refl _
 ·split
  ·rw[hput];exact Nat.le_refl _
  ·split
   ·exact(do_lev _ _ _ _).1
   ·exact Nat.le_refl _
theorem step_ev (p:ProgL) (s:StL) (k:Nat):(zQ p s k).2.th=k∧(zQ p s k).2.pc=(s.ths.getD k th0).pc:=by
 unfold zQ
 simp only
 split
 ·exact⟨rfl,rfl⟩
 ·split
  ·exact⟨rfl,rfl⟩
  ·split
   ·exact(do_lev _ _ _ _).2
   ·exact⟨rfl,rfl⟩
structure TrOK (s:StL) (tr:List Ev):Prop where
 ev:∀ e∈tr,0≤e.th∧e.th<s.ths.length∧0≤e.pc∧e.pc≤24
 ne:s.fault≠0→tr≠[]
theorem tr_step {p:ProgL} (hg:p.goodS) {s:StL} {k:Nat} (hk:k∈zA p s) (h:AInv p s) {tr:List Ev} (ht:TrOK s tr):TrOK (zQ p s k).1 (tr++[(zQ p s k).2]):=by
 have hl:=oE hk
 have hgd:s.ths.getD k th0=s.ths[k]:=by simp[List.getD_eq_getElem?_getD,hl]
 have hT:=h.si.ths _ (List.getElem_mem hl)
 have hr:s.ths[k].rt.toNat<p.rs.length:=by have:=hT.rt;omega
 have e24:(p.rs.getD s.ths[k].rt.toNat []).length≤24:=by
  rw[List.getD_eq_getElem?_getD,List.getElem?_eq_getElem hr]
  exact(hg.2 _ (List.getElem_mem hr)).2
 have h2:=step_len p s k
 refine⟨fun e he=>?_,fun _=>by simp⟩
 rcases List.mem_append.1 he with e1|e1
 ·have:=ht.ev e e1
  omega
 ·simp only[List.mem_cons,List.not_mem_nil,or_false] at e1
  subst e1
  obtain⟨e1,e2⟩:=step_ev p s k
  rw[e1,e2,hgd]
  have:=hT.pc
  omega
structure RunT where
 c:Int
 tr:List Ev
 tk:List Int
 s:StL
noncomputable def rS (p:ProgL) (picks:List Int) (budget:Int):Nat→StL→List Ev→List Int→RunT
 | 0,s,tr,tk=>⟨0,tr,tk,s⟩
 |n+1,s,tr,tk =>
  if 0<yI p s tr.length budget then ⟨yI p s tr.length budget,tr,tk,s⟩
  else
   let k:=wJ picks tk (zA p s).length
   let w:=(zA p s).getD k.toNat 0
   rS p picks budget n (zQ p s w).1 (tr++[(zQ p s w).2]) (tk++[k])
def encRT (x:RunT):List D:=vW x.c x.tr x.tk x.s
theorem y5 (p:ProgL) (picks:List Int) (budget:Int):∀ n s tr tk,gJ p picks budget n s tr tk=encRT (rS p picks budget n s tr tk)
 | 0,s,tr,tk=>rfl
 |n+1,s,tr,tk=>by
  unfold gJ rS
  split
  ·rfl
  ·exact y5 p picks budget n _ _ _
structure REnd (p:ProgL) (budget:Int) (x:RunT):Prop where
 inv:AInv p x.s
 tr:TrOK x.s x.tr
 code:x.c=yI p x.s x.tr.length budget
 pos:0<x.c
 len:x.tr.length=x.tk.length
 le:(x.tr.length:Int)≤budget
 tk:∀ i∈x.tk,0≤i∧i<5
theorem pick_lt (p:ProgL) (s:StL) (picks tk:List Int) (hpk:∀ i∈picks,0≤i) (h:0<(zA p s).length):0≤wJ picks tk (zA p s).length∧wJ picks tk (zA p s).length<(zA p s).length:=by
 unfold wJ
 split
 ·rename_i h1
  have h2:0≤picks.getD tk.length 0:=by
   rw[List.getD_eq_getElem?_getD,List.getElem?_eq_getElem h1]
   exact hpk _ (List.getElem_mem h1)
  exact⟨Int.tmod_nonneg _ h2,Int.tmod_lt_of_pos _ (by omega)⟩
 ·omega
theorem en_ne {p:ProgL} {s:StL} {a b:Int} (h:¬ 0<yI p s a b):0<(zA p s).length∧a≠b:=by
 have hen:zA p s≠[]:=by
  intro he
  apply h
  unfold yI
  by_cases hf:s.fault≠0
  ·rw[if_pos hf];decide
  ·rw[if_neg hf,if_pos he];split <;> decide
 refine⟨List.length_pos_iff.2 hen,fun he=>h ?_⟩
 unfold yI
 by_cases hf:s.fault≠0
 ·rw[if_pos hf];decide
 ·rw[if_neg hf,if_neg hen,if_pos he];decide
theorem run_end {p:ProgL} (hg:p.goodS) (hv:p.flt) (picks:List Int) (budget:Int) (hpk:∀ i∈picks,0≤i):∀ n s tr tk,AInv p s→TrOK s tr→tr.length=tk.length→(tr.length:Int)≤budget→budget.toNat+1 - tr.length≤n→(∀ i∈tk,0≤i∧i<5)→REnd p budget (rS p picks budget n s tr tk)
 | 0,s,tr,tk,hi,ht,hl,hb,hn,hk=>by omega
 |n+1,s,tr,tk,hi,ht,hl,hb,hn,hk=>by
  unfold rS
  split
  ·rename_i h
   exact⟨hi,ht,rfl,h,hl,hb,hk⟩
  ·rename_i h
   obtain⟨h1,h2⟩:=en_ne h
   have h3:=pick_lt p s picks tk hpk h1
   have hkl:(wJ picks tk (zA p s).length).toNat<(zA p s).length:=by omega
   have hmem:(zA p s).getD (wJ picks tk (zA p s).length).toNat 0∈zA p s:=by rw[List.getD_eq_getElem?_getD,List.getElem?_eq_getElem hkl];exact List.getElem_mem hkl
   have h5:(zA p s).length≤5:=Nat.le_trans (jE) hi.si.len
   refine run_end hg hv picks budget hpk n _ _ _ (pF hg hv hmem hi) (tr_step hg hmem hi ht) (by simp;exact hl) (by simp;omega) (by simp;omega) fun i hx=>?_
   rcases List.mem_append.1 hx with e|e
   ·exact hk i e
   ·simp only[List.mem_cons,List.not_mem_nil,or_false] at e
    subst e
    omega
noncomputable def fQ (p:ProgL) (picks:List Int) (budget:Int):RunT:=rS p picks budget (budget.toNat+1) (xY p) [] []
theorem eP {p:ProgL} (hg:p.goodS) (hv:p.flt) (picks:List Int) (budget:Int) (hpk:∀ i∈picks,0≤i) (hb:0≤budget):REnd p budget (fQ p picks budget) :=
 run_end hg hv picks budget hpk _ _ _ _ (cW hg) ⟨fun e he=>(by cases he),fun h=>absurd rfl h⟩ rfl hb (by simp) fun i hi=>(by cases hi)
theorem l4Run_of (p:ProgL) (hp:p.wf) (hg:p.goodS) (picks:List Int) (budget:Int) (hpk:∀ i∈picks,0≤i) (hl:picks.length≤1048576) (hb:InR budget 0 1048576) :
  CallsTo EE 59 [agg (encProg p),sl (picks.map encInt),i64 budget] (·=agg (encRT (fQ p picks budget))):=by
 have:=l4Run_good p hp hg picks budget hpk hl hb
 rwa [y5] at this
theorem r9 (p:ProgL) (hp:p.wf) (hg:p.goodS) (hv:p.flt) (picks:List Int) (budget:Int) (hpk:∀ i∈picks,0≤i) (hl:picks.length≤1048576) (hb:InR budget 0 1048576) :
  CallsTo EE 108 [agg (encProg p),sl (picks.map encInt),i64 budget] (·=agg (encRT (fQ p picks budget))):=by
 have:=aO p hp hg hv picks budget hpk hl hb
 rwa [y5] at this
end Ai
namespace Ai
set_option maxRecDepth 100000
open Go Go.Proofs Ieee
def Cn (x:Nat):Prop:=canon x=x
theorem sD:Cn 0:=canon_num (by decide +kernel)
theorem nearN_cn (n:Int):Cn (FloatKind.f64.nearest n):=canon_num (kF (.number (n<0) n.natAbs 0) rfl)
theorem fop_cn (op:BinOp) (x y:Nat):Cn (fop op x y):=by
 unfold fop
 cases h:floatBits op .f64 x y with
 |none=>exact canon_nan nJ
 |some r=>exact canon_num (floatBits_num h)
theorem reckon_cn (c:Int) (x y:Nat):Cn (yP c x y):=by
 unfold yP
 repeat' split
 all_goals first|exact fop_cn _ _ _|exact sD|(unfold Cn oneF;decide +kernel)|(unfold Cn;decide +kernel)
theorem topN_cn0 {t:Th} {o:OpL} {i:Nat} (h:∀ x∈t.stack,Cn x):Cn (xC t o i):=by
 unfold xC
 rw[List.getD_eq_getElem?_getD]
 cases hg:(t.stack.drop (yH t o))[i]? with
 |none=>exact sD
 |some x=>exact h x (List.mem_of_mem_drop (List.mem_of_getElem? hg))
def ProgL.cn (p:ProgL):Prop:=∀ r∈p.rs,∀ o∈r,Cn o.v
def StL.cn (s:StL):Prop:=(∀ c∈s.cells,Cn c)∧∀ t∈s.ths,∀ x∈t.stack,Cn x
theorem vY {s:StL} {k:Nat} {t:Th} (h:s.cn) (ht:∀ x∈t.stack,Cn x):(s.put k t).cn:=by
 refine⟨h.1,fun u hu=>?_⟩
 rcases List.mem_or_eq_of_mem_set hu with e|e
 ·exact h.2 u e
 ·subst e;exact ht
theorem topN_cn {t:Th} {o:OpL} {i:Nat} (h:∀ x∈t.stack,Cn x):Cn (xC t o i):=topN_cn0 h
theorem cn_do {s:StL} {k:Nat} {o:OpL} {e:Ev} (hk:k<s.ths.length) (h:s.cn) (ho:Cn o.v):(doL s k o e).1.cn:=by
 have hgd:s.ths.getD k th0=s.ths[k]:=by simp[List.getD_eq_getElem?_getD,hk]
 have ht:=h.2 _ (List.getElem_mem hk)
 generalize s.ths[k]=t at *
 unfold doL
 simp only[hgd]
 have hpop:∀ x∈(zG t o).stack,Cn x:=fun x hx=>ht x (List.mem_of_mem_take hx)
 have hpush:∀ v,Cn v→∀ x∈(zS (zG t o) v).stack,Cn x:=by
  intro v hv x hx
  rcases List.mem_append.1 hx with e|e
  ·exact hpop x e
  ·simp only[List.mem_cons,List.not_mem_nil,or_false] at e
   subst e;exact hv
 by_cases n1:o.code=1
 ·rw[if_pos n1];exact vY h (hpush _ ho)
 rw[if_neg n1]
 by_cases n2:o.code=2
 ·rw[if_pos n2]
  refine vY h (hpush _ ?_)
  rw[List.getD_eq_getElem?_getD]
  cases hg:s.cells[o.a.toNat]? with
  |none=>exact sD
  |some c=>exact h.1 c (List.mem_of_getElem? hg)
 rw[if_neg n2]
 by_cases n3:o.code=3
 ·rw[if_pos n3]
  refine vY ⟨fun c hc=>?_,h.2⟩ hpop
  rcases List.mem_or_eq_of_mem_set hc with e|e
  ·exact h.1 c e
  ·subst e;exact topN_cn ht
 rw[if_neg n3]
 by_cases n10:o.code=10
 ·rw[if_pos n10];exact vY h hpop
 rw[if_neg n10]
 by_cases n11:o.code=11
 ·rw[if_pos n11]
  refine vY h ?_
  split
  ·exact hpop
  ·exact hpop
 rw[if_neg n11]
 by_cases n12:o.code=12
 ·rw[if_pos n12];exact vY (s:={ s with owner:=_ }) h hpop
 rw[if_neg n12]
 by_cases n13:o.code=13
 ·rw[if_pos n13];exact vY (s:={ s with owner:=_ }) h hpop
 rw[if_neg n13]
 by_cases n14:o.code=14
 ·rw[if_pos n14]
  refine vY (s:={ s with ths:=_ }) ⟨h.1,fun u hu=>?_⟩ (hpush _ (nearN_cn _))
  rcases List.mem_append.1 hu with e|e
  ·exact h.2 u e
  ·simp only[List.mem_cons,List.not_mem_nil,or_false] at e
   subst e;intro x hx;cases hx
 rw[if_neg n14]
 by_cases n15:o.code=15
 ·rw[if_pos n15];exact vY h hpop
 rw[if_neg n15]
 by_cases n16:o.code=16
 ·rw[if_pos n16];exact vY (s:={ s with owner:=_ }) h hpop
 rw[if_neg n16]
 by_cases n17:o.code=17
 ·rw[if_pos n17]
  cases wO s.ths o.a with
  |none=>exact vY h hpop
  |some j =>
   refine vY (s:={ s with ths:=_ }) ⟨h.1,fun u hu=>?_⟩ hpop
   obtain⟨i,hi,rfl⟩:=List.mem_iff_getElem.1 hu
   have hil:i<s.ths.length:=by simpa using hi
   have:=h.2 _ (List.getElem_mem hil)
   rw[List.getElem_modify]
   split
   ·exact this
   ·exact this
 rw[if_neg n17]
 exact vY h (hpush _ (reckon_cn _ _ _))
theorem cn_step {p:ProgL} (hv:p.cn) {s:StL} {k:Nat} (hk:k<s.ths.length) (h:s.cn):(zQ p s k).1.cn:=by
 have hgd:s.ths.getD k th0=s.ths[k]:=by simp[List.getD_eq_getElem?_getD,hk]
 have ht:=h.2 _ (List.getElem_mem hk)
 unfold zQ
 simp only[hgd]
 split
 ·exact vY (s:={ s with owner:=_ }) h ht
 ·split
  ·exact vY h ht
  ·rename_i o hn
   split
   ·refine cn_do hk h ?_
    unfold yL at hn
    by_cases hr:s.ths[k].rt.toNat<p.rs.length
    ·have e:p.rs.getD s.ths[k].rt.toNat []=p.rs[s.ths[k].rt.toNat]:=by rw[List.getD_eq_getElem?_getD,List.getElem?_eq_getElem hr];rfl
     rw[e] at hn
     exact hv _ (List.getElem_mem hr) o (List.mem_of_getElem? hn)
    ·have e:p.rs.getD s.ths[k].rt.toNat []=[]:=by rw[List.getD_eq_getElem?_getD,List.getElem?_eq_none (by omega)];rfl
     rw[e] at hn
     simp at hn
   ·exact h
theorem cn_new (p:ProgL):(xY p).cn:=by
 refine⟨fun c hc=>?_,fun t ht=>?_⟩
 ·obtain⟨_,rfl⟩:=List.mem_replicate.1 hc
  exact sD
 ·have:t=qV 0:=by simpa[xY] using ht
  subst this
  intro x hx;cases hx
theorem runT_cn {p:ProgL} (hg:p.goodS) (hv:p.flt) (hc:p.cn) (picks:List Int) (budget:Int) (hpk:∀ i∈picks,0≤i):∀ n s tr tk,AInv p s→s.cn→(rS p picks budget n s tr tk).s.cn
 | 0,s,tr,tk,hi,h=>h
 |n+1,s,tr,tk,hi,h=>by
  unfold rS
  split
  ·exact h
  ·rename_i hcd
   obtain⟨h1,h2⟩:=en_ne hcd
   have h3:=pick_lt p s picks tk hpk h1
   have hkl:(wJ picks tk (zA p s).length).toNat<(zA p s).length:=by omega
   have hmem:(zA p s).getD (wJ picks tk (zA p s).length).toNat 0∈zA p s:=by rw[List.getD_eq_getElem?_getD,List.getElem?_eq_getElem hkl];exact List.getElem_mem hkl
   exact runT_cn hg hv hc picks budget hpk n _ _ _ (pF hg hv hmem hi) (cn_step hc (oE hmem) h)
theorem runOf_cn {p:ProgL} (hg:p.goodS) (hv:p.flt) (hc:p.cn) (picks:List Int) (budget:Int) (hpk:∀ i∈picks,0≤i):(fQ p picks budget).s.cn :=
 runT_cn hg hv hc picks budget hpk _ _ _ _ (cW hg) (cn_new p)
theorem lN {x y:Nat} (hx:Cn x) (hy:Cn y) (hx2:F64 x) (hy2:F64 y):gF x y↔x=y:=by
 by_cases h:zO x=true∨zO y=true
 ·constructor
  ·rintro(e|e)
   ·unfold Cn at hx hy
    rw[← hx,← hy,canon_nan e.2.1,canon_nan e.2.2]
   ·exact absurd h e.1
  ·rintro rfl
   have h':zO x=true:=h.elim id id
   exact .inl ⟨h,h',h'⟩
 ·have nx:zO x=false:=by simpa using fun e=>h (.inl e)
  have ny:zO y=false:=by simpa using fun e=>h (.inr e)
  constructor
  ·rintro(e|e)
   ·exact absurd e.1 h
   ·exact(lO hx2 hy2 nx ny).1 e.2
  ·intro e
   exact .inr ⟨h,(lO hx2 hy2 nx ny).2 e⟩
end Ai
namespace Ai
set_option maxRecDepth 100000
open Go Go.Proofs
theorem szOpS_ok (xs:List (List D)) (left:Int) (h0:0≤left) (h1:left≤1048576) (hx:xs.length≤9223372036854775807) :
  CallsTo EE 52 [sl xs,i64 left] (szR left xs.length):=by
 refine callsTo_of_AW (fn:=Tryz.f52) Tryz.func52 rfl (by kernel_rfl) rfl ?_
 conv=>whnf
 rw[zM (by omega) (by omega)]
 refine⟨fun h=>?_,fun h=>?_⟩
 ·conv=>whnf
  exact⟨-1,rfl,by omega,by omega,by omega⟩
 ·conv=>whnf
  simp at h
  exact⟨_,rfl,by omega,by omega,by omega⟩
theorem eJ (xs:List (List D)) (left:Int) (h0:0≤left) (h1:left≤1048576) (hx:xs.length≤9223372036854775807) :
  CallsTo EE 27 [sl xs,i64 left] (szR left xs.length):=by
 refine callsTo_of_AW (fn:=Tryz.f27) Tryz.func27 rfl (by kernel_rfl) rfl ?_
 conv=>whnf
 rw[zM (by omega) (by omega)]
 refine⟨fun h=>?_,fun h=>?_⟩
 ·conv=>whnf
  exact⟨-1,rfl,by omega,by omega,by omega⟩
 ·conv=>whnf
  simp at h
  exact⟨_,rfl,by omega,by omega,by omega⟩
theorem szOpSS_ok (xs:List (List OpL)) (left:Int) (h0:0≤left) (h1:left≤1048576) (hx:xs.length≤9223372036854775807) (hx2:∀ x∈xs,x.length≤9223372036854775807) :
  CallsTo EE 25 [sl (xs.map zT),i64 left] (szR left (jI List.length xs)):=by
 refine callsTo_of_AW (fn:=Tryz.f25) Tryz.func25 rfl (by kernel_rfl) rfl ?_
 conv=>whnf
 rw[zM (by simp;omega) (by simp;omega),List.length_map]
 refine⟨fun h=>?_,fun h=>?_⟩
 ·conv=>whnf
  exact⟨-1,rfl,by omega,by omega,by omega⟩
 ·simp at h
  conv=>whnf
  refine yJ (fun x:Nat × Int=>[(0,sl (xs.map zT)),(5,i64 x.1),(1,i64 x.2)]) (fun _=>[]) (fun x=>xs.length - x.1)
   (fun x=>x.1≤xs.length∧0≤x.2∧(xs.length:Int)+((xs.map List.length).take x.1).sum+x.2≤left) (0,left - xs.length) .refl ⟨rfl,rfl,rfl,trivial⟩ trivial ⟨by omega,by omega,by simp;omega⟩ ?_
  rintro⟨k,l⟩ τ H ⟨hk,hl,hs⟩
  dsimp only at hk hl hs
  conv=>whnf
  refine⟨fun h=>?_,fun h=>?_⟩
  ·have hlt:=yF h
   conv=>whnf
   refine⟨zT xs[k],zL zT hlt rfl,?_⟩
   conv=>whnf
   refine⟨_,szOpS_ok _ l hl (by omega) (by simpa using hx2 _ (List.getElem_mem hlt)),?_⟩
   rintro r ⟨n,rfl,hn1,hn2,hn3⟩
   conv=>whnf
   refine⟨fun h=>?_,fun h=>?_⟩
   ·conv=>whnf
    exact⟨-1,rfl,by omega,by omega,by omega⟩
   ·simp at h
    conv=>whnf
    refine⟨(k+1,n),⟨by omega,by omega,?_⟩,by show xs.length - (k+1)<xs.length - k;omega,⟨rfl,zF hlt hx,rfl,trivial⟩,trivial⟩
    have hm:k<(xs.map List.length).length:=by simpa using hlt
    rw[dK _ _ hm]
    have:=hn3 h
    simp at this ⊢
    omega
  ·have hge:=bB h
   conv=>whnf
   have hkk:k=xs.length:=by omega
   subst hkk
   refine⟨_,rfl,by omega,?_,?_⟩
   ·omega
   ·intro _
    simp only[jI]
    rw[List.take_of_length_le (by simp)] at hs
    simp at hs ⊢
    omega
theorem szProg_ok (p:ProgL) (left:Int) (h0:0≤left) (h1:left≤1048576) (hs:p.wf):CallsTo EE 7 [agg (encProg p),i64 left] (szR left p.size):=by
 refine callsTo_of_AW (fn:=Tryz.f7) Tryz.func7 rfl (by kernel_rfl) rfl ?_
 conv=>whnf
 refine⟨_,szOpSS_ok _ left h0 h1 hs.1 hs.2,?_⟩
 rintro r ⟨n,rfl,hn1,hn2,hn3⟩
 conv=>whnf
 refine⟨fun h=>?_,fun h=>?_⟩
 ·conv=>whnf
  exact⟨-1,rfl,by omega,by omega,by omega⟩
 ·simp at h
  conv=>whnf
  exact⟨_,rfl,by omega,by omega,hn3⟩
end Ai
namespace Ai
set_option maxRecDepth 100000
open Go Go.Proofs
theorem r5 (xs:List (List D)) (left:Int) (h0:0≤left) (h1:left≤1048576) (hx:xs.length≤9223372036854775807) :
  CallsTo EE 26 [sl xs,i64 left] (szR left xs.length):=by
 refine callsTo_of_AW (fn:=Tryz.f26) Tryz.func26 rfl (by kernel_rfl) rfl ?_
 conv=>whnf
 rw[zM (by omega) (by omega)]
 refine⟨fun h=>?_,fun h=>?_⟩
 ·conv=>whnf
  exact⟨-1,rfl,by omega,by omega,by omega⟩
 ·conv=>whnf
  simp at h
  exact⟨_,rfl,by omega,by omega,by omega⟩
theorem pQ (xs:List (List D)) (left:Int) (h0:0≤left) (h1:left≤1048576) (hx:xs.length≤9223372036854775807) :
  CallsTo EE 54 [sl xs,i64 left] (szR left xs.length):=by
 refine callsTo_of_AW (fn:=Tryz.f54) Tryz.func54 rfl (by kernel_rfl) rfl ?_
 conv=>whnf
 rw[zM (by omega) (by omega)]
 refine⟨fun h=>?_,fun h=>?_⟩
 ·conv=>whnf
  exact⟨-1,rfl,by omega,by omega,by omega⟩
 ·conv=>whnf
  simp at h
  exact⟨_,rfl,by omega,by omega,by omega⟩
theorem r4 (t:Th) (left:Int) (h0:0≤left) (h1:left≤1048576) (hx:t.stack.length≤9223372036854775807) :
  CallsTo EE 93 [agg (zD t),i64 left] (szR left t.stack.length):=by
 refine callsTo_of_AW (fn:=Tryz.f93) Tryz.func93 rfl (by kernel_rfl) rfl ?_
 have hz:=pQ (t.stack.map encF) left h0 h1 (by simpa using hx)
 rw[List.length_map] at hz
 conv=>whnf
 refine⟨_,hz,?_⟩
 rintro r ⟨n,rfl,hn1,hn2,hn3⟩
 conv=>whnf
 refine⟨fun h=>?_,fun h=>?_⟩
 ·conv=>whnf
  exact⟨-1,rfl,by omega,by omega,by omega⟩
 ·simp at h
  conv=>whnf
  exact⟨_,rfl,by omega,by omega,hn3⟩
def Th.stl (t:Th):Nat:=t.stack.length
theorem z7 (xs:List Th) (left:Int) (h0:0≤left) (h1:left≤1048576) (hx:xs.length≤9223372036854775807) (hx2:∀ x∈xs,x.stack.length≤9223372036854775807) :
  CallsTo EE 53 [sl (xs.map zD),i64 left] (szR left (jI Th.stl xs)):=by
 refine callsTo_of_AW (fn:=Tryz.f53) Tryz.func53 rfl (by kernel_rfl) rfl ?_
 conv=>whnf
 rw[zM (by simp;omega) (by simp;omega),List.length_map]
 refine⟨fun h=>?_,fun h=>?_⟩
 ·conv=>whnf
  exact⟨-1,rfl,by omega,by omega,by omega⟩
 ·simp at h
  conv=>whnf
  refine yJ (fun x:Nat × Int=>[(0,sl (xs.map zD)),(5,i64 x.1),(1,i64 x.2)]) (fun _=>[]) (fun x=>xs.length - x.1)
   (fun x=>x.1≤xs.length∧0≤x.2∧(xs.length:Int)+((xs.map Th.stl).take x.1).sum+x.2≤left) (0,left - xs.length) .refl ⟨rfl,rfl,rfl,trivial⟩ trivial ⟨by omega,by omega,by simp;omega⟩ ?_
  rintro⟨k,l⟩ τ H ⟨hk,hl,hs⟩
  dsimp only at hk hl hs
  conv=>whnf
  refine⟨fun h=>?_,fun h=>?_⟩
  ·have hlt:=yF h
   conv=>whnf
   refine⟨zD xs[k],zL zD hlt rfl,?_⟩
   conv=>whnf
   refine⟨_,r4 xs[k] l hl (by omega) (hx2 _ (List.getElem_mem hlt)),?_⟩
   rintro r ⟨n,rfl,hn1,hn2,hn3⟩
   conv=>whnf
   refine⟨fun h=>?_,fun h=>?_⟩
   ·conv=>whnf
    exact⟨-1,rfl,by omega,by omega,by omega⟩
   ·simp at h
    conv=>whnf
    refine⟨(k+1,n),⟨by omega,by omega,?_⟩,by show xs.length - (k+1)<xs.length - k;omega,⟨rfl,zF hlt hx,rfl,trivial⟩,trivial⟩
    have hm:k<(xs.map Th.stl).length:=by simpa using hlt
    rw[dK _ _ hm]
    have:=hn3 h
    simp[Th.stl] at this ⊢
    omega
  ·have hge:=bB h
   conv=>whnf
   have hkk:k=xs.length:=by omega
   subst hkk
   refine⟨_,rfl,by omega,?_,?_⟩
   ·omega
   ·intro _
    simp only[jI]
    rw[List.take_of_length_le (by simp)] at hs
    simp at hs ⊢
    omega
structure StL.wf (s:StL):Prop where
 ths:s.ths.length≤9223372036854775807
 st:∀ t∈s.ths,t.stack.length≤9223372036854775807
 cells:s.cells.length≤9223372036854775807
 owner:s.owner.length≤9223372036854775807
def StL.size (s:StL):Nat:=jI Th.stl s.ths+(s.cells.length+s.owner.length)
theorem szState_ok (s:StL) (left:Int) (h0:0≤left) (h1:left≤1048576) (hs:s.wf):CallsTo EE 28 [agg (zZ s),i64 left] (szR left s.size):=by
 refine callsTo_of_AW (fn:=Tryz.f28) Tryz.func28 rfl (by kernel_rfl) rfl ?_
 conv=>whnf
 refine⟨_,z7 _ left h0 h1 hs.ths hs.st,?_⟩
 rintro r ⟨n,rfl,hn1,hn2,hn3⟩
 conv=>whnf
 refine⟨fun h=>?_,fun h=>?_⟩
 ·conv=>whnf
  exact⟨-1,rfl,by omega,by omega,by omega⟩
 ·simp at h
  have h3:=hn3 (by omega)
  conv=>whnf
  refine⟨_,pQ _ n (by omega) (by omega) (by simpa using hs.cells),?_⟩
  rintro r ⟨n2,rfl,hm1,hm2,hm3⟩
  conv=>whnf
  refine⟨fun h=>?_,fun h=>?_⟩
  ·conv=>whnf
   exact⟨-1,rfl,by omega,by omega,by omega⟩
  ·simp at h
   have h4:=hm3 (by omega)
   simp at h4
   conv=>whnf
   refine⟨_,eJ _ n2 (by omega) (by omega) (by simpa using hs.owner),?_⟩
   rintro r ⟨n3,rfl,hk1,hk2,hk3⟩
   conv=>whnf
   refine⟨fun h=>?_,fun h=>?_⟩
   ·conv=>whnf
    exact⟨-1,rfl,by omega,by omega,by omega⟩
   ·simp at h
    have h5:=hk3 (by omega)
    simp at h5
    conv=>whnf
    exact⟨_,rfl,by omega,by omega,fun _=>by unfold StL.size;omega⟩
structure RunT.wf (x:RunT):Prop where
 tr:x.tr.length≤9223372036854775807
 tk:x.tk.length≤9223372036854775807
 s:x.s.wf
def RunT.size (x:RunT):Nat:=x.tr.length+(x.tk.length+x.s.size)
theorem szRun_ok (x:RunT) (left:Int) (h0:0≤left) (h1:left≤1048576) (hx:x.wf):CallsTo EE 8 [agg (encRT x),i64 left] (szR left x.size):=by
 refine callsTo_of_AW (fn:=Tryz.f8) Tryz.func8 rfl (by kernel_rfl) rfl ?_
 conv=>whnf
 refine⟨_,r5 _ left h0 h1 (by simpa using hx.tr),?_⟩
 rintro r ⟨n,rfl,hn1,hn2,hn3⟩
 conv=>whnf
 refine⟨fun h=>?_,fun h=>?_⟩
 ·conv=>whnf
  exact⟨-1,rfl,by omega,by omega,by omega⟩
 ·simp at h
  have h3:=hn3 (by omega)
  simp at h3
  conv=>whnf
  refine⟨_,eJ _ n (by omega) (by omega) (by simpa using hx.tk),?_⟩
  rintro r ⟨n2,rfl,hm1,hm2,hm3⟩
  conv=>whnf
  refine⟨fun h=>?_,fun h=>?_⟩
  ·conv=>whnf
   exact⟨-1,rfl,by omega,by omega,by omega⟩
  ·simp at h
   have h4:=hm3 (by omega)
   simp at h4
   conv=>whnf
   refine⟨_,szState_ok x.s n2 (by omega) (by omega) hx.s,?_⟩
   rintro r ⟨n3,rfl,hk1,hk2,hk3⟩
   conv=>whnf
   refine⟨fun h=>?_,fun h=>?_⟩
   ·conv=>whnf
    exact⟨-1,rfl,by omega,by omega,by omega⟩
   ·simp at h
    have h5:=hk3 (by omega)
    conv=>whnf
    exact⟨_,rfl,by omega,by omega,fun _=>by unfold RunT.size;omega⟩
end Ai
namespace Ai
set_option maxRecDepth 100000
open Go Go.Proofs Cyc
theorem rY {edges:List (Nat × Nat)} {to:Nat} (he:∀ e∈edges,e.2<100):∀ (f i L:Nat) (ways:List (List Nat)) (seen:List Nat) (w:List Nat),(∀ w∈ways,w.length≤L∧∀ x∈w,x<100)→fM edges to f i ways seen=some w→w.length≤L+f∧∀ x∈w,x<100
 | 0,_,_,_,_,_,_,h=>by simp[fM] at h
 |f+1,i,L,ways,seen,w,hw,h=>by
  unfold fM at h
  split at h
  ·rename_i hi
   have hgw:ways.getD i []∈ways:=by rw[List.getD_eq_getElem?_getD,List.getElem?_eq_getElem hi];exact List.getElem_mem hi
   split at h
   ·obtain⟨h1,h2⟩:=rY he f (i+1) L ways seen w hw h
    exact⟨by omega,h2⟩
   ·rename_i e hf
    have he2:=he e (List.mem_of_find?_eq_some hf)
    split at h
    ·simp only[Option.some.injEq] at h
     subst h
     exact⟨by have:=(hw _ hgw).1;omega,(hw _ hgw).2⟩
    ·split at h
     ·obtain⟨h1,h2⟩:=rY he f (i+1) L ways seen w hw h
      exact⟨by omega,h2⟩
     ·obtain⟨h1,h2⟩:=rY he f (i+1) (L+1) _ _ w (fun v hv=>by
       rcases List.mem_append.1 hv with e1|e1
       ·have:=hw v e1
        exact⟨by omega,this.2⟩
       ·simp only[List.mem_cons,List.not_mem_nil,or_false] at e1
        subst e1
        refine⟨by have:=(hw _ hgw).1;rw[List.length_append];show _+1≤_;omega,fun x hx=>?_⟩
        rcases List.mem_append.1 hx with e2|e2
        ·exact(hw _ hgw).2 x e2
        ·simp only[List.mem_cons,List.not_mem_nil,or_false] at e2
         subst e2;exact he2) h
      exact⟨by omega,h2⟩
  ·simp only[Option.some.injEq] at h
   subst h
   simp
theorem cyc_ok {edges:List (Nat × Nat)} (hG:Graph edges):(xS edges).length≤9∧∀ x∈xS edges,x<100:=by
 unfold xS
 cases h:(List.range 100).findSome? (fun n=>match dH edges n with|some (x::xs)=>some (x::xs)|_=>none) with
 |none=>simp
 |some o =>
  obtain⟨n,hn,ho⟩:=List.exists_of_findSome?_eq_some h
  have hn:n<100:=by simpa using hn
  cases hc:dH edges n with
  |none=>rw[hc] at ho;cases ho
  |some l =>
   rw[hc] at ho
   cases l with
   |nil=>cases ho
   |cons x xs =>
    simp only[Option.some.injEq] at ho
    subst ho
    exact rY (fun e he=>by have:=hG.small e he;omega) 8 0 1 _ _ _ (fun w hw=>by
     simp only[List.mem_cons,List.not_mem_nil,or_false] at hw
     subst hw
     simpa using hn) hc
noncomputable def uR (p:ProgL) (s:StL):List Int:=(xS (wW p s)).map fun x=>((x:Nat):Int)
theorem gY {p:ProgL} {s:StL} (h:AInv p s):Graph (wW p s):=edges_graph h.ow h.gi.ne h.si.len
theorem dead_enc (p:ProgL) (s:StL):(xS (wW p s)).map xI=(uR p s).map encInt:=by
 unfold uR
 rw[List.map_map]
 rfl
theorem cN {p:ProgL} {s:StL} (h:AInv p s):Picks (uR p s):=by
 obtain⟨h1,h2⟩:=cyc_ok (gY h)
 refine⟨by simp[uR];omega,fun x hx=>?_⟩
 obtain⟨y,hy,rfl⟩:=List.mem_map.1 hx
 have:=h2 y hy
 unfold InR;omega
theorem dead_txt {p:ProgL} {s:StL}:Lib.join ((xS (wW p s)).map fun x=>Lib.itoa ((x:Nat):Int)) [44]=txt (uR p s):=by
 unfold txt uR
 rw[List.map_map]
 refine congrArg (fun l=>Lib.join l [44]) (List.map_congr_left fun x _=>?_)
 show Lib.itoa ((x:Nat):Int)=Lib.decDigits ((x:Nat):Int).toNat
 unfold Lib.itoa
 rw[if_neg (by omega)]
def jD:Ev:=⟨0,0,0,0,0⟩
def lC (s:StL) (e:Ev):List UInt8:=[102,97,117,108,116,32]++Lib.decDigits s.fault.toNat++[32]++Lib.decDigits e.th.toNat++[32]++Lib.decDigits (s.ths.getD e.th.toNat th0).rt.toNat++[32]++Lib.decDigits e.pc.toNat
noncomputable def eM (p:ProgL) (x:RunT):List UInt8 :=
 if x.c=1 then [100,111,110,101] else if x.c=4 then [98,117,100,103,101,116] else if x.c=3 then [115,116,117,99,107,32]++dashT (txt (uR p x.s)) else lC x.s (x.tr.getLastD jD)
theorem cQ {p:ProgL} {s:StL} {a b:Int} (h:0<yI p s a b):(yI p s a b=1∨yI p s a b=3∨yI p s a b=4)∨(yI p s a b=2∧s.fault≠0):=by
 unfold yI at h ⊢
 by_cases hf:s.fault≠0
 ·rw[if_pos hf];exact .inr ⟨rfl,hf⟩
 ·rw[if_neg hf] at h ⊢
  split
  ·split <;> simp
  ·split
   ·simp
   ·rename_i h1 h2
    rw[if_neg h1,if_neg h2] at h
    exact absurd h (by decide)
end Ai
namespace Ai
set_option maxRecDepth 100000
open Go Go.Proofs
theorem arePicks_ok (xs:List Int) (most:Nat) (hx:xs.length≤1048576):CallsTo EE 106 [sl (xs.map encInt),i64 most] (·=bp (xs.length≤most∧aH xs 0 999)):=by
 refine callsTo_of_AW (fn:=Tryz.f106) Tryz.func106 rfl (by kernel_rfl) rfl ?_
 conv=>whnf
 refine kbi (fun h=>?_) (fun h=>?_)
 ·simp at h
  conv=>whnf
  refine ocase (cP xs hx 154 (fun n=>¬ InR n 0 999) (fun n _=>f6 n)) (fun h2=>?_) (fun h2=>?_)
  ·conv=>whnf
   refine bpf fun hm=>?_
   obtain⟨x,hx1,hx2⟩:=h2
   exact hx2 (hm.2 x hx1)
  ·conv=>whnf
   refine bpt ⟨by omega,fun x hx1=>?_⟩
   exact Classical.byContradiction fun hb=>h2 ⟨x,hx1,hb⟩
 ·simp at h
  conv=>whnf
  exact bpf fun hm=>by have:=hm.1;omega
end Ai
namespace Ai
set_option maxRecDepth 100000
open Go Go.Proofs Cyc
theorem uN {n lo hi:Int} (h:InR n lo hi):CallsTo EE 55 [i64 n,i64 lo,i64 hi] (·=bv true):=by
 have:=jB n lo hi
 simp only[bp,tC h] at this
 exact this
theorem l1All_yes {xs:List Int} {lo hi:Int} (hx:xs.length≤1048576) (h:aH xs lo hi):CallsTo EE 95 [sl (xs.map encInt),i64 lo,i64 hi] (·=bv true):=by
 have:=l1All_ok xs lo hi hx
 simp only[bp,tC h] at this
 exact this
theorem l9 {p:ProgL} (hs:p.rs.length≤1048576∧∀ x∈p.rs,x.length≤1048576) (hv:p.flt) (h:p.goodS):CallsTo EE 29 [agg (encProg p)] (·=bv true):=by
 have:=mX p hs hv
 simp only[bp,tC h] at this
 exact this
theorem l3Thread_ok (p:ProgL) (hp:p.headS) (t:Th) (hT:TInv p t) (hG:GTh p t):CallsTo EE 242 [agg (encProg p),agg (zD t)] (·=bv true):=by
 obtain⟨a1,a2,a3,a4⟩:=hp
 unfold InR at a1 a2 a3 a4
 have hr:=hT.rt
 have hpc:=hT.pc
 have hst:=hT.st
 have e4:IntKind.i64.wrap (((p.rs.map zT).length:Int) - 1)=(p.rs.length:Int) - 1:=by rw[List.length_map];exact zM (by omega) (by omega)
 have e2:IntKind.i64.wrap (p.locks - 1)=p.locks - 1:=zM (by omega) (by omega)
 have e3:IntKind.i64.wrap (p.conds - 1)=p.conds - 1:=zM (by omega) (by omega)
 refine callsTo_of_AW (fn:=Tryz.f242) Tryz.func242 rfl (by kernel_rfl) rfl ?_
 conv=>whnf
 refine⟨_,uN (by rw[e4];unfold InR;omega),?_⟩
 rintro r rfl
 conv=>whnf
 refine⟨_,uN (by unfold InR;rcases hG with h|h <;> omega),?_⟩
 rintro r rfl
 conv=>whnf
 refine kbi (fun h=>?_) (fun _=>?_)
 ·simp at h;omega
 conv=>whnf
 refine⟨by kernel_rfl,?_⟩
 conv=>whnf
 have hrl:t.rt.toNat<p.rs.length:=by omega
 refine⟨zT p.rs[t.rt.toNat],⟨hr.1,by simp[hrl],rfl⟩,?_⟩
 conv=>whnf
 have e5:p.rs.getD t.rt.toNat []=p.rs[t.rt.toNat]:=by simp[List.getD_eq_getElem?_getD,hrl]
 rw[e5] at hpc
 refine⟨_,uN (by unfold InR;rw[List.length_map];omega),?_⟩
 conv=>whnf
 refine kbi (fun h3=>?_) (fun h3=>?_)
 ·have h3:t.st=3:=by simpa using h3
  conv=>whnf
  refine⟨_,uN (by rw[e3];unfold InR;rcases hG with h|h <;> omega),?_⟩
  rintro r rfl
  conv=>whnf
  refine⟨_,uN (by rw[e2];unfold InR;rcases hG with h|h <;> omega),?_⟩
  rintro r rfl
  conv=>whnf
  try rfl
 ·have h3:¬ t.st=3:=by simpa using h3
  conv=>whnf
  refine kbi (fun h4=>?_) (fun h4=>?_)
  ·have h4:t.st=4:=by simpa using h4
   conv=>whnf
   refine⟨_,uN (by rw[e3];unfold InR;rcases hG with h|h <;> omega),?_⟩
   rintro r rfl
   conv=>whnf
   refine⟨_,uN (by rw[e2];unfold InR;rcases hG with h|h <;> omega),?_⟩
   rintro r rfl
   conv=>whnf
   try rfl
  ·have h4:¬ t.st=4:=by simpa using h4
   obtain⟨_,hc,hl⟩:(t.st=1∨t.st=2)∧t.cond=-1∧t.lock=-1:=by
    rcases hG with h|h
    ·exact h
    ·omega
   conv=>whnf
   refine kbi (fun _=>?_) (fun h=>absurd (beq_iff_eq.2 hc) h)
   conv=>whnf
   refine kbi (fun _=>?_) (fun h=>absurd (beq_iff_eq.2 hl) h)
   conv=>whnf
   try rfl
theorem lG {p:ProgL} (hg:p.goodS) {s:StL} (h:AInv p s):s.small:=((pR hg).small s h.si).1
theorem prog_len {p:ProgL} (h:p.goodS):p.rs.length≤1048576∧∀ x∈p.rs,x.length≤1048576:=by
 obtain⟨b1,b2,b3,b4⟩:=h.1
 exact⟨by have:=b4.2;omega,fun x hx=>by have:=(h.2 x hx).2;omega⟩
theorem l3Good_ok (p:ProgL) (hg:p.goodS) (s:StL) (h:AInv p s):CallsTo EE 202 [agg (encProg p),agg (zZ s)] (·=bv true):=by
 have hi:=h.si
 have hl5:=hi.len
 have hne:=h.gi.ne
 have hsm:=lG hg h
 have hgt:=h.gi.ths
 have hown:=h.ow
 refine callsTo_of_AW (fn:=Tryz.f202) Tryz.func202 rfl (by kernel_rfl) rfl ?_
 conv=>whnf
 refine⟨_,uN (by unfold InR;rw[List.length_map];omega),?_⟩
 rintro r rfl
 conv=>whnf
 refine kbi (fun h1=>absurd (show((s.cells.map encF).length:Int)=p.cells by rw[List.length_map];exact hi.cells) (by simpa using h1)) (fun _=>?_)
 conv=>whnf
 refine kbi (fun h1=>absurd (show((s.owner.map encInt).length:Int)=p.locks by rw[List.length_map];exact hi.owner) (by simpa using h1)) (fun _=>?_)
 conv=>whnf
 refine⟨_,uN h.gi.fault,?_⟩
 rintro r rfl
 conv=>whnf
 refine yJ (fun k:Nat=>[(2,.ptr (.n 2) 0),(3,.ptr (.n 3) 0),(35,sl (s.ths.map zD)),(36,i64 (s.ths.map zD).length),(37,i64 k)])
  (fun k=>[(.n 2,.vs 39 ((encProg p).map .d)),(.n 3,.vs 44 ((zZ s).map .d))]) (fun k=>s.ths.length - k) (fun k=>k≤s.ths.length) 0
  Weak.refl ⟨rfl,rfl,rfl,rfl,rfl,trivial⟩ ⟨rfl,rfl,trivial⟩ (Nat.zero_le _) ?_
 intro k τ H hk
 have hk:k≤s.ths.length:=hk
 conv=>whnf
 refine kbi (fun h=>?_) (fun h=>?_)
 ·have hlt:=yF h
  conv=>whnf
  refine⟨zD s.ths[k],zL zD hlt rfl,?_⟩
  conv=>whnf
  refine⟨_,l3Thread_ok p hg.1 s.ths[k] (hi.ths _ (List.getElem_mem hlt)) (hgt _ (List.getElem_mem hlt)),?_⟩
  rintro r rfl
  conv=>whnf
  exact⟨k+1,by show k+1≤s.ths.length;omega,by show s.ths.length - (k+1)<s.ths.length - k;omega,⟨rfl,rfl,rfl,rfl,zF hlt (by omega),trivial⟩,⟨rfl,rfl,trivial⟩⟩
 ·conv=>whnf
  have e1:IntKind.i64.wrap (((s.ths.map zD).length:Int) - 1)=(s.ths.length:Int) - 1:=by rw[List.length_map];exact zM (by omega) (by omega)
  rw[e1]
  refine⟨_,l1All_yes hsm.2.2.2 (fun x hx=>by have:=hown x hx;unfold InR;omega),?_⟩
  rintro r rfl
  conv=>whnf
  try rfl
theorem l8 (p:ProgL) (hg:p.goodS) (hv:p.flt) (s:StL) (h:AInv p s):CallsTo EE 151 [agg (encProg p),agg (zZ s)] (·=bv true):=by
 refine callsTo_of_AW (fn:=Tryz.f151) Tryz.func151 rfl (by kernel_rfl) rfl ?_
 conv=>whnf
 refine⟨_,l9 (prog_len hg) hv hg,?_⟩
 rintro r rfl
 conv=>whnf
 refine⟨_,l3Good_ok p hg s h,?_⟩
 rintro r rfl
 conv=>whnf
 try rfl
end Ai
namespace Ai
set_option maxRecDepth 100000
open Go Go.Proofs Cyc
theorem oM {p:ProgL} (hg:p.goodS) {s:StL} (h:AInv p s):∀ t∈s.ths,t.seen p s:=(pR hg).seen s h.si
theorem WaitsFor_ok (p:ProgL) (hp:p.wf) (hg:p.goodS) (hv:p.flt) (s:StL) (h:AInv p s):CallsTo EE 102 [agg (encProg p),agg (zZ s)] (·=.tup [sl ((bI p s).map pA),bv true]):=by
 have hs:=lG hg h
 have hn:=h.si.len
 have hse:=oM hg h
 refine callsTo_of_AW (fn:=Tryz.f102) Tryz.func102 rfl (by kernel_rfl) rfl ?_
 conv=>whnf
 refine⟨_,l8 p hg hv s h,?_⟩
 rintro r rfl
 conv=>whnf
 refine yJ (fun k:Nat=>[(2,.ptr (.n 2) 0),(3,.ptr (.n 3) 0),(6,.ref (.n 6) 0 (yA p s k).length),(15,sl (s.ths.map zD)),(16,i64 (s.ths.map zD).length),(17,i64 k)])
  (fun k=>[(.n 2,.vs 39 ((encProg p).map .d)),(.n 3,.vs 44 ((zZ s).map .d)),(.n 6,.ds 26 1 ((yA p s k).map pA))]) (fun k=>s.ths.length - k) (fun k=>k≤s.ths.length) 0
  (sH 6 (.n 6) 26 1 rfl) ⟨rfl,rfl,rfl,rfl,rfl,rfl,trivial⟩ ⟨rfl,rfl,rfl,trivial⟩ (Nat.zero_le _) ?_
 intro k τ H hk
 have hk:k≤s.ths.length:=hk
 conv=>whnf
 refine kbi (fun h=>?_) (fun h=>?_)
 ·have hlt:=yF h
  conv=>whnf
  refine⟨zD s.ths[k],zL zD hlt rfl,?_⟩
  conv=>whnf
  have hgd:s.ths.getD k th0=s.ths[k]:=by simp[List.getD_eq_getElem?_getD,hlt]
  have hle:(yA p s k).length≤k:=cL
  refine⟨_,fX p7 bA p s s.ths[k] hp (hs.2.1 _ (List.getElem_mem hlt)) (hse _ (List.getElem_mem hlt)),?_⟩
  rintro r rfl
  conv=>whnf
  refine kbi (fun hb=>?_) (fun hb=>?_)
  ·have hb:0≤zH p s s.ths[k]:=by simpa using hb
   have hsk:yA p s (k+1)=yA p s k++[(k,zH p s s.ths[k])]:=by rw[zW,hgd,if_pos hb]
   conv=>whnf
   refine .inl ?_
   conv=>whnf
   refine⟨⟨rfl,by show((yA p s k).length+1)*24≤_;omega,by show(yA p s k).length+1≤_;omega⟩,?_⟩
   conv=>whnf
   refine⟨k+1,by show k+1≤s.ths.length;omega,by show s.ths.length - (k+1)<s.ths.length - k;omega,⟨rfl,rfl,?_,rfl,rfl,zF hlt (by omega),trivial⟩,⟨rfl,rfl,?_,trivial⟩⟩
   ·rw[hsk]
    show AV.ref (.n 6) 0 ((yA p s k).length+1)=_
    simp
   ·rw[hsk]
    show some (Ob.ds 26 1 (((yA p s k).map pA).take (yA p s k).length++[pA (k,zH p s s.ths[k])]))=_
    rw[List.take_of_length_le (by simp)]
    simp
  ·have hb:¬ 0≤zH p s s.ths[k]:=by simpa using hb
   conv=>whnf
   have hsk:yA p s (k+1)=yA p s k:=by rw[zW,hgd,if_neg hb];simp
   refine⟨k+1,by show k+1≤s.ths.length;omega,by show s.ths.length - (k+1)<s.ths.length - k;omega,⟨rfl,rfl,?_,rfl,rfl,zF hlt (by omega),trivial⟩,⟨rfl,rfl,?_,trivial⟩⟩
   ·rw[hsk];rfl
   ·rw[hsk];rfl
 ·have hge:s.ths.length≤k:=by simpa using h
  have hkk:k=s.ths.length:=by omega
  subst hkk
  conv=>whnf
  refine .inl ?_
  conv=>whnf
  have e:(((yA p s s.ths.length).map pA).drop 0).take (yA p s s.ths.length).length=(bI p s).map pA:=by rw[List.drop_zero,List.take_of_length_le (by simp)];rfl
  first|exact congrArg (fun x=>AV.tup [sl x,bv true]) e|(rw[← e];rfl)|trace_state
theorem l4Dead_ok (p:ProgL) (hp:p.wf) (hg:p.goodS) (hv:p.flt) (c:Int) (tr:List Ev) (tk:List Int) (s:StL) (h:AInv p s):CallsTo EE 61 [agg (encProg p),agg (vW c tr tk s)] (·=sl ((uR p s).map encInt)):=by
 refine callsTo_of_AW (fn:=Tryz.f61) Tryz.func61 rfl (by kernel_rfl) rfl ?_
 conv=>whnf
 refine⟨_,WaitsFor_ok p hp hg hv s h,?_⟩
 rintro r rfl
 conv=>whnf
 rw[oF]
 refine⟨_,l3CycleG_ok (wW p s) (gY h),?_⟩
 rintro r rfl
 conv=>whnf
 rw[dead_enc]
theorem last_at {tr:List Ev} (h:tr≠[]) (hl:(tr.length:Int)≤1048576):0≤IntKind.i64.wrap (((tr.map encEv).length:Int) - 1)∧(tr.map encEv)[(IntKind.i64.wrap (((tr.map encEv).length:Int) - 1)).toNat]?=some (encEv (tr.getLastD jD))∧tr.getLastD jD∈tr:=by
 have hp:0<tr.length:=List.length_pos_iff.2 h
 have e:IntKind.i64.wrap (((tr.map encEv).length:Int) - 1)=((tr.length - 1:Nat):Int):=by
  rw[List.length_map,zM (by omega) (by omega)];omega
 have e2:tr.getLastD jD=tr[tr.length - 1]:=by
  rw[List.getLastD_eq_getLast?,List.getLast?_eq_getElem?,List.getElem?_eq_getElem (by omega)];rfl
 rw[e,e2]
 refine⟨by omega,?_,List.getElem_mem _⟩
 rw[Int.toNat_natCast,List.getElem?_map,List.getElem?_eq_getElem (by omega)];rfl
theorem dec_ne (n:Nat):Lib.decDigits n≠[]:=by
 rw[Lib.decDigits]
 split <;> simp
theorem txt_ne {l:List Int} (h:l≠[]):txt l≠[]:=by
 cases l with
 |nil=>exact absurd rfl h
 |cons x xs =>
  unfold txt
  rw[List.map_cons,Lib.join_cons]
  intro e
  exact dec_ne _ (List.append_eq_nil_iff.1 e).1
theorem l4Sign_ok (p:ProgL) (hp:p.wf) (hg:p.goodS) (hv:p.flt) (budget:Int) (x:RunT) (h:REnd p budget x) (hb:budget≤1048576):CallsTo EE 31 [agg (encProg p),agg (encRT x)] (·=sv (eM p x)):=by
 obtain⟨c,tr,tk,s⟩:=x
 have hcode:c=yI p s tr.length budget:=h.code
 have hpos:0<c:=h.pos
 have hcs:=cQ (show 0<yI p s tr.length budget by rw[← hcode];exact hpos)
 rw[← hcode] at hcs
 have hi:AInv p s:=h.inv
 have hT:TrOK s tr:=h.tr
 have hle:(tr.length:Int)≤budget:=h.le
 unfold eM
 show CallsTo EE 31 [agg (encProg p),agg (vW c tr tk s)] (·=sv (if c=1 then [100,111,110,101] else if c=4 then [98,117,100,103,101,116] else if c=3 then [115,116,117,99,107,32]++dashT (txt (uR p s)) else lC s (tr.getLastD jD)))
 refine callsTo_of_AW (fn:=Tryz.f31) Tryz.func31 rfl (by kernel_rfl) rfl ?_
 conv=>whnf
 refine kbi (fun h1=>?_) (fun h1=>?_)
 ·have h1:c=1:=by simpa using h1
  rw[if_pos h1]
  conv=>whnf
  try rfl
 have h1:¬ c=1:=by simpa using h1
 rw[if_neg h1]
 conv=>whnf
 refine kbi (fun h4=>?_) (fun h4=>?_)
 ·have h4:c=4:=by simpa using h4
  rw[if_pos h4]
  conv=>whnf
  try rfl
 have h4:¬ c=4:=by simpa using h4
 rw[if_neg h4]
 conv=>whnf
 refine kbi (fun h2=>?_) (fun h2=>?_)
 ·have h2:c=2:=by simpa using h2
  rw[if_neg (by omega)]
  conv=>whnf
  have hf:s.fault≠0:=by
   rcases hcs with h|h
   ·omega
   ·exact h.2
  have hne:=hT.ne hf
  have hpt:0<tr.length:=List.length_pos_iff.2 hne
  obtain⟨e1,e2,e3⟩:=last_at hne (by omega)
  have hev:=hT.ev _ e3
  refine⟨encEv (tr.getLastD jD),⟨e1,e2,rfl⟩,?_⟩
  generalize tr.getLastD jD=e at *
  conv=>whnf
  refine⟨by kernel_rfl,?_⟩
  conv=>whnf
  have hfa:=hi.gi.fault
  unfold InR at hfa
  refine⟨_,gA s.fault hfa.1 (by omega),?_⟩
  conv=>whnf
  have hev1:e.th.toNat<s.ths.length:=by omega
  have hrt:=(hi.si.ths _ (List.getElem_mem hev1)).rt
  have hn4:=hg.1.2.2.2
  unfold InR at hn4
  have d1:(Lib.decDigits s.fault.toNat).length≤1:=wX _ 1 (by omega) (by omega)
  have hl5:=hi.si.len
  have d2:(Lib.decDigits e.th.toNat).length≤1:=wX _ 1 (by omega) (by omega)
  have d3:(Lib.decDigits s.ths[e.th.toNat].rt.toNat).length≤1:=wX _ 1 (by omega) (by omega)
  have d4:(Lib.decDigits e.pc.toNat).length≤2:=wX _ 2 (by omega) (by omega)
  have hgd:s.ths.getD e.th.toNat th0=s.ths[e.th.toNat]:=by simp[List.getD_eq_getElem?_getD,hev1]
  refine⟨by simp;omega,?_⟩
  conv=>whnf
  refine⟨by simp;omega,?_⟩
  conv=>whnf
  refine⟨_,gA e.th hev.1 (by omega),?_⟩
  conv=>whnf
  refine⟨by simp;omega,?_⟩
  conv=>whnf
  refine⟨by simp;omega,?_⟩
  conv=>whnf
  refine⟨zD s.ths[e.th.toNat],⟨hev.1,by simp[hev1],rfl⟩,?_⟩
  conv=>whnf
  refine⟨_,gA s.ths[e.th.toNat].rt hrt.1 (by omega),?_⟩
  conv=>whnf
  refine⟨by simp;omega,?_⟩
  conv=>whnf
  refine⟨by simp;omega,?_⟩
  conv=>whnf
  refine⟨_,gA e.pc hev.2.2.1 (by omega),?_⟩
  conv=>whnf
  refine⟨by simp;omega,?_⟩
  conv=>whnf
  unfold lC
  rw[hgd]
  try rfl
 ·have h2:¬ c=2:=by simpa using h2
  rw[if_pos (by omega)]
  conv=>whnf
  refine⟨_,l4Dead_ok p hp hg hv c tr tk s hi,?_⟩
  rintro r rfl
  conv=>whnf
  have hd:=cN hi
  refine kbi (fun h3=>?_) (fun h3=>?_)
  ·have h3:0<(uR p s).length:=by simpa using h3
   conv=>whnf
   refine⟨_,l4List_ok (uR p s) hd,?_⟩
   rintro r rfl
   conv=>whnf
   have htl:=oX (uR p s) hd.2 (uR p s).length (Nat.le_refl _)
   rw[List.take_length] at htl
   have h200:=hd.1
   refine⟨by show 6+_≤_;omega,?_⟩
   conv=>whnf
   have hne:txt (uR p s)≠[]:=txt_ne (by intro e;rw[e] at h3;simp at h3)
   unfold dashT
   rw[if_neg hne]
   try rfl
  ·have h3:uR p s=[]:=by
    have:¬ 0<(uR p s).length:=by simpa using h3
    exact List.length_eq_zero_iff.1 (by omega)
   conv=>whnf
   rw[h3]
   try rfl
end Ai
namespace Ai
set_option maxRecDepth 100000
open Go Go.Proofs Cyc
def jP (s:StL) (e:Ev):List Int:=[s.fault,e.th,(s.ths.getD e.th.toNat th0).rt,e.pc]
def rE (s:StL) (e:Ev) (k:Nat):List UInt8:=[102,97,117,108,116]++(((jP s e).take k).map fun n=>32::Lib.decDigits n.toNat).flatten
theorem cJ (s:StL) (e:Ev) (k:Nat) (h:k<(jP s e).length):rE s e (k+1)=rE s e k++32::Lib.decDigits ((jP s e)[k]).toNat:=by
 unfold rE
 rw[List.take_add_one,List.getElem?_eq_getElem h]
 simp only[Option.toList,List.map_append,List.flatten_append,List.map_cons,List.map_nil,List.flatten_cons,List.flatten_nil,List.append_nil,List.append_assoc]
theorem fText_end (s:StL) (e:Ev):rE s e 4=lC s e:=by
 simp[rE,jP,lC]
theorem oB (s:StL) (e:Ev) (h:∀ n∈jP s e,InR n 0 999):∀ k,k≤4→(rE s e k).length≤5+4*k
 | 0,_=>by simp[rE]
 |k+1,hk=>by
  have hl:k<(jP s e).length:=by show k<4;omega
  have h1:=oB s e h k (by omega)
  have h2:=h _ (List.getElem_mem hl)
  unfold InR at h2
  have d1:(Lib.decDigits ((jP s e)[k]).toNat).length≤3:=wX _ 3 (by omega) (by omega)
  rw[cJ s e k hl,List.length_append,List.length_cons]
  omega
theorem itoaL_nat {n:Int} (h:0≤n):Lib.itoa n=Lib.decDigits n.toNat:=by unfold Lib.itoa;rw[if_neg (by omega)]
theorem y2 (p:ProgL) (hg:p.goodS) (s:StL) (tr:List Ev) (tk:List Int) (hi:AInv p s) (hT:TrOK s tr) (hne:tr≠[]) (hl:(tr.length:Int)≤1048576):CallsTo EE 37 [agg (encProg p),agg (vW 2 tr tk s)] (·=sv (lC s (tr.getLastD jD))):=by
 obtain⟨e1,e2,e3⟩:=last_at hne (by omega)
 have hev:=hT.ev _ e3
 refine callsTo_of_AW (fn:=Tryz.f37) Tryz.func37 rfl (by kernel_rfl) rfl ?_
 conv=>whnf
 refine kbi (fun h=>absurd h (by decide)) (fun _=>?_)
 conv=>whnf
 refine kbi (fun h=>absurd h (by decide)) (fun _=>?_)
 conv=>whnf
 refine kbi (fun h=>absurd h (by decide)) (fun _=>?_)
 conv=>whnf
 refine⟨encEv (tr.getLastD jD),⟨e1,e2,rfl⟩,?_⟩
 generalize tr.getLastD jD=e at *
 conv=>whnf
 refine⟨by kernel_rfl,?_⟩
 conv=>whnf
 have hev1:e.th.toNat<s.ths.length:=by omega
 refine⟨zD s.ths[e.th.toNat],⟨hev.1,by simp[hev1],rfl⟩,?_⟩
 conv=>whnf
 have hrt:=(hi.si.ths _ (List.getElem_mem hev1)).rt
 have hgd:s.ths.getD e.th.toNat th0=s.ths[e.th.toNat]:=by simp[List.getD_eq_getElem?_getD,hev1]
 have hl5:=hi.si.len
 have hn4:=hg.1.2.2.2
 have hfa:=hi.gi.fault
 unfold InR at hn4 hfa
 have hin:∀ n∈jP s e,InR n 0 999:=by
  intro n hn
  unfold jP at hn
  rw[hgd] at hn
  simp only[List.mem_cons,List.not_mem_nil,or_false] at hn
  unfold InR
  rcases hn with h|h|h|h <;> omega
 refine yJ (fun k:Nat=>[(8,sv (rE s e k)),(53,sl ((jP s e).map encInt)),(54,i64 4),(55,i64 k)]) (fun k=>[]) (fun k=>4 - k) (fun k=>k≤4) 0
  Weak.refl ⟨rfl,?_,rfl,rfl,trivial⟩ trivial (Nat.zero_le _) ?_
 ·unfold jP;rw[hgd];rfl
 intro k τ H hk
 have hk:k≤4:=hk
 conv=>whnf
 refine kbi (fun h=>?_) (fun h=>?_)
 ·have hk4:k<4:=by
   have:=of_decide_eq_true h
   omega
  have hlt:k<(jP s e).length:=hk4
  have hr:=hin _ (List.getElem_mem hlt)
  unfold InR at hr
  have d1:(Lib.decDigits ((jP s e)[k]).toNat).length≤3:=wX _ 3 (by omega) (by omega)
  have hfl:=oB s e hin k hk
  have hit:=itoaL_nat hr.1
  conv=>whnf
  refine⟨encInt (jP s e)[k],zL encInt hlt rfl,?_⟩
  conv=>whnf
  refine⟨_,Itoa_ok (jP s e)[k] (by omega) (by omega),?_⟩
  rintro r rfl
  conv=>whnf
  rw[hit]
  refine⟨by show 1+_≤_;omega,?_⟩
  conv=>whnf
  refine⟨by simp;omega,?_⟩
  conv=>whnf
  refine⟨k+1,by show k+1≤4;omega,by show 4 - (k+1)<4 - k;omega,⟨?_,rfl,rfl,?_,trivial⟩,trivial⟩
  ·exact congrArg sv (cJ s e k hlt).symm
  ·show AV.d (.int .i64 (IntKind.i64.wrap ((k:Int)+1)))=i64 ((k+1:Nat):Int)
   rw[zM (by omega) (by omega)]
   rfl
 ·have hk4:k=4:=by
   have:¬ (k:Int)<4:=fun e=>h (decide_eq_true e)
   omega
  subst hk4
  conv=>whnf
  rw[fText_end]
  try rfl
theorem signOf_ok (p:ProgL) (hp:p.wf) (hg:p.goodS) (budget:Int) (x:RunT) (h:REnd p budget x) (hb:budget≤1048576):CallsTo EE 37 [agg (encProg p),agg (encRT x)] (·=sv (eM p x)):=by
 obtain⟨c,tr,tk,s⟩:=x
 have hcode:c=yI p s tr.length budget:=h.code
 have hpos:0<c:=h.pos
 have hcs:=cQ (show 0<yI p s tr.length budget by rw[← hcode];exact hpos)
 rw[← hcode] at hcs
 have hi:AInv p s:=h.inv
 have hT:TrOK s tr:=h.tr
 have hle:(tr.length:Int)≤budget:=h.le
 unfold eM
 show CallsTo EE 37 [agg (encProg p),agg (vW c tr tk s)] (·=sv (if c=1 then [100,111,110,101] else if c=4 then [98,117,100,103,101,116] else if c=3 then [115,116,117,99,107,32]++dashT (txt (uR p s)) else lC s (tr.getLastD jD)))
 rcases hcs with (rfl|rfl|rfl)|⟨rfl,hf⟩
 ·exact r7 p s tr tk
 ·have hd:=cN hi
  have hc:=cyc_ok (gY hi)
  have htl:=oX (uR p s) hd.2 (uR p s).length (Nat.le_refl _)
  rw[List.take_length] at htl
  have:=y1 p s 3 tr tk hp (lG hg hi) (oM hg hi) (gY hi) rfl (by omega) (fun x hx=>by have:=hc.2 x hx;omega) (by rw[dead_txt];have:=hd.1;omega)
  rw[dead_txt] at this
  exact this
 ·exact aN p s tr tk
 ·exact y2 p hg s tr tk hi hT (hT.ne hf) (by omega)
end Ai
namespace Ai
set_option maxRecDepth 100000
open Go Go.Proofs
theorem yK (n:Int) (h:(n != n)=true):False:=by simp at h
theorem oD (xs:List Int) (hx:xs.length≤1048576):CallsTo EE 40 [sl (xs.map encInt),sl (xs.map encInt)] (·=bv true):=by
 refine callsTo_of_AW (fn:=Tryz.f40) Tryz.func40 rfl (by kernel_rfl) rfl ?_
 conv=>whnf
 refine⟨fun h=>(yK _ h).elim,fun _=>?_⟩
 conv=>whnf
 refine yJ (fun k:Nat=>[(0,sl (xs.map encInt)),(1,sl (xs.map encInt)),(5,i64 k)]) (fun k=>[]) (fun k=>xs.length - k) (fun k=>k≤xs.length) 0 .refl ⟨rfl,rfl,rfl,trivial⟩ trivial (Nat.zero_le _) ?_
 intro k τ H hk
 conv=>whnf
 refine⟨fun h=>?_,fun h=>?_⟩
 ·have hlt:=yF h
  conv=>whnf
  refine⟨by kernel_rfl,?_⟩
  conv=>whnf
  refine⟨encInt xs[k],zL encInt hlt rfl,?_⟩
  conv=>whnf
  refine⟨encInt xs[k],zL encInt hlt rfl,?_⟩
  conv=>whnf
  refine⟨fun h=>(yK _ h).elim,fun _=>?_⟩
  conv=>whnf
  refine⟨k+1,by omega,by show xs.length - (k+1)<xs.length - k;omega,⟨rfl,rfl,zF hlt (by omega),trivial⟩,trivial⟩
 ·conv=>whnf
theorem lP (x:Nat):CallsTo EE 115 [.d (.flt x),.d (.flt x)] (·=bv true):=by
 refine callsTo_of_AW (fn:=Tryz.f115) Tryz.func115 rfl (by kernel_rfl) rfl ?_
 conv=>whnf
 repeat' (refine kbi (fun h=>?_) (fun h=>?_) <;> first|contradiction|conv=>whnf)
 all_goals simp[j3] at *
 all_goals simp_all
theorem eqOp_ok (x:OpL):CallsTo EE 113 [agg (encOp x),agg (encOp x)] (·=bv true):=by
 refine callsTo_of_AW (fn:=Tryz.f113) Tryz.func113 rfl (by kernel_rfl) rfl ?_
 conv=>whnf
 refine⟨fun h=>(yK _ h).elim,fun _=>?_⟩
 conv=>whnf
 refine⟨fun h=>(yK _ h).elim,fun _=>?_⟩
 conv=>whnf
 refine⟨fun h=>(yK _ h).elim,fun _=>?_⟩
 conv=>whnf
 refine⟨_,lP x.v,?_⟩
 rintro r rfl
 conv=>whnf
theorem eqOpS_ok (xs:List OpL) (hx:xs.length≤1048576):CallsTo EE 73 [sl (xs.map encOp),sl (xs.map encOp)] (·=bv true):=by
 refine callsTo_of_AW (fn:=Tryz.f73) Tryz.func73 rfl (by kernel_rfl) rfl ?_
 conv=>whnf
 refine⟨fun h=>(yK _ h).elim,fun _=>?_⟩
 conv=>whnf
 refine yJ (fun k:Nat=>[(0,sl (xs.map encOp)),(1,sl (xs.map encOp)),(5,i64 k)]) (fun k=>[]) (fun k=>xs.length - k) (fun k=>k≤xs.length) 0 .refl ⟨rfl,rfl,rfl,trivial⟩ trivial (Nat.zero_le _) ?_
 intro k τ H hk
 conv=>whnf
 refine⟨fun h=>?_,fun h=>?_⟩
 ·have hlt:=yF h
  conv=>whnf
  refine⟨by kernel_rfl,?_⟩
  conv=>whnf
  refine⟨encOp xs[k],zL encOp hlt rfl,?_⟩
  conv=>whnf
  refine⟨encOp xs[k],zL encOp hlt rfl,?_⟩
  conv=>whnf
  refine⟨_,eqOp_ok xs[k],?_⟩
  conv=>whnf
  refine⟨k+1,by omega,by show xs.length - (k+1)<xs.length - k;omega,⟨rfl,rfl,zF hlt (by omega),trivial⟩,trivial⟩
 ·conv=>whnf
theorem eqOpSS_ok (xs:List (List OpL)) (hx:xs.length≤1048576) (hx2:∀ x∈xs,x.length≤1048576):CallsTo EE 38 [sl (xs.map zT),sl (xs.map zT)] (·=bv true):=by
 refine callsTo_of_AW (fn:=Tryz.f38) Tryz.func38 rfl (by kernel_rfl) rfl ?_
 conv=>whnf
 refine⟨fun h=>(yK _ h).elim,fun _=>?_⟩
 conv=>whnf
 refine yJ (fun k:Nat=>[(0,sl (xs.map zT)),(1,sl (xs.map zT)),(5,i64 k)]) (fun k=>[]) (fun k=>xs.length - k) (fun k=>k≤xs.length) 0 .refl ⟨rfl,rfl,rfl,trivial⟩ trivial (Nat.zero_le _) ?_
 intro k τ H hk
 conv=>whnf
 refine⟨fun h=>?_,fun h=>?_⟩
 ·have hlt:=yF h
  conv=>whnf
  refine⟨by kernel_rfl,?_⟩
  conv=>whnf
  refine⟨zT xs[k],zL zT hlt rfl,?_⟩
  conv=>whnf
  refine⟨zT xs[k],zL zT hlt rfl,?_⟩
  conv=>whnf
  refine⟨_,eqOpS_ok xs[k] (hx2 _ (List.getElem_mem hlt)),?_⟩
  conv=>whnf
  refine⟨k+1,by omega,by show xs.length - (k+1)<xs.length - k;omega,⟨rfl,rfl,zF hlt (by omega),trivial⟩,trivial⟩
 ·conv=>whnf
theorem eqProg_ok (p:ProgL) (h:p.rs.length≤1048576∧∀ x∈p.rs,x.length≤1048576):CallsTo EE 13 [agg (encProg p),agg (encProg p)] (·=bv true):=by
 refine callsTo_of_AW (fn:=Tryz.f13) Tryz.func13 rfl (by kernel_rfl) rfl ?_
 conv=>whnf
 refine⟨fun h=>(yK _ h).elim,fun _=>?_⟩
 conv=>whnf
 refine⟨fun h=>(yK _ h).elim,fun _=>?_⟩
 conv=>whnf
 refine⟨fun h=>(yK _ h).elim,fun _=>?_⟩
 conv=>whnf
 refine⟨_,eqOpSS_ok _ h.1 h.2,?_⟩
 rintro r rfl
 conv=>whnf
end Ai
namespace Ai
set_option maxRecDepth 100000
open Go Go.Proofs Cyc
def rL (p:ProgL) (picks:List Int) (sign:List UInt8):Prop:=eM p (fQ p picks 200)=sign
def Picks6 (xs:List Int):Prop:=xs.length≤60∧aH xs 0 999
theorem Picks6.nn {xs:List Int} (h:Picks6 xs):∀ i∈xs,0≤i:=fun i hi=>(h.2 i hi).1
end Ai
namespace Ai
set_option maxRecDepth 100000
open Go Go.Proofs Go.Shelf Go.Sort Go.RowKit
def qY (xs:List Int) (i j:Nat):List Int:=xs.take i++xs.drop j
end Ai
namespace Ai
set_option maxRecDepth 100000
open Go Go.Proofs Cyc
theorem drop_in {xs:List Int} {i j:Nat} (h:∀ x∈xs,0≤x):∀ x∈qY xs i j,0≤x:=by
 intro x hx
 rcases List.mem_append.1 hx with h1|h1
 ·exact h x (List.mem_of_mem_take h1)
 ·exact h x (List.mem_of_mem_drop h1)
end Ai
namespace Ai
set_option maxRecDepth 100000
open Go Go.Proofs
def sY (subs:List (List (List D))) (i j:Nat):List AV:=if j<i then [.junk] else [.ref (.s 903 j) 0 (subs.getD j []).length]
def qK (subs:List (List (List D))) (i:Nat):List (List AV):=(List.range subs.length).map (sY subs i)
def lD (subs:List (List (List D))) (i j:Nat):Option Ob:=if j<i then none else (subs[j]?).map (.ds 102 4)
theorem rowsM_get {subs:List (List (List D))} {i j:Nat} (h:j<subs.length):(qK subs i)[j]?=some (sY subs i j):=by simp[qK,h]
theorem rowsM_map {subs:List (List (List D))} {i i':Nat} (f:List AV→List AV) (h:∀ j,f (sY subs i j)=sY subs i' j):(qK subs i).map f=qK subs i':=by
 unfold qK
 rw[List.map_map]
 exact List.map_congr_left fun j _=>h j
theorem famM_ren (f:Key→Key) (subs:List (List (List D))) (i j:Nat):(lD subs i j).map (renO f)=lD subs i j:=by
 unfold lD
 split
 ·rfl
 ·cases subs[j]? <;> rfl
theorem mO (p:Key→Bool) (subs:List (List (List D))) (i j:Nat):(lD subs i j).map (scrPO p)=lD subs i j:=by
 unfold lD
 split
 ·rfl
 ·cases subs[j]? <;> rfl
end Ai
namespace Ai
set_option maxRecDepth 100000
open Go Go.Proofs
def lendP:Key→Bool
 | .n k=>Nat.beq k 903
 | .s o _=>Nat.beq o 903
 | .l _=>false
theorem sV {p:Key→Bool} (subs:List (List (List D))) (hp:∀ j,p (.s 903 j)=false):(qK subs 0).map (scrPL p)=qK subs 0 :=
 rowsM_map _ fun j=>by
  unfold sY
  rw[if_neg (by omega)]
  simp[scrPL,scrP,hp j]
def fH (r:List OpL):List (List D):=r.map encOp
def yN (p:ProgL):List (List (List D)):=p.rs.map fH
def aP (subs:List (List (List D))) (i j:Nat):List AV:=if j<i then [.ref (.s 900 j) 0 (subs.getD j []).length] else [.d .nil]
def vR (subs:List (List (List D))) (i:Nat):List (List AV):=(List.range subs.length).map (aP subs i)
def nZ (subs:List (List (List D))) (i j:Nat):Option Ob:=if j<i then (subs[j]?).map (.ds 102 4) else none
theorem rowsT_zero (subs:List (List (List D))):vR subs 0=List.replicate subs.length [.d .nil]:=by
 apply List.ext_getElem?
 intro j
 simp only[vR,List.getElem?_map,List.getElem?_replicate,List.getElem?_range']
 by_cases h:j<subs.length
 ·rw[if_pos h,List.getElem?_eq_getElem (by simpa using h)]
  simp[aP]
 ·rw[if_neg h,List.getElem?_eq_none (by simpa using h)]
  rfl
theorem rowsT_map {subs:List (List (List D))} {i i':Nat} (f:List AV→List AV) (h:∀ j,f (aP subs i j)=aP subs i' j):(vR subs i).map f=vR subs i':=by
 unfold vR
 rw[List.map_map]
 exact List.map_congr_left fun j _=>h j
theorem eR {p:Key→Bool} (subs:List (List (List D))) (i:Nat) (hp:∀ j,p (.s 900 j)=false):(vR subs i).map (scrPL p)=vR subs i :=
 rowsT_map _ fun j=>by
  unfold aP
  split
  ·simp[scrPL,scrP,hp j]
  ·rfl
theorem famT_ren (f:Key→Key) (subs:List (List (List D))) (i j:Nat):(nZ subs i j).map (renO f)=nZ subs i j:=by
 unfold nZ
 split
 ·cases subs[j]? <;> rfl
 ·rfl
theorem famT_scr (p:Key→Bool) (subs:List (List (List D))) (i j:Nat):(nZ subs i j).map (scrPO p)=nZ subs i j:=by
 unfold nZ
 split
 ·cases subs[j]? <;> rfl
 ·rfl
theorem rowsT_put {subs:List (List (List D))} {k:Nat} (h:k<subs.length):((yZ (vR subs k) 1 k 0 [.ref (.n 20) 0 subs[k].length]).map (renL (swp (.n 20) (.s 900 k))))=vR subs (k+1):=by
 have hlen:(vR subs k).length=subs.length:=by simp[vR]
 apply List.ext_getElem?
 intro j
 by_cases hj:j=k
 ·subst hj
  rw[List.getElem?_map,vE (c:=aP subs j j) (c':=[.ref (.n 20) 0 subs[j].length]) (by simp[vR,h]) rfl]
  simp only[vR,List.getElem?_map,List.getElem?_range h,Option.map_some,Option.some.injEq]
  unfold aP
  rw[if_pos (by omega)]
  have e:swp (.n 20) (.s 900 j) (.n 20)=.s 900 j:=by simp[swp,Key.beq]
  simp[renL,ren,e,List.getD_eq_getElem?_getD,h]
 ·by_cases hl:j<subs.length
  ·rw[List.getElem?_map,lK hj (c:=aP subs k j) (by simp[vR,hl])]
   simp only[vR,List.getElem?_map,List.getElem?_range hl,Option.map_some,Option.some.injEq]
   have e:swp (.n 20) (.s 900 k) (.s 900 j)=.s 900 j:=by simp[swp,Key.beq,nbeq_ne hj]
   unfold aP
   by_cases hjk:j<k
   ·rw[if_pos hjk,if_pos (by omega)]
    simp[renL,ren,e]
   ·rw[if_neg hjk,if_neg (by omega)]
    simp[renL,ren]
  ·rw[List.getElem?_eq_none (by simp[yZ];simp[hlen];omega),List.getElem?_eq_none (by simp[vR];omega)]
def lend9:Key→Bool
 | .n k=>Nat.beq k 900
 | .s o _=>Nat.beq o 900
 | .l _=>false
theorem own1_n {x:AV} {q:Nat} (h:q≠900):ownH [x] (.n q)=none:=by
 unfold ownH
 cases hb:Nat.blt q 900 with
 |true=>simp only[hb,cond_true]
 |false =>
  have:¬ q<900:=by
   intro e
   have:Nat.blt q 900=true:=by simpa[Nat.blt_eq] using e
   rw[this] at hb;cases hb
  have:([x]:List AV)[q - 900]?=none:=List.getElem?_eq_none (by simp;omega)
  simp only[hb,cond_false,this]
theorem own1_s {x:AV} {q j:Nat} (h:q≠900):ownH [x] (.s q j)=none:=by
 unfold ownH
 cases hb:Nat.blt q 900 with
 |true=>simp only[hb,cond_true]
 |false =>
  have:¬ q<900:=by
   intro e
   have:Nat.blt q 900=true:=by simpa[Nat.blt_eq] using e
   rw[this] at hb;cases hb
  have:([x]:List AV)[q - 900]?=none:=List.getElem?_eq_none (by simp;omega)
  simp only[hb,cond_false,this]
theorem rowsT_own (xs:List (List OpL)):vR (xs.map fH) xs.length=ownRows 900 0 (xs.map fun _=>[.nil]) (xs.map fH):=by
 unfold ownRows vR
 apply List.ext_getElem?
 intro j
 by_cases h:j<xs.length
 ·have h2:j<(xs.map fH).length:=by simpa using h
  simp only[List.getElem?_map,List.getElem?_range h2,Option.map_some,List.getElem?_mapIdx,List.getElem?_eq_getElem h]
  unfold aP
  rw[if_pos h]
  rfl
 ·rw[List.getElem?_eq_none (by simp;omega),List.getElem?_eq_none (by simp;omega)]
theorem toOpSS_own (xs:List (List OpL)) (hx:xs.length≤1048576) (hx2:∀ x∈xs,x.length≤1048576):CallsTo EE 32 [sl (xs.map zT)] (·=.ownF 1 [.uqd 99 1 0 102 4 (xs.map fun _=>[.nil]) (xs.map fH)]):=by
 refine rI (fun v hv=>?_) ?_
 ·simp only[List.mem_cons,List.not_mem_nil,or_false] at hv
  subst hv
  show(xs.map _).length=(xs.map fH).length
  simp
 refine fZ (fn:=Tryz.f32) (c:=Tryz.f32.body.getD .skip) Tryz.func32 rfl (by kernel_rfl) rfl ?_
 conv=>whnf
 refine⟨by simp;omega,?_⟩
 conv=>whnf
 refine pE (fun k:Nat=>[(0,sl (xs.map zT)),(3,.dref (.n 900) xs.length),(4,i64 k)]) (fun k=>[(.n 900,.rs 99 1 (vR (xs.map fH) k))]) (fun k=>[(900,nZ (xs.map fH) k)]) (fun k=>xs.length - k) (fun k=>k≤xs.length) 0
  ((sI (.n 7) rfl).trans (wI 7 900)) ?_ ?_ ?_ (Nat.zero_le _) ?_
 ·exact⟨rfl,by show AV.dref (.n 900) (((xs.map zT).length:Nat):Int).toNat=_;simp,rfl,trivial⟩
 ·refine⟨?_,trivial⟩
  show some (Ob.rs 99 1 (((List.replicate (((xs.map zT).length:Nat):Int).toNat [D.nil]).map (List.map AV.d)).map (renL (swp (.n 7) (.n 900)))))=_
  rw[rowsT_zero]
  simp[renL,ren]
 ·refine⟨fun j=>?_,trivial⟩
  unfold nZ
  rw[if_neg (by omega)]
  rfl
 intro k τ H hk
 have hk:k≤xs.length:=hk
 conv=>whnf
 refine kbi (fun h=>?_) (fun h=>?_)
 ·have hlt:=yF h
  have hlt2:k<(xs.map fH).length:=by simpa using hlt
  have hgk:(xs.map fH)[k]=xs[k].map encOp:=by simp[fH]
  conv=>whnf
  refine⟨zT xs[k],zL zT hlt rfl,?_⟩
  conv=>whnf
  refine⟨_,p6 xs[k] (hx2 _ (List.getElem_mem hlt)),?_⟩
  rintro r rfl
  refine .inr ⟨_,rfl,?_⟩
  conv=>whnf
  refine⟨⟨by omega,by omega⟩,?_⟩
  conv=>whnf
  refine⟨k+1,_,kJ 20 900 k,by show k+1≤xs.length;omega,by show xs.length - (k+1)<xs.length - k;omega,⟨rfl,rfl,zF hlt (by omega),trivial⟩,⟨?_,trivial⟩,⟨fun j=>?_,trivial⟩⟩
  ·show some (Ob.rs 99 1 ((yZ ((vR (xs.map fH) k).map (scrPL (isK (.n 20)))) 1 ((k:Int)).toNat 0 [.ref (.n 20) 0 (xs[k].map encOp).length]).map (renL (swp (.n 20) (.s 900 k)))))=_
   rw[eR _ _ (fun j=>rfl),Int.toNat_natCast,← hgk,rowsT_put hlt2]
  ·show(St.H _ (swp (.n 20) (.s 900 k) (.s 900 j))).map _=_
   by_cases hj:j=k
   ·subst hj
    have e:swp (.n 20) (.s 900 j) (.s 900 j)=.n 20:=by simp[swp,Key.beq]
    rw[e]
    unfold nZ
    rw[if_pos (by omega),List.getElem?_eq_getElem hlt2,hgk]
    rfl
   ·have e:swp (.n 20) (.s 900 k) (.s 900 j)=.s 900 j:=by simp[swp,Key.beq,nbeq_ne hj]
    rw[e]
    show Option.map _ (Option.map _ (nZ (xs.map fH) k j))=_
    rw[famT_scr,famT_ren]
    unfold nZ
    by_cases hjk:j<k
    ·rw[if_pos hjk,if_pos (by omega)]
    ·rw[if_neg hjk,if_neg (by omega)]
 ·have hkk:k=xs.length:=by
   have:¬ k<xs.length:=by simpa using h
   omega
  subst hkk
  conv=>whnf
  refine⟨_,Weak.refl,?_⟩
  conv=>whnf
  refine⟨lend9,?_,fun κ hκ=>?_⟩
  ·show AV.dref (.n 900) xs.length=AV.dref (.n 900) (xs.map _).length
   rw[List.length_map]
  ·cases κ with
   |l n=>exact absurd rfl hκ
   |n q =>
    by_cases hq:q=900
    ·subst hq
     show some (Ob.rs 99 1 ((vR (xs.map fH) xs.length).map (scrPL (fun o=>!lend9 o))))=some (Ob.rs 99 1 (ownRows 900 0 (xs.map fun _=>[.nil]) (xs.map fH)))
     rw[eR _ _ (fun j=>rfl),rowsT_own]
    ·exact absurd (own1_n hq) hκ
   |s o j =>
    by_cases hq:o=900
    ·subst hq
     show Option.map _ (nZ (xs.map fH) xs.length j)=((xs.map fH)[j]?).map (Ob.ds 102 4)
     rw[famT_scr]
     unfold nZ
     by_cases hj:j<xs.length
     ·rw[if_pos hj]
     ·rw[if_neg hj,List.getElem?_eq_none (by simp;omega)]
      rfl
    ·exact absurd (own1_s hq) hκ
end Ai
namespace Ai
set_option maxRecDepth 100000
open Go Go.Proofs
structure StL.fit (s:StL):Prop where
 ths:s.ths.length≤1048576
 st:∀ t∈s.ths,t.stack.length≤1048576
 cells:s.cells.length≤1048576
 owner:s.owner.length≤1048576
structure RunT.fit (x:RunT):Prop where
 tr:x.tr.length≤1048576
 tk:x.tk.length≤1048576
 s:x.s.fit
theorem fit_of {x:RunT} (h:x.size≤1048576):x.fit:=by
 unfold RunT.size StL.size at h
 have:=size_le Th.stl x.s.ths 1048576 (by omega)
 exact⟨by omega,by omega,⟨this.1,this.2,by omega,by omega⟩⟩
theorem toEvent_ok (e:Ev):CallsTo EE 64 [agg (encEv e)] (·=agg (encEv e)):=by
 refine callsTo_of_AW (fn:=Tryz.f64) Tryz.func64 rfl (by kernel_rfl) rfl ?_
 conv=>whnf
 rfl
theorem pN (xs:List Ev) (hx:xs.length≤1048576):CallsTo EE 33 [sl (xs.map encEv)] (·=.uq 107 5 (xs.map encEv)):=by
 refine callsTo_of_AW (fn:=Tryz.f33) Tryz.func33 rfl (by kernel_rfl) rfl ?_
 conv=>whnf
 refine⟨by simp;omega,?_⟩
 conv=>whnf
 refine yJ (fun k:Nat=>[(0,sl (xs.map encEv)),(3,.ref 7 0 (xs.map encEv).length),(4,i64 k)]) (fun k=>[(7,.ds 107 5 ((xs.take k).map encEv++List.replicate (xs.length - k) [di 0,di 0,di 0,di 0,di 0]))]) (fun k=>xs.length - k) (fun k=>k≤xs.length) 0 .refl ⟨rfl,by simp[put,St.new,St.setH,St.kill];rfl,rfl,trivial⟩ ⟨?_,trivial⟩ (Nat.zero_le _) ?_
 ·simp[put,St.new,St.setH,St.kill,nG];rfl
 intro k τ H hk
 conv=>whnf
 refine⟨fun h=>?_,fun h=>?_⟩
 ·have hlt:=yF h
  conv=>whnf
  refine⟨encEv xs[k],zL encEv hlt rfl,?_⟩
  conv=>whnf
  refine⟨_,toEvent_ok xs[k],?_⟩
  rintro r rfl
  conv=>whnf
  refine⟨⟨by omega,by simp;omega⟩,?_⟩
  conv=>whnf
  refine⟨k+1,by omega,by show xs.length - (k+1)<xs.length - k;omega,⟨rfl,rfl,zF hlt (by omega),trivial⟩,⟨?_,trivial⟩⟩
  exact congrArg (fun l=>some (Ob.ds 107 5 l)) (kM xs encEv [di 0,di 0,di 0,di 0,di 0] k 5 hlt rfl)
 ·have hge:=bB h
  conv=>whnf
  exact congrArg (AV.uq 107 5) (bV xs encEv [di 0,di 0,di 0,di 0,di 0] k _ hge hk (by simp))
theorem jX (xs:List Nat) (hx:xs.length≤1048576):CallsTo EE 66 [sl (xs.map encF)] (·=.uq 100 1 (xs.map encF)):=by
 refine callsTo_of_AW (fn:=Tryz.f66) Tryz.func66 rfl (by kernel_rfl) rfl ?_
 conv=>whnf
 refine⟨by simp;omega,?_⟩
 conv=>whnf
 refine yJ (fun k:Nat=>[(0,sl (xs.map encF)),(3,.ref 7 0 (xs.map encF).length),(4,i64 k)]) (fun k=>[(7,.ds 100 1 ((xs.take k).map encF++List.replicate (xs.length - k) [.flt 0]))]) (fun k=>xs.length - k) (fun k=>k≤xs.length) 0 .refl ⟨rfl,by simp[put,St.new,St.setH,St.kill];rfl,rfl,trivial⟩ ⟨?_,trivial⟩ (Nat.zero_le _) ?_
 ·simp[put,St.new,St.setH,St.kill,nG];rfl
 intro k τ H hk
 conv=>whnf
 refine⟨fun h=>?_,fun h=>?_⟩
 ·have hlt:=yF h
  conv=>whnf
  refine⟨encF xs[k],zL encF hlt rfl,?_⟩
  conv=>whnf
  refine⟨⟨by omega,by simp;omega⟩,?_⟩
  conv=>whnf
  refine⟨k+1,by omega,by show xs.length - (k+1)<xs.length - k;omega,⟨rfl,rfl,zF hlt (by omega),trivial⟩,⟨?_,trivial⟩⟩
  exact congrArg (fun l=>some (Ob.ds 100 1 l)) (kM xs encF [.flt 0] k 1 hlt rfl)
 ·have hge:=bB h
  conv=>whnf
  exact congrArg (AV.uq 100 1) (bV xs encF [.flt 0] k _ hge hk (by simp))
theorem n8 (t:Th) (h:t.stack.length≤1048576):CallsTo EE 105 [agg (zD t)] (·=agg (zD t)):=by
 refine callsTo_of_AW (fn:=Tryz.f105) Tryz.func105 rfl (by kernel_rfl) rfl ?_
 conv=>whnf
 refine⟨_,jX t.stack h,?_⟩
 rintro r rfl
 refine .inl ?_
 conv=>whnf
 try rfl
theorem z6 (xs:List Th) (hx:xs.length≤1048576) (hx2:∀ x∈xs,x.stack.length≤1048576):CallsTo EE 65 [sl (xs.map zD)] (·=.uq 109 6 (xs.map zD)):=by
 refine callsTo_of_AW (fn:=Tryz.f65) Tryz.func65 rfl (by kernel_rfl) rfl ?_
 conv=>whnf
 refine⟨by simp;omega,?_⟩
 conv=>whnf
 refine yJ (fun k:Nat=>[(0,sl (xs.map zD)),(3,.ref 7 0 (xs.map zD).length),(4,i64 k)]) (fun k=>[(7,.ds 109 6 ((xs.take k).map zD++List.replicate (xs.length - k) [di 0,di 0,di 0,di 0,di 0,.nil]))]) (fun k=>xs.length - k) (fun k=>k≤xs.length) 0 .refl ⟨rfl,by simp[put,St.new,St.setH,St.kill];rfl,rfl,trivial⟩ ⟨?_,trivial⟩ (Nat.zero_le _) ?_
 ·simp[put,St.new,St.setH,St.kill,nG];rfl
 intro k τ H hk
 conv=>whnf
 refine⟨fun h=>?_,fun h=>?_⟩
 ·have hlt:=yF h
  conv=>whnf
  refine⟨zD xs[k],zL zD hlt rfl,?_⟩
  conv=>whnf
  refine⟨_,n8 xs[k] (hx2 _ (List.getElem_mem hlt)),?_⟩
  rintro r rfl
  conv=>whnf
  refine⟨⟨by omega,by simp;omega⟩,?_⟩
  conv=>whnf
  refine⟨k+1,by omega,by show xs.length - (k+1)<xs.length - k;omega,⟨rfl,rfl,zF hlt (by omega),trivial⟩,⟨?_,trivial⟩⟩
  exact congrArg (fun l=>some (Ob.ds 109 6 l)) (kM xs zD [di 0,di 0,di 0,di 0,di 0,.nil] k 6 hlt rfl)
 ·have hge:=bB h
  conv=>whnf
  exact congrArg (AV.uq 109 6) (bV xs zD [di 0,di 0,di 0,di 0,di 0,.nil] k _ hge hk (by simp))
theorem toState_ok (s:StL) (h:s.fit):CallsTo EE 35 [agg (zZ s)] (·=agg (zZ s)):=by
 refine callsTo_of_AW (fn:=Tryz.f35) Tryz.func35 rfl (by kernel_rfl) rfl ?_
 conv=>whnf
 refine⟨_,z6 s.ths h.ths h.st,?_⟩
 rintro r rfl
 refine .inl ?_
 conv=>whnf
 refine⟨_,jX s.cells h.cells,?_⟩
 rintro r rfl
 refine .inl ?_
 conv=>whnf
 refine⟨_,bR s.owner h.owner,?_⟩
 rintro r rfl
 refine .inl ?_
 conv=>whnf
 try rfl
theorem p5 (x:RunT) (h:x.fit):CallsTo EE 11 [agg (encRT x)] (·=agg (encRT x)):=by
 refine callsTo_of_AW (fn:=Tryz.f11) Tryz.func11 rfl (by kernel_rfl) rfl ?_
 conv=>whnf
 refine⟨_,pN x.tr h.tr,?_⟩
 rintro r rfl
 refine .inl ?_
 conv=>whnf
 refine⟨_,bR x.tk h.tk,?_⟩
 rintro r rfl
 refine .inl ?_
 conv=>whnf
 refine⟨_,toState_ok x.s h.s,?_⟩
 rintro r rfl
 conv=>whnf
 try rfl
theorem oZ (t:Th) (h:t.stack.length≤1048576):CallsTo EE 105 [agg (zD t)] (·=.own [i64 t.rt,i64 t.pc,i64 t.st,i64 t.cond,i64 t.lock,.uq 100 1 (stk t)]):=by
 refine callsTo_of_AW (fn:=Tryz.f105) Tryz.func105 rfl (by kernel_rfl) rfl ?_
 conv=>whnf
 refine⟨_,jX t.stack h,?_⟩
 rintro r rfl
 refine .inr ⟨_,rfl,?_⟩
 conv=>whnf
 refine .inr (.inr ⟨[i64 t.rt,i64 t.pc,i64 t.st,i64 t.cond,i64 t.lock,.uq 100 1 (stk t)],_,wI 21 905,rfl,?_,gK ⟨trivial,trivial,trivial,trivial,trivial,rfl,trivial⟩,rfl⟩)
 intro v hv
 simp only[List.mem_cons,List.not_mem_nil,or_false] at hv
 rcases hv with rfl|rfl|rfl|rfl|rfl|rfl <;> trivial
end Ai
namespace Ai
set_option maxRecDepth 100000
open Go Go.Proofs
theorem wD {α:Type} {a b:List α} {k:Nat} (ha:k<a.length) (hb:k<b.length) (h:a.take k=b.take k) (e:a[k]=b[k]):a.take (k+1)=b.take (k+1):=by
 rw[List.take_succ_eq_append_getElem ha,List.take_succ_eq_append_getElem hb,h,e]
theorem wM {α:Type} {a b:List α} {k:Nat} (ha:a.length≤k) (hb:b.length≤k) (h:a.take k=b.take k):a=b:=by
 rwa [List.take_of_length_le ha,List.take_of_length_le hb] at h
theorem tI {α:Type} {a b:List α} {k:Nat} (ha:k<a.length) (hb:k<b.length) (e:¬ a[k]=b[k]):¬ a=b:=by
 rintro rfl;exact e rfl
theorem ev_eq {x y:Ev}:x=y↔[x.th,x.kind,x.obj,x.lock,x.pc]=[y.th,y.kind,y.obj,y.lock,y.pc]:=by
 constructor
 ·rintro rfl;rfl
 ·intro h
  cases x;cases y
  simp only[List.cons.injEq,and_true] at h
  obtain⟨rfl,rfl,rfl,rfl,rfl⟩:=h
  rfl
theorem EqualEv_ok (a b:List Ev) (hx:a.length≤1048576):CallsTo EE 155 [sl (a.map encEv),sl (b.map encEv)] (·=bp (a=b)):=by
 refine callsTo_of_AW (fn:=Tryz.f155) Tryz.func155 rfl (by kernel_rfl) rfl ?_
 conv=>whnf
 refine kbi (fun h=>?_) (fun h=>?_)
 ·have h:¬ a.length=b.length:=by simp at h;omega
  conv=>whnf
  exact bpf fun e=>h (by rw[e])
 have h:a.length=b.length:=by simp at h;omega
 conv=>whnf
 refine yJ (fun k:Nat=>[(0,sl (a.map encEv)),(1,sl (b.map encEv)),(12,i64 (a.map encEv).length),(13,i64 k)]) (fun k=>[]) (fun k=>a.length - k) (fun k=>k≤a.length∧a.take k=b.take k) 0
  Weak.refl ⟨rfl,rfl,rfl,rfl,trivial⟩ trivial ⟨Nat.zero_le _,by simp⟩ ?_
 rintro k τ H ⟨hk,he⟩
 have hk:k≤a.length:=hk
 conv=>whnf
 refine kbi (fun h2=>?_) (fun h2=>?_)
 ·have hlt:=yF h2
  have hltb:k<b.length:=by omega
  conv=>whnf
  refine⟨by kernel_rfl,?_⟩
  conv=>whnf
  refine⟨encEv a[k],zL encEv hlt rfl,?_⟩
  conv=>whnf
  refine⟨encEv b[k],zL encEv hltb rfl,?_⟩
  conv=>whnf
  refine kbi (fun h3=>?_) (fun h3=>?_)
  ·have h3:¬ a[k]=b[k]:=fun e=>by
    rw[e] at h3
    simp at h3
   conv=>whnf
   exact bpf (tI hlt hltb h3)
  ·have h3:a[k]=b[k]:=ev_eq.2 (by simpa using h3)
   conv=>whnf
   exact⟨k+1,⟨hlt,wD hlt hltb he h3⟩,by show a.length - (k+1)<a.length - k;omega,⟨rfl,rfl,rfl,zF hlt (by omega),trivial⟩,trivial⟩
 ·have hge:a.length≤k:=by simpa using h2
  conv=>whnf
  exact bpt (wM (by omega) (by omega) he)
theorem rN (a b:List Int) (hx:a.length≤1048576):CallsTo EE 156 [sl (a.map encInt),sl (b.map encInt)] (·=bp (a=b)):=by
 refine callsTo_of_AW (fn:=Tryz.f156) Tryz.func156 rfl (by kernel_rfl) rfl ?_
 conv=>whnf
 refine kbi (fun h=>?_) (fun h=>?_)
 ·have h:¬ a.length=b.length:=by simp at h;omega
  conv=>whnf
  exact bpf fun e=>h (by rw[e])
 have h:a.length=b.length:=by simp at h;omega
 conv=>whnf
 refine yJ (fun k:Nat=>[(0,sl (a.map encInt)),(1,sl (b.map encInt)),(12,i64 (a.map encInt).length),(13,i64 k)]) (fun k=>[]) (fun k=>a.length - k) (fun k=>k≤a.length∧a.take k=b.take k) 0
  Weak.refl ⟨rfl,rfl,rfl,rfl,trivial⟩ trivial ⟨Nat.zero_le _,by simp⟩ ?_
 rintro k τ H ⟨hk,he⟩
 have hk:k≤a.length:=hk
 conv=>whnf
 refine kbi (fun h2=>?_) (fun h2=>?_)
 ·have hlt:=yF h2
  have hltb:k<b.length:=by omega
  conv=>whnf
  refine⟨by kernel_rfl,?_⟩
  conv=>whnf
  refine⟨encInt a[k],zL encInt hlt rfl,?_⟩
  conv=>whnf
  refine⟨encInt b[k],zL encInt hltb rfl,?_⟩
  conv=>whnf
  refine kbi (fun h3=>?_) (fun h3=>?_)
  ·have h3:¬ a[k]=b[k]:=by simpa using h3
   conv=>whnf
   exact bpf (tI hlt hltb h3)
  ·have h3:a[k]=b[k]:=by simpa using h3
   conv=>whnf
   exact⟨k+1,⟨hlt,wD hlt hltb he h3⟩,by show a.length - (k+1)<a.length - k;omega,⟨rfl,rfl,rfl,zF hlt (by omega),trivial⟩,trivial⟩
 ·have hge:a.length≤k:=by simpa using h2
  conv=>whnf
  exact bpt (wM (by omega) (by omega) he)
def CF (x:Nat):Prop:=Cn x∧F64 x
theorem rO (a b:List Nat) (hx:a.length≤1048576) (ha:∀ x∈a,CF x) (hb:∀ x∈b,CF x):CallsTo EE 205 [sl (a.map encF),sl (b.map encF),.fn 206 []] (·=bp (a=b)):=by
 refine callsTo_of_AW (fn:=Tryz.f205) Tryz.func205 rfl (by kernel_rfl) rfl ?_
 conv=>whnf
 refine kbi (fun h=>?_) (fun h=>?_)
 ·have h:¬ a.length=b.length:=by simp at h;omega
  conv=>whnf
  exact bpf fun e=>h (by rw[e])
 have h:a.length=b.length:=by simp at h;omega
 conv=>whnf
 refine yJ (fun k:Nat=>[(0,sl (a.map encF)),(1,sl (b.map encF)),(2,.fn 206 []),(15,sl (a.map encF)),(16,i64 (a.map encF).length),(17,i64 k)]) (fun k=>[]) (fun k=>a.length - k) (fun k=>k≤a.length∧a.take k=b.take k) 0
  Weak.refl ⟨rfl,rfl,rfl,rfl,rfl,rfl,trivial⟩ trivial ⟨Nat.zero_le _,by simp⟩ ?_
 rintro k τ H ⟨hk,he⟩
 have hk:k≤a.length:=hk
 conv=>whnf
 refine kbi (fun h2=>?_) (fun h2=>?_)
 ·have hlt:=yF h2
  have hltb:k<b.length:=by omega
  have c1:=ha _ (List.getElem_mem hlt)
  have c2:=hb _ (List.getElem_mem hltb)
  conv=>whnf
  refine⟨encF a[k],zL encF hlt rfl,?_⟩
  conv=>whnf
  refine⟨encF b[k],zL encF hltb rfl,?_⟩
  conv=>whnf
  refine ocase (rM a[k] b[k] c1.2 c2.2) (fun h3=>?_) (fun h3=>?_)
  ·have h3:a[k]=b[k]:=(lN c1.1 c2.1 c1.2 c2.2).1 h3
   conv=>whnf
   exact⟨k+1,⟨hlt,wD hlt hltb he h3⟩,by show a.length - (k+1)<a.length - k;omega,⟨rfl,rfl,rfl,rfl,rfl,zF hlt (by omega),trivial⟩,trivial⟩
  ·have h3:¬ a[k]=b[k]:=fun e=>h3 ((lN c1.1 c2.1 c1.2 c2.2).2 e)
   conv=>whnf
   exact bpf (tI hlt hltb h3)
 ·have hge:a.length≤k:=by simpa using h2
  conv=>whnf
  exact bpt (wM (by omega) (by omega) he)
end Ai
namespace Ai
set_option maxRecDepth 100000
open Go Go.Proofs
def Th.cf (t:Th):Prop:=∀ x∈t.stack,CF x
def StL.cf (s:StL):Prop:=(∀ x∈s.cells,CF x)∧∀ t∈s.ths,t.cf
theorem Same1_ok (x y:Th) (hx:x.stack.length≤1048576) (h1:x.cf) (h2:y.cf):CallsTo EE 208 [agg (zD x),agg (zD y)] (·=bp (x=y)):=by
 refine callsTo_of_AW (fn:=Tryz.f208) Tryz.func208 rfl (by kernel_rfl) rfl ?_
 conv=>whnf
 refine kbi (fun h=>?_) (fun h=>?_)
 rotate_left 1
 ·have h:¬ x.rt=y.rt:=by simpa using h
  conv=>whnf
  exact bpf fun e=>h (by rw[e])
 have e1:x.rt=y.rt:=by simpa using h
 conv=>whnf
 refine kbi (fun h=>?_) (fun h=>?_)
 rotate_left 1
 ·have h:¬ x.pc=y.pc:=by simpa using h
  conv=>whnf
  exact bpf fun e=>h (by rw[e])
 have e2:x.pc=y.pc:=by simpa using h
 conv=>whnf
 refine kbi (fun h=>?_) (fun h=>?_)
 rotate_left 1
 ·have h:¬ x.st=y.st:=by simpa using h
  conv=>whnf
  exact bpf fun e=>h (by rw[e])
 have e3:x.st=y.st:=by simpa using h
 conv=>whnf
 refine kbi (fun h=>?_) (fun h=>?_)
 rotate_left 1
 ·have h:¬ x.cond=y.cond:=by simpa using h
  conv=>whnf
  exact bpf fun e=>h (by rw[e])
 have e4:x.cond=y.cond:=by simpa using h
 conv=>whnf
 refine kbi (fun h=>?_) (fun h=>?_)
 rotate_left 1
 ·have h:¬ x.lock=y.lock:=by simpa using h
  conv=>whnf
  exact bpf fun e=>h (by rw[e])
 have e5:x.lock=y.lock:=by simpa using h
 conv=>whnf
 refine ocase (rO x.stack y.stack hx h1 h2) (fun e6=>?_) (fun h=>?_)
 ·conv=>whnf
  refine bpt ?_
  clear h hx h1 h2
  cases x;cases y
  simp only at e1 e2 e3 e4 e5 e6
  subst e1 e2 e3 e4 e5 e6
  rfl
 ·conv=>whnf
  exact bpf fun e=>h (by rw[e])
theorem EqualTh_ok (a b:List Th) (hx:a.length≤1048576) (hx2:∀ t∈a,t.stack.length≤1048576) (ha:∀ x∈a,x.cf) (hb:∀ x∈b,x.cf):CallsTo EE 207 [sl (a.map zD),sl (b.map zD),.fn 208 []] (·=bp (a=b)):=by
 refine callsTo_of_AW (fn:=Tryz.f207) Tryz.func207 rfl (by kernel_rfl) rfl ?_
 conv=>whnf
 refine kbi (fun h=>?_) (fun h=>?_)
 ·have h:¬ a.length=b.length:=by simp at h;omega
  conv=>whnf
  exact bpf fun e=>h (by rw[e])
 have h:a.length=b.length:=by simp at h;omega
 conv=>whnf
 refine yJ (fun k:Nat=>[(0,sl (a.map zD)),(1,sl (b.map zD)),(2,.fn 208 []),(15,sl (a.map zD)),(16,i64 (a.map zD).length),(17,i64 k)]) (fun k=>[]) (fun k=>a.length - k) (fun k=>k≤a.length∧a.take k=b.take k) 0
  Weak.refl ⟨rfl,rfl,rfl,rfl,rfl,rfl,trivial⟩ trivial ⟨Nat.zero_le _,by simp⟩ ?_
 rintro k τ H ⟨hk,he⟩
 have hk:k≤a.length:=hk
 conv=>whnf
 refine kbi (fun h2=>?_) (fun h2=>?_)
 ·have hlt:=yF h2
  have hltb:k<b.length:=by omega
  conv=>whnf
  refine⟨zD a[k],zL zD hlt rfl,?_⟩
  conv=>whnf
  refine⟨zD b[k],zL zD hltb rfl,?_⟩
  conv=>whnf
  refine ocase (Same1_ok a[k] b[k] (hx2 _ (List.getElem_mem hlt)) (ha _ (List.getElem_mem hlt)) (hb _ (List.getElem_mem hltb))) (fun h3=>?_) (fun h3=>?_)
  ·conv=>whnf
   exact⟨k+1,⟨hlt,wD hlt hltb he h3⟩,by show a.length - (k+1)<a.length - k;omega,⟨rfl,rfl,rfl,rfl,rfl,zF hlt (by omega),trivial⟩,trivial⟩
  ·conv=>whnf
   exact bpf (tI hlt hltb h3)
 ·have hge:a.length≤k:=by simpa using h2
  conv=>whnf
  exact bpt (wM (by omega) (by omega) he)
theorem aZ (x y:StL) (hx:x.fit) (h1:x.cf) (h2:y.cf):CallsTo EE 157 [agg (zZ x),agg (zZ y)] (·=bp (x=y)):=by
 refine callsTo_of_AW (fn:=Tryz.f157) Tryz.func157 rfl (by kernel_rfl) rfl ?_
 conv=>whnf
 refine kbi (fun h=>?_) (fun h=>?_)
 rotate_left 1
 ·have h:¬ x.fault=y.fault:=by simpa using h
  conv=>whnf
  exact bpf fun e=>h (by rw[e])
 have e1:x.fault=y.fault:=by simpa using h
 conv=>whnf
 refine ocase (rN x.owner y.owner hx.owner) (fun e2=>?_) (fun h=>?_)
 rotate_left 1
 ·conv=>whnf
  exact bpf fun e=>h (by rw[e])
 conv=>whnf
 refine ocase (rO x.cells y.cells hx.cells h1.1 h2.1) (fun e3=>?_) (fun h=>?_)
 rotate_left 1
 ·conv=>whnf
  exact bpf fun e=>h (by rw[e])
 conv=>whnf
 refine ocase (EqualTh_ok x.ths y.ths hx.ths hx.st h1.2 h2.2) (fun e4=>?_) (fun h=>?_)
 rotate_left 1
 ·conv=>whnf
  exact bpf fun e=>h (by rw[e])
 conv=>whnf
 refine bpt ?_
 cases x;cases y
 simp only at e1 e2 e3 e4
 subst e1 e2 e3 e4
 rfl
theorem sameRun_ok (x y:RunT) (hx:x.fit) (h1:x.s.cf) (h2:y.s.cf):CallsTo EE 107 [agg (encRT x),agg (encRT y)] (·=bp (x=y)):=by
 refine callsTo_of_AW (fn:=Tryz.f107) Tryz.func107 rfl (by kernel_rfl) rfl ?_
 conv=>whnf
 refine kbi (fun h=>?_) (fun h=>?_)
 rotate_left 1
 ·have h:¬ x.c=y.c:=by simpa using h
  conv=>whnf
  exact bpf fun e=>h (by rw[e])
 have e1:x.c=y.c:=by simpa using h
 conv=>whnf
 refine ocase (EqualEv_ok x.tr y.tr hx.tr) (fun e2=>?_) (fun h=>?_)
 rotate_left 1
 ·conv=>whnf
  exact bpf fun e=>h (by rw[e])
 conv=>whnf
 refine ocase (rN x.tk y.tk hx.tk) (fun e3=>?_) (fun h=>?_)
 rotate_left 1
 ·conv=>whnf
  exact bpf fun e=>h (by rw[e])
 conv=>whnf
 refine ocase (aZ x.s y.s hx.s h1 h2) (fun e4=>?_) (fun h=>?_)
 rotate_left 1
 ·conv=>whnf
  exact bpf fun e=>h (by rw[e])
 conv=>whnf
 refine bpt ?_
 cases x;cases y
 simp only at e1 e2 e3 e4
 subst e1 e2 e3 e4
 rfl
end Ai
namespace Ai
set_option maxRecDepth 100000
open Go Go.Proofs Go.Deep
section
variable {H:Type} {enc':TypeId × Value→H} {w:World} {sp:Nat→Bool} {held:Bool}
theorem rd_fltC {n:Nat} {cs:List Value} {x:DataW H × List MemPlace} (h:DataW.trod enc' Tryz.prog w 0 sp held n 100 cs=some x):∃ v:Nat,CF v∧Fits w [.flt v] cs:=by
 cases n with
 |zero=>simp[DataW.trod] at h
 |succ n =>
  unfold DataW.trod at h
  rw[Tryz.underlying100] at h
  split at h <;> simp_all
  rename_i kk b e2
  obtain⟨⟨e1,hb⟩,_⟩:=h
  subst e2
  have hb0:(Lit.float FloatKind.f64 b).wf=true:=hb
  refine⟨canon b,⟨?_,?_⟩,rfl,fun i d u hd hu=>?_⟩
  ·exact canon_canon b
  ·show canon b<18446744073709551616
   have hb2:b<18446744073709551616:=by simpa[Lit.wf] using hb0
   unfold canon nanC
   cases zO b <;> simp <;> omega
  match i,hd,hu with
  | 0,hd,hu=>simp at hd hu;subst hd;subst hu;exact .flt _
  |i+1,hd,hu=>simp at hd
theorem rd_opC {n:Nat} {cs:List Value} {x:DataW H × List MemPlace} (h:DataW.trod enc' Tryz.prog w 0 sp held n 152 cs=some x):∃ o:OpL,CF o.v∧Fits w (encOp o) cs:=by
 obtain⟨xs,m,_,_,hcl,hxl,hf⟩:=DataW.trod_struct Tryz.underlying152 h
 have c3:Tryz.prog.cellsOf 3=1:=by kernel_rfl
 have c105:Tryz.prog.cellsOf 100=1:=by kernel_rfl
 have c151:Tryz.prog.cellsOf 152=4:=by kernel_rfl
 have hxl4:xs.length=4:=hxl
 have g0:DataW.trod enc' Tryz.prog w 0 sp held m 3 ((cs.drop 0).take (Tryz.prog.cellsOf 3))=xs[0]?:=hf 0 _ rfl
 have g1:DataW.trod enc' Tryz.prog w 0 sp held m 3 ((cs.drop 1).take (Tryz.prog.cellsOf 3))=xs[1]?:=hf 1 _ rfl
 have g2:DataW.trod enc' Tryz.prog w 0 sp held m 3 ((cs.drop 2).take (Tryz.prog.cellsOf 3))=xs[2]?:=hf 2 _ rfl
 have g3:DataW.trod enc' Tryz.prog w 0 sp held m 100 ((cs.drop 3).take (Tryz.prog.cellsOf 100))=xs[3]?:=hf 3 _ rfl
 simp only[c3,c105] at g0 g1 g2 g3
 rw[List.getElem?_eq_getElem (by omega)] at g0 g1 g2 g3
 obtain⟨k0,f0⟩:=wR g0
 obtain⟨k1,f1⟩:=wR g1
 obtain⟨k2,f2⟩:=wR g2
 obtain⟨v,hv,f3⟩:=rd_fltC g3
 exact⟨⟨k0,k1,k2,v⟩,hv,zX (k:=0) f0 (zX (k:=1) f1 (zX (k:=2) f2 (zX (k:=3) f3 (bE (by omega)))))⟩
theorem rd_rowC {n:Nat} {cs:List Value} {x:DataW H × List MemPlace} (h:DataW.trod enc' Tryz.prog w 0 sp held n 95 cs=some x):∃ l:List OpL,(l.length≤9223372036854775807∧∀ o∈l,CF o.v)∧Fits w (zT l) cs:=by
 obtain⟨xs,hw,hl,hf⟩:=kU (α:=OpL) Tryz.underlying95 4 (by kernel_rfl) (by omega) encOp (fun o=>CF o.v) (fun n cs x h=>rd_opC h) h
 exact⟨xs,⟨hl,hw⟩,hf⟩
theorem rd_rowsC {n:Nat} {cs:List Value} {x:DataW H × List MemPlace} (h:DataW.trod enc' Tryz.prog w 0 sp held n 22 cs=some x):∃ l:List (List OpL),(l.length≤9223372036854775807∧∀ r∈l,r.length≤9223372036854775807∧∀ o∈r,CF o.v)∧Fits w [.sl (l.map zT)] cs:=by
 obtain⟨xs,hw,hl,hf⟩:=kU (α:=List OpL) Tryz.underlying22 1 (by kernel_rfl) (by omega) zT (fun r=>r.length≤9223372036854775807∧∀ o∈r,CF o.v) (fun n cs x h=>rd_rowC h) h
 exact⟨xs,⟨hl,hw⟩,hf⟩
theorem rd_progC {n:Nat} {cs:List Value} {x:DataW H × List MemPlace} (h:DataW.trod enc' Tryz.prog w 0 sp held n 24 cs=some x):∃ p:ProgL,(p.wf∧p.flt∧p.cn)∧Fits w (encProg p) cs:=by
 obtain⟨xs,m,_,_,hcl,hxl,hf⟩:=DataW.trod_struct Tryz.underlying24 h
 have c22:Tryz.prog.cellsOf 22=1:=by kernel_rfl
 have c24:Tryz.prog.cellsOf 24=4:=by kernel_rfl
 have hxl4:xs.length=4:=hxl
 have g0:DataW.trod enc' Tryz.prog w 0 sp held m 3 ((cs.drop 0).take (Tryz.prog.cellsOf 3))=xs[0]?:=hf 0 _ rfl
 have g1:DataW.trod enc' Tryz.prog w 0 sp held m 3 ((cs.drop 1).take (Tryz.prog.cellsOf 3))=xs[1]?:=hf 1 _ rfl
 have g2:DataW.trod enc' Tryz.prog w 0 sp held m 3 ((cs.drop 2).take (Tryz.prog.cellsOf 3))=xs[2]?:=hf 2 _ rfl
 have g3:DataW.trod enc' Tryz.prog w 0 sp held m 22 ((cs.drop 3).take (Tryz.prog.cellsOf 22))=xs[3]?:=hf 3 _ rfl
 simp only[c3,c22] at g0 g1 g2 g3
 rw[List.getElem?_eq_getElem (by omega)] at g0 g1 g2 g3
 obtain⟨k0,f0⟩:=wR g0
 obtain⟨k1,f1⟩:=wR g1
 obtain⟨k2,f2⟩:=wR g2
 obtain⟨v,⟨hv1,hv2⟩,f3⟩:=rd_rowsC g3
 exact⟨⟨k0,k1,k2,v⟩,⟨⟨hv1,fun r hr=>(hv2 r hr).1⟩,fun r hr o ho=>((hv2 r hr).2 o ho).2,fun r hr o ho=>((hv2 r hr).2 o ho).1⟩,zX (k:=0) f0 (zX (k:=1) f1 (zX (k:=2) f2 (zX (k:=3) f3 (bE (by omega)))))⟩
theorem rd_ev {n:Nat} {cs:List Value} {x:DataW H × List MemPlace} (h:DataW.trod enc' Tryz.prog w 0 sp held n 114 cs=some x):∃ o:Ev,True∧Fits w (encEv o) cs:=by
 obtain⟨xs,m,_,_,hcl,hxl,hf⟩:=DataW.trod_struct Tryz.underlying114 h
 have e3:Tryz.prog.cellsOf 3=1:=by kernel_rfl
 have e128:Tryz.prog.cellsOf 114=5:=by kernel_rfl
 have hxl4:xs.length=5:=hxl
 have g0:DataW.trod enc' Tryz.prog w 0 sp held m 3 ((cs.drop 0).take (Tryz.prog.cellsOf 3))=xs[0]?:=hf 0 _ rfl
 have g1:DataW.trod enc' Tryz.prog w 0 sp held m 3 ((cs.drop 1).take (Tryz.prog.cellsOf 3))=xs[1]?:=hf 1 _ rfl
 have g2:DataW.trod enc' Tryz.prog w 0 sp held m 3 ((cs.drop 2).take (Tryz.prog.cellsOf 3))=xs[2]?:=hf 2 _ rfl
 have g3:DataW.trod enc' Tryz.prog w 0 sp held m 3 ((cs.drop 3).take (Tryz.prog.cellsOf 3))=xs[3]?:=hf 3 _ rfl
 have g4:DataW.trod enc' Tryz.prog w 0 sp held m 3 ((cs.drop 4).take (Tryz.prog.cellsOf 3))=xs[4]?:=hf 4 _ rfl
 simp only[e3] at g0 g1 g2 g3 g4
 rw[List.getElem?_eq_getElem (by omega)] at g0 g1 g2 g3 g4
 obtain⟨k0,f0⟩:=wR g0
 obtain⟨k1,f1⟩:=wR g1
 obtain⟨k2,f2⟩:=wR g2
 obtain⟨k3,f3⟩:=wR g3
 obtain⟨k4,f4⟩:=wR g4
 exact⟨⟨k0,k1,k2,k3,k4⟩,trivial,zX (k:=0) f0 (zX (k:=1) f1 (zX (k:=2) f2 (zX (k:=3) f3 (zX (k:=4) f4 (bE (by omega))))))⟩
theorem rd_evs {n:Nat} {cs:List Value} {x:DataW H × List MemPlace} (h:DataW.trod enc' Tryz.prog w 0 sp held n 25 cs=some x):∃ l:List Ev,l.length≤9223372036854775807∧Fits w [.sl (l.map encEv)] cs:=by
 obtain⟨xs,_,hl,hf⟩:=kU (α:=Ev) Tryz.underlying25 5 (by kernel_rfl) (by omega) encEv (fun _=>True) (fun n cs x h=>rd_ev h) h
 exact⟨xs,hl,hf⟩
theorem rd_flts {n:Nat} {cs:List Value} {x:DataW H × List MemPlace} (h:DataW.trod enc' Tryz.prog w 0 sp held n 28 cs=some x):∃ l:List Nat,(l.length≤9223372036854775807∧∀ y∈l,CF y)∧Fits w [.sl (l.map encF)] cs:=by
 obtain⟨xs,hw,hl,hf⟩:=kU (α:=Nat) Tryz.underlying28 1 (by kernel_rfl) (by omega) encF CF (fun n cs x h=>rd_fltC h) h
 exact⟨xs,⟨hl,hw⟩,hf⟩
theorem rd_th {n:Nat} {cs:List Value} {x:DataW H × List MemPlace} (h:DataW.trod enc' Tryz.prog w 0 sp held n 142 cs=some x):∃ o:Th,(o.stack.length≤9223372036854775807∧o.cf)∧Fits w (zD o) cs:=by
 obtain⟨xs,m,_,_,hcl,hxl,hf⟩:=DataW.trod_struct Tryz.underlying142 h
 have e3:Tryz.prog.cellsOf 3=1:=by kernel_rfl
 have e43:Tryz.prog.cellsOf 28=1:=by kernel_rfl
 have e175:Tryz.prog.cellsOf 142=6:=by kernel_rfl
 have hxl4:xs.length=6:=hxl
 have g0:DataW.trod enc' Tryz.prog w 0 sp held m 3 ((cs.drop 0).take (Tryz.prog.cellsOf 3))=xs[0]?:=hf 0 _ rfl
 have g1:DataW.trod enc' Tryz.prog w 0 sp held m 3 ((cs.drop 1).take (Tryz.prog.cellsOf 3))=xs[1]?:=hf 1 _ rfl
 have g2:DataW.trod enc' Tryz.prog w 0 sp held m 3 ((cs.drop 2).take (Tryz.prog.cellsOf 3))=xs[2]?:=hf 2 _ rfl
 have g3:DataW.trod enc' Tryz.prog w 0 sp held m 3 ((cs.drop 3).take (Tryz.prog.cellsOf 3))=xs[3]?:=hf 3 _ rfl
 have g4:DataW.trod enc' Tryz.prog w 0 sp held m 3 ((cs.drop 4).take (Tryz.prog.cellsOf 3))=xs[4]?:=hf 4 _ rfl
 have g5:DataW.trod enc' Tryz.prog w 0 sp held m 28 ((cs.drop 5).take (Tryz.prog.cellsOf 28))=xs[5]?:=hf 5 _ rfl
 simp only[e3,e43] at g0 g1 g2 g3 g4 g5
 rw[List.getElem?_eq_getElem (by omega)] at g0 g1 g2 g3 g4 g5
 obtain⟨k0,f0⟩:=wR g0
 obtain⟨k1,f1⟩:=wR g1
 obtain⟨k2,f2⟩:=wR g2
 obtain⟨k3,f3⟩:=wR g3
 obtain⟨k4,f4⟩:=wR g4
 obtain⟨l,⟨hl1,hl2⟩,f5⟩:=rd_flts g5
 exact⟨⟨k0,k1,k2,k3,k4,l⟩,⟨hl1,hl2⟩,zX (k:=0) f0 (zX (k:=1) f1 (zX (k:=2) f2 (zX (k:=3) f3 (zX (k:=4) f4 (zX (k:=5) f5 (bE (by omega)))))))⟩
theorem rd_ths {n:Nat} {cs:List Value} {x:DataW H × List MemPlace} (h:DataW.trod enc' Tryz.prog w 0 sp held n 27 cs=some x):∃ l:List Th,(l.length≤9223372036854775807∧∀ t∈l,t.stack.length≤9223372036854775807∧t.cf)∧Fits w [.sl (l.map zD)] cs:=by
 obtain⟨xs,hw,hl,hf⟩:=kU (α:=Th) Tryz.underlying27 6 (by kernel_rfl) (by omega) zD (fun t=>t.stack.length≤9223372036854775807∧t.cf) (fun n cs x h=>rd_th h) h
 exact⟨xs,⟨hl,hw⟩,hf⟩
theorem rd_st {n:Nat} {cs:List Value} {x:DataW H × List MemPlace} (h:DataW.trod enc' Tryz.prog w 0 sp held n 30 cs=some x):∃ o:StL,(o.wf∧o.cf)∧Fits w (zZ o) cs:=by
 obtain⟨xs,m,_,_,hcl,hxl,hf⟩:=DataW.trod_struct Tryz.underlying30 h
 have e3:Tryz.prog.cellsOf 3=1:=by kernel_rfl
 have e41:Tryz.prog.cellsOf 26=1:=by kernel_rfl
 have e43:Tryz.prog.cellsOf 28=1:=by kernel_rfl
 have e52:Tryz.prog.cellsOf 27=1:=by kernel_rfl
 have e54:Tryz.prog.cellsOf 30=4:=by kernel_rfl
 have hxl4:xs.length=4:=hxl
 have g0:DataW.trod enc' Tryz.prog w 0 sp held m 27 ((cs.drop 0).take (Tryz.prog.cellsOf 27))=xs[0]?:=hf 0 _ rfl
 have g1:DataW.trod enc' Tryz.prog w 0 sp held m 28 ((cs.drop 1).take (Tryz.prog.cellsOf 28))=xs[1]?:=hf 1 _ rfl
 have g2:DataW.trod enc' Tryz.prog w 0 sp held m 26 ((cs.drop 2).take (Tryz.prog.cellsOf 26))=xs[2]?:=hf 2 _ rfl
 have g3:DataW.trod enc' Tryz.prog w 0 sp held m 3 ((cs.drop 3).take (Tryz.prog.cellsOf 3))=xs[3]?:=hf 3 _ rfl
 simp only[e3,e41,e43,e52] at g0 g1 g2 g3
 rw[List.getElem?_eq_getElem (by omega)] at g0 g1 g2 g3
 obtain⟨a,⟨ha1,ha2⟩,f0⟩:=rd_ths g0
 obtain⟨c,⟨hc1,hc2⟩,f1⟩:=rd_flts g1
 obtain⟨b,hb,f2⟩:=rd_ints g2
 obtain⟨k3,f3⟩:=wR g3
 exact⟨⟨a,c,b,k3⟩,⟨⟨ha1,fun t ht=>(ha2 t ht).1,hc1,hb⟩,hc2,fun t ht=>(ha2 t ht).2⟩,zX (k:=0) f0 (zX (k:=1) f1 (zX (k:=2) f2 (zX (k:=3) f3 (bE (by omega)))))⟩
theorem rd_run {n:Nat} {cs:List Value} {x:DataW H × List MemPlace} (h:DataW.trod enc' Tryz.prog w 0 sp held n 32 cs=some x):∃ o:RunT,(o.wf∧o.s.cf)∧Fits w (encRT o) cs:=by
 obtain⟨xs,m,_,_,hcl,hxl,hf⟩:=DataW.trod_struct Tryz.underlying32 h
 have e3:Tryz.prog.cellsOf 3=1:=by kernel_rfl
 have e41:Tryz.prog.cellsOf 26=1:=by kernel_rfl
 have e51:Tryz.prog.cellsOf 25=1:=by kernel_rfl
 have e54:Tryz.prog.cellsOf 30=4:=by kernel_rfl
 have e56:Tryz.prog.cellsOf 32=7:=by kernel_rfl
 have hxl4:xs.length=4:=hxl
 have g0:DataW.trod enc' Tryz.prog w 0 sp held m 3 ((cs.drop 0).take (Tryz.prog.cellsOf 3))=xs[0]?:=hf 0 _ rfl
 have g1:DataW.trod enc' Tryz.prog w 0 sp held m 25 ((cs.drop 1).take (Tryz.prog.cellsOf 25))=xs[1]?:=hf 1 _ rfl
 have g2:DataW.trod enc' Tryz.prog w 0 sp held m 26 ((cs.drop 2).take (Tryz.prog.cellsOf 26))=xs[2]?:=hf 2 _ rfl
 have g3:DataW.trod enc' Tryz.prog w 0 sp held m 30 ((cs.drop 3).take (Tryz.prog.cellsOf 30))=xs[3]?:=hf 3 _ rfl
 simp only[e3,e41,e51,e54] at g0 g1 g2 g3
 rw[List.getElem?_eq_getElem (by omega)] at g0 g1 g2 g3
 obtain⟨k0,f0⟩:=wR g0
 obtain⟨a,ha,f1⟩:=rd_evs g1
 obtain⟨b,hb,f2⟩:=rd_ints g2
 obtain⟨s,⟨hs1,hs2⟩,f3⟩:=rd_st g3
 exact⟨⟨k0,a,b,s⟩,⟨⟨ha,hb,hs1⟩,hs2⟩,zX (k:=0) f0 (zX (k:=1) f1 (zX (k:=2) f2 (by rw[List.take_of_length_le (by rw[List.length_drop];omega)] at f3;exact f3)))⟩
end
end Ai
namespace Ai
set_option maxRecDepth 100000
open Go Go.Proofs
def PkRn (x:RunT):Prop:=x.tk.length≤200∧aH x.tk 0 999
def IsRn (p:ProgL) (x:RunT):Prop:=p.goodS∧x.tr.length≤200∧PkRn x∧fQ p x.tk x.tk.length=x
theorem cf_run {p:ProgL} (hg:p.goodS) (hv:p.flt) (hc:p.cn) (x:RunT) (h:PkRn x):(fQ p x.tk x.tk.length).s.cf∧(fQ p x.tk x.tk.length).fit:=by
 have hpk:∀ i∈x.tk,0≤i:=fun i hi=>(h.2 i hi).1
 have he:=eP hg hv x.tk x.tk.length hpk (by omega)
 have hcn:=runOf_cn hg hv hc x.tk x.tk.length hpk
 have hs:=((pR hg).small _ he.inv.si).1
 have hle:=he.le
 have hln:=he.len
 have h200:=h.1
 refine⟨⟨fun c hc=>⟨hcn.1 c hc,he.inv.fl.1 c hc⟩,fun t ht c hc=>⟨hcn.2 t ht c hc,he.inv.fl.2 t ht c hc⟩⟩,by omega,by omega,⟨hs.1,hs.2.1,hs.2.2.1,hs.2.2.2⟩⟩
theorem IsRunI_ok (p:ProgL) (hp:p.wf) (hs:p.rs.length≤1048576∧∀ x∈p.rs,x.length≤1048576) (hv:p.flt) (hc:p.cn) (x:RunT) (hx:x.fit) (hf:x.s.cf) :
  CallsTo EE 67 [agg (encProg p),agg (encRT x)] (fun r=>(IsRn p x∧r=.tup [bv true,bv true])∨(¬ IsRn p x∧(r=.tup [bv false,bv true]∨r=.tup [bv false,bv false]))):=by
 refine callsTo_of_AW (fn:=Tryz.f67) Tryz.func67 rfl (by kernel_rfl) rfl ?_
 conv=>whnf
 refine ocase (m3 p hs) (fun hg=>?_) (fun hg=>?_)
 rotate_left 1
 ·conv=>whnf
  exact .inr ⟨fun e=>hg ((eY p).1 e.1),.inr rfl⟩
 have hg:p.goodS:=(eY p).2 hg
 conv=>whnf
 refine kbi (fun h=>?_) (fun h=>?_)
 ·have h:¬ x.tr.length≤200:=by simp at h;omega
  conv=>whnf
  exact .inr ⟨fun e=>h e.2.1,.inr rfl⟩
 have htr:x.tr.length≤200:=by simp at h;omega
 conv=>whnf
 refine ocase (arePicks_ok x.tk 200 hx.tk) (fun hpk=>?_) (fun hpk=>?_)
 rotate_left 1
 ·conv=>whnf
  exact .inr ⟨fun e=>hpk e.2.2.1,.inr rfl⟩
 have hpk:PkRn x:=hpk
 obtain⟨c1,c2⟩:=cf_run hg hv hc x hpk
 have hrun:=r9 p hp hg hv x.tk x.tk.length (fun i hi=>(hpk.2 i hi).1) hx.tk ⟨by omega,by have:=hpk.1;omega⟩
 have e0:((x.tk.map encInt).length:Int)=(x.tk.length:Int):=by simp
 rw[← e0] at hrun
 have hsame:=sameRun_ok _ x c2 c1 hf
 rw[← e0] at hsame
 conv=>whnf
 refine⟨by kernel_rfl,?_⟩
 conv=>whnf
 refine⟨_,hrun,?_⟩
 conv=>whnf
 refine qcase hsame (fun h=>?_) (fun h=>?_)
 all_goals rw[e0] at h
 ·conv=>whnf
  exact .inl ⟨⟨hg,htr,hpk,h⟩,rfl⟩
 ·conv=>whnf
  exact .inr ⟨fun e=>h e.2.2.2,.inl rfl⟩
theorem isRunI_ok (p:ProgL) (hp:p.wf) (hs:p.rs.length≤1048576∧∀ x∈p.rs,x.length≤1048576) (hv:p.flt) (hc:p.cn) (x:RunT) (hx:x.fit) (hf:x.s.cf) :
  CallsTo EE 36 [agg (encProg p),agg (encRT x)] (·=bp (IsRn p x)):=by
 refine callsTo_of_AW (fn:=Tryz.f36) Tryz.func36 rfl (by kernel_rfl) rfl ?_
 conv=>whnf
 refine⟨_,IsRunI_ok p hp hs hv hc x hx hf,?_⟩
 rintro r (⟨h,rfl⟩|⟨h,rfl|rfl⟩)
 ·conv=>whnf
  exact bpt h
 ·conv=>whnf
  exact bpf h
 ·conv=>whnf
  exact bpf h
end Ai
namespace Ai
set_option maxRecDepth 100000
open Go Go.Proofs
theorem rU (a b:List Ev) (hx:a.length≤1048576):CallsTo EE 96 [sl (a.map encEv),sl (b.map encEv)] (·=bp (a=b)):=by
 refine callsTo_of_AW (fn:=Tryz.f96) Tryz.func96 rfl (by kernel_rfl) rfl ?_
 conv=>whnf
 refine kbi (fun h=>?_) (fun h=>?_)
 ·have h:¬ a.length=b.length:=by simp at h;omega
  conv=>whnf
  exact bpf fun e=>h (by rw[e])
 have h:a.length=b.length:=by simp at h;omega
 conv=>whnf
 refine yJ (fun k:Nat=>[(0,sl (a.map encEv)),(1,sl (b.map encEv)),(12,i64 (a.map encEv).length),(13,i64 k)]) (fun k=>[]) (fun k=>a.length - k) (fun k=>k≤a.length∧a.take k=b.take k) 0
  Weak.refl ⟨rfl,rfl,rfl,rfl,trivial⟩ trivial ⟨Nat.zero_le _,by simp⟩ ?_
 rintro k τ H ⟨hk,he⟩
 have hk:k≤a.length:=hk
 conv=>whnf
 refine kbi (fun h2=>?_) (fun h2=>?_)
 ·have hlt:=yF h2
  have hltb:k<b.length:=by omega
  conv=>whnf
  refine⟨by kernel_rfl,?_⟩
  conv=>whnf
  refine⟨encEv a[k],zL encEv hlt rfl,?_⟩
  conv=>whnf
  refine⟨encEv b[k],zL encEv hltb rfl,?_⟩
  conv=>whnf
  refine kbi (fun h3=>?_) (fun h3=>?_)
  ·have h3:¬ a[k]=b[k]:=fun e=>by
    rw[e] at h3
    simp at h3
   conv=>whnf
   exact bpf (tI hlt hltb h3)
  ·have h3:a[k]=b[k]:=ev_eq.2 (by simpa using h3)
   conv=>whnf
   exact⟨k+1,⟨hlt,wD hlt hltb he h3⟩,by show a.length - (k+1)<a.length - k;omega,⟨rfl,rfl,rfl,zF hlt (by omega),trivial⟩,trivial⟩
 ·have hge:a.length≤k:=by simpa using h2
  conv=>whnf
  exact bpt (wM (by omega) (by omega) he)
theorem iN (a b:List Int) (hx:a.length≤1048576):CallsTo EE 97 [sl (a.map encInt),sl (b.map encInt)] (·=bp (a=b)):=by
 refine callsTo_of_AW (fn:=Tryz.f97) Tryz.func97 rfl (by kernel_rfl) rfl ?_
 conv=>whnf
 refine kbi (fun h=>?_) (fun h=>?_)
 ·have h:¬ a.length=b.length:=by simp at h;omega
  conv=>whnf
  exact bpf fun e=>h (by rw[e])
 have h:a.length=b.length:=by simp at h;omega
 conv=>whnf
 refine yJ (fun k:Nat=>[(0,sl (a.map encInt)),(1,sl (b.map encInt)),(12,i64 (a.map encInt).length),(13,i64 k)]) (fun k=>[]) (fun k=>a.length - k) (fun k=>k≤a.length∧a.take k=b.take k) 0
  Weak.refl ⟨rfl,rfl,rfl,rfl,trivial⟩ trivial ⟨Nat.zero_le _,by simp⟩ ?_
 rintro k τ H ⟨hk,he⟩
 have hk:k≤a.length:=hk
 conv=>whnf
 refine kbi (fun h2=>?_) (fun h2=>?_)
 ·have hlt:=yF h2
  have hltb:k<b.length:=by omega
  conv=>whnf
  refine⟨by kernel_rfl,?_⟩
  conv=>whnf
  refine⟨encInt a[k],zL encInt hlt rfl,?_⟩
  conv=>whnf
  refine⟨encInt b[k],zL encInt hltb rfl,?_⟩
  conv=>whnf
  refine kbi (fun h3=>?_) (fun h3=>?_)
  ·have h3:¬ a[k]=b[k]:=by simpa using h3
   conv=>whnf
   exact bpf (tI hlt hltb h3)
  ·have h3:a[k]=b[k]:=by simpa using h3
   conv=>whnf
   exact⟨k+1,⟨hlt,wD hlt hltb he h3⟩,by show a.length - (k+1)<a.length - k;omega,⟨rfl,rfl,rfl,zF hlt (by omega),trivial⟩,trivial⟩
 ·have hge:a.length≤k:=by simpa using h2
  conv=>whnf
  exact bpt (wM (by omega) (by omega) he)
theorem dS (a b:List Nat) (hx:a.length≤1048576) (ha:∀ x∈a,CF x) (hb:∀ x∈b,CF x):CallsTo EE 144 [sl (a.map encF),sl (b.map encF)] (·=bp (a=b)):=by
 refine callsTo_of_AW (fn:=Tryz.f144) Tryz.func144 rfl (by kernel_rfl) rfl ?_
 conv=>whnf
 refine kbi (fun h=>?_) (fun h=>?_)
 ·have h:¬ a.length=b.length:=by simp at h;omega
  conv=>whnf
  exact bpf fun e=>h (by rw[e])
 have h:a.length=b.length:=by simp at h;omega
 conv=>whnf
 refine yJ (fun k:Nat=>[(0,sl (a.map encF)),(1,sl (b.map encF)),(12,i64 (a.map encF).length),(13,i64 k)]) (fun k=>[]) (fun k=>a.length - k) (fun k=>k≤a.length∧a.take k=b.take k) 0
  Weak.refl ⟨rfl,rfl,rfl,rfl,trivial⟩ trivial ⟨Nat.zero_le _,by simp⟩ ?_
 rintro k τ H ⟨hk,he⟩
 have hk:k≤a.length:=hk
 conv=>whnf
 refine kbi (fun h2=>?_) (fun h2=>?_)
 ·have hlt:=yF h2
  have hltb:k<b.length:=by omega
  have c1:=ha _ (List.getElem_mem hlt)
  have c2:=hb _ (List.getElem_mem hltb)
  conv=>whnf
  refine⟨by kernel_rfl,?_⟩
  conv=>whnf
  refine⟨encF a[k],zL encF hlt rfl,?_⟩
  conv=>whnf
  refine⟨encF b[k],zL encF hltb rfl,?_⟩
  conv=>whnf
  refine qcase (mJ a[k] b[k]) (fun h3=>?_) (fun h3=>?_)
  ·have h3:a[k]=b[k]:=(lN c1.1 c2.1 c1.2 c2.2).1 h3
   conv=>whnf
   exact⟨k+1,⟨hlt,wD hlt hltb he h3⟩,by show a.length - (k+1)<a.length - k;omega,⟨rfl,rfl,rfl,zF hlt (by omega),trivial⟩,trivial⟩
  ·have h3:¬ a[k]=b[k]:=fun e=>h3 ((lN c1.1 c2.1 c1.2 c2.2).2 e)
   conv=>whnf
   exact bpf (tI hlt hltb h3)
 ·have hge:a.length≤k:=by simpa using h2
  conv=>whnf
  exact bpt (wM (by omega) (by omega) he)
end Ai
namespace Ai
set_option maxRecDepth 100000
open Go Go.Proofs
theorem th_eq {x y:Th} (a1:x.rt=y.rt) (a2:x.pc=y.pc) (a3:x.st=y.st) (a4:x.cond=y.cond) (a5:x.lock=y.lock) (a6:x.stack=y.stack):x=y:=by
 cases x;cases y
 simp only at a1 a2 a3 a4 a5 a6
 subst a1 a2 a3 a4 a5 a6
 rfl
theorem aY (x y:StL) (hx:x.fit) (h1:x.cf) (h9:y.cf):CallsTo EE 98 [agg (zZ x),agg (zZ y)] (·=bp (x=y)):=by
 refine callsTo_of_AW (fn:=Tryz.f98) Tryz.func98 rfl (by kernel_rfl) rfl ?_
 conv=>whnf
 refine kbi (fun h=>?_) (fun h=>?_)
 ·have h:¬ x.ths.length=y.ths.length:=by simp at h;omega
  conv=>whnf
  exact bpf fun e=>h (by rw[e])
 have h:x.ths.length=y.ths.length:=by simp at h;omega
 conv=>whnf
 refine ocase (dS x.cells y.cells hx.cells h1.1 h9.1) (fun e3=>?_) (fun h=>?_)
 rotate_left 1
 ·conv=>whnf
  exact bpf fun e=>h (by rw[e])
 conv=>whnf
 refine ocase (iN x.owner y.owner hx.owner) (fun e2=>?_) (fun h=>?_)
 rotate_left 1
 ·conv=>whnf
  exact bpf fun e=>h (by rw[e])
 conv=>whnf
 refine kbi (fun h=>?_) (fun h=>?_)
 ·have h:¬ x.fault=y.fault:=by simpa using h
  conv=>whnf
  exact bpf fun e=>h (by rw[e])
 have e1:x.fault=y.fault:=by simpa using h
 conv=>whnf
 refine yJ (fun k:Nat=>[(2,.ptr (.n 2) 0),(3,.ptr (.n 3) 0),(39,sl (x.ths.map zD)),(40,i64 (x.ths.map zD).length),(41,i64 k)]) (fun k=>[(.n 2,.vs 44 ((zZ x).map .d)),(.n 3,.vs 44 ((zZ y).map .d))]) (fun k=>x.ths.length - k) (fun k=>k≤x.ths.length∧x.ths.take k=y.ths.take k) 0
  Weak.refl ⟨rfl,rfl,rfl,rfl,rfl,trivial⟩ ⟨rfl,rfl,trivial⟩ ⟨Nat.zero_le _,by simp⟩ ?_
 rintro k τ H ⟨hk,he⟩
 have hk:k≤x.ths.length:=hk
 conv=>whnf
 refine kbi (fun h2=>?_) (fun h2=>?_)
 ·have hlt:=yF h2
  have hltb:k<y.ths.length:=by omega
  have c1:=h1.2 _ (List.getElem_mem hlt)
  have c2:=h9.2 _ (List.getElem_mem hltb)
  conv=>whnf
  refine⟨zD x.ths[k],zL zD hlt rfl,?_⟩
  conv=>whnf
  refine⟨zD y.ths[k],zL zD hltb rfl,?_⟩
  conv=>whnf
  refine kbi (fun h=>?_) (fun h=>?_)
  ·have h:¬ x.ths[k].rt=y.ths[k].rt:=by simpa using h
   conv=>whnf
   exact bpf fun e=>h (by subst e;rfl)
  have a1:x.ths[k].rt=y.ths[k].rt:=by simpa using h
  conv=>whnf
  refine kbi (fun h=>?_) (fun h=>?_)
  ·have h:¬ x.ths[k].pc=y.ths[k].pc:=by simpa using h
   conv=>whnf
   exact bpf fun e=>h (by subst e;rfl)
  have a2:x.ths[k].pc=y.ths[k].pc:=by simpa using h
  conv=>whnf
  refine kbi (fun h=>?_) (fun h=>?_)
  ·have h:¬ x.ths[k].st=y.ths[k].st:=by simpa using h
   conv=>whnf
   exact bpf fun e=>h (by subst e;rfl)
  have a3:x.ths[k].st=y.ths[k].st:=by simpa using h
  conv=>whnf
  refine kbi (fun h=>?_) (fun h=>?_)
  ·have h:¬ x.ths[k].cond=y.ths[k].cond:=by simpa using h
   conv=>whnf
   exact bpf fun e=>h (by subst e;rfl)
  have a4:x.ths[k].cond=y.ths[k].cond:=by simpa using h
  conv=>whnf
  refine kbi (fun h=>?_) (fun h=>?_)
  ·have h:¬ x.ths[k].lock=y.ths[k].lock:=by simpa using h
   conv=>whnf
   exact bpf fun e=>h (by subst e;rfl)
  have a5:x.ths[k].lock=y.ths[k].lock:=by simpa using h
  conv=>whnf
  refine ocase (dS x.ths[k].stack y.ths[k].stack (hx.st _ (List.getElem_mem hlt)) c1 c2) (fun a6=>?_) (fun h=>?_)
  rotate_left 1
  ·conv=>whnf
   exact bpf fun e=>h (by subst e;rfl)
  have a7:x.ths[k]=y.ths[k]:=th_eq a1 a2 a3 a4 a5 a6
  conv=>whnf
  exact⟨k+1,⟨hlt,wD hlt hltb he a7⟩,by show x.ths.length - (k+1)<x.ths.length - k;have:=hlt;omega,⟨rfl,rfl,rfl,rfl,zF hlt (Nat.le_trans hx.ths (by omega)),trivial⟩,⟨rfl,rfl,trivial⟩⟩
 ·have hge:x.ths.length≤k:=by simpa using h2
  have e4:=wM (by omega) (by omega) he
  conv=>whnf
  refine bpt ?_
  clear h1 h9 hx
  cases x;cases y
  simp only at e1 e2 e3 e4
  subst e1 e2 e3 e4
  rfl
theorem w5 (x y:RunT) (hx:x.fit) (h1:x.s.cf) (h2:y.s.cf):CallsTo EE 58 [agg (encRT x),agg (encRT y)] (·=bp (x=y)):=by
 refine callsTo_of_AW (fn:=Tryz.f58) Tryz.func58 rfl (by kernel_rfl) rfl ?_
 conv=>whnf
 refine kbi (fun h=>?_) (fun h=>?_)
 rotate_left 1
 ·have h:¬ x.c=y.c:=by simpa using h
  conv=>whnf
  exact bpf fun e=>h (by rw[e])
 have e1:x.c=y.c:=by simpa using h
 conv=>whnf
 refine ocase (rU x.tr y.tr hx.tr) (fun e2=>?_) (fun h=>?_)
 rotate_left 1
 ·conv=>whnf
  exact bpf fun e=>h (by rw[e])
 conv=>whnf
 refine ocase (iN x.tk y.tk hx.tk) (fun e3=>?_) (fun h=>?_)
 rotate_left 1
 ·conv=>whnf
  exact bpf fun e=>h (by rw[e])
 conv=>whnf
 refine ocase (aY x.s y.s hx.s h1 h2) (fun e4=>?_) (fun h=>?_)
 rotate_left 1
 ·conv=>whnf
  exact bpf fun e=>h (by rw[e])
 conv=>whnf
 refine bpt ?_
 cases x;cases y
 simp only at e1 e2 e3 e4
 subst e1 e2 e3 e4
 rfl
end Ai
namespace Ai
set_option maxRecDepth 100000
open Go Go.Proofs
theorem l4Is_ok (p:ProgL) (hp:p.wf) (hg:p.goodS) (hv:p.flt) (hc:p.cn) (x:RunT) (hx:x.fit) (hf:x.s.cf) :
  CallsTo EE 30 [agg (encProg p),agg (encRT x)] (·=bp (IsRn p x)):=by
 refine callsTo_of_AW (fn:=Tryz.f30) Tryz.func30 rfl (by kernel_rfl) rfl ?_
 conv=>whnf
 refine⟨by kernel_rfl,?_⟩
 conv=>whnf
 refine kbi (fun h=>?_) (fun h=>?_)
 rotate_left 1
 ·have h:¬ x.tr.length≤200:=by simp at h;omega
  conv=>whnf
  exact bpf fun e=>h e.2.1
 have htr:x.tr.length≤200:=by simp at h;omega
 conv=>whnf
 refine qcase (l4Picks_ok x.tk hx.tk) (fun hpk=>?_) (fun hpk=>?_)
 rotate_left 1
 ·conv=>whnf
  exact bpf fun e=>hpk e.2.2.1
 have hpk:PkRn x:=hpk
 obtain⟨c1,c2⟩:=cf_run hg hv hc x hpk
 have hrun:=l4Run_of p hp hg x.tk x.tk.length (fun i hi=>(hpk.2 i hi).1) hx.tk ⟨by omega,by have:=hpk.1;omega⟩
 have e0:((x.tk.map encInt).length:Int)=(x.tk.length:Int):=by simp
 rw[← e0] at hrun
 have hsame:=w5 _ x c2 c1 hf
 rw[← e0] at hsame
 conv=>whnf
 refine⟨_,hrun,?_⟩
 conv=>whnf
 refine qcase hsame (fun h=>?_) (fun h=>?_)
 all_goals rw[e0] at h
 ·conv=>whnf
  exact bpt ⟨hg,htr,hpk,h⟩
 ·conv=>whnf
  exact bpf fun e=>h e.2.2.2
end Ai
namespace Ai
set_option maxRecDepth 100000
open Go Go.Proofs
theorem tS {p:ProgL} (hv:p.flt) {x:RunT} (h:IsRn p x):REnd p x.tk.length x:=by
 have:=eP h.1 hv x.tk x.tk.length (fun i hi=>(h.2.2.1.2 i hi).1) (by omega)
 rwa [h.2.2.2] at this
end Ai
namespace Ai
set_option maxRecDepth 100000
open Go Go.Proofs Cyc
open Classical in
/-- the answer of SignOf -/
noncomputable def kL (p:ProgL) (x:RunT):List UInt8 × Bool:=if IsRn p x then (eM p x,true) else ([],false)
theorem isRn_tk {p:ProgL} (hv:p.flt) {x:RunT} (h:IsRn p x):(x.tk.length:Int)≤1048576:=by
 have:=(tS hv h).len
 have:=h.2.1
 omega
theorem SignOfS_ok (p:ProgL) (hp:p.wf) (hs:p.rs.length≤1048576∧∀ x∈p.rs,x.length≤1048576) (hv:p.flt) (hc:p.cn) (x:RunT) (hx:x.fit) (hf:x.s.cf) :
  CallsTo EE 9 [agg (encProg p),agg (encRT x)] (·=.tup [sv (kL p x).1,bv (kL p x).2]):=by
 classical
 unfold kL
 refine callsTo_of_AW (fn:=Tryz.f9) Tryz.func9 rfl (by kernel_rfl) rfl ?_
 conv=>whnf
 refine ocase (mX p hs hv) (fun hg=>?_) (fun hg=>?_)
 rotate_left 1
 ·rw[if_neg fun e=>hg e.1]
  conv=>whnf
  try rfl
 conv=>whnf
 refine ocase (l4Is_ok p hp hg hv hc x hx hf) (fun hi=>?_) (fun hi=>?_)
 rotate_left 1
 ·rw[if_neg hi]
  conv=>whnf
  try rfl
 rw[if_pos hi]
 conv=>whnf
 refine⟨_,l4Sign_ok p hp hg hv _ x (tS hv hi) (isRn_tk hv hi),?_⟩
 rintro r rfl
 conv=>whnf
 try rfl
theorem SignOfI_ok (p:ProgL) (hp:p.wf) (hs:p.rs.length≤1048576∧∀ x∈p.rs,x.length≤1048576) (hv:p.flt) (hc:p.cn) (x:RunT) (hx:x.fit) (hf:x.s.cf) :
  CallsTo EE 12 [agg (encProg p),agg (encRT x)] (·=.tup [sv (kL p x).1,bv (kL p x).2]):=by
 classical
 unfold kL
 refine callsTo_of_AW (fn:=Tryz.f12) Tryz.func12 rfl (by kernel_rfl) rfl ?_
 conv=>whnf
 refine ocase (isRunI_ok p hp hs hv hc x hx hf) (fun hi=>?_) (fun hi=>?_)
 rotate_left 1
 ·rw[if_neg hi]
  conv=>whnf
  try rfl
 rw[if_pos hi]
 conv=>whnf
 refine⟨_,signOf_ok p hp hi.1 _ x (tS hv hi) (isRn_tk hv hi),?_⟩
 rintro r rfl
 conv=>whnf
 try rfl
end Ai
