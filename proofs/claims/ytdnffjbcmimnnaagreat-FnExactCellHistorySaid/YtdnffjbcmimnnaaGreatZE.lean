import Derived.Test.YtdnffjbcmimnnaaGreatZD
set_option maxHeartbeats 8000000
set_option linter.unusedVariables false
set_option linter.unusedSimpArgs false
namespace Ai
set_option maxRecDepth 100000
open Go Go.Proofs
theorem draw13 {p:ProgL} {s s1:StL} {ev:Ev} {tr:List Ev} {tk:List Int} {kk:Int} {w:Nat} {budget:Int} {g:FuncId} {c:List D} (hk0:0≤kk) (hen:((zA p s).map wZ)[kk.toNat]?=some (wZ w)) (htr:tr.length≤1048576)
  (hst:∀ (v0 v1:Value) (H0:Key→Option Ob),AtC 56 [i64 0,.lit v0,.lit v1] s H0→IOCall EE 92 [.ptr (.l 0) 3,agg (encProg p),i64 w] H0 (fun r H1=>r=agg (encEv ev)∧H1=stHC 56 [i64 0,.lit v0,.lit v1] s1))
  (Q:AX→St→Prop) (S:St) (h:R13 p s s1 ev tr tk kk w budget g c (fun _=>false) S) (hQ:∀ L S',(∀ i,i<13→L i=true)→R13 p s s1 ev tr tk kk w budget g c L S'→Q .normal S'):ADrawI EE Tryz.f160.ntmps ops13 Q S:=by
 refine⟨R13 p s s1 ev tr tk kk w budget g c,h,?_,fun L S' hL hS=>hQ L S' hL hS,by kernel_rfl,trivial⟩
 intro i o ho L S hL hd hI
 match i,ho,hL with
 | 0,ho,hL =>
  obtain rfl:ops13[0]'(by decide)=o:=Option.some.inj (show some (ops13[0]'(by decide))=some o from ho)
  exact op13_0 L S hI hL
 | 1,ho,hL =>
  obtain rfl:ops13[1]'(by decide)=o:=Option.some.inj (show some (ops13[1]'(by decide))=some o from ho)
  have k0:L 0=true:=hd _ (Array.getElem_mem (i:=0) (by decide)) rfl
  exact op13_1 L S hI hL k0
 | 2,ho,hL =>
  obtain rfl:ops13[2]'(by decide)=o:=Option.some.inj (show some (ops13[2]'(by decide))=some o from ho)
  exact op13_2 L S hI hL
 | 3,ho,hL =>
  obtain rfl:ops13[3]'(by decide)=o:=Option.some.inj (show some (ops13[3]'(by decide))=some o from ho)
  exact op13_3 L S hI hL
 | 4,ho,hL =>
  obtain rfl:ops13[4]'(by decide)=o:=Option.some.inj (show some (ops13[4]'(by decide))=some o from ho)
  exact op13_4 L S hI hL
 | 5,ho,hL =>
  obtain rfl:ops13[5]'(by decide)=o:=Option.some.inj (show some (ops13[5]'(by decide))=some o from ho)
  exact op13_5 L S hI hL
 | 6,ho,hL =>
  obtain rfl:ops13[6]'(by decide)=o:=Option.some.inj (show some (ops13[6]'(by decide))=some o from ho)
  have k4:L 4=true:=hd _ (Array.getElem_mem (i:=0) (by decide)) rfl
  have k5:L 5=true:=hd _ (Array.getElem_mem (i:=1) (by decide)) rfl
  exact op13_6 hk0 hen L S hI hL k4 k5
 | 7,ho,hL =>
  obtain rfl:ops13[7]'(by decide)=o:=Option.some.inj (show some (ops13[7]'(by decide))=some o from ho)
  have k6:L 6=true:=hd _ (Array.getElem_mem (i:=0) (by decide)) rfl
  exact op13_7 L S hI hL k6
 | 8,ho,hL =>
  obtain rfl:ops13[8]'(by decide)=o:=Option.some.inj (show some (ops13[8]'(by decide))=some o from ho)
  have k2:L 2=true:=hd _ (Array.getElem_mem (i:=0) (by decide)) rfl
  have k3:L 3=true:=hd _ (Array.getElem_mem (i:=1) (by decide)) rfl
  have k7:L 7=true:=hd _ (Array.getElem_mem (i:=2) (by decide)) rfl
  exact op13_8 hst L S hI hL k2 k3 k7
 | 9,ho,hL =>
  obtain rfl:ops13[9]'(by decide)=o:=Option.some.inj (show some (ops13[9]'(by decide))=some o from ho)
  have k8:L 8=true:=hd _ (Array.getElem_mem (i:=0) (by decide)) rfl
  exact op13_9 L S hI hL k8
 | 10,ho,hL =>
  obtain rfl:ops13[10]'(by decide)=o:=Option.some.inj (show some (ops13[10]'(by decide))=some o from ho)
  have k1:L 1=true:=hd _ (Array.getElem_mem (i:=0) (by decide)) rfl
  have k8:L 8=true:=hd _ (Array.getElem_mem (i:=2) (by decide)) rfl
  have k9:L 9=true:=hd _ (Array.getElem_mem (i:=1) (by decide)) rfl
  exact op13_10 htr L S hI hL k1 k8 k9
 | 11,ho,hL =>
  obtain rfl:ops13[11]'(by decide)=o:=Option.some.inj (show some (ops13[11]'(by decide))=some o from ho)
  exact op13_11 L S hI hL
 | 12,ho,hL =>
  obtain rfl:ops13[12]'(by decide)=o:=Option.some.inj (show some (ops13[12]'(by decide))=some o from ho)
  have k10:L 10=true:=hd _ (Array.getElem_mem (i:=1) (by decide)) rfl
  have k11:L 11=true:=hd _ (Array.getElem_mem (i:=0) (by decide)) rfl
  exact op13_12 L S hI hL k10 k11
 |n+13,ho,hL =>
  have h1:n+13<ops13.size:=(Array.getElem?_eq_some_iff.1 ho).1
  have h2:ops13.size=13:=by decide
  omega
theorem runI_ok (hI:yO) (p:ProgL) (hp:p.wf) (h1:InR p.cells 0 1048576) (h2:InR p.locks 0 1048576) (Inv:StL→Prop) (hI0:Inv (xV p)) (hok:RunI p Inv) (budget:Int) (hb:InR budget 0 1048576) (g:FuncId) (c:List D)
  (pk:List Nat→Nat→Int) (hg:∀ (en:List Nat) (n:Nat),en≠[]→CallsTo EE g [sl (en.map wZ),i64 n,.fp c] (·=i64 (pk en n))) (hpk:∀ en:List Nat,∀ n,en≠[]→0≤pk en n∧pk en n<en.length) :
  CallsTo EE 160 [agg (encProg p),i64 budget,.fn g [.fp c]] (·=.ownF 8 (lP (bH p pk budget (budget.toNat+1) (xV p) [] [])++[bv true])):=by
 refine callsTo_of_AW (fn:=Tryz.f160) Tryz.func160 rfl (by kernel_rfl) rfl ?_
 conv=>whnf
 refine⟨_,n6 p h1 h2,?_⟩
 rintro r rfl
 conv=>whnf
 refine fM (fun x:StL × List Ev × List Int=>[(1,i64 budget),(2,.fn g [.fp c]),(3,.ptr (.n 3) 0),(6,.ptr (.n 6) 0),(7,bv false),(8,.ptr (.n 8) 0),(9,i64 x.2.1.length)]) (fun x=>oRI p x.1 x.2.1 x.2.2) (fun x=>[(900,zK x.1.ths)]) (fun x=>budget.toNat - x.2.1.length)
  (fun x=>Inv x.1∧x.2.1.length=x.2.2.length∧(x.2.1.length:Int)≤budget∧bH p pk budget (budget.toNat+1 - x.2.1.length) x.1 x.2.1 x.2.2=bH p pk budget (budget.toNat+1) (xV p) [] []) (xV p,[],[])
  Weak.refl ?_ ?_ ?_ ⟨hI0,rfl,hb.1,rfl⟩ ?_
 ·exact⟨rfl,rfl,rfl,rfl,rfl,rfl,rfl,trivial⟩
 ·refine⟨rfl,rfl,?_,rfl,rfl,?_,?_,?_,trivial⟩
  ·show some (Ob.vs 56 [i64 0,.ref (.n 12) 0 0,.ref (.n 13) 0 0,.dref (.n 900) ((xV p).ths.map vR).length,.ref (.n 901) 0 ((xV p).cells.map encF).length,.ref (.n 902) 0 ((xV p).owner.map encInt).length,i64 0])=some (Ob.vs 56 [i64 0,.ref (.n 12) 0 0,.ref (.n 13) 0 0,.dref (.n 900) (xV p).ths.length,.ref (.n 901) 0 (xV p).cells.length,.ref (.n 902) 0 (xV p).owner.length,i64 0])
   rw[List.length_map,List.length_map,List.length_map]
  ·conv=>lhs;whnf
   refine congrArg some ?_
   repeat (first|exact rfl|refine yJ ?_ (congrArg (Ob.rs 175 6) (zV fun _ _=>rfl)))
  ·rfl
  ·rfl
 ·refine⟨fun j=>?_,trivial⟩
  conv=>lhs;whnf
  repeat (first|exact x3 (xV p) j|(refine hscrO ?_ (zQ _ _ _);conv=>lhs;whnf))
 rintro⟨s,tr,tk⟩ τ H ⟨hinv,hlen,hle,hrun⟩
 have hs:=hok.small s hinv
 conv=>whnf
 refine .inl ⟨[.fp (yL s),agg (encProg p)],[],_,⟨_,_,rfl,fz_run (x0:=i64 0) (x1:=.ref (.n 12) 0 tr.length) (x2:=.ref (.n 13) 0 tk.length) rfl ⟨rfl,fun j hj=>thFam_self hj,rfl,rfl⟩,_,_,rfl,q6 p,rfl⟩,rfl,enabledI_ok hI p s hp hs.1 (hok.seen s hinv),?_⟩
 rintro r rfl
 refine⟨?_,.inl ?_⟩
 ·intro c hc
  obtain⟨y,_,rfl⟩:=List.mem_map.1 hc
  rfl
 conv=>whnf
 refine .inl ⟨[agg (encProg p),.fp (yL s),sl ((zA p s).map wZ),i64 tr.length,i64 budget],[],_,⟨_,_,rfl,q6 p,_,_,rfl,fz_run (x0:=i64 0) (x1:=.ref (.n 12) 0 tr.length) (x2:=.ref (.n 13) 0 tk.length) rfl ⟨rfl,fun j hj=>thFam_self hj,rfl,rfl⟩,_,_,rfl,rfl,_,_,rfl,rfl,_,_,rfl,rfl,rfl⟩,rfl,codeOf_ok p s tr.length budget hs.1,?_⟩
 rintro r rfl
 refine⟨rfl,?_⟩
 conv=>whnf
 have hfuel:budget.toNat+1 - tr.length=(budget.toNat - tr.length)+1:=by
  have:(tr.length:Int)≤budget:=hle
  omega
 have hrun:bH p pk budget (budget.toNat+1 - tr.length) s tr tk=_:=hrun
 rw[hfuel] at hrun
 refine kbi (fun hc=>?_) (fun hc=>?_)
 ·have hc:xA p s tr.length budget≠0:=by simpa using hc
  conv=>whnf
  refine .inl ⟨[agg (yL s)],[],_,⟨_,_,rfl,⟨yL s,rfl,o8 ⟨rfl,fun j hj=>thFam_self hj,rfl,rfl⟩ rfl rfl rfl⟩,rfl⟩,rfl,copied_ok s hs.1,?_⟩
  rintro r rfl
  refine⟨tY s,?_⟩
  conv=>whnf
  refine .inr ⟨8,lP (xA p s tr.length budget,tr,tk,s)++[bv true],_,[.agg [i64 (xA p s tr.length budget),.ref (.n 901) 0 tr.length,.ref (.n 902) 0 tk.length,.dref (.n 903) s.ths.length,.ref (.n 904) 0 s.cells.length,.ref (.n 905) 0 s.owner.length,i64 s.fault],bv true],(gV shA).trans (gV shB),?_,(by simp),?_,?_,jM ⟨trivial,?_,?_,⟨?_,fun j q hq=>?_⟩,?_,?_,trivial,trivial,trivial⟩,?_⟩
  ·show some [.agg [i64 (xA p s tr.length budget),.ref (.n 901) 0 tr.length,.ref (.n 902) 0 tk.length,.dref (.n 903) (s.ths.map vR).length,.ref (.n 904) 0 (s.cells.map encF).length,.ref (.n 905) 0 (s.owner.map encInt).length,i64 s.fault],bv true]=_
   rw[List.length_map,List.length_map,List.length_map]
  ·simp[lP,vM,ownR,ownR1,jX]
  ·intro v hv
   simp only[lP,vM,List.mem_append,List.mem_cons,List.not_mem_nil,or_false] at hv
   rcases hv with ((rfl|rfl|rfl)|(rfl|rfl|rfl|rfl))|rfl
   all_goals first|trivial|(show(s.ths.map vR).length=(s.ths.map stk).length;simp)
  ·rfl
  ·rfl
  ·conv=>lhs;whnf
   show some (Ob.rs 175 6 (((thRows 900 s.ths).map (renL (mkSh numA pN).f)).map (renL (mkSh numB iQ).f)))=some (Ob.rs 175 6 (thRows 903 s.ths))
   rw[gA,gA]
   rfl
  ·have hq:(s.ths.map stk)[j]?=some q:=hq
   rw[List.getElem?_map] at hq
   obtain⟨t,ht,rfl⟩:=Option.map_eq_some_iff.1 hq
   have e:∀ X:Option Ob,X=zK s.ths j→(X.map (renO shA.f)).map (renO shB.f)=some (.ds 132 1 (stk t)):=by
    rintro _ rfl
    rw[thFam_ren,thFam_ren,zK,ht];rfl
   refine e _ ?_
   show(match ownH (vM s) (.s 900 j) with|some ob=>some ob|none=>_)=zK s.ths j
   show(match ((s.ths.map stk)[j]?).map (Ob.ds 132 1) with|some ob=>some ob|none=>_)=_
   rw[List.getElem?_map,zK,ht]
   rfl
  ·rfl
  ·rfl
  ·rw[← hrun]
   simp only[bH,if_pos hc]
 have hc:¬ xA p s tr.length budget≠0:=by simpa using hc
 have hc:xA p s tr.length budget=0:=by simpa using hc
 conv=>whnf
 have hen:zA p s≠[]:=by
  intro he
  have:=hc
  unfold xA at this
  by_cases hf:s.fault≠0
  ·rw[if_pos hf] at this;exact absurd this (by decide)
  ·rw[if_neg hf,if_pos he] at this;split at this <;> exact absurd this (by decide)
 refine⟨_,hg (zA p s) tr.length hen,?_⟩
 rintro r rfl
 have hlb:(tr.length:Int)≠budget:=by
  intro he
  have:=hc
  unfold xA at this
  by_cases hf:s.fault≠0
  ·rw[if_pos hf] at this;exact absurd this (by decide)
  ·rw[if_neg hf,if_neg hen,if_pos he] at this;exact absurd this (by decide)
 obtain⟨hk1,hk2⟩:=hpk (zA p s) tr.length hen
 have hrun2:bH p pk budget (budget.toNat - tr.length) (zM p s ((zA p s).getD (pk (zA p s) tr.length).toNat 0)).1 (tr++[(zM p s ((zA p s).getD (pk (zA p s) tr.length).toNat 0)).2]) (tk++[pk (zA p s) tr.length])=bH p pk budget (budget.toNat+1) (xV p) [] []:=by
  rw[← hrun];simp only[bH,hc];rfl
 generalize hkv:pk (zA p s) tr.length=kk at *
 have hkl:kk.toNat<(zA p s).length:=by omega
 have hmem:(zA p s).getD kk.toNat 0∈zA p s:=by rw[List.getD_eq_getElem?_getD,List.getElem?_eq_getElem hkl];exact List.getElem_mem hkl
 have hwl:(zA p s).getD kk.toNat 0<s.ths.length:=by have:=(List.mem_filter.1 hmem).1;simpa using this
 conv=>whnf
 refine kbi (fun hk=>?_) (fun hk=>?_)
 ·have hk:kk<0:=by simpa using hk
  omega
 conv=>whnf
 have hlen':tr.length=tk.length:=hlen
 have hle':(tr.length:Int)≤budget:=hle
 have hb2:=hb.2
 refine⟨⟨rfl,by show(tk.length+1)*8≤_;omega,by show tk.length+1≤_;omega⟩,?_⟩
 conv=>whnf
 generalize hwd:(zA p s).getD kk.toNat 0=w at *
 have hen13:((zA p s).map wZ)[kk.toNat]?=some (wZ w):=by rw[← hwd];exact en_get hkl
 have htr:tr.length≤1048576:=by omega
 refine .inr (.inr (.inl (draw13 (p:=p) (s:=s) (s1:=(zM p s w).1) (ev:=(zM p s w).2) (tr:=tr) (tk:=tk) (kk:=kk) (w:=w) (budget:=budget) (g:=g) (c:=c) hk1 hen13 htr
  (fun v0 v1 H0 hH=>stepI_ok hI 56 (i64 0) (.lit v0) (.lit v1) (inert_d _) (oC _) (oC _) p s w hp hwl hs.2 hs.1 (hok.ready s hinv w hmem hwl) (hok.awake s hinv w hmem hwl) (hok.flt s hinv _ (List.getElem_mem hwl)) (hok.joins s hinv w hmem hwl) H0 hH) _ _ ?_ ?_)))
 ·exact {
   u1:=rfl
   u2:=rfl
   u3:=rfl
   u6:=rfl
   u7:=rfl
   u8:=rfl
   u9:=rfl
   u10:=rfl
   u11:=rfl
   h3:=rfl
   h6:=rfl
   h13:=by
    show some (Ob.ds 3 1 ((tk.map encInt).take tk.length++[encInt kk]))=_
    rw[List.take_of_length_le (by simp)]
    simp
   c0:=fun h=>by cases h
   c1:=fun h=>by cases h
   c2:=fun h=>by cases h
   c3:=fun h=>by cases h
   c4:=fun h=>by cases h
   c5:=fun h=>by cases h
   c6:=fun h=>by cases h
   c7:=fun h=>by cases h
   c8:=fun h=>by cases h
   c9:=fun h=>by cases h
   c10:=fun h=>by cases h
   c11:=fun h=>by cases h
   e9:=fun h=>by cases h
   d12a:=fun _=>rfl
   d12b:=fun h=>by cases h
   d8a:=fun _=>by
    show some (Ob.vs 56 ([i64 (xA p s tr.length budget),.ref (.n 12) 0 tr.length,.ref (.n 13) 0 (tk.length+1)]++stRef s))=_
    rw[hc]
   d8b:=fun h=>by cases h
   d8c:=fun h=>by cases h
   d8d:=fun h=>by cases h
   sa0:=fun _=>by
    conv=>lhs;whnf
    refine congrArg some ?_
    repeat (first|exact rfl|refine yJ ?_ (congrArg (Ob.rs 175 6) (zV fun _ _=>rfl)))
   saF:=fun _ j=>by
    repeat (first|exact rfl|refine hscrO ?_ (zQ _ _ _)|conv=>lhs;whnf)
   sa1:=fun _=>rfl
   sa2:=fun _=>rfl
   sb0:=fun h=>by cases h
   sbF:=fun h=>by cases h
   sb1:=fun h=>by cases h
   sb2:=fun h=>by cases h
   o1:=fun h=>by cases h
   o2:=fun h=>by cases h
   o3:=fun h=>by cases h
   o4:=fun h=>by cases h }
 intro L S' hL r
 have hat:At [(1,i64 budget),(2,.fn g [.fp c]),(3,.ptr (.n 3) 0),(6,.ptr (.n 6) 0),(7,bv false),(8,.ptr (.n 8) 0),(9,i64 tr.length)]
  [(.n 3,.vs 31 ((encProg p).map .d)),(.n 6,.vs 56 [i64 0,.d .nil,.d .nil,.d .nil,.d .nil,.d .nil,i64 0]),(.n 8,.vs 56 ([i64 0,.ref (.n 12) 0 (tr.length+1),.ref (.n 13) 0 (tk.length+1)]++stRef (zM p s w).1)),(.n 12,.ds 128 5 ((tr++[(zM p s w).2]).map encEv)),(.n 13,.ds 3 1 ((tk++[kk]).map encInt)),
   (.n 900,.rs 175 6 (thRows 900 (zM p s w).1.ths)),(.n 901,.ds 132 1 ((zM p s w).1.cells.map encF)),(.n 902,.ds 3 1 ((zM p s w).1.owner.map encInt))] [(900,zK (zM p s w).1.ths)] S' :=
  ⟨⟨r.u1,r.u2,r.u3,r.u6,r.u7,r.u8,r.u9,trivial⟩,⟨r.h3,r.h6,r.d8d (hL 12 (by decide)),r.d12b (hL 10 (by decide)),r.h13,r.sb0 (hL 8 (by decide)),r.sb1 (hL 8 (by decide)),r.sb2 (hL 8 (by decide)),trivial⟩,⟨r.sbF (hL 8 (by decide)),trivial⟩⟩
 obtain⟨τ',H',rfl⟩:=hat.form
 clear r hat
 have hrun2:=hrun2
 generalize hst:zM p s w=st at *
 have ew:IntKind.i64.wrap ((tr.length:Int)+1)=(((tr++[st.2]).length:Nat):Int):=by rw[zG (by omega) (by omega)];simp
 conv=>whnf
 refine⟨(st.1,tr++[st.2],tk++[kk]),_,Weak.refl,⟨hst▸hok.step s hinv w hmem,by simp;exact hlen',by simp;omega,?_⟩,?_,⟨rfl,rfl,rfl,rfl,rfl,rfl,?_,trivial⟩,⟨rfl,rfl,?_,rfl,rfl,rfl,rfl,rfl,trivial⟩,⟨fun j=>rfl,trivial⟩⟩
 ·show bH p pk budget (budget.toNat+1 - (tr++[st.2]).length) st.1 (tr++[st.2]) (tk++[kk])=_
  rw[show budget.toNat+1 - (tr++[st.2]).length=budget.toNat - tr.length by simp]
  exact hrun2
 ·show budget.toNat - (tr++[st.2]).length<budget.toNat - tr.length
  simp;omega
 ·show AV.d (.int .i64 (IntKind.i64.wrap ((tr.length:Int)+1)))=i64 ((tr++[st.2]).length:Nat)
  rw[ew]
 ·show some (Ob.vs 56 ([i64 0,.ref (.n 12) 0 (tr.length+1),.ref (.n 13) 0 (tk.length+1)]++stRef st.1))=some (Ob.vs 56 ([i64 0,.ref (.n 12) 0 (tr++[st.2]).length,.ref (.n 13) 0 (tk++[kk]).length]++stRef st.1))
  rw[List.length_append,List.length_append]
  rfl
end Ai
namespace Ai
set_option maxRecDepth 100000
open Go Go.Proofs
def pkP (picks:List Int) (en:List Nat) (n:Nat):Int:=if n<picks.length then (picks.getD n 0).tmod en.length else 0
theorem pickP_ok (picks:List Int) (hl:picks.length≤1048576) (en:List Nat) (n:Nat) (he:en≠[]):CallsTo EE 257 [sl (en.map wZ),i64 n,.fp [.sl (picks.map encInt)]] (·=i64 (pkP picks en n)):=by
 refine callsTo_of_AW (fn:=Tryz.f257) Tryz.func257 rfl (by kernel_rfl) rfl ?_
 have hep:0<en.length:=List.length_pos_iff.2 he
 conv=>whnf
 refine kbi (fun h=>?_) (fun h=>?_)
 ·have h:picks.length≤n:=by simpa using h
  conv=>whnf
  unfold pkP
  rw[if_neg (by omega)]
 ·have h:n<picks.length:=by simpa using h
  conv=>whnf
  refine⟨encInt picks[n],⟨by omega,by simp[h],rfl⟩,?_⟩
  conv=>whnf
  refine⟨by simp;omega,?_⟩
  conv=>whnf
  unfold pkP
  rw[if_pos h]
  simp[List.getD_eq_getElem?_getD,h]
  try rfl
theorem pkP_in {picks:List Int} (h0:∀ i∈picks,0≤i) (en:List Nat) (n:Nat) (he:en≠[]):0≤pkP picks en n∧pkP picks en n<en.length:=by
 have hep:0<en.length:=List.length_pos_iff.2 he
 unfold pkP
 split
 ·rename_i h
  have hp:0≤picks.getD n 0:=by
   rw[List.getD_eq_getElem?_getD,List.getElem?_eq_getElem h]
   exact h0 _ (List.getElem_mem h)
  exact⟨Int.tmod_nonneg _ hp,Int.tmod_lt_of_pos _ (by omega)⟩
 ·omega
theorem p9 (x:Int × List Ev × List Int × StL) (b:Bool):rF (.ownF 8 (lP x++[bv b])):=by
 intro c hc
 rcases List.mem_append.1 hc with h|h
 ·rcases List.mem_append.1 h with h|h
  ·simp only[List.mem_cons,List.not_mem_nil,or_false] at h
   rcases h with rfl|rfl|rfl
   ·rfl
   ·intro c hc
    obtain⟨y,_,rfl⟩:=List.mem_map.1 hc;rfl
   ·intro c hc
    obtain⟨y,_,rfl⟩:=List.mem_map.1 hc;rfl
  ·exact tY x.2.2.2 c h
 ·simp only[List.mem_cons,List.not_mem_nil,or_false] at h
  subst h;rfl
theorem fz_runS {S:St} {c:Int} {tr:List Ev} {tk:List Int} {s:StL} (h1:S.H (.n 901)=some (.ds 128 5 (tr.map encEv))) (h2:S.H (.n 902)=some (.ds 3 1 (tk.map encInt))) (h3:S.H (.n 903)=some (.rs 175 6 (thRows 903 s.ths)))
  (hf:∀ j,(h:j<s.ths.length)→S.H (.s 903 j)=some (.ds 132 1 (stk s.ths[j]))) (h4:S.H (.n 904)=some (.ds 132 1 (s.cells.map encF))) (h5:S.H (.n 905)=some (.ds 3 1 (s.owner.map encInt))) {a b d f g:Nat} (ha:a=tr.length) (hb:b=tk.length) (hd:d=s.ths.length) (hff:f=s.cells.length) (hg:g=s.owner.length) :
  FzC S [i64 c,.ref (.n 901) 0 a,.ref (.n 902) 0 b,.dref (.n 903) d,.ref (.n 904) 0 f,.ref (.n 905) 0 g,i64 s.fault] (bW c tr tk s):=by
 subst ha hb
 refine⟨di c,_,rfl,rfl,.sl (tr.map encEv),_,rfl,?_,.sl (tk.map encInt),_,rfl,?_,o8 (o:=903) (s:=s) ⟨h3,hf,h4,h5⟩ hd hff hg⟩
 ·simp[FzD,fz1,h1,List.take_of_length_le]
 ·simp[FzD,fz1,h2,List.take_of_length_le]
theorem runK_L (p:ProgL) (picks:List Int) (budget:Int):∀ (n:Nat) (s:StL) (tr:List Ev) (tk:List Int),tr.length=tk.length →
  bW (bH p (pkP picks) budget n s tr tk).1 (bH p (pkP picks) budget n s tr tk).2.1 (bH p (pkP picks) budget n s tr tk).2.2.1 (bH p (pkP picks) budget n s tr tk).2.2.2=gY p picks budget n s tr tk
 | 0,s,tr,tk,h=>rfl
 |n+1,s,tr,tk,h=>by
  have hpk:pkP picks (zA p s) tr.length=wX picks tk (zA p s).length:=by
   unfold pkP wX
   rw[h]
  by_cases hc:xA p s tr.length budget=0
  ·simp only[bH,gY,hc]
   rw[if_neg (by simp),if_neg (by decide)]
   rw[hpk]
   exact runK_L p picks budget n _ _ _ (by simp[h])
  ·have:=codeL_nn p s tr.length budget
   simp only[bH,gY]
   rw[if_pos hc,if_pos (by omega)]
theorem y2 (hI:yO) (p:ProgL) (hp:p.wf) (h1:InR p.cells 0 1048576) (h2:InR p.locks 0 1048576) (Inv:StL→Prop) (hI0:Inv (xV p)) (hok:RunI p Inv) (picks:List Int) (budget:Int) (hpk:∀ i∈picks,0≤i) (hl:picks.length≤1048576) (hb:InR budget 0 1048576) :
  CallsTo EE 209 [agg (encProg p),sl (picks.map encInt),i64 budget] (·=agg (gY p picks budget (budget.toNat+1) (xV p) [] [])):=by
 refine callsTo_of_AW (fn:=Tryz.f209) Tryz.func209 rfl (by kernel_rfl) rfl ?_
 conv=>whnf
 refine .inl ⟨_,runI_ok hI p hp h1 h2 Inv hI0 hok budget hb 257 [.sl (picks.map encInt)] (pkP picks) (fun en n he=>pickP_ok picks hl en n he) (fun en n he=>pkP_in hpk en n he),?_⟩
 rintro r rfl
 refine⟨p9 _ _,?_⟩
 rw[← runK_L p picks budget _ _ _ _ rfl]
 generalize bH p (pkP picks) budget (budget.toNat+1) (xV p) [] []=x
 obtain⟨c,tr,tk,s⟩:=x
 conv=>whnf
 refine .inr ?_
 conv=>whnf
 refine .inl ⟨agg (bW c tr tk s),⟨bW c tr tk s,rfl,fz_runS (c:=c) (tr:=tr) (tk:=tk) (s:=s) rfl rfl ?_ (fun j hj=>?_) rfl rfl ?_ ?_ ?_ ?_ ?_⟩,rfl⟩
 ·conv=>lhs;whnf
  refine congrArg some ?_
  repeat (first|exact rfl|refine yJ ?_ (congrArg (Ob.rs 175 6) (zV fun _ _=>rfl)))
 ·have e:ownH (lP (c,tr,tk,s)++[bv true]) (.s 903 j)=some (.ds 132 1 (stk s.ths[j])):=by
   show((s.ths.map stk)[j]?).map (Ob.ds 132 1)=_
   simp[hj]
  show Option.map (pC (.n 7)) (match ownH (lP (c,tr,tk,s)++[bv true]) (.s 903 j) with|some ob=>some ob|none=>_)=_
  rw[e]
  rfl
 ·simp
 ·simp
 ·simp
 ·simp
 ·simp
end Ai
namespace Ai
set_option maxRecDepth 100000
open Go Go.Proofs Ieee
theorem order_symm {x y:Nat}:double.order x y=some .eq↔double.order y x=some .eq:=by
 have key:∀ {x y:Nat},double.order x y=some .eq→double.order y x=some .eq:=by
  intro x y h
  unfold Format.order at *
  cases hx:double.read x with
  |nan s f=>rw[hx] at h;cases h
  |infinity s =>
   cases hy:double.read y with
   |nan t f=>rw[hx,hy] at h;cases h
   |infinity t=>rw[hx,hy] at h;cases s <;> cases t <;> first|rfl|cases h
   |number t n i=>rw[hx,hy] at h;cases s <;> cases h
  |number s m e =>
   cases hy:double.read y with
   |nan t f=>rw[hx,hy] at h;cases h
   |infinity t=>rw[hx,hy] at h;cases t <;> cases h
   |number t n i =>
    rw[hx,hy] at h
    simp only[Datum.order,Option.some.injEq] at h ⊢
    have h:=Std.LawfulEqCmp.eq_of_compare h
    rw[Int.min_comm i e,h]
    exact Std.ReflCmp.compare_self
 exact⟨key,key⟩
theorem eql_symm {x y:Nat}:fcmp .eql x y=fcmp .eql y x:=by
 have:∀ a b:Nat,fcmp .eql a b=true↔double.order a b=some .eq:=fun a b=>by simp[fcmp]
 rw[Bool.eq_iff_iff,this,this]
 exact order_symm
theorem near_cut:(List.range 1001).all (fun q=>canon (double.nearest false q 0)==FloatKind.f64.nearest (q:Int))=true:=by decide +kernel
theorem near_cut' {q:Nat} (h:q≤1000):canon (double.nearest false q 0)=FloatKind.f64.nearest (q:Int):=by
 have:=near_cut
 simp only[List.all_eq_true,List.mem_range,beq_iff_eq] at this
 exact this q (by omega)
theorem inI56_ok (n lo hi:Int):CallsTo EE 86 [i64 n,i64 lo,i64 hi] (·=bp (InR n lo hi)):=by
 refine callsTo_of_AW (fn:=Tryz.f86) Tryz.func86 rfl (by kernel_rfl) rfl ?_
 conv=>whnf
 repeat' (refine kbi (fun h=>?_) (fun h=>?_) <;> first|contradiction|conv=>whnf)
 all_goals simp only[decide_eq_true_eq] at *
 all_goals first|exact bpt (by unfold InR;omega)|exact bpf (by unfold InR;omega)
theorem cO {x:Nat} {many n:Int} (h1:1≤many∧many≤1000) (hx0:fcmp .lss x 0=false) (hxm:fcmp .lss x (FloatKind.f64.nearest many)=true) (hn:floatToIntVal .f64 x .i64=some n) (hr:0≤n∧n<many) :
  (wT x=2∨wT x=3)↔fcmp .eql (FloatKind.f64.nearest n) x=true:=by
 have hdec:FloatKind.f64.decode x=double.read x:=rfl
 unfold floatToIntVal at hn
 rw[hdec] at hn
 have z0:FloatKind.f64.nearest 0=0:=by decide
 unfold wT
 cases hd:double.read x with
 |nan s f =>
  rw[hd] at hn;cases hn
 |infinity s=>rw[hd] at hn;cases hn
 |number s m i =>
  have hnan:¬ zR x=true:=by unfold zR;rw[hd];simp[Datum.isNaN]
  rw[if_neg hnan]
  rw[hd] at hn
  simp only[Datum.toInt,Datum.integral] at hn
  simp only
  have hcut0:m=0→Toward.cut .zero s (m <<< i.toNat) (-i).toNat=0:=by
   rintro rfl
   rw[aH];simp
  by_cases e0:fcmp .eql x 0=true
  ·rw[if_pos e0]
   have hm:m=0:=by
    have o:double.order x 0=some .eq:=by simpa[fcmp] using e0
    unfold Format.order at o
    rw[hd,gF] at o
    simp only[Datum.order,Option.some.injEq] at o
    have o:=Std.LawfulEqCmp.eq_of_compare o
    simp only[signed,Nat.shiftLeft_eq] at o
    have:0<2 ^ (i - min i double.leastPlace).toNat:=Nat.pow_pos (by decide)
    have o2:m*2 ^ (i - min i double.leastPlace).toNat=0:=by
     simp only[Nat.zero_mul] at o
     generalize m*2 ^ (i - min i double.leastPlace).toNat=u at o ⊢
     cases s <;> simp at o <;> omega
    rcases Nat.mul_eq_zero.1 o2 with e|e
    ·exact e
    ·omega
   have hn0:n=0:=by
    rw[hcut0 hm] at hn
    split at hn
    ·simp only[Option.some.injEq] at hn
     rw[← hn]
     cases s <;> rfl
    ·cases hn
   subst hn0
   rw[z0,eql_symm,e0]
   simp
  ·rw[if_neg e0]
   have hs:s=false:=by
    cases s with
    |false=>rfl
    |true =>
     exfalso
     have o:double.order x 0≠some .lt:=by simpa[fcmp] using hx0
     have o2:double.order x 0≠some .eq:=by simpa[fcmp] using e0
     unfold Format.order at o o2
     rw[hd,gF] at o o2
     simp only[Datum.order,Option.some.injEq,ne_eq] at o o2
     rw[cmp_lt] at o
     simp only[signed,if_true,Nat.shiftLeft_eq,Nat.zero_mul] at o o2
     by_cases hm:m=0
     ·subst hm;simp at o2;try exact o2 rfl
     ·have:0<m*2 ^ (i - min i double.leastPlace).toNat:=Nat.mul_pos (by omega) (Nat.pow_pos (by decide))
      generalize m*2 ^ (i - min i double.leastPlace).toNat=u at o o2 this
      simp at o
      omega
   subst hs
   generalize hq:Toward.cut .zero false (m <<< i.toNat) (-i).toNat=q at *
   have hnq:n=(q:Int):=by
    split at hn
    ·simp only[Option.some.injEq] at hn
     rw[← hn]
     show((q <<< 0:Nat):Int)=q
     rw[Nat.shiftLeft_zero]
    ·cases hn
   have ht:lH x=FloatKind.f64.nearest n:=by
    unfold lH
    rw[hd]
    simp only[Datum.integral,hq,Format.write]
    rw[hnq,near_cut' (by omega)]
   rw[ht,eql_symm]
   by_cases h:fcmp .eql (FloatKind.f64.nearest n) x=true
   ·rw[if_pos h];simp[h]
   ·rw[if_neg h];simp[h]
theorem i4 {x:Nat} (h:wT x=2∨wT x=3):zR x=false:=by
 cases hn:zR x with
 |false=>rfl
 |true =>
  exfalso
  have:wT x=0:=by unfold wT;rw[if_pos hn]
  omega
theorem geq_lss {x y:Nat} (h:fcmp .geq x y=true) (e:fcmp .lss x y=true):False:=by
 have h:(double.order x y==some .gt || double.order x y==some .eq)=true:=h
 have e:(double.order x y==some .lt)=true:=e
 simp only[Bool.or_eq_true,beq_iff_eq] at h e
 rw[e] at h
 rcases h with h|h <;> cases h
theorem rU {x:Nat} {many:Int} (h1:InR many 1 1000) (hn:zR x=false) (h:fcmp .geq x (FloatKind.f64.nearest many)=false):fcmp .lss x (FloatKind.f64.nearest many)=true:=by
 obtain⟨b,rfl⟩:∃ b:Nat,many=(b:Int):=⟨many.toNat,by have:=h1.1;omega⟩
 obtain⟨k,hk⟩:=iS (m:=b) (by have:=h1.1;omega) (by have:=h1.2;omega)
 have h:(double.order x (FloatKind.f64.nearest (b:Int))==some .gt || double.order x (FloatKind.f64.nearest (b:Int))==some .eq)=false:=h
 show(double.order x (FloatKind.f64.nearest (b:Int))==some .lt)=true
 obtain⟨c,hc⟩:∃ c,double.order x (FloatKind.f64.nearest (b:Int))=some c:=by
  unfold Format.order
  rw[hk]
  unfold zR at hn
  cases hd:double.read x with
  |nan s f=>rw[hd] at hn;cases hn
  |infinity s=>exact⟨_,rfl⟩
  |number s m e=>exact⟨_,rfl⟩
 rw[hc] at h ⊢
 cases c with
 |lt=>rfl
 |eq=>cases h
 |gt=>cases h
theorem idx_none {x:Nat} {many:Int} (hk:¬ (wT x=2∨wT x=3)):yU x many=none:=by
 unfold yU
 split
 ·rename_i hc
  obtain⟨n,g1,g2,g3⟩:=nH x many hc.1.1 hc.1.2 hc.2.1 hc.2.2
  rw[g1]
  simp only
  rw[if_neg]
  intro e
  exact hk ((cO hc.1 hc.2.1 hc.2.2 g1 ⟨g2,g3⟩).2 e)
 ·rfl
theorem m9:yO:=by
 intro x many
 refine callsTo_of_AW (fn:=Tryz.f221) Tryz.func221 rfl (by kernel_rfl) rfl ?_
 conv=>whnf
 refine⟨_,oY x,?_⟩
 rintro r rfl
 conv=>whnf
 refine ocase (inI56_ok _ _ _) (fun h1=>?_) (fun h1=>?_)
 ·conv=>whnf
  refine kbi (fun k2=>?_) (fun k2=>?_)
  ·have k2:¬ wT x=2:=by simpa using k2
   conv=>whnf
   refine kbi (fun k3=>?_) (fun k3=>?_)
   ·have k3:¬ wT x=3:=by simpa using k3
    conv=>whnf
    rw[idx_none (by omega)]
    rfl
   have hk:wT x=2∨wT x=3:=.inr (by simpa using k3)
   conv=>whnf
   refine kbi (fun hx0=>?_) (fun hx0=>?_)
   ·have hx0:fcmp .lss x 0=true:=hx0
    conv=>whnf
    rw[show yU x many=none by unfold yU;rw[if_neg];rintro⟨_,e,_⟩;rw[hx0] at e;cases e]
    rfl
   have hx0:fcmp .lss x 0=false:=by
    have hx0:¬ fcmp .lss x 0=true:=hx0
    simpa using hx0
   conv=>whnf
   refine kbi (fun hg=>?_) (fun hg=>?_)
   ·have hg:fcmp .geq x (FloatKind.f64.nearest many)=true:=hg
    conv=>whnf
    rw[show yU x many=none by unfold yU;rw[if_neg];rintro⟨_,_,e⟩;exact geq_lss hg e]
    rfl
   have hg:fcmp .geq x (FloatKind.f64.nearest many)=false:=by
    have hg:¬ fcmp .geq x (FloatKind.f64.nearest many)=true:=hg
    simpa using hg
   have hxm:=rU h1 (i4 hk) hg
   obtain⟨n,g1,g2,g3⟩:=nH x many h1.1 h1.2 hx0 hxm
   have he:=(cO h1 hx0 hxm g1 ⟨g2,g3⟩).1 hk
   conv=>whnf
   refine⟨n,g1,?_⟩
   conv=>whnf
   rw[show yU x many=some n by unfold yU;rw[if_pos ⟨h1,hx0,hxm⟩,g1];simp only;rw[if_pos he]]
   rfl
  ·have hk:wT x=2∨wT x=3:=.inl (by simpa using k2)
   conv=>whnf
   refine kbi (fun hx0=>?_) (fun hx0=>?_)
   ·have hx0:fcmp .lss x 0=true:=hx0
    conv=>whnf
    rw[show yU x many=none by unfold yU;rw[if_neg];rintro⟨_,e,_⟩;rw[hx0] at e;cases e]
    rfl
   have hx0:fcmp .lss x 0=false:=by
    have hx0:¬ fcmp .lss x 0=true:=hx0
    simpa using hx0
   conv=>whnf
   refine kbi (fun hg=>?_) (fun hg=>?_)
   ·have hg:fcmp .geq x (FloatKind.f64.nearest many)=true:=hg
    conv=>whnf
    rw[show yU x many=none by unfold yU;rw[if_neg];rintro⟨_,_,e⟩;exact geq_lss hg e]
    rfl
   have hg:fcmp .geq x (FloatKind.f64.nearest many)=false:=by
    have hg:¬ fcmp .geq x (FloatKind.f64.nearest many)=true:=hg
    simpa using hg
   have hxm:=rU h1 (i4 hk) hg
   obtain⟨n,g1,g2,g3⟩:=nH x many h1.1 h1.2 hx0 hxm
   have he:=(cO h1 hx0 hxm g1 ⟨g2,g3⟩).1 hk
   conv=>whnf
   refine⟨n,g1,?_⟩
   conv=>whnf
   rw[show yU x many=some n by unfold yU;rw[if_pos ⟨h1,hx0,hxm⟩,g1];simp only;rw[if_pos he]]
   rfl
 ·conv=>whnf
  rw[show yU x many=none by unfold yU;rw[if_neg];rintro⟨e,_⟩;exact h1 e]
  rfl
end Ai
namespace Ai
set_option maxRecDepth 100000
open Go Go.Proofs Ieee
def F64 (x:Nat):Prop:=x<18446744073709551616
theorem s5 (s:Bool) (m:Nat) (i:Int):F64 (double.nearest s m i):=by
 unfold F64 Format.nearest
 have e1:double.signWeight=9223372036854775808:=by decide
 have e2:double.infRung=9218868437227405312:=by decide
 split
 ·unfold Format.word;rw[e1];split <;> omega
 ·unfold Format.word
  rw[e1,e2]
  simp only
  generalize (max (i+↑m.log2 - ↑double.fractionBits) double.leastPlace - double.leastPlace).toNat*double.binade+Toward.even.cut s (m <<< (i - max (i+↑m.log2 - ↑double.fractionBits) double.leastPlace).toNat) (max (i+↑m.log2 - ↑double.fractionBits) double.leastPlace - i).toNat=r
  split <;> omega
theorem eR (d:Datum):F64 (double.write d):=by
 cases d with
 |number s m i=>exact s5 s m i
 |infinity s=>unfold F64 Format.write Format.word;cases s <;> decide
 |nan s f =>
  show(if s=true then double.signWeight+(double.infRung+f % double.binade) else double.infRung+f % double.binade)<18446744073709551616
  rw[show double.signWeight=9223372036854775808 by decide,show double.infRung=9218868437227405312 by decide,show double.binade=4503599627370496 by decide]
  split <;> omega
theorem nearN_f64 (n:Int):F64 (FloatKind.f64.nearest n):=eR (.number (n<0) n.natAbs 0)
theorem fop_f64 (op:BinOp) (x y:Nat):F64 (fop op x y):=by
 have hn:F64 nanC:=by unfold F64;decide
 have key:∀ o:Option Datum,F64 ((o.map double.write).getD nanC):=by
  intro o
  cases o with
  |none=>exact hn
  |some d=>exact eR d
 unfold fop floatBits
 cases op <;> first|exact hn|exact key _
theorem reckon_f64 (c:Int) (x y:Nat):F64 (yN c x y):=by
 unfold yN
 repeat' split
 all_goals first|exact fop_f64 _ _ _|(unfold F64 oneF;decide)|(unfold F64;decide)
def StL.flt (s:StL):Prop:=(∀ c∈s.cells,F64 c)∧∀ t∈s.ths,∀ x∈t.stack,F64 x
theorem vJ {s:StL} {k:Nat} {t:Th} (h:s.flt) (ht:∀ x∈t.stack,F64 x):(s.put k t).flt:=by
 refine⟨h.1,fun u hu=>?_⟩
 rcases List.mem_or_eq_of_mem_set hu with e|e
 ·exact h.2 u e
 ·subst e;exact ht
theorem topN_f64 {t:Th} {o:OpL} {i:Nat} (h:∀ x∈t.stack,F64 x):F64 (yP t o i):=mB h
theorem flt_do {s:StL} {k:Nat} {o:OpL} {e:Ev} (hk:k<s.ths.length) (h:s.flt) (ho:F64 o.v):(doL s k o e).1.flt:=by
 have hgd:s.ths.getD k th0=s.ths[k]:=by simp[List.getD_eq_getElem?_getD,hk]
 have ht:=h.2 _ (List.getElem_mem hk)
 generalize s.ths[k]=t at *
 unfold doL
 simp only[hgd]
 have hpop:∀ x∈(zE t o).stack,F64 x:=fun x hx=>ht x (List.mem_of_mem_take hx)
 have hpush:∀ v,F64 v→∀ x∈(zO (zE t o) v).stack,F64 x:=by
  intro v hv x hx
  rcases List.mem_append.1 hx with e|e
  ·exact hpop x e
  ·simp only[List.mem_cons,List.not_mem_nil,or_false] at e
   subst e;exact hv
 by_cases n1:o.code=1
 ·rw[if_pos n1];exact vJ h (hpush _ ho)
 rw[if_neg n1]
 by_cases n2:o.code=2
 ·rw[if_pos n2]
  refine vJ h (hpush _ ?_)
  rw[List.getD_eq_getElem?_getD]
  cases hg:s.cells[o.a.toNat]? with
  |none=>unfold F64;decide
  |some c=>exact h.1 c (List.mem_of_getElem? hg)
 rw[if_neg n2]
 by_cases n3:o.code=3
 ·rw[if_pos n3]
  refine vJ ⟨fun c hc=>?_,h.2⟩ hpop
  rcases List.mem_or_eq_of_mem_set hc with e|e
  ·exact h.1 c e
  ·subst e;exact topN_f64 ht
 rw[if_neg n3]
 by_cases n10:o.code=10
 ·rw[if_pos n10];exact vJ h hpop
 rw[if_neg n10]
 by_cases n11:o.code=11
 ·rw[if_pos n11]
  refine vJ h ?_
  split
  ·exact hpop
  ·exact hpop
 rw[if_neg n11]
 by_cases n12:o.code=12
 ·rw[if_pos n12];exact vJ (s:={ s with owner:=_ }) h hpop
 rw[if_neg n12]
 by_cases n13:o.code=13
 ·rw[if_pos n13];exact vJ (s:={ s with owner:=_ }) h hpop
 rw[if_neg n13]
 by_cases n14:o.code=14
 ·rw[if_pos n14]
  refine vJ (s:={ s with ths:=_ }) ⟨h.1,fun u hu=>?_⟩ (hpush _ (nearN_f64 _))
  rcases List.mem_append.1 hu with e|e
  ·exact h.2 u e
  ·simp only[List.mem_cons,List.not_mem_nil,or_false] at e
   subst e;intro x hx;cases hx
 rw[if_neg n14]
 by_cases n15:o.code=15
 ·rw[if_pos n15];exact vJ h hpop
 rw[if_neg n15]
 by_cases n16:o.code=16
 ·rw[if_pos n16];exact vJ (s:={ s with owner:=_ }) h hpop
 rw[if_neg n16]
 by_cases n17:o.code=17
 ·rw[if_pos n17]
  cases wW s.ths o.a with
  |none=>exact vJ h hpop
  |some j =>
   refine vJ (s:={ s with ths:=_ }) ⟨h.1,fun u hu=>?_⟩ hpop
   obtain⟨i,hi,rfl⟩:=List.mem_iff_getElem.1 hu
   have hil:i<s.ths.length:=by simpa using hi
   have:=h.2 _ (List.getElem_mem hil)
   rw[List.getElem_modify]
   split
   ·exact this
   ·exact this
 rw[if_neg n17]
 exact vJ h (hpush _ (reckon_f64 _ _ _))
theorem flt_step {p:ProgL} (hv:p.flt) {s:StL} {k:Nat} (hk:k<s.ths.length) (h:s.flt):(zM p s k).1.flt:=by
 have hgd:s.ths.getD k th0=s.ths[k]:=by simp[List.getD_eq_getElem?_getD,hk]
 have ht:=h.2 _ (List.getElem_mem hk)
 unfold zM
 simp only[hgd]
 split
 ·exact vJ (s:={ s with owner:=_ }) h ht
 ·split
  ·exact vJ h ht
  ·rename_i o hn
   split
   ·refine flt_do hk h ?_
    unfold yG at hn
    by_cases hr:s.ths[k].rt.toNat<p.rs.length
    ·have e:p.rs.getD s.ths[k].rt.toNat []=p.rs[s.ths[k].rt.toNat]:=by rw[List.getD_eq_getElem?_getD,List.getElem?_eq_getElem hr];rfl
     rw[e] at hn
     exact hv _ (List.getElem_mem hr) o (List.mem_of_getElem? hn)
    ·have e:p.rs.getD s.ths[k].rt.toNat []=[]:=by rw[List.getD_eq_getElem?_getD,List.getElem?_eq_none (by omega)];rfl
     rw[e] at hn
     simp at hn
   ·exact h
theorem flt_new (p:ProgL):(xV p).flt:=by
 refine⟨fun c hc=>?_,fun t ht=>?_⟩
 ·obtain⟨_,rfl⟩:=List.mem_replicate.1 hc
  unfold F64;decide
 ·have:t=jE 0:=by simpa[xV] using ht
  subst this
  intro x hx;cases hx
theorem goes_st {p:ProgL} {s:StL} {k:Nat} (h:k∈zA p s) (hk:k<s.ths.length):s.ths[k].st=1∨s.ths[k].st=4:=by
 have:=(List.mem_filter.1 h).2
 unfold qS at this
 have this:=of_decide_eq_true this
 simp only[List.getD_eq_getElem?_getD,List.getElem?_eq_getElem hk,Option.getD_some] at this
 exact this.2.1
theorem joins_top {s:StL} {k:Nat} {o:OpL} (hk:k<s.ths.length) (hf:yB s k o=0) (h15:o.code=15):∃ j,yU (yP s.ths[k] o 0) s.ths.length=some j∧yA s s.ths[k]=some j:=by
 have hgd:s.ths.getD k th0=s.ths[k]:=by simp[List.getD_eq_getElem?_getD,hk]
 unfold yB at hf
 simp only[hgd] at hf
 generalize s.ths[k]=t at *
 have ht:zB o.code=(1,0):=by rw[h15];decide
 rw[ht] at hf
 simp only at hf
 split at hf
 ·cases hf
 rename_i h1
 have hl:1≤t.stack.length:=by
  have:=fun e=>h1 (.inl e)
  omega
 split at hf
 ·cases hf
 split at hf
 ·cases hf
 rename_i h3
 have hj:¬ (yA s t).getD (-1)<0:=fun e=>h3 ⟨h15,e⟩
 have hkn:zU t o=t.stack.length - 1:=by simp[zU,xS,ht]
 have htop:t.stack.getLast?=some (yP t o 0):=by
  unfold yP
  rw[hkn,List.getLast?_eq_getElem?,List.getD_eq_getElem?_getD,List.getElem?_drop]
  rw[Nat.add_zero,List.getElem?_eq_getElem (by omega)]
  rfl
 unfold yA at hj ⊢
 rw[htop] at hj ⊢
 simp only[Option.bind_some] at hj ⊢
 cases hi:yU (yP t o 0) s.ths.length with
 |none=>rw[hi] at hj;exact absurd (by decide) hj
 |some j=>exact⟨j,rfl,rfl⟩
theorem runI {p:ProgL} (hg:p.goodS) (hv:p.flt):RunI p (fun s=>SInv p s∧s.flt):={
 small:=fun s h=>(rN hg).small s h.1
 seen:=fun s h=>(rN hg).seen s h.1
 ready:=fun s h=>(rN hg).ready s h.1
 awake:=fun s h k hk hl=>by
  have:=goes_st hk hl
  omega
 flt:=fun s h=>h.2.2
 joins:=fun s h k hk hl o hn hf h15=>joins_top hl hf h15
 step:=fun s h k hk=>by
  have:k<s.ths.length:=by have:=(List.mem_filter.1 hk).1;simpa using this
  exact⟨(rN hg).step s h.1 k hk,flt_step hv this h.2⟩ }
theorem eB (p:ProgL) (hp:p.wf) (hg:p.goodS) (hv:p.flt) (picks:List Int) (budget:Int) (hpk:∀ i∈picks,0≤i) (hl:picks.length≤1048576) (hb:InR budget 0 1048576) :
  CallsTo EE 209 [agg (encProg p),sl (picks.map encInt),i64 budget] (·=agg (gY p picks budget (budget.toNat+1) (xV p) [] [])):=by
 obtain⟨b1,b2,b3,b4⟩:=hg.1
 exact y2 m9 p hp ⟨b1.1,by have:=b1.2;omega⟩ ⟨b2.1,by have:=b2.2;omega⟩ _ ⟨v6 hg,flt_new p⟩ (runI hg hv) picks budget hpk hl hb
end Ai
namespace Ai.Cyc
structure BS where
 out:List Nat
 queue:List Nat
 far:List (Nat × Nat)
deriving DecidableEq
def setF (l:List (Nat × Nat)) (k v:Nat):List (Nat × Nat):=if l.any (fun p=>p.1==k)=true then l.map (fun p=>if p.1==k then (k,v) else p) else l++[(k,v)]
def getF (l:List (Nat × Nat)) (k:Nat):Nat:=((l.find? fun p=>p.1==k).map (·.2)).getD 0
def bsE (goal cur:Nat) (st:BS) (e:Nat × Nat):BS :=
 if (e.2 != cur || decide (0<st.out.getD e.1 0))=true then st
 else if (e.1 != goal)=true then ⟨st.out.set e.1 (getF st.far cur+1),st.queue++[e.1],setF st.far e.1 (getF st.far cur+1)⟩
 else ⟨st.out.set e.1 (getF st.far cur+1),st.queue,st.far⟩
def bs0 (goal:Nat):BS:=⟨List.replicate 100 0,[goal],[(goal,0)]⟩
def aM (goal:Nat) (edges:List (Nat × Nat)):Nat→Nat→BS→Option BS
 | 0,_,_=>none
 |f+1,i,st=>if i<st.queue.length then aM goal edges f (i+1) (edges.foldl (bsE goal (st.queue.getD i 0)) st) else some st
def nextI (edges:List (Nat × Nat)) (far:List Nat) (n at_ left:Nat):Nat :=
 edges.foldl (fun nx e=>if (e.1==at_&&e.2 != n&&far.getD e.2 0==left)=true then min nx e.2 else nx) 100
def wayI (edges:List (Nat × Nat)) (far:List Nat) (n:Nat):Nat→List Nat→Nat→List Nat
 | 0,out,_=>out
 |left+1,out,at_=>wayI edges far n left (out++[nextI edges far n at_ (left+1)]) (nextI edges far n at_ (left+1))
def cycI (edges:List (Nat × Nat)) (n:Nat):Option (List Nat) :=
 match aM n edges 7 0 (bs0 n) with
 |none=>none
 |some st=>if st.out.getD n 0=0 then some [] else some (wayI edges st.out n (st.out.getD n 0 - 1) [n] n)
def wayS (edges:List (Nat × Nat)) (to:Nat):Nat→Nat→List (List Nat)→List Nat→Option (List Nat)
 | 0,_,_,_=>none
 |f+1,i,ways,seen =>
  if i<ways.length then
   match edges.find? (fun e=>e.1==(ways.getD i []).getLastD 0) with
   |none=>wayS edges to f (i+1) ways seen
   |some e=>if e.2=to then some (ways.getD i []) else if seen.contains e.2=true then wayS edges to f (i+1) ways seen
     else wayS edges to f (i+1) (ways++[ways.getD i []++[e.2]]) (seen++[e.2])
  else some []
def cycS (edges:List (Nat × Nat)) (n:Nat):Option (List Nat):=wayS edges n 8 0 [[n]] []
def opts:List (Option Nat):=[none,some 0,some 1,some 2,some 3,some 4]
def ed (k:Nat) (o:Option Nat):List (Nat × Nat):=match o with|some b=>[(k,b)]|none=>[]
def ok (edges:List (Nat × Nat)):Bool:=(List.range 5).all fun n=>(cycI edges n).isSome&&cycI edges n==cycS edges n
def bM (a:Option Nat):Bool:=opts.all fun b=>opts.all fun c=>opts.all fun d=>opts.all fun e=>ok (ed 0 a++ed 1 b++ed 2 c++ed 3 d++ed 4 e)
theorem okN:bM none=true:=by decide +kernel
theorem ok0:bM (some 0)=true:=by decide +kernel
theorem ok1:bM (some 1)=true:=by decide +kernel
theorem ok2:bM (some 2)=true:=by decide +kernel
theorem ok3:bM (some 3)=true:=by decide +kernel
theorem ok4:bM (some 4)=true:=by decide +kernel
theorem ok_all (a b c d e:Option Nat) (ha:a∈opts) (hb:b∈opts) (hc:c∈opts) (hd:d∈opts) (he:e∈opts):ok (ed 0 a++ed 1 b++ed 2 c++ed 3 d++ed 4 e)=true:=by
 have h:bM a=true:=by
  simp only[opts,List.mem_cons,List.not_mem_nil,or_false] at ha
  rcases ha with rfl|rfl|rfl|rfl|rfl|rfl
  ·exact okN
  ·exact ok0
  ·exact ok1
  ·exact ok2
  ·exact ok3
  ·exact ok4
 simp only[bM,List.all_eq_true] at h
 exact h b hb c hc d hd e he
end Ai.Cyc
namespace Ai.Cyc
theorem oJ {goal cur:Nat}:∀ (es:List (Nat × Nat)) (st:BS),(∀ e∈es,e.2≠cur)→es.foldl (bsE goal cur) st=st
 | [],st,h=>rfl
 |e::es,st,h=>by
  have:bsE goal cur st e=st:=by
   unfold bsE
   rw[if_pos (by rw[Bool.or_eq_true];exact .inl (bne_iff_ne.2 (h e List.mem_cons_self)))]
  rw[List.foldl_cons,this]
  exact oJ es st fun x hx=>h x (List.mem_cons_of_mem _ hx)
theorem run_far {n:Nat} {edges:List (Nat × Nat)} (h:∀ e∈edges,e.2≠n):aM n edges 7 0 (bs0 n)=some (bs0 n):=by
 unfold aM
 rw[if_pos (by simp[bs0])]
 rw[show(bs0 n).queue.getD 0 0=n from rfl,oJ edges _ h]
 unfold aM
 rw[if_neg (by simp[bs0])]
theorem cycI_far {n:Nat} {edges:List (Nat × Nat)} (h:∀ e∈edges,e.2≠n):cycI edges n=some []:=by
 unfold cycI
 rw[run_far h]
 have:(bs0 n).out.getD n 0=0:=by
  simp only[bs0,List.getD_eq_getElem?_getD,List.getElem?_replicate]
  split <;> rfl
 show(if (bs0 n).out.getD n 0=0 then some [] else _)=_
 rw[if_pos this]
theorem cycS_far {n:Nat} {edges:List (Nat × Nat)} (h:∀ e∈edges,e.1≠n):cycS edges n=some []:=by
 have hf:edges.find? (fun e=>e.1==n)=none:=by
  rw[List.find?_eq_none]
  intro e he
  simpa using h e he
 unfold cycS wayS
 rw[if_pos (by simp)]
 have:(([[n]]:List (List Nat)).getD 0 []).getLastD 0=n:=rfl
 rw[this,hf]
 unfold wayS
 rw[if_neg (by simp)]
structure Graph (edges:List (Nat × Nat)):Prop where
 g:∃ a b c d e:Option Nat,(a∈opts∧b∈opts∧c∈opts∧d∈opts∧e∈opts)∧edges=ed 0 a++ed 1 b++ed 2 c++ed 3 d++ed 4 e
theorem ed_in {k:Nat} {o:Option Nat} (ho:o∈opts) (hk:k<5):∀ e∈ed k o,e.1<5∧e.2<5:=by
 intro e he
 simp only[opts,List.mem_cons,List.not_mem_nil,or_false] at ho
 rcases ho with rfl|rfl|rfl|rfl|rfl|rfl <;> simp[ed] at he <;> subst he <;> exact⟨hk,by simp⟩
theorem Graph.small {edges:List (Nat × Nat)} (h:Graph edges):∀ e∈edges,e.1<5∧e.2<5:=by
 obtain⟨a,b,c,d,e,⟨ha,hb,hc,hd,he⟩,rfl⟩:=h.g
 intro x hx
 simp only[List.mem_append] at hx
 rcases hx with (((hx|hx)|hx)|hx)|hx
 ·exact ed_in ha (by decide) x hx
 ·exact ed_in hb (by decide) x hx
 ·exact ed_in hc (by decide) x hx
 ·exact ed_in hd (by decide) x hx
 ·exact ed_in he (by decide) x hx
theorem aG (k:Nat) (o:Option Nat):(ed k o).length≤1:=by cases o <;> simp[ed]
theorem Graph.len {edges:List (Nat × Nat)} (h:Graph edges):edges.length≤5:=by
 obtain⟨a,b,c,d,e,-,rfl⟩:=h.g
 simp only[List.length_append]
 have:=aG 0 a;have:=aG 1 b;have:=aG 2 c;have:=aG 3 d;have:=aG 4 e
 omega
theorem Graph.same {edges:List (Nat × Nat)} (h:Graph edges) (n:Nat):(cycI edges n).isSome=true∧cycI edges n=cycS edges n:=by
 by_cases hn:n<5
 ·obtain⟨a,b,c,d,e,⟨ha,hb,hc,hd,he⟩,rfl⟩:=h.g
  have:=ok_all a b c d e ha hb hc hd he
  simp only[ok,List.all_eq_true,List.mem_range,Bool.and_eq_true,beq_iff_eq] at this
  exact this n hn
 ·have h1:cycI edges n=some []:=cycI_far fun e he=>by have:=h.small e he;omega
  have h2:cycS edges n=some []:=cycS_far fun e he=>by have:=h.small e he;omega
  rw[h1,h2]
  exact⟨rfl,rfl⟩
theorem Graph.run {edges:List (Nat × Nat)} (h:Graph edges) (n:Nat):(aM n edges 7 0 (bs0 n)).isSome=true:=by
 have:=(h.same n).1
 unfold cycI at this
 cases hr:aM n edges 7 0 (bs0 n) with
 |none=>rw[hr] at this;cases this
 |some x=>rfl
end Ai.Cyc
namespace Ai
set_option maxRecDepth 100000
open Go Go.Proofs Cyc
def eQ (s:StL):Prop:=∀ x∈s.owner,-1≤x∧x<s.ths.length
theorem wL {s:StL} {k:Nat} {t:Th} (h:eQ s):eQ (s.put k t):=by
 intro x hx
 have:=h x hx
 simpa[StL.put] using this
theorem mV {s:StL} {i:Nat} {v:Int} (h:eQ s) (hv:-1≤v∧v<s.ths.length):eQ { s with owner:=s.owner.set i v }:=by
 intro x hx
 rcases List.mem_or_eq_of_mem_set hx with e|e
 ·exact h x e
 ·subst e;exact hv
theorem oinv_do {s:StL} {k:Nat} {o:OpL} {e:Ev} (hk:k<s.ths.length) (h:eQ s):eQ (doL s k o e).1:=by
 unfold doL
 simp only
 generalize s.ths.getD k th0=t at *
 by_cases n1:o.code=1
 ·rw[if_pos n1];exact wL h
 rw[if_neg n1]
 by_cases n2:o.code=2
 ·rw[if_pos n2];exact wL h
 rw[if_neg n2]
 by_cases n3:o.code=3
 ·rw[if_pos n3];exact wL (s:={ s with cells:=_ }) h
 rw[if_neg n3]
 by_cases n10:o.code=10
 ·rw[if_pos n10];exact wL h
 rw[if_neg n10]
 by_cases n11:o.code=11
 ·rw[if_pos n11];exact wL h
 rw[if_neg n11]
 by_cases n12:o.code=12
 ·rw[if_pos n12];exact wL (mV h ⟨by omega,by omega⟩)
 rw[if_neg n12]
 by_cases n13:o.code=13
 ·rw[if_pos n13];exact wL (mV h ⟨by omega,by omega⟩)
 rw[if_neg n13]
 by_cases n14:o.code=14
 ·rw[if_pos n14]
  refine wL (s:={ s with ths:=_ }) fun x hx=>?_
  have:=h x hx
  refine⟨this.1,?_⟩
  show x<((s.ths++[jE o.a]).length:Int)
  simp;omega
 rw[if_neg n14]
 by_cases n15:o.code=15
 ·rw[if_pos n15];exact wL h
 rw[if_neg n15]
 by_cases n16:o.code=16
 ·rw[if_pos n16];exact wL (mV h ⟨by omega,by omega⟩)
 rw[if_neg n16]
 by_cases n17:o.code=17
 ·rw[if_pos n17]
  cases wW s.ths o.a with
  |none=>exact wL h
  |some j =>
   refine wL (s:={ s with ths:=_ }) fun x hx=>?_
   have:=h x hx
   refine⟨this.1,?_⟩
   show x<((s.ths.modify j fun u=>{ u with st:=4 }).length:Int)
   simp;omega
 rw[if_neg n17]
 exact wL h
theorem oinv_step {p:ProgL} {s:StL} {k:Nat} (hk:k<s.ths.length) (h:eQ s):eQ (zM p s k).1:=by
 unfold zM
 simp only
 split
 ·exact wL (mV h ⟨by omega,by omega⟩)
 ·split
  ·exact wL h
  ·split
   ·exact oinv_do hk h
   ·exact h
theorem oinv_new (p:ProgL):eQ (xV p):=by
 intro x hx
 obtain⟨_,rfl⟩:=List.mem_replicate.1 hx
 simp[xV]
end Ai
namespace Ai
set_option maxRecDepth 100000
open Go Go.Proofs Cyc
def GTh (p:ProgL) (t:Th):Prop:=((t.st=1∨t.st=2)∧t.cond=-1∧t.lock=-1)∨((t.st=3∨t.st=4)∧0≤t.cond∧t.cond<p.conds∧0≤t.lock∧t.lock<p.locks)
structure GInv (p:ProgL) (s:StL):Prop where
 ths:∀ t∈s.ths,GTh p t
 ne:1≤s.ths.length
 fault:InR s.fault 0 4
theorem wN {p:ProgL} {s:StL} {k:Nat} {t:Th} (h:GInv p s) (ht:GTh p t):GInv p (s.put k t):=by
 refine⟨fun u hu=>?_,by simpa[StL.put] using h.ne,h.fault⟩
 rcases List.mem_or_eq_of_mem_set hu with e|e
 ·exact h.ths u e
 ·subst e;exact ht
theorem fault_in (s:StL) (k:Nat) (o:OpL):InR (yB s k o) 0 4:=by
 unfold yB InR
 simp only
 split
 ·omega
 split
 ·omega
 split
 ·omega
 split <;> omega
theorem ginv_do {p:ProgL} (hg:p.goodS) {s:StL} (hi:SInv p s) {k:Nat} (h:k<s.ths.length) {o:OpL} (hn:yG p s.ths[k]=some o) (e:Ev) (hG:GInv p s) (h1:s.ths[k].st=1):GInv p (doL s k o e).1:=by
 have hT:=hi.ths _ (List.getElem_mem h)
 have hgd:s.ths.getD k th0=s.ths[k]:=by simp[List.getD_eq_getElem?_getD,h]
 obtain⟨⟨g1,g2⟩,hlt⟩:=bJ hg hT hn
 obtain⟨c1,c2,c3,_⟩:=g1
 obtain⟨a1,a2,a3,a4,a5,a6⟩:=g2
 have ht:=hG.ths _ (List.getElem_mem h)
 generalize s.ths[k]=t at *
 unfold doL
 simp only[hgd]
 have hp:GTh p (zE t o):=ht
 have hpush:∀ v,GTh p (zO (zE t o) v):=fun v=>ht
 have hpc:∀ a,GTh p { zE t o with pc:=a }:=fun a=>ht
 by_cases n1:o.code=1
 ·rw[if_pos n1];exact wN hG (hpush _)
 rw[if_neg n1]
 by_cases n2:o.code=2
 ·rw[if_pos n2];exact wN hG (hpush _)
 rw[if_neg n2]
 by_cases n3:o.code=3
 ·rw[if_pos n3];exact wN (s:={ s with cells:=_ }) ⟨hG.ths,hG.ne,hG.fault⟩ hp
 rw[if_neg n3]
 by_cases n10:o.code=10
 ·rw[if_pos n10];exact wN hG (hpc _)
 rw[if_neg n10]
 by_cases n11:o.code=11
 ·rw[if_pos n11]
  refine wN hG ?_
  split
  ·exact hpc _
  ·exact hp
 rw[if_neg n11]
 by_cases n12:o.code=12
 ·rw[if_pos n12];exact wN (s:={ s with owner:=_ }) ⟨hG.ths,hG.ne,hG.fault⟩ hp
 rw[if_neg n12]
 by_cases n13:o.code=13
 ·rw[if_pos n13];exact wN (s:={ s with owner:=_ }) ⟨hG.ths,hG.ne,hG.fault⟩ hp
 rw[if_neg n13]
 by_cases n14:o.code=14
 ·rw[if_pos n14]
  refine wN (s:={ s with ths:=_ }) ⟨fun u hu=>?_,by show 1≤(s.ths++[jE o.a]).length;simp,hG.fault⟩ (hpush _)
  rcases List.mem_append.1 hu with e|e
  ·exact hG.ths u e
  ·simp only[List.mem_cons,List.not_mem_nil,or_false] at e
   subst e;exact .inl ⟨.inl rfl,rfl,rfl⟩
 rw[if_neg n14]
 by_cases n15:o.code=15
 ·rw[if_pos n15];exact wN hG hp
 rw[if_neg n15]
 by_cases n16:o.code=16
 ·rw[if_pos n16]
  exact wN (s:={ s with owner:=_ }) ⟨hG.ths,hG.ne,hG.fault⟩ (.inr ⟨.inl rfl,c2.1,(a5 n16).1,c3.1,(a5 n16).2⟩)
 rw[if_neg n16]
 by_cases n17:o.code=17
 ·rw[if_pos n17]
  cases hw:wW s.ths o.a with
  |none=>exact wN hG hp
  |some j =>
   refine wN (s:={ s with ths:=_ }) ⟨fun u hu=>?_,by simpa using hG.ne,hG.fault⟩ hp
   obtain⟨i,hi2,rfl⟩:=List.mem_iff_getElem.1 hu
   have hil:i<s.ths.length:=by simpa using hi2
   have hU:=hG.ths _ (List.getElem_mem hil)
   rw[List.getElem_modify]
   split
   ·rename_i hji
    subst hji
    unfold wW at hw
    rw[List.findIdx?_eq_some_iff_getElem] at hw
    obtain⟨_,hpw,_⟩:=hw
    simp only[Bool.and_eq_true,beq_iff_eq] at hpw
    rcases hU with ⟨h9,_⟩|⟨_,h9⟩
    ·have:=hpw.1;omega
    ·exact .inr ⟨.inr rfl,h9⟩
   ·exact hU
 rw[if_neg n17]
 exact wN hG (hpush _)
theorem ginv_step {p:ProgL} (hg:p.goodS) {s:StL} (hi:SInv p s) {k:Nat} (h:k<s.ths.length) (hk:k∈zA p s) (hG:GInv p s):GInv p (zM p s k).1:=by
 have ht:=hG.ths _ (List.getElem_mem h)
 have hgo:=goes_st hk h
 have hgd:s.ths.getD k th0=s.ths[k]:=by simp[List.getD_eq_getElem?_getD,h]
 unfold zM
 simp only[hgd]
 split
 ·exact wN (s:={ s with owner:=_ }) ⟨hG.ths,hG.ne,hG.fault⟩ (.inl ⟨.inl rfl,rfl,rfl⟩)
 ·rename_i h4
  have h1:s.ths[k].st=1:=by omega
  split
  ·refine wN hG (.inl ⟨.inr rfl,?_⟩)
   rcases ht with ⟨_,h9⟩|⟨h9,_⟩
   ·exact h9
   ·omega
  ·rename_i o hn
   split
   ·exact ginv_do hg hi h hn _ hG h1
   ·exact⟨hG.ths,hG.ne,fault_in s k o⟩
theorem ginv_new (p:ProgL):GInv p (xV p):=by
 refine⟨fun t ht=>?_,by simp[xV],by simp[xV,InR]⟩
 have:t=jE 0:=by simpa[xV] using ht
 subst this
 exact .inl ⟨.inl rfl,rfl,rfl⟩
structure AInv (p:ProgL) (s:StL):Prop where
 si:SInv p s
 fl:s.flt
 ow:eQ s
 gi:GInv p s
theorem sG {p:ProgL} {s:StL} {k:Nat} (hk:k∈zA p s):k<s.ths.length:=by have:=(List.mem_filter.1 hk).1;simpa using this
theorem dU {p:ProgL} (hg:p.goodS) (hv:p.flt) {s:StL} {k:Nat} (hk:k∈zA p s) (h:AInv p s):AInv p (zM p s k).1 :=
 ⟨i7 hg h.si (sG hk),flt_step hv (sG hk) h.fl,oinv_step (sG hk) h.ow,ginv_step hg h.si (sG hk) hk h.gi⟩
theorem nO {p:ProgL} (hg:p.goodS):AInv p (xV p):=⟨v6 hg,flt_new p,oinv_new p,ginv_new p⟩
theorem do_lev (s:StL) (k:Nat) (o:OpL) (e:Ev):s.ths.length≤(doL s k o e).1.ths.length∧(doL s k o e).2.th=e.th∧(doL s k o e).2.pc=e.pc:=by
 have hput:∀ (s:StL) (t:Th),(s.put k t).ths.length=s.ths.length:=fun s t=>by simp[StL.put]
 have hle:∀ (s2:StL) (t:Th),s.ths.length≤s2.ths.length→s.ths.length≤(s2.put k t).ths.length:=fun s2 t h=>by rw[hput];exact h
 unfold doL
 simp only
 by_cases n1:o.code=1
 ·rw[if_pos n1];exact⟨hle _ _ (Nat.le_refl _),rfl,rfl⟩
 rw[if_neg n1]
 by_cases n2:o.code=2
 ·rw[if_pos n2];exact⟨hle _ _ (Nat.le_refl _),rfl,rfl⟩
 rw[if_neg n2]
 by_cases n3:o.code=3
 ·rw[if_pos n3];exact⟨hle _ _ (Nat.le_refl _),rfl,rfl⟩
 rw[if_neg n3]
 by_cases n10:o.code=10
 ·rw[if_pos n10];exact⟨hle _ _ (Nat.le_refl _),rfl,rfl⟩
 rw[if_neg n10]
 by_cases n11:o.code=11
 ·rw[if_pos n11];exact⟨hle _ _ (Nat.le_refl _),rfl,rfl⟩
 rw[if_neg n11]
 by_cases n12:o.code=12
 ·rw[if_pos n12];exact⟨hle _ _ (Nat.le_refl _),rfl,rfl⟩
 rw[if_neg n12]
 by_cases n13:o.code=13
 ·rw[if_pos n13];exact⟨hle _ _ (Nat.le_refl _),rfl,rfl⟩
 rw[if_neg n13]
 by_cases n14:o.code=14
 ·rw[if_pos n14];exact⟨hle _ _ (by show _≤(s.ths++[jE o.a]).length;simp),rfl,rfl⟩
 rw[if_neg n14]
 by_cases n15:o.code=15
 ·rw[if_pos n15];exact⟨hle _ _ (Nat.le_refl _),rfl,rfl⟩
 rw[if_neg n15]
 by_cases n16:o.code=16
 ·rw[if_pos n16];exact⟨hle _ _ (Nat.le_refl _),rfl,rfl⟩
 rw[if_neg n16]
 by_cases n17:o.code=17
 ·rw[if_pos n17]
  cases wW s.ths o.a with
  |none=>exact⟨hle _ _ (Nat.le_refl _),rfl,rfl⟩
  |some j=>exact⟨hle _ _ (by show _≤(s.ths.modify j _).length;simp),rfl,rfl⟩
 rw[if_neg n17]
 exact⟨hle _ _ (Nat.le_refl _),rfl,rfl⟩
theorem step_len (p:ProgL) (s:StL) (k:Nat):s.ths.length≤(zM p s k).1.ths.length:=by
 have hput:∀ (s:StL) (t:Th),(s.put k t).ths.length=s.ths.length:=fun s t=>by simp[StL.put]
 unfold zM
 simp only
 split
 ·rw[hput];exact Nat.le_refl _
 ·split
  ·rw[hput];exact Nat.le_refl _
  ·split
   ·exact(do_lev _ _ _ _).1
   ·exact Nat.le_refl _
theorem step_ev (p:ProgL) (s:StL) (k:Nat):(zM p s k).2.th=k∧(zM p s k).2.pc=(s.ths.getD k th0).pc:=by
 unfold zM
 simp only
 split
 ·exact⟨rfl,rfl⟩
 ·split
  ·exact⟨rfl,rfl⟩
  ·split
   ·exact(do_lev _ _ _ _).2
   ·exact⟨rfl,rfl⟩
structure TrOK (s:StL) (tr:List Ev):Prop where
 ev:∀ e∈tr,0≤e.th∧e.th<s.ths.length∧0≤e.pc∧e.pc≤24
 ne:s.fault≠0→tr≠[]
theorem tr_step {p:ProgL} (hg:p.goodS) {s:StL} {k:Nat} (hk:k∈zA p s) (h:AInv p s) {tr:List Ev} (ht:TrOK s tr):TrOK (zM p s k).1 (tr++[(zM p s k).2]):=by
 have hl:=sG hk
 have hgd:s.ths.getD k th0=s.ths[k]:=by simp[List.getD_eq_getElem?_getD,hl]
 have hT:=h.si.ths _ (List.getElem_mem hl)
 have hr:s.ths[k].rt.toNat<p.rs.length:=by have:=hT.rt;omega
 have e24:(p.rs.getD s.ths[k].rt.toNat []).length≤24:=by
  rw[List.getD_eq_getElem?_getD,List.getElem?_eq_getElem hr]
  exact(hg.2 _ (List.getElem_mem hr)).2
 have h2:=step_len p s k
 refine⟨fun e he=>?_,fun _=>by simp⟩
 rcases List.mem_append.1 he with e1|e1
 ·have:=ht.ev e e1
  omega
 ·simp only[List.mem_cons,List.not_mem_nil,or_false] at e1
  subst e1
  obtain⟨e1,e2⟩:=step_ev p s k
  rw[e1,e2,hgd]
  have:=hT.pc
  omega
structure RunT where
 c:Int
 tr:List Ev
 tk:List Int
 s:StL
noncomputable def lL (p:ProgL) (picks:List Int) (budget:Int):Nat→StL→List Ev→List Int→RunT
 | 0,s,tr,tk=>⟨0,tr,tk,s⟩
 |n+1,s,tr,tk =>
  if 0<xA p s tr.length budget then ⟨xA p s tr.length budget,tr,tk,s⟩
  else
   let k:=wX picks tk (zA p s).length
   let w:=(zA p s).getD k.toNat 0
   lL p picks budget n (zM p s w).1 (tr++[(zM p s w).2]) (tk++[k])
def encRT (x:RunT):List D:=bW x.c x.tr x.tk x.s
theorem y3 (p:ProgL) (picks:List Int) (budget:Int):∀ n s tr tk,gY p picks budget n s tr tk=encRT (lL p picks budget n s tr tk)
 | 0,s,tr,tk=>rfl
 |n+1,s,tr,tk=>by
  unfold gY lL
  split
  ·rfl
  ·exact y3 p picks budget n _ _ _
structure REnd (p:ProgL) (budget:Int) (x:RunT):Prop where
 inv:AInv p x.s
 tr:TrOK x.s x.tr
 code:x.c=xA p x.s x.tr.length budget
 pos:0<x.c
 len:x.tr.length=x.tk.length
 le:(x.tr.length:Int)≤budget
 tk:∀ i∈x.tk,0≤i∧i<5
theorem y9 (p:ProgL) (s:StL) (picks tk:List Int) (hpk:∀ i∈picks,0≤i) (h:0<(zA p s).length):0≤wX picks tk (zA p s).length∧wX picks tk (zA p s).length<(zA p s).length:=by
 unfold wX
 split
 ·rename_i h1
  have h2:0≤picks.getD tk.length 0:=by
   rw[List.getD_eq_getElem?_getD,List.getElem?_eq_getElem h1]
   exact hpk _ (List.getElem_mem h1)
  exact⟨Int.tmod_nonneg _ h2,Int.tmod_lt_of_pos _ (by omega)⟩
 ·omega
theorem en_ne {p:ProgL} {s:StL} {a b:Int} (h:¬ 0<xA p s a b):0<(zA p s).length∧a≠b:=by
 have hen:zA p s≠[]:=by
  intro he
  apply h
  unfold xA
  by_cases hf:s.fault≠0
  ·rw[if_pos hf];decide
  ·rw[if_neg hf,if_pos he];split <;> decide
 refine⟨List.length_pos_iff.2 hen,fun he=>h ?_⟩
 unfold xA
 by_cases hf:s.fault≠0
 ·rw[if_pos hf];decide
 ·rw[if_neg hf,if_neg hen,if_pos he];decide
theorem run_end {p:ProgL} (hg:p.goodS) (hv:p.flt) (picks:List Int) (budget:Int) (hpk:∀ i∈picks,0≤i):∀ n s tr tk,AInv p s→TrOK s tr→tr.length=tk.length→(tr.length:Int)≤budget→budget.toNat+1 - tr.length≤n→(∀ i∈tk,0≤i∧i<5)→REnd p budget (lL p picks budget n s tr tk)
 | 0,s,tr,tk,hi,ht,hl,hb,hn,hk=>by omega
 |n+1,s,tr,tk,hi,ht,hl,hb,hn,hk=>by
  unfold lL
  split
  ·rename_i h
   exact⟨hi,ht,rfl,h,hl,hb,hk⟩
  ·rename_i h
   obtain⟨h1,h2⟩:=en_ne h
   have h3:=y9 p s picks tk hpk h1
   have hkl:(wX picks tk (zA p s).length).toNat<(zA p s).length:=by omega
   have hmem:(zA p s).getD (wX picks tk (zA p s).length).toNat 0∈zA p s:=by rw[List.getD_eq_getElem?_getD,List.getElem?_eq_getElem hkl];exact List.getElem_mem hkl
   have h5:(zA p s).length≤5:=Nat.le_trans (jV) hi.si.len
   refine run_end hg hv picks budget hpk n _ _ _ (dU hg hv hmem hi) (tr_step hg hmem hi ht) (by simp;exact hl) (by simp;omega) (by simp;omega) fun i hx=>?_
   rcases List.mem_append.1 hx with e|e
   ·exact hk i e
   ·simp only[List.mem_cons,List.not_mem_nil,or_false] at e
    subst e
    omega
noncomputable def hY (p:ProgL) (picks:List Int) (budget:Int):RunT:=lL p picks budget (budget.toNat+1) (xV p) [] []
theorem runOf_end {p:ProgL} (hg:p.goodS) (hv:p.flt) (picks:List Int) (budget:Int) (hpk:∀ i∈picks,0≤i) (hb:0≤budget):REnd p budget (hY p picks budget) :=
 run_end hg hv picks budget hpk _ _ _ _ (nO hg) ⟨fun e he=>(by cases he),fun h=>absurd rfl h⟩ rfl hb (by simp) fun i hi=>(by cases hi)
theorem l4Run_of (p:ProgL) (hp:p.wf) (hg:p.goodS) (picks:List Int) (budget:Int) (hpk:∀ i∈picks,0≤i) (hl:picks.length≤1048576) (hb:InR budget 0 1048576) :
  CallsTo EE 67 [agg (encProg p),sl (picks.map encInt),i64 budget] (·=agg (encRT (hY p picks budget))):=by
 have:=l4Run_good p hp hg picks budget hpk hl hb
 rwa [y3] at this
theorem n7 (p:ProgL) (hp:p.wf) (hg:p.goodS) (hv:p.flt) (picks:List Int) (budget:Int) (hpk:∀ i∈picks,0≤i) (hl:picks.length≤1048576) (hb:InR budget 0 1048576) :
  CallsTo EE 209 [agg (encProg p),sl (picks.map encInt),i64 budget] (·=agg (encRT (hY p picks budget))):=by
 have:=eB p hp hg hv picks budget hpk hl hb
 rwa [y3] at this
end Ai
namespace Ai
set_option maxRecDepth 100000
open Go Go.Proofs Ieee
def Cn (x:Nat):Prop:=canon x=x
theorem tA:Cn 0:=canon_num (by decide +kernel)
theorem nearN_cn (n:Int):Cn (FloatKind.f64.nearest n):=canon_num (qX (.number (n<0) n.natAbs 0) rfl)
theorem fop_cn (op:BinOp) (x y:Nat):Cn (fop op x y):=by
 unfold fop
 cases h:floatBits op .f64 x y with
 |none=>exact canon_nan pH
 |some r=>exact canon_num (floatBits_num h)
theorem reckon_cn (c:Int) (x y:Nat):Cn (yN c x y):=by
 unfold yN
 repeat' split
 all_goals first|exact fop_cn _ _ _|exact tA|(unfold Cn oneF;decide +kernel)|(unfold Cn;decide +kernel)
theorem topN_cn0 {t:Th} {o:OpL} {i:Nat} (h:∀ x∈t.stack,Cn x):Cn (yP t o i):=by
 unfold yP
 rw[List.getD_eq_getElem?_getD]
 cases hg:(t.stack.drop (zU t o))[i]? with
 |none=>exact tA
 |some x=>exact h x (List.mem_of_mem_drop (List.mem_of_getElem? hg))
def ProgL.cn (p:ProgL):Prop:=∀ r∈p.rs,∀ o∈r,Cn o.v
def StL.cn (s:StL):Prop:=(∀ c∈s.cells,Cn c)∧∀ t∈s.ths,∀ x∈t.stack,Cn x
theorem uO {s:StL} {k:Nat} {t:Th} (h:s.cn) (ht:∀ x∈t.stack,Cn x):(s.put k t).cn:=by
 refine⟨h.1,fun u hu=>?_⟩
 rcases List.mem_or_eq_of_mem_set hu with e|e
 ·exact h.2 u e
 ·subst e;exact ht
theorem topN_cn {t:Th} {o:OpL} {i:Nat} (h:∀ x∈t.stack,Cn x):Cn (yP t o i):=topN_cn0 h
theorem cn_do {s:StL} {k:Nat} {o:OpL} {e:Ev} (hk:k<s.ths.length) (h:s.cn) (ho:Cn o.v):(doL s k o e).1.cn:=by
 have hgd:s.ths.getD k th0=s.ths[k]:=by simp[List.getD_eq_getElem?_getD,hk]
 have ht:=h.2 _ (List.getElem_mem hk)
 generalize s.ths[k]=t at *
 unfold doL
 simp only[hgd]
 have hpop:∀ x∈(zE t o).stack,Cn x:=fun x hx=>ht x (List.mem_of_mem_take hx)
 have hpush:∀ v,Cn v→∀ x∈(zO (zE t o) v).stack,Cn x:=by
  intro v hv x hx
  rcases List.mem_append.1 hx with e|e
  ·exact hpop x e
  ·simp only[List.mem_cons,List.not_mem_nil,or_false] at e
   subst e;exact hv
 by_cases n1:o.code=1
 ·rw[if_pos n1];exact uO h (hpush _ ho)
 rw[if_neg n1]
 by_cases n2:o.code=2
 ·rw[if_pos n2]
  refine uO h (hpush _ ?_)
  rw[List.getD_eq_getElem?_getD]
  cases hg:s.cells[o.a.toNat]? with
  |none=>exact tA
  |some c=>exact h.1 c (List.mem_of_getElem? hg)
 rw[if_neg n2]
 by_cases n3:o.code=3
 ·rw[if_pos n3]
  refine uO ⟨fun c hc=>?_,h.2⟩ hpop
  rcases List.mem_or_eq_of_mem_set hc with e|e
  ·exact h.1 c e
  ·subst e;exact topN_cn ht
 rw[if_neg n3]
 by_cases n10:o.code=10
 ·rw[if_pos n10];exact uO h hpop
 rw[if_neg n10]
 by_cases n11:o.code=11
 ·rw[if_pos n11]
  refine uO h ?_
  split
  ·exact hpop
  ·exact hpop
 rw[if_neg n11]
 by_cases n12:o.code=12
 ·rw[if_pos n12];exact uO (s:={ s with owner:=_ }) h hpop
 rw[if_neg n12]
 by_cases n13:o.code=13
 ·rw[if_pos n13];exact uO (s:={ s with owner:=_ }) h hpop
 rw[if_neg n13]
 by_cases n14:o.code=14
 ·rw[if_pos n14]
  refine uO (s:={ s with ths:=_ }) ⟨h.1,fun u hu=>?_⟩ (hpush _ (nearN_cn _))
  rcases List.mem_append.1 hu with e|e
  ·exact h.2 u e
  ·simp only[List.mem_cons,List.not_mem_nil,or_false] at e
   subst e;intro x hx;cases hx
 rw[if_neg n14]
 by_cases n15:o.code=15
 ·rw[if_pos n15];exact uO h hpop
 rw[if_neg n15]
 by_cases n16:o.code=16
 ·rw[if_pos n16];exact uO (s:={ s with owner:=_ }) h hpop
 rw[if_neg n16]
 by_cases n17:o.code=17
 ·rw[if_pos n17]
  cases wW s.ths o.a with
  |none=>exact uO h hpop
  |some j =>
   refine uO (s:={ s with ths:=_ }) ⟨h.1,fun u hu=>?_⟩ hpop
   obtain⟨i,hi,rfl⟩:=List.mem_iff_getElem.1 hu
   have hil:i<s.ths.length:=by simpa using hi
   have:=h.2 _ (List.getElem_mem hil)
   rw[List.getElem_modify]
   split
   ·exact this
   ·exact this
 rw[if_neg n17]
 exact uO h (hpush _ (reckon_cn _ _ _))
theorem cn_step {p:ProgL} (hv:p.cn) {s:StL} {k:Nat} (hk:k<s.ths.length) (h:s.cn):(zM p s k).1.cn:=by
 have hgd:s.ths.getD k th0=s.ths[k]:=by simp[List.getD_eq_getElem?_getD,hk]
 have ht:=h.2 _ (List.getElem_mem hk)
 unfold zM
 simp only[hgd]
 split
 ·exact uO (s:={ s with owner:=_ }) h ht
 ·split
  ·exact uO h ht
  ·rename_i o hn
   split
   ·refine cn_do hk h ?_
    unfold yG at hn
    by_cases hr:s.ths[k].rt.toNat<p.rs.length
    ·have e:p.rs.getD s.ths[k].rt.toNat []=p.rs[s.ths[k].rt.toNat]:=by rw[List.getD_eq_getElem?_getD,List.getElem?_eq_getElem hr];rfl
     rw[e] at hn
     exact hv _ (List.getElem_mem hr) o (List.mem_of_getElem? hn)
    ·have e:p.rs.getD s.ths[k].rt.toNat []=[]:=by rw[List.getD_eq_getElem?_getD,List.getElem?_eq_none (by omega)];rfl
     rw[e] at hn
     simp at hn
   ·exact h
theorem cn_new (p:ProgL):(xV p).cn:=by
 refine⟨fun c hc=>?_,fun t ht=>?_⟩
 ·obtain⟨_,rfl⟩:=List.mem_replicate.1 hc
  exact tA
 ·have:t=jE 0:=by simpa[xV] using ht
  subst this
  intro x hx;cases hx
theorem runT_cn {p:ProgL} (hg:p.goodS) (hv:p.flt) (hc:p.cn) (picks:List Int) (budget:Int) (hpk:∀ i∈picks,0≤i):∀ n s tr tk,AInv p s→s.cn→(lL p picks budget n s tr tk).s.cn
 | 0,s,tr,tk,hi,h=>h
 |n+1,s,tr,tk,hi,h=>by
  unfold lL
  split
  ·exact h
  ·rename_i hcd
   obtain⟨h1,h2⟩:=en_ne hcd
   have h3:=y9 p s picks tk hpk h1
   have hkl:(wX picks tk (zA p s).length).toNat<(zA p s).length:=by omega
   have hmem:(zA p s).getD (wX picks tk (zA p s).length).toNat 0∈zA p s:=by rw[List.getD_eq_getElem?_getD,List.getElem?_eq_getElem hkl];exact List.getElem_mem hkl
   exact runT_cn hg hv hc picks budget hpk n _ _ _ (dU hg hv hmem hi) (cn_step hc (sG hmem) h)
theorem runOf_cn {p:ProgL} (hg:p.goodS) (hv:p.flt) (hc:p.cn) (picks:List Int) (budget:Int) (hpk:∀ i∈picks,0≤i):(hY p picks budget).s.cn :=
 runT_cn hg hv hc picks budget hpk _ _ _ _ (nO hg) (cn_new p)
theorem mG {x y:Nat} (hx:Cn x) (hy:Cn y) (hx2:F64 x) (hy2:F64 y):gS x y↔x=y:=by
 by_cases h:zR x=true∨zR y=true
 ·constructor
  ·rintro(e|e)
   ·unfold Cn at hx hy
    rw[← hx,← hy,canon_nan e.2.1,canon_nan e.2.2]
   ·exact absurd h e.1
  ·rintro rfl
   have h':zR x=true:=h.elim id id
   exact .inl ⟨h,h',h'⟩
 ·have nx:zR x=false:=by simpa using fun e=>h (.inl e)
  have ny:zR y=false:=by simpa using fun e=>h (.inr e)
  constructor
  ·rintro(e|e)
   ·exact absurd e.1 h
   ·exact(mH hx2 hy2 nx ny).1 e.2
  ·intro e
   exact .inr ⟨h,(mH hx2 hy2 nx ny).2 e⟩
end Ai
namespace Ai
set_option maxRecDepth 100000
open Go Go.Proofs
theorem szOpS_ok (xs:List (List D)) (left:Int) (h0:0≤left) (h1:left≤1048576) (hx:xs.length≤9223372036854775807) :
  CallsTo EE 112 [sl xs,i64 left] (szR left xs.length):=by
 refine callsTo_of_AW (fn:=Tryz.f112) Tryz.func112 rfl (by kernel_rfl) rfl ?_
 conv=>whnf
 rw[zG (by omega) (by omega)]
 refine⟨fun h=>?_,fun h=>?_⟩
 ·conv=>whnf
  exact⟨-1,rfl,by omega,by omega,by omega⟩
 ·conv=>whnf
  simp at h
  exact⟨_,rfl,by omega,by omega,by omega⟩
theorem eY (xs:List (List D)) (left:Int) (h0:0≤left) (h1:left≤1048576) (hx:xs.length≤9223372036854775807) :
  CallsTo EE 70 [sl xs,i64 left] (szR left xs.length):=by
 refine callsTo_of_AW (fn:=Tryz.f70) Tryz.func70 rfl (by kernel_rfl) rfl ?_
 conv=>whnf
 rw[zG (by omega) (by omega)]
 refine⟨fun h=>?_,fun h=>?_⟩
 ·conv=>whnf
  exact⟨-1,rfl,by omega,by omega,by omega⟩
 ·conv=>whnf
  simp at h
  exact⟨_,rfl,by omega,by omega,by omega⟩
theorem szOpSS_ok (xs:List (List OpL)) (left:Int) (h0:0≤left) (h1:left≤1048576) (hx:xs.length≤9223372036854775807) (hx2:∀ x∈xs,x.length≤9223372036854775807) :
  CallsTo EE 56 [sl (xs.map yD),i64 left] (szR left (jL List.length xs)):=by
 refine callsTo_of_AW (fn:=Tryz.f56) Tryz.func56 rfl (by kernel_rfl) rfl ?_
 conv=>whnf
 rw[zG (by simp;omega) (by simp;omega),List.length_map]
 refine⟨fun h=>?_,fun h=>?_⟩
 ·conv=>whnf
  exact⟨-1,rfl,by omega,by omega,by omega⟩
 ·simp at h
  conv=>whnf
  refine yZ (fun x:Nat × Int=>[(0,sl (xs.map yD)),(5,i64 x.1),(1,i64 x.2)]) (fun _=>[]) (fun x=>xs.length - x.1)
   (fun x=>x.1≤xs.length∧0≤x.2∧(xs.length:Int)+((xs.map List.length).take x.1).sum+x.2≤left) (0,left - xs.length) .refl ⟨rfl,rfl,rfl,trivial⟩ trivial ⟨by omega,by omega,by simp;omega⟩ ?_
  rintro⟨k,l⟩ τ H ⟨hk,hl,hs⟩
  dsimp only at hk hl hs
  conv=>whnf
  refine⟨fun h=>?_,fun h=>?_⟩
  ·have hlt:=yR h
   conv=>whnf
   refine⟨yD xs[k],zN yD hlt rfl,?_⟩
   conv=>whnf
   refine⟨_,szOpS_ok _ l hl (by omega) (by simpa using hx2 _ (List.getElem_mem hlt)),?_⟩
   rintro r ⟨n,rfl,hn1,hn2,hn3⟩
   conv=>whnf
   refine⟨fun h=>?_,fun h=>?_⟩
   ·conv=>whnf
    exact⟨-1,rfl,by omega,by omega,by omega⟩
   ·simp at h
    conv=>whnf
    refine⟨(k+1,n),⟨by omega,by omega,?_⟩,by show xs.length - (k+1)<xs.length - k;omega,⟨rfl,zH hlt hx,rfl,trivial⟩,trivial⟩
    have hm:k<(xs.map List.length).length:=by simpa using hlt
    rw[dZ _ _ hm]
    have:=hn3 h
    simp at this ⊢
    omega
  ·have hge:=bP h
   conv=>whnf
   have hkk:k=xs.length:=by omega
   subst hkk
   refine⟨_,rfl,by omega,?_,?_⟩
   ·omega
   ·intro _
    simp only[jL]
    rw[List.take_of_length_le (by simp)] at hs
    simp at hs ⊢
    omega
theorem szProg_ok (p:ProgL) (left:Int) (h0:0≤left) (h1:left≤1048576) (hs:p.wf):CallsTo EE 11 [agg (encProg p),i64 left] (szR left p.size):=by
 refine callsTo_of_AW (fn:=Tryz.f11) Tryz.func11 rfl (by kernel_rfl) rfl ?_
 conv=>whnf
 refine⟨_,szOpSS_ok _ left h0 h1 hs.1 hs.2,?_⟩
 rintro r ⟨n,rfl,hn1,hn2,hn3⟩
 conv=>whnf
 refine⟨fun h=>?_,fun h=>?_⟩
 ·conv=>whnf
  exact⟨-1,rfl,by omega,by omega,by omega⟩
 ·simp at h
  conv=>whnf
  exact⟨_,rfl,by omega,by omega,hn3⟩
end Ai
namespace Ai
set_option maxRecDepth 100000
open Go Go.Proofs
theorem n5 (xs:List (List D)) (left:Int) (h0:0≤left) (h1:left≤1048576) (hx:xs.length≤9223372036854775807) :
  CallsTo EE 69 [sl xs,i64 left] (szR left xs.length):=by
 refine callsTo_of_AW (fn:=Tryz.f69) Tryz.func69 rfl (by kernel_rfl) rfl ?_
 conv=>whnf
 rw[zG (by omega) (by omega)]
 refine⟨fun h=>?_,fun h=>?_⟩
 ·conv=>whnf
  exact⟨-1,rfl,by omega,by omega,by omega⟩
 ·conv=>whnf
  simp at h
  exact⟨_,rfl,by omega,by omega,by omega⟩
theorem rL (xs:List (List D)) (left:Int) (h0:0≤left) (h1:left≤1048576) (hx:xs.length≤9223372036854775807) :
  CallsTo EE 137 [sl xs,i64 left] (szR left xs.length):=by
 refine callsTo_of_AW (fn:=Tryz.f137) Tryz.func137 rfl (by kernel_rfl) rfl ?_
 conv=>whnf
 rw[zG (by omega) (by omega)]
 refine⟨fun h=>?_,fun h=>?_⟩
 ·conv=>whnf
  exact⟨-1,rfl,by omega,by omega,by omega⟩
 ·conv=>whnf
  simp at h
  exact⟨_,rfl,by omega,by omega,by omega⟩
theorem n4 (t:Th) (left:Int) (h0:0≤left) (h1:left≤1048576) (hx:t.stack.length≤9223372036854775807) :
  CallsTo EE 199 [agg (zD t),i64 left] (szR left t.stack.length):=by
 refine callsTo_of_AW (fn:=Tryz.f199) Tryz.func199 rfl (by kernel_rfl) rfl ?_
 have hz:=rL (t.stack.map encF) left h0 h1 (by simpa using hx)
 rw[List.length_map] at hz
 conv=>whnf
 refine⟨_,hz,?_⟩
 rintro r ⟨n,rfl,hn1,hn2,hn3⟩
 conv=>whnf
 refine⟨fun h=>?_,fun h=>?_⟩
 ·conv=>whnf
  exact⟨-1,rfl,by omega,by omega,by omega⟩
 ·simp at h
  conv=>whnf
  exact⟨_,rfl,by omega,by omega,hn3⟩
def Th.stl (t:Th):Nat:=t.stack.length
theorem z8 (xs:List Th) (left:Int) (h0:0≤left) (h1:left≤1048576) (hx:xs.length≤9223372036854775807) (hx2:∀ x∈xs,x.stack.length≤9223372036854775807) :
  CallsTo EE 136 [sl (xs.map zD),i64 left] (szR left (jL Th.stl xs)):=by
 refine callsTo_of_AW (fn:=Tryz.f136) Tryz.func136 rfl (by kernel_rfl) rfl ?_
 conv=>whnf
 rw[zG (by simp;omega) (by simp;omega),List.length_map]
 refine⟨fun h=>?_,fun h=>?_⟩
 ·conv=>whnf
  exact⟨-1,rfl,by omega,by omega,by omega⟩
 ·simp at h
  conv=>whnf
  refine yZ (fun x:Nat × Int=>[(0,sl (xs.map zD)),(5,i64 x.1),(1,i64 x.2)]) (fun _=>[]) (fun x=>xs.length - x.1)
   (fun x=>x.1≤xs.length∧0≤x.2∧(xs.length:Int)+((xs.map Th.stl).take x.1).sum+x.2≤left) (0,left - xs.length) .refl ⟨rfl,rfl,rfl,trivial⟩ trivial ⟨by omega,by omega,by simp;omega⟩ ?_
  rintro⟨k,l⟩ τ H ⟨hk,hl,hs⟩
  dsimp only at hk hl hs
  conv=>whnf
  refine⟨fun h=>?_,fun h=>?_⟩
  ·have hlt:=yR h
   conv=>whnf
   refine⟨zD xs[k],zN zD hlt rfl,?_⟩
   conv=>whnf
   refine⟨_,n4 xs[k] l hl (by omega) (hx2 _ (List.getElem_mem hlt)),?_⟩
   rintro r ⟨n,rfl,hn1,hn2,hn3⟩
   conv=>whnf
   refine⟨fun h=>?_,fun h=>?_⟩
   ·conv=>whnf
    exact⟨-1,rfl,by omega,by omega,by omega⟩
   ·simp at h
    conv=>whnf
    refine⟨(k+1,n),⟨by omega,by omega,?_⟩,by show xs.length - (k+1)<xs.length - k;omega,⟨rfl,zH hlt hx,rfl,trivial⟩,trivial⟩
    have hm:k<(xs.map Th.stl).length:=by simpa using hlt
    rw[dZ _ _ hm]
    have:=hn3 h
    simp[Th.stl] at this ⊢
    omega
  ·have hge:=bP h
   conv=>whnf
   have hkk:k=xs.length:=by omega
   subst hkk
   refine⟨_,rfl,by omega,?_,?_⟩
   ·omega
   ·intro _
    simp only[jL]
    rw[List.take_of_length_le (by simp)] at hs
    simp at hs ⊢
    omega
structure StL.wf (s:StL):Prop where
 ths:s.ths.length≤9223372036854775807
 st:∀ t∈s.ths,t.stack.length≤9223372036854775807
 cells:s.cells.length≤9223372036854775807
 owner:s.owner.length≤9223372036854775807
def StL.size (s:StL):Nat:=jL Th.stl s.ths+(s.cells.length+s.owner.length)
theorem szState_ok (s:StL) (left:Int) (h0:0≤left) (h1:left≤1048576) (hs:s.wf):CallsTo EE 71 [agg (yL s),i64 left] (szR left s.size):=by
 refine callsTo_of_AW (fn:=Tryz.f71) Tryz.func71 rfl (by kernel_rfl) rfl ?_
 conv=>whnf
 refine⟨_,z8 _ left h0 h1 hs.ths hs.st,?_⟩
 rintro r ⟨n,rfl,hn1,hn2,hn3⟩
 conv=>whnf
 refine⟨fun h=>?_,fun h=>?_⟩
 ·conv=>whnf
  exact⟨-1,rfl,by omega,by omega,by omega⟩
 ·simp at h
  have h3:=hn3 (by omega)
  conv=>whnf
  refine⟨_,rL _ n (by omega) (by omega) (by simpa using hs.cells),?_⟩
  rintro r ⟨n2,rfl,hm1,hm2,hm3⟩
  conv=>whnf
  refine⟨fun h=>?_,fun h=>?_⟩
  ·conv=>whnf
   exact⟨-1,rfl,by omega,by omega,by omega⟩
  ·simp at h
   have h4:=hm3 (by omega)
   simp at h4
   conv=>whnf
   refine⟨_,eY _ n2 (by omega) (by omega) (by simpa using hs.owner),?_⟩
   rintro r ⟨n3,rfl,hk1,hk2,hk3⟩
   conv=>whnf
   refine⟨fun h=>?_,fun h=>?_⟩
   ·conv=>whnf
    exact⟨-1,rfl,by omega,by omega,by omega⟩
   ·simp at h
    have h5:=hk3 (by omega)
    simp at h5
    conv=>whnf
    exact⟨_,rfl,by omega,by omega,fun _=>by unfold StL.size;omega⟩
structure RunT.wf (x:RunT):Prop where
 tr:x.tr.length≤9223372036854775807
 tk:x.tk.length≤9223372036854775807
 s:x.s.wf
def RunT.size (x:RunT):Nat:=x.tr.length+(x.tk.length+x.s.size)
theorem szRun_ok (x:RunT) (left:Int) (h0:0≤left) (h1:left≤1048576) (hx:x.wf):CallsTo EE 24 [agg (encRT x),i64 left] (szR left x.size):=by
 refine callsTo_of_AW (fn:=Tryz.f24) Tryz.func24 rfl (by kernel_rfl) rfl ?_
 conv=>whnf
 refine⟨_,n5 _ left h0 h1 (by simpa using hx.tr),?_⟩
 rintro r ⟨n,rfl,hn1,hn2,hn3⟩
 conv=>whnf
 refine⟨fun h=>?_,fun h=>?_⟩
 ·conv=>whnf
  exact⟨-1,rfl,by omega,by omega,by omega⟩
 ·simp at h
  have h3:=hn3 (by omega)
  simp at h3
  conv=>whnf
  refine⟨_,eY _ n (by omega) (by omega) (by simpa using hx.tk),?_⟩
  rintro r ⟨n2,rfl,hm1,hm2,hm3⟩
  conv=>whnf
  refine⟨fun h=>?_,fun h=>?_⟩
  ·conv=>whnf
   exact⟨-1,rfl,by omega,by omega,by omega⟩
  ·simp at h
   have h4:=hm3 (by omega)
   simp at h4
   conv=>whnf
   refine⟨_,szState_ok x.s n2 (by omega) (by omega) hx.s,?_⟩
   rintro r ⟨n3,rfl,hk1,hk2,hk3⟩
   conv=>whnf
   refine⟨fun h=>?_,fun h=>?_⟩
   ·conv=>whnf
    exact⟨-1,rfl,by omega,by omega,by omega⟩
   ·simp at h
    have h5:=hk3 (by omega)
    conv=>whnf
    exact⟨_,rfl,by omega,by omega,fun _=>by unfold RunT.size;omega⟩
end Ai
namespace Ai
set_option maxRecDepth 100000
open Go Go.Proofs Cyc
def gO:Ev:=⟨0,0,0,0,0⟩
end Ai
namespace Ai
set_option maxRecDepth 100000
open Go Go.Proofs
theorem arePicks_ok (xs:List Int) (most:Nat) (hx:xs.length≤1048576):CallsTo EE 207 [sl (xs.map encInt),i64 most] (·=bp (xs.length≤most∧AllIn xs 0 999)):=by
 refine callsTo_of_AW (fn:=Tryz.f207) Tryz.func207 rfl (by kernel_rfl) rfl ?_
 conv=>whnf
 refine kbi (fun h=>?_) (fun h=>?_)
 ·simp at h
  conv=>whnf
  refine ocase (aI xs hx 253 (fun n=>¬ InR n 0 999) (fun n _=>j7 n)) (fun h2=>?_) (fun h2=>?_)
  ·conv=>whnf
   refine bpf fun hm=>?_
   obtain⟨x,hx1,hx2⟩:=h2
   exact hx2 (hm.2 x hx1)
  ·conv=>whnf
   refine bpt ⟨by omega,fun x hx1=>?_⟩
   exact Classical.byContradiction fun hb=>h2 ⟨x,hx1,hb⟩
 ·simp at h
  conv=>whnf
  exact bpf fun hm=>by have:=hm.1;omega
end Ai
namespace Ai
set_option maxRecDepth 100000
open Go Go.Proofs
theorem yI (n:Int) (h:(n != n)=true):False:=by simp at h
theorem oQ (xs:List Int) (hx:xs.length≤1048576):CallsTo EE 28 [sl (xs.map encInt),sl (xs.map encInt)] (·=bv true):=by
 refine callsTo_of_AW (fn:=Tryz.f28) Tryz.func28 rfl (by kernel_rfl) rfl ?_
 conv=>whnf
 refine⟨fun h=>(yI _ h).elim,fun _=>?_⟩
 conv=>whnf
 refine yZ (fun k:Nat=>[(0,sl (xs.map encInt)),(1,sl (xs.map encInt)),(5,i64 k)]) (fun k=>[]) (fun k=>xs.length - k) (fun k=>k≤xs.length) 0 .refl ⟨rfl,rfl,rfl,trivial⟩ trivial (Nat.zero_le _) ?_
 intro k τ H hk
 conv=>whnf
 refine⟨fun h=>?_,fun h=>?_⟩
 ·have hlt:=yR h
  conv=>whnf
  refine⟨by kernel_rfl,?_⟩
  conv=>whnf
  refine⟨encInt xs[k],zN encInt hlt rfl,?_⟩
  conv=>whnf
  refine⟨encInt xs[k],zN encInt hlt rfl,?_⟩
  conv=>whnf
  refine⟨fun h=>(yI _ h).elim,fun _=>?_⟩
  conv=>whnf
  refine⟨k+1,by omega,by show xs.length - (k+1)<xs.length - k;omega,⟨rfl,rfl,zH hlt (by omega),trivial⟩,trivial⟩
 ·conv=>whnf
theorem gX (x:Nat):CallsTo EE 173 [.d (.flt x),.d (.flt x)] (·=bv true):=by
 refine callsTo_of_AW (fn:=Tryz.f173) Tryz.func173 rfl (by kernel_rfl) rfl ?_
 conv=>whnf
 repeat' (refine kbi (fun h=>?_) (fun h=>?_) <;> first|contradiction|conv=>whnf)
 all_goals simp[sZ] at *
 all_goals simp_all
theorem eqOp_ok (x:OpL):CallsTo EE 189 [agg (encOp x),agg (encOp x)] (·=bv true):=by
 refine callsTo_of_AW (fn:=Tryz.f189) Tryz.func189 rfl (by kernel_rfl) rfl ?_
 conv=>whnf
 refine⟨fun h=>(yI _ h).elim,fun _=>?_⟩
 conv=>whnf
 refine⟨fun h=>(yI _ h).elim,fun _=>?_⟩
 conv=>whnf
 refine⟨fun h=>(yI _ h).elim,fun _=>?_⟩
 conv=>whnf
 refine⟨_,gX x.v,?_⟩
 rintro r rfl
 conv=>whnf
theorem eqOpS_ok (xs:List OpL) (hx:xs.length≤1048576):CallsTo EE 118 [sl (xs.map encOp),sl (xs.map encOp)] (·=bv true):=by
 refine callsTo_of_AW (fn:=Tryz.f118) Tryz.func118 rfl (by kernel_rfl) rfl ?_
 conv=>whnf
 refine⟨fun h=>(yI _ h).elim,fun _=>?_⟩
 conv=>whnf
 refine yZ (fun k:Nat=>[(0,sl (xs.map encOp)),(1,sl (xs.map encOp)),(5,i64 k)]) (fun k=>[]) (fun k=>xs.length - k) (fun k=>k≤xs.length) 0 .refl ⟨rfl,rfl,rfl,trivial⟩ trivial (Nat.zero_le _) ?_
 intro k τ H hk
 conv=>whnf
 refine⟨fun h=>?_,fun h=>?_⟩
 ·have hlt:=yR h
  conv=>whnf
  refine⟨by kernel_rfl,?_⟩
  conv=>whnf
  refine⟨encOp xs[k],zN encOp hlt rfl,?_⟩
  conv=>whnf
  refine⟨encOp xs[k],zN encOp hlt rfl,?_⟩
  conv=>whnf
  refine⟨_,eqOp_ok xs[k],?_⟩
  conv=>whnf
  refine⟨k+1,by omega,by show xs.length - (k+1)<xs.length - k;omega,⟨rfl,rfl,zH hlt (by omega),trivial⟩,trivial⟩
 ·conv=>whnf
theorem eqOpSS_ok (xs:List (List OpL)) (hx:xs.length≤1048576) (hx2:∀ x∈xs,x.length≤1048576):CallsTo EE 61 [sl (xs.map yD),sl (xs.map yD)] (·=bv true):=by
 refine callsTo_of_AW (fn:=Tryz.f61) Tryz.func61 rfl (by kernel_rfl) rfl ?_
 conv=>whnf
 refine⟨fun h=>(yI _ h).elim,fun _=>?_⟩
 conv=>whnf
 refine yZ (fun k:Nat=>[(0,sl (xs.map yD)),(1,sl (xs.map yD)),(5,i64 k)]) (fun k=>[]) (fun k=>xs.length - k) (fun k=>k≤xs.length) 0 .refl ⟨rfl,rfl,rfl,trivial⟩ trivial (Nat.zero_le _) ?_
 intro k τ H hk
 conv=>whnf
 refine⟨fun h=>?_,fun h=>?_⟩
 ·have hlt:=yR h
  conv=>whnf
  refine⟨by kernel_rfl,?_⟩
  conv=>whnf
  refine⟨yD xs[k],zN yD hlt rfl,?_⟩
  conv=>whnf
  refine⟨yD xs[k],zN yD hlt rfl,?_⟩
  conv=>whnf
  refine⟨_,eqOpS_ok xs[k] (hx2 _ (List.getElem_mem hlt)),?_⟩
  conv=>whnf
  refine⟨k+1,by omega,by show xs.length - (k+1)<xs.length - k;omega,⟨rfl,rfl,zH hlt (by omega),trivial⟩,trivial⟩
 ·conv=>whnf
theorem eqProg_ok (p:ProgL) (h:p.rs.length≤1048576∧∀ x∈p.rs,x.length≤1048576):CallsTo EE 16 [agg (encProg p),agg (encProg p)] (·=bv true):=by
 refine callsTo_of_AW (fn:=Tryz.f16) Tryz.func16 rfl (by kernel_rfl) rfl ?_
 conv=>whnf
 refine⟨fun h=>(yI _ h).elim,fun _=>?_⟩
 conv=>whnf
 refine⟨fun h=>(yI _ h).elim,fun _=>?_⟩
 conv=>whnf
 refine⟨fun h=>(yI _ h).elim,fun _=>?_⟩
 conv=>whnf
 refine⟨_,eqOpSS_ok _ h.1 h.2,?_⟩
 rintro r rfl
 conv=>whnf
end Ai
namespace Ai
set_option maxRecDepth 100000
open Go Go.Proofs Cyc
theorem iD (c:List Int) (k:Nat) (x:Int):xF (c.map encInt) 1 (0+(k:Int).toNat) 0 [di x]=(c.set k x).map encInt:=by
 have e:xF (c.map encInt) 1 (0+(k:Int).toNat) 0 [di x]=(c.map encInt).set k [di x]:=by
  unfold xF
  rw[show([di x]:List D).length=1 from rfl,nbeq_self,nbeq_self]
  simp
 rw[e,List.map_set]
 rfl
end Ai
namespace Ai
set_option maxRecDepth 100000
open Go Go.Proofs
def lB (k:Int) (n:Nat):List Int:=(List.range n).map fun (j:Nat)=>k+(j:Int)
theorem dQ (k:Int) (n:Nat):(lB k n).length=n:=by simp[lB]
def uM (xs:List Int) (k:Int) (n:Nat):List Int:=lB k n++xs.drop n
theorem rS {xs:List Int} {k:Int} {n:Nat} (h:n<xs.length):(uM xs k n).set n (k+(n:Int))=uM xs k (n+1):=by
 unfold uM
 rw[List.drop_eq_getElem_cons h,List.set_append_right _ _ (by rw[dQ];omega),dQ,Nat.sub_self,List.set_cons_zero]
 unfold lB
 rw[List.range_succ,List.map_append]
 simp
theorem cF (xs:List Int) (k:Int):uM xs k xs.length=lB k xs.length:=by simp[uM]
theorem rT (κ:Key) (hκ:κ=.n 77∨κ=.l 77) (xs:List Int) (k:Int) (hx:xs.length≤1048576) (h0:0≤k) (h1:k≤1073741824) (H0:Key→Option Ob) (hH:H0 κ=some (.ds 3 1 (xs.map encInt))) :
  IOCall EE 31 [.ref κ 0 xs.length,i64 k] H0 (fun r H1=>r=i64 (k+xs.length)∧H1 κ=some (.ds 3 1 ((lB k xs.length).map encInt))∧∀ κ',isK κ κ'=false→H1 κ'=none):=by
 rcases hκ with rfl|rfl
 ·refine xR (fn:=Tryz.f31) (c:=Tryz.f31.body.getD .skip) Tryz.func31 rfl (by kernel_rfl) rfl ?_
  have hat:At [(0,.ref (.n 77) 0 xs.length),(1,i64 k)] [(.n 77,.ds 3 1 (xs.map encInt))] [] ⟨fun i=>[AV.ref (.n 77) 0 xs.length,i64 k].getD i .junk,H0⟩:=⟨⟨rfl,rfl,trivial⟩,⟨hH,trivial⟩,trivial⟩
  obtain⟨τ,H,hf⟩:=hat.form
  rw[hf]
  conv=>whnf
  refine yZ (fun n:Nat=>[(0,.ref (.n 77) 0 xs.length),(1,i64 (k+(n:Int))),(5,i64 n)]) (fun n=>[(.n 77,.ds 3 1 ((uM xs k n).map encInt))]) (fun n=>xs.length - n) (fun n=>n≤xs.length) 0
   Weak.refl ⟨rfl,?_,rfl,trivial⟩ ⟨?_,trivial⟩ (Nat.zero_le _) ?_
  ·show i64 k=i64 (k+((0:Nat):Int))
   rw[show k+((0:Nat):Int)=k by omega]
  ·show some (Ob.ds 3 1 (xs.map encInt))=some (Ob.ds 3 1 ((uM xs k 0).map encInt))
   simp[uM,lB]
  intro n τ H hn
  have hn:n≤xs.length:=hn
  conv=>whnf
  refine kbi (fun h=>?_) (fun h=>?_)
  ·have hlt:n<xs.length:=by simpa using h
   conv=>whnf
   refine⟨⟨by omega,by omega⟩,?_⟩
   conv=>whnf
   refine⟨n+1,by show n+1≤xs.length;omega,by show xs.length - (n+1)<xs.length - n;omega,⟨rfl,?_,?_,trivial⟩,⟨?_,trivial⟩⟩
   ·show AV.d (.int .i64 (IntKind.i64.wrap ((k+(n:Int))+1)))=i64 (k+((n+1:Nat):Int))
    rw[zG (by omega) (by omega)]
    exact congrArg i64 (by omega)
   ·show AV.d (.int .i64 (IntKind.i64.wrap ((n:Int)+1)))=i64 ((n+1:Nat):Int)
    rw[zG (by omega) (by omega)]
    rfl
   ·show some (Ob.ds 3 1 (xF ((uM xs k n).map encInt) 1 (0+(n:Int).toNat) 0 [di (k+(n:Int))]))=_
    rw[iD,rS hlt]
  ·have hkk:n=xs.length:=by
    have:¬ n<xs.length:=by simpa using h
    omega
   subst hkk
   conv=>whnf
   refine⟨_,Weak.refl,?_⟩
   conv=>whnf
   refine⟨isK (.n 77),rfl,?_,fun κ hκ=>?_⟩
   ·show some (Ob.ds 3 1 ((uM xs k xs.length).map encInt))=_
    rw[cF]
   ·unfold yW
    rw[hκ];rfl
 ·refine xR (fn:=Tryz.f31) (c:=Tryz.f31.body.getD .skip) Tryz.func31 rfl (by kernel_rfl) rfl ?_
  have hat:At [(0,.ref (.l 77) 0 xs.length),(1,i64 k)] [(.l 77,.ds 3 1 (xs.map encInt))] [] ⟨fun i=>[AV.ref (.l 77) 0 xs.length,i64 k].getD i .junk,H0⟩:=⟨⟨rfl,rfl,trivial⟩,⟨hH,trivial⟩,trivial⟩
  obtain⟨τ,H,hf⟩:=hat.form
  rw[hf]
  conv=>whnf
  refine yZ (fun n:Nat=>[(0,.ref (.l 77) 0 xs.length),(1,i64 (k+(n:Int))),(5,i64 n)]) (fun n=>[(.l 77,.ds 3 1 ((uM xs k n).map encInt))]) (fun n=>xs.length - n) (fun n=>n≤xs.length) 0
   Weak.refl ⟨rfl,?_,rfl,trivial⟩ ⟨?_,trivial⟩ (Nat.zero_le _) ?_
  ·show i64 k=i64 (k+((0:Nat):Int))
   rw[show k+((0:Nat):Int)=k by omega]
  ·show some (Ob.ds 3 1 (xs.map encInt))=some (Ob.ds 3 1 ((uM xs k 0).map encInt))
   simp[uM,lB]
  intro n τ H hn
  have hn:n≤xs.length:=hn
  conv=>whnf
  refine kbi (fun h=>?_) (fun h=>?_)
  ·have hlt:n<xs.length:=by simpa using h
   conv=>whnf
   refine⟨⟨by omega,by omega⟩,?_⟩
   conv=>whnf
   refine⟨n+1,by show n+1≤xs.length;omega,by show xs.length - (n+1)<xs.length - n;omega,⟨rfl,?_,?_,trivial⟩,⟨?_,trivial⟩⟩
   ·show AV.d (.int .i64 (IntKind.i64.wrap ((k+(n:Int))+1)))=i64 (k+((n+1:Nat):Int))
    rw[zG (by omega) (by omega)]
    exact congrArg i64 (by omega)
   ·show AV.d (.int .i64 (IntKind.i64.wrap ((n:Int)+1)))=i64 ((n+1:Nat):Int)
    rw[zG (by omega) (by omega)]
    rfl
   ·show some (Ob.ds 3 1 (xF ((uM xs k n).map encInt) 1 (0+(n:Int).toNat) 0 [di (k+(n:Int))]))=_
    rw[iD,rS hlt]
  ·have hkk:n=xs.length:=by
    have:¬ n<xs.length:=by simpa using h
    omega
   subst hkk
   conv=>whnf
   refine⟨_,Weak.refl,?_⟩
   conv=>whnf
   refine⟨isK (.l 77),rfl,?_,fun κ hκ=>?_⟩
   ·show some (Ob.ds 3 1 ((uM xs k xs.length).map encInt))=_
    rw[cF]
   ·unfold yW
    rw[hκ];rfl
end Ai
namespace Ai
set_option maxRecDepth 100000
open Go Go.Proofs
theorem vQ (els:List (List D)) (sz k off:Nat) (xs:List D):(xF els sz k off xs).length=els.length:=by
 unfold xF
 cases Nat.beq off 0&&Nat.beq xs.length sz <;> simp
theorem lK {x:D}:∀ (c:List D) (off:Nat),off<c.length→(yE c off [x]).length=c.length
 | [],off,h=>by simp at h
 |c::cs,0,h=>by simp[yE]
 |c::cs,off+1,h=>by
  have:=lK (x:=x) cs off (by simpa using h)
  simp[yE,this]
theorem sW {els:List (List D)} {k off:Nat} {x:D} (h:∀ c∈els,c.length=4) (ho:off<4):∀ c∈xF els 4 k off [x],c.length=4:=by
 intro c hc
 unfold xF at hc
 rw[show Nat.beq ([x]:List D).length 4=false from rfl,Bool.and_false] at hc
 obtain⟨i,hi,rfl⟩:=List.mem_iff_getElem.1 hc
 have hil:i<els.length:=by simpa using hi
 have h4:=h _ (List.getElem_mem hil)
 simp only[cond_false,List.getElem_modify]
 split
 ·rw[lK _ _ (by omega)];exact h4
 ·exact h4
theorem markOpS_ok (els:List (List D)) (k:Int) (n:Nat) (hn:n=els.length) (hx:n≤1048576) (h4:∀ c∈els,c.length=4) (h0:0≤k) (h1:k≤1073741824) (H0:Key→Option Ob) (hH:H0 (.n 50)=some (.ds 183 4 els)) :
  IOCall EE 119 [.ref (.n 50) 0 n,i64 k] H0 (fun r H1=>r=i64 (k+4*n)∧∀ κ,H1 κ=none):=by
 refine xR (fn:=Tryz.f119) (c:=Tryz.f119.body.getD .skip) Tryz.func119 rfl (by kernel_rfl) rfl ?_
 have hat:At [(0,.ref (.n 50) 0 n),(1,i64 k)] [(.n 50,.ds 183 4 els)] [] ⟨fun i=>[AV.ref (.n 50) 0 n,i64 k].getD i .junk,H0⟩:=⟨⟨rfl,rfl,trivial⟩,⟨hH,trivial⟩,trivial⟩
 obtain⟨τ,H,hf⟩:=hat.form
 rw[hf]
 conv=>whnf
 refine yZ (fun x:Nat × List (List D)=>[(0,.ref (.n 50) 0 n),(1,i64 (k+4*(x.1:Int))),(5,i64 x.1)]) (fun x=>[(.n 50,.ds 183 4 x.2)]) (fun x=>n - x.1) (fun x=>x.1≤n∧x.2.length=n∧∀ c∈x.2,c.length=4) (0,els)
  Weak.refl ⟨rfl,?_,rfl,trivial⟩ ⟨rfl,trivial⟩ ⟨Nat.zero_le _,hn.symm,h4⟩ ?_
 ·show i64 k=i64 (k+4*((0:Nat):Int))
  rw[show k+4*((0:Nat):Int)=k by omega]
 rintro⟨i,E⟩ τ H ⟨hi,hE,hE4⟩
 have hi:i≤n:=hi
 have hE:E.length=n:=hE
 have hE4:∀ c∈E,c.length=4:=hE4
 conv=>whnf
 refine kbi (fun h=>?_) (fun h=>?_)
 ·have hlt:i<n:=by simpa using h
  conv=>whnf
  refine⟨⟨by show 0≤(i:Int);omega,by show(i:Int)<n;omega⟩,?_⟩
  conv=>whnf
  refine⟨⟨by show 0≤(i:Int);omega,by show(i:Int)<n;omega⟩,?_⟩
  conv=>whnf
  refine⟨⟨by show 0≤(i:Int);omega,by show(i:Int)<n;omega⟩,?_⟩
  conv=>whnf
  refine⟨⟨by show 0≤(i:Int);omega,by show(i:Int)<n;omega⟩,?_⟩
  conv=>whnf
  refine⟨(i+1,xF (xF (xF (xF E 4 (0+(i:Int).toNat) (0+0) [.int .i64 (k+4*(i:Int))]) 4 (0+(i:Int).toNat) (0+1) [.int .i64 (IntKind.i64.wrap (k+4*(i:Int)+1))]) 4 (0+(i:Int).toNat) (0+2) [.int .i64 (IntKind.i64.wrap (IntKind.i64.wrap (k+4*(i:Int)+1)+1))]) 4 (0+(i:Int).toNat) (0+3) [.flt (FloatKind.f64.nearest (IntKind.i64.wrap (IntKind.i64.wrap (IntKind.i64.wrap (k+4*(i:Int)+1)+1)+1)))]),⟨by show i+1≤n;omega,?_,?_⟩,by show n - (i+1)<n - i;omega,⟨rfl,?_,?_,trivial⟩,⟨rfl,trivial⟩⟩
  ·dsimp only
   rw[vQ,vQ,vQ,vQ,hE]
  ·dsimp only
   refine sW (sW (sW (sW hE4 ?_) ?_) ?_) ?_ <;> omega
  ·show AV.d (.int .i64 (IntKind.i64.wrap (IntKind.i64.wrap (IntKind.i64.wrap (IntKind.i64.wrap ((k+4*(i:Int))+1)+1)+1)+1)))=i64 (k+4*((i+1:Nat):Int))
   rw[zG (n:=k+4*(i:Int)+1) (by omega) (by omega),zG (n:=k+4*(i:Int)+1+1) (by omega) (by omega),zG (n:=k+4*(i:Int)+1+1+1) (by omega) (by omega),zG (n:=k+4*(i:Int)+1+1+1+1) (by omega) (by omega)]
   exact congrArg i64 (by omega)
  ·show AV.d (.int .i64 (IntKind.i64.wrap ((i:Int)+1)))=i64 ((i+1:Nat):Int)
   rw[zG (by omega) (by omega)]
   rfl
 ·conv=>whnf
  have hkk:i=n:=by
   have:¬ i<n:=by simpa using h
   omega
  subst hkk
  refine⟨_,Weak.refl,?_⟩
  conv=>whnf
  exact⟨fun _=>false,rfl,fun κ=>rfl⟩
end Ai
namespace Ai
set_option maxRecDepth 100000
open Go Go.Proofs
theorem vN {g:FuncId} {xs ys:List AV} {H0:Key→Option Ob} {Post:AV→(Key→Option Ob)→Prop} (h:IOCall EE g xs H0 Post) (e:ys=xs):IOCall EE g ys H0 Post:=by rw[e];exact h
def dV (subs:List (List (List D))) (i j:Nat):List AV:=if j<i then [.junk] else [.ref (.s 903 j) 0 (subs.getD j []).length]
def wK (subs:List (List (List D))) (i:Nat):List (List AV):=(List.range subs.length).map (dV subs i)
def qH (subs:List (List (List D))) (i j:Nat):Option Ob:=if j<i then none else (subs[j]?).map (.ds 183 4)
theorem iH {subs:List (List (List D))} {i j:Nat} (h:j<subs.length):(wK subs i)[j]?=some (dV subs i j):=by simp[wK,h]
theorem pE {subs:List (List (List D))} {i i':Nat} (f:List AV→List AV) (h:∀ j,f (dV subs i j)=dV subs i' j):(wK subs i).map f=wK subs i':=by
 unfold wK
 rw[List.map_map]
 exact List.map_congr_left fun j _=>h j
theorem qG (f:Key→Key) (subs:List (List (List D))) (i j:Nat):(qH subs i j).map (renO f)=qH subs i j:=by
 unfold qH
 split
 ·rfl
 ·cases subs[j]? <;> rfl
theorem qF (p:Key→Bool) (subs:List (List (List D))) (i j:Nat):(qH subs i j).map (scrPO p)=qH subs i j:=by
 unfold qH
 split
 ·rfl
 ·cases subs[j]? <;> rfl
def tot (subs:List (List (List D))) (i:Nat):Nat:=((subs.take i).map List.length).sum
theorem tot_succ {subs:List (List (List D))} {i:Nat} (h:i<subs.length):tot subs (i+1)=tot subs i+subs[i].length:=by
 unfold tot
 rw[List.take_succ_eq_append_getElem h,List.map_append,List.sum_append]
 simp
theorem tot_le (subs:List (List (List D))) (i:Nat):tot subs i≤tot subs subs.length:=by
 unfold tot
 rw[List.take_length]
 have:∀ (l:List Nat) (i:Nat),(l.take i).sum≤l.sum:=by
  intro l
  induction l with
  |nil=>simp
  |cons x xs ih =>
   intro i
   cases i with
   |zero=>simp
   |succ i=>simp only[List.take_succ_cons,List.sum_cons];have:=ih i;omega
 rw[List.map_take]
 exact this _ i
theorem s8 (subs:List (List (List D))) (k:Int) (hx:subs.length≤1048576) (hs:∀ q∈subs,∀ c∈q,c.length=4) (ht:tot subs subs.length≤1048576) (h0:0≤k) (h1:k≤1048576) (H0:Key→Option Ob)
  (hH:H0 (.n 903)=some (.rs 157 1 (wK subs 0))) (hF:∀ j,H0 (.s 903 j)=qH subs 0 j) :
  IOCall EE 62 [.dref (.n 903) subs.length,i64 k] H0 (fun r H1=>r=i64 (k+4*tot subs subs.length)∧∀ κ,H1 κ=none):=by
 refine xR (fn:=Tryz.f62) (c:=Tryz.f62.body.getD .skip) Tryz.func62 rfl (by kernel_rfl) rfl ?_
 have hat:At [(0,.dref (.n 903) subs.length),(1,i64 k)] [(.n 903,.rs 157 1 (wK subs 0))] [(903,qH subs 0)] ⟨fun i=>[AV.dref (.n 903) subs.length,i64 k].getD i .junk,H0⟩:=⟨⟨rfl,rfl,trivial⟩,⟨hH,trivial⟩,⟨hF,trivial⟩⟩
 obtain⟨τ,H,hf⟩:=hat.form
 rw[hf]
 conv=>whnf
 refine fM (fun i:Nat=>[(0,.dref (.n 903) subs.length),(1,i64 (k+4*(tot subs i:Int))),(5,i64 i)]) (fun i=>[(.n 903,.rs 157 1 (wK subs i))]) (fun i=>[(903,qH subs i)]) (fun i=>subs.length - i) (fun i=>i≤subs.length) 0
  Weak.refl ⟨rfl,?_,rfl,trivial⟩ ⟨rfl,trivial⟩ ⟨fun j=>?_,trivial⟩ (Nat.zero_le _) ?_
 ·show i64 k=i64 (k+4*((tot subs 0:Nat):Int))
  rw[show k+4*((tot subs 0:Nat):Int)=k by simp[tot]]
 ·rfl
 intro i τ H hi
 have hi:i≤subs.length:=hi
 have hti:=tot_le subs i
 conv=>whnf
 refine kbi (fun h=>?_) (fun h=>?_)
 ·have hlt:i<subs.length:=by simpa using h
  conv=>whnf
  refine⟨⟨by omega,by omega⟩,?_⟩
  conv=>whnf
  have hgi:subs.getD i []=subs[i]:=by simp[List.getD_eq_getElem?_getD,hlt]
  have hrow:dV subs i i=[.ref (.s 903 i) 0 subs[i].length]:=by unfold dV;rw[if_neg (by omega),hgi]
  have hfi:qH subs i i=some (.ds 183 4 subs[i]):=by unfold qH;rw[if_neg (by omega),List.getElem?_eq_getElem hlt];rfl
  refine⟨[.ref (.s 903 i) 0 subs[i].length],⟨?_,Nat.le_refl _⟩,?_⟩
  ·rw[Int.toNat_natCast,iH hlt,hrow]
  conv=>whnf
  have hsw:swp (.n 50) (.s 903 i) (.s 903 i)=.n 50:=by simp[swp,Key.beq]
  have hts:=tot_succ hlt
  have hti2:=tot_le subs (i+1)
  split
  case' h_1=>conv=>whnf
  case' h_1=>refine .inr (.inr (.inr (.inl ?_)))
  case' h_2=>refine .inr (.inr (.inl ?_))
  all_goals
   refine⟨_,119,[],uD 50 903 i,rfl,999,0,isK (.n 50),(fun r H1=>r=i64 ((k+4*(tot subs i:Int))+4*(subs[i].length:Nat))∧∀ κ,H1 κ=none),?_,rfl,?_⟩
   ·refine vN (markOpS_ok subs[i] (k+4*(tot subs i:Int)) subs[i].length rfl (by omega) (hs _ (List.getElem_mem hlt)) (by omega) (by omega) _ ?_) ?_
    ·show Option.map _ (Option.map _ (Option.map _ (qH subs i i)))=_
     rw[hfi]
     rfl
    ·show[scrP _ (.ref (swp (.n 999) (.l 0) (swp (.n 50) (.s 903 i) (.s 903 i))) 0 subs[i].length),_]=_
     rw[hsw]
     rfl
   ·rintro r H1 ⟨rfl,q⟩
    refine⟨fun κ _=>q κ,fun n hn=>(by cases hn),?_⟩
    conv=>whnf
    have hne:∀ j,j≠i→swp (.n 50) (.s 903 i) (.s 903 j)=.s 903 j:=fun j hj=>by simp[swp,Key.beq,nbeq_ne hj]
    refine⟨i+1,_,uD 50 903 i,by show i+1≤subs.length;omega,by show subs.length - (i+1)<subs.length - i;omega,⟨rfl,?_,?_,trivial⟩,⟨?_,trivial⟩,⟨fun j=>?_,trivial⟩⟩
    ·show i64 (k+4*((tot subs i:Nat):Int)+4*((subs[i].length:Nat):Int))=i64 (k+4*((tot subs (i+1):Nat):Int))
     rw[hts]
     exact congrArg i64 (by omega)
    ·show AV.d (.int .i64 (IntKind.i64.wrap ((i:Int)+1)))=i64 ((i+1:Nat):Int)
     rw[zG (by omega) (by omega)]
     rfl
    ·show some (Ob.rs 157 1 ((((((wK subs i).map (renL (swp (.n 50) (.s 903 i)))).map (renL (swp (.n 999) (.l 0)))).map (scrPL (xQ (isK (.n 50))))).map (renL (swp (.n 999) (.l 0)))).map (renL (swp (.n 50) (.s 903 i)))))=_
     rw[List.map_map,List.map_map,List.map_map,List.map_map]
     refine congrArg (fun x=>some (Ob.rs 157 1 x)) (pE _ fun j=>?_)
     by_cases hj:j=i
     ·subst hj
      rw[hrow]
      unfold dV
      rw[if_pos (by omega)]
      show renL _ (renL _ (scrPL _ (renL _ [AV.ref (swp (.n 50) (.s 903 j) (.s 903 j)) 0 _])))=_
      rw[hsw]
      rfl
     ·unfold dV
      by_cases hji:j<i
      ·rw[if_pos hji,if_pos (by omega)]
       rfl
      ·rw[if_neg hji,if_neg (by omega)]
       show renL _ (renL _ (scrPL _ (renL _ [AV.ref (swp (.n 50) (.s 903 i) (.s 903 j)) 0 _])))=_
       rw[hne j hj]
       show[AV.ref (swp (.n 50) (.s 903 i) (.s 903 j)) 0 _]=_
       rw[hne j hj]
    ·show(St.H _ (swp (.n 50) (.s 903 i) (.s 903 j))).map _=_
     by_cases hj:j=i
     ·subst hj
      rw[hsw]
      show Option.map _ (Option.map _ (H1 (.n 50)))=_
      rw[q]
      unfold qH
      rw[if_pos (by omega)]
      rfl
     ·rw[hne j hj]
      show Option.map _ (Option.map _ (Option.map _ (Option.map _ (Option.map _ (St.H _ (swp (.n 50) (.s 903 i) (.s 903 j)))))))=_
      rw[hne j hj]
      show Option.map _ (Option.map _ (Option.map _ (Option.map _ (Option.map _ (qH subs i j)))))=_
      rw[qG,qG,qF,qG,qG]
      unfold qH
      by_cases hji:j<i
      ·rw[if_pos hji,if_pos (by omega)]
      ·rw[if_neg hji,if_neg (by omega)]
 ·conv=>whnf
  have hkk:i=subs.length:=by
   have:¬ i<subs.length:=by simpa using h
   omega
  subst hkk
  refine⟨_,Weak.refl,?_⟩
  conv=>whnf
  exact⟨fun _=>false,rfl,fun κ=>rfl⟩
end Ai
namespace Ai
set_option maxRecDepth 100000
open Go Go.Proofs
def cM:Key→Bool
 | .n k=>Nat.beq k 903
 | .s o _=>Nat.beq o 903
 | .l _=>false
theorem qN {p:Key→Bool} (subs:List (List (List D))) (hp:∀ j,p (.s 903 j)=false):(wK subs 0).map (scrPL p)=wK subs 0 :=
 pE _ fun j=>by
  unfold dV
  rw[if_neg (by omega)]
  simp[scrPL,scrP,hp j]
theorem lM {f:Key→Key} (subs:List (List (List D))) (hf:∀ j,f (.s 903 j)=.s 903 j):(wK subs 0).map (renL f)=wK subs 0 :=
 pE _ fun j=>by
  unfold dV
  rw[if_neg (by omega)]
  simp[renL,ren,hf j]
theorem s7 (c l d:Int) (subs:List (List (List D))) (k:Int) (hx:subs.length≤1048576) (hs:∀ q∈subs,∀ c∈q,c.length=4) (ht:tot subs subs.length≤1048576) (h0:0≤k) (h1:k≤1048576) (H0:Key→Option Ob)
  (hH:H0 (.n 903)=some (.rs 157 1 (wK subs 0))) (hF:∀ j,H0 (.s 903 j)=qH subs 0 j) :
  IOCall EE 17 [.agg [i64 c,i64 l,i64 d,.dref (.n 903) subs.length],i64 k] H0 (fun r H1=>r=i64 (k+4*tot subs subs.length)∧∀ κ,H1 κ=none):=by
 refine xR (fn:=Tryz.f17) (c:=Tryz.f17.body.getD .skip) Tryz.func17 rfl (by kernel_rfl) rfl ?_
 have hat:At [(0,.agg [i64 c,i64 l,i64 d,.dref (.n 903) subs.length]),(1,i64 k)] [(.n 903,.rs 157 1 (wK subs 0))] [(903,qH subs 0)] ⟨fun i=>[AV.agg [i64 c,i64 l,i64 d,.dref (.n 903) subs.length],i64 k].getD i .junk,H0⟩:=⟨⟨rfl,rfl,trivial⟩,⟨hH,trivial⟩,⟨hF,trivial⟩⟩
 obtain⟨τ,H,hf⟩:=hat.form
 rw[hf]
 conv=>whnf
 refine .inr (.inl ⟨999,0,cM,(fun r H1=>r=i64 (k+4*tot subs subs.length)∧∀ κ,H1 κ=none),?_,rfl,?_⟩)
 ·refine vN (s8 subs k hx hs ht h0 h1 _ ?_ fun j=>?_) rfl
  ·show some (Ob.rs 157 1 ((((wK subs 0).map (scrPL (isK (.n 2)))).map (renL (swp (.n 999) (.l 0)))).map (scrPL (fun o=>!cM o))))=_
   rw[qN subs (fun j=>rfl),lM subs (fun j=>rfl),qN subs (fun j=>rfl)]
  ·show Option.map _ (Option.map _ (Option.map _ (qH subs 0 j)))=_
   rw[qF,qG,qF]
 ·rintro r H1 ⟨rfl,q⟩
  refine⟨fun κ _=>q κ,fun n hn=>(by cases hn),?_⟩
  conv=>whnf
  refine⟨_,Weak.refl,?_⟩
  conv=>whnf
  exact⟨fun _=>false,rfl,fun κ=>rfl⟩
def gI (r:List OpL):List (List D):=r.map encOp
def zX (p:ProgL):List (List (List D)):=p.rs.map gI
def eC (subs:List (List (List D))) (i j:Nat):List AV:=if j<i then [.ref (.s 900 j) 0 (subs.getD j []).length] else [.d .nil]
def uE (subs:List (List (List D))) (i:Nat):List (List AV):=(List.range subs.length).map (eC subs i)
def pZ (subs:List (List (List D))) (i j:Nat):Option Ob:=if j<i then (subs[j]?).map (.ds 183 4) else none
theorem rowsT_zero (subs:List (List (List D))):uE subs 0=List.replicate subs.length [.d .nil]:=by
 apply List.ext_getElem?
 intro j
 simp only[uE,List.getElem?_map,List.getElem?_replicate,List.getElem?_range']
 by_cases h:j<subs.length
 ·rw[if_pos h,List.getElem?_eq_getElem (by simpa using h)]
  simp[eC]
 ·rw[if_neg h,List.getElem?_eq_none (by simpa using h)]
  rfl
theorem rowsT_map {subs:List (List (List D))} {i i':Nat} (f:List AV→List AV) (h:∀ j,f (eC subs i j)=eC subs i' j):(uE subs i).map f=uE subs i':=by
 unfold uE
 rw[List.map_map]
 exact List.map_congr_left fun j _=>h j
theorem iG {p:Key→Bool} (subs:List (List (List D))) (i:Nat) (hp:∀ j,p (.s 900 j)=false):(uE subs i).map (scrPL p)=uE subs i :=
 rowsT_map _ fun j=>by
  unfold eC
  split
  ·simp[scrPL,scrP,hp j]
  ·rfl
theorem famT_ren (f:Key→Key) (subs:List (List (List D))) (i j:Nat):(pZ subs i j).map (renO f)=pZ subs i j:=by
 unfold pZ
 split
 ·cases subs[j]? <;> rfl
 ·rfl
theorem famT_scr (p:Key→Bool) (subs:List (List (List D))) (i j:Nat):(pZ subs i j).map (scrPO p)=pZ subs i j:=by
 unfold pZ
 split
 ·cases subs[j]? <;> rfl
 ·rfl
theorem rowsT_put {subs:List (List (List D))} {k:Nat} (h:k<subs.length):((yQ (uE subs k) 1 k 0 [.ref (.n 20) 0 subs[k].length]).map (renL (swp (.n 20) (.s 900 k))))=uE subs (k+1):=by
 have hlen:(uE subs k).length=subs.length:=by simp[uE]
 apply List.ext_getElem?
 intro j
 by_cases hj:j=k
 ·subst hj
  rw[List.getElem?_map,xY (c:=eC subs j j) (c':=[.ref (.n 20) 0 subs[j].length]) (by simp[uE,h]) rfl]
  simp only[uE,List.getElem?_map,List.getElem?_range h,Option.map_some,Option.some.injEq]
  unfold eC
  rw[if_pos (by omega)]
  have e:swp (.n 20) (.s 900 j) (.n 20)=.s 900 j:=by simp[swp,Key.beq]
  simp[renL,ren,e,List.getD_eq_getElem?_getD,h]
 ·by_cases hl:j<subs.length
  ·rw[List.getElem?_map,qZ hj (c:=eC subs k j) (by simp[uE,hl])]
   simp only[uE,List.getElem?_map,List.getElem?_range hl,Option.map_some,Option.some.injEq]
   have e:swp (.n 20) (.s 900 k) (.s 900 j)=.s 900 j:=by simp[swp,Key.beq,nbeq_ne hj]
   unfold eC
   by_cases hjk:j<k
   ·rw[if_pos hjk,if_pos (by omega)]
    simp[renL,ren,e]
   ·rw[if_neg hjk,if_neg (by omega)]
    simp[renL,ren]
  ·rw[List.getElem?_eq_none (by simp[yQ];simp[hlen];omega),List.getElem?_eq_none (by simp[uE];omega)]
def lend9:Key→Bool
 | .n k=>Nat.beq k 900
 | .s o _=>Nat.beq o 900
 | .l _=>false
theorem own1_n {x:AV} {q:Nat} (h:q≠900):ownH [x] (.n q)=none:=by
 unfold ownH
 cases hb:Nat.blt q 900 with
 |true=>simp only[hb,cond_true]
 |false =>
  have:¬ q<900:=by
   intro e
   have:Nat.blt q 900=true:=by simpa[Nat.blt_eq] using e
   rw[this] at hb;cases hb
  have:([x]:List AV)[q - 900]?=none:=List.getElem?_eq_none (by simp;omega)
  simp only[hb,cond_false,this]
theorem own1_s {x:AV} {q j:Nat} (h:q≠900):ownH [x] (.s q j)=none:=by
 unfold ownH
 cases hb:Nat.blt q 900 with
 |true=>simp only[hb,cond_true]
 |false =>
  have:¬ q<900:=by
   intro e
   have:Nat.blt q 900=true:=by simpa[Nat.blt_eq] using e
   rw[this] at hb;cases hb
  have:([x]:List AV)[q - 900]?=none:=List.getElem?_eq_none (by simp;omega)
  simp only[hb,cond_false,this]
theorem rowsT_own (xs:List (List OpL)):uE (xs.map gI) xs.length=ownRows 900 0 (xs.map fun _=>[.nil]) (xs.map gI):=by
 unfold ownRows uE
 apply List.ext_getElem?
 intro j
 by_cases h:j<xs.length
 ·have h2:j<(xs.map gI).length:=by simpa using h
  simp only[List.getElem?_map,List.getElem?_range h2,Option.map_some,List.getElem?_mapIdx,List.getElem?_eq_getElem h]
  unfold eC
  rw[if_pos h]
  rfl
 ·rw[List.getElem?_eq_none (by simp;omega),List.getElem?_eq_none (by simp;omega)]
theorem toOpSS_own (xs:List (List OpL)) (hx:xs.length≤1048576) (hx2:∀ x∈xs,x.length≤1048576):CallsTo EE 58 [sl (xs.map yD)] (·=.ownF 1 [.uqd 157 1 0 183 4 (xs.map fun _=>[.nil]) (xs.map gI)]):=by
 refine sI (fun v hv=>?_) ?_
 ·simp only[List.mem_cons,List.not_mem_nil,or_false] at hv
  subst hv
  show(xs.map _).length=(xs.map gI).length
  simp
 refine xR (fn:=Tryz.f58) (c:=Tryz.f58.body.getD .skip) Tryz.func58 rfl (by kernel_rfl) rfl ?_
 conv=>whnf
 refine⟨by simp;omega,?_⟩
 conv=>whnf
 refine fM (fun k:Nat=>[(0,sl (xs.map yD)),(3,.dref (.n 900) xs.length),(4,i64 k)]) (fun k=>[(.n 900,.rs 157 1 (uE (xs.map gI) k))]) (fun k=>[(900,pZ (xs.map gI) k)]) (fun k=>xs.length - k) (fun k=>k≤xs.length) 0
  ((tF (.n 7) rfl).trans (wD 7 900)) ?_ ?_ ?_ (Nat.zero_le _) ?_
 ·exact⟨rfl,by show AV.dref (.n 900) (((xs.map yD).length:Nat):Int).toNat=_;simp,rfl,trivial⟩
 ·refine⟨?_,trivial⟩
  show some (Ob.rs 157 1 (((List.replicate (((xs.map yD).length:Nat):Int).toNat [D.nil]).map (List.map AV.d)).map (renL (swp (.n 7) (.n 900)))))=_
  rw[rowsT_zero]
  simp[renL,ren]
 ·refine⟨fun j=>?_,trivial⟩
  unfold pZ
  rw[if_neg (by omega)]
  rfl
 intro k τ H hk
 have hk:k≤xs.length:=hk
 conv=>whnf
 refine kbi (fun h=>?_) (fun h=>?_)
 ·have hlt:=yR h
  have hlt2:k<(xs.map gI).length:=by simpa using hlt
  have hgk:(xs.map gI)[k]=xs[k].map encOp:=by simp[gI]
  conv=>whnf
  refine⟨yD xs[k],zN yD hlt rfl,?_⟩
  conv=>whnf
  refine⟨_,m7 xs[k] (hx2 _ (List.getElem_mem hlt)),?_⟩
  rintro r rfl
  refine .inr ⟨_,rfl,?_⟩
  conv=>whnf
  refine⟨⟨by omega,by omega⟩,?_⟩
  conv=>whnf
  refine⟨k+1,_,uD 20 900 k,by show k+1≤xs.length;omega,by show xs.length - (k+1)<xs.length - k;omega,⟨rfl,rfl,zH hlt (by omega),trivial⟩,⟨?_,trivial⟩,⟨fun j=>?_,trivial⟩⟩
  ·show some (Ob.rs 157 1 ((yQ ((uE (xs.map gI) k).map (scrPL (isK (.n 20)))) 1 ((k:Int)).toNat 0 [.ref (.n 20) 0 (xs[k].map encOp).length]).map (renL (swp (.n 20) (.s 900 k)))))=_
   rw[iG _ _ (fun j=>rfl),Int.toNat_natCast,← hgk,rowsT_put hlt2]
  ·show(St.H _ (swp (.n 20) (.s 900 k) (.s 900 j))).map _=_
   by_cases hj:j=k
   ·subst hj
    have e:swp (.n 20) (.s 900 j) (.s 900 j)=.n 20:=by simp[swp,Key.beq]
    rw[e]
    unfold pZ
    rw[if_pos (by omega),List.getElem?_eq_getElem hlt2,hgk]
    rfl
   ·have e:swp (.n 20) (.s 900 k) (.s 900 j)=.s 900 j:=by simp[swp,Key.beq,nbeq_ne hj]
    rw[e]
    show Option.map _ (Option.map _ (pZ (xs.map gI) k j))=_
    rw[famT_scr,famT_ren]
    unfold pZ
    by_cases hjk:j<k
    ·rw[if_pos hjk,if_pos (by omega)]
    ·rw[if_neg hjk,if_neg (by omega)]
 ·have hkk:k=xs.length:=by
   have:¬ k<xs.length:=by simpa using h
   omega
  subst hkk
  conv=>whnf
  refine⟨_,Weak.refl,?_⟩
  conv=>whnf
  refine⟨lend9,?_,fun κ hκ=>?_⟩
  ·show AV.dref (.n 900) xs.length=AV.dref (.n 900) (xs.map _).length
   rw[List.length_map]
  ·cases κ with
   |l n=>exact absurd rfl hκ
   |n q =>
    by_cases hq:q=900
    ·subst hq
     show some (Ob.rs 157 1 ((uE (xs.map gI) xs.length).map (scrPL (fun o=>!lend9 o))))=some (Ob.rs 157 1 (ownRows 900 0 (xs.map fun _=>[.nil]) (xs.map gI)))
     rw[iG _ _ (fun j=>rfl),rowsT_own]
    ·exact absurd (own1_n hq) hκ
   |s o j =>
    by_cases hq:o=900
    ·subst hq
     show Option.map _ (pZ (xs.map gI) xs.length j)=((xs.map gI)[j]?).map (Ob.ds 183 4)
     rw[famT_scr]
     unfold pZ
     by_cases hj:j<xs.length
     ·rw[if_pos hj]
     ·rw[if_neg hj,List.getElem?_eq_none (by simp;omega)]
      rfl
    ·exact absurd (own1_s hq) hκ
end Ai
namespace Ai
set_option maxRecDepth 100000
open Go Go.Proofs
structure StL.fit (s:StL):Prop where
 ths:s.ths.length≤1048576
 st:∀ t∈s.ths,t.stack.length≤1048576
 cells:s.cells.length≤1048576
 owner:s.owner.length≤1048576
structure RunT.fit (x:RunT):Prop where
 tr:x.tr.length≤1048576
 tk:x.tk.length≤1048576
 s:x.s.fit
theorem fit_of {x:RunT} (h:x.size≤1048576):x.fit:=by
 unfold RunT.size StL.size at h
 have:=size_le Th.stl x.s.ths 1048576 (by omega)
 exact⟨by omega,by omega,⟨this.1,this.2,by omega,by omega⟩⟩
theorem toEvent_ok (e:Ev):CallsTo EE 143 [agg (encEv e)] (·=agg (encEv e)):=by
 refine callsTo_of_AW (fn:=Tryz.f143) Tryz.func143 rfl (by kernel_rfl) rfl ?_
 conv=>whnf
 rfl
theorem rI (xs:List Ev) (hx:xs.length≤1048576):CallsTo EE 75 [sl (xs.map encEv)] (·=.uq 128 5 (xs.map encEv)):=by
 refine callsTo_of_AW (fn:=Tryz.f75) Tryz.func75 rfl (by kernel_rfl) rfl ?_
 conv=>whnf
 refine⟨by simp;omega,?_⟩
 conv=>whnf
 refine yZ (fun k:Nat=>[(0,sl (xs.map encEv)),(3,.ref 7 0 (xs.map encEv).length),(4,i64 k)]) (fun k=>[(7,.ds 128 5 ((xs.take k).map encEv++List.replicate (xs.length - k) [di 0,di 0,di 0,di 0,di 0]))]) (fun k=>xs.length - k) (fun k=>k≤xs.length) 0 .refl ⟨rfl,by simp[put,St.new,St.setH,St.kill];rfl,rfl,trivial⟩ ⟨?_,trivial⟩ (Nat.zero_le _) ?_
 ·simp[put,St.new,St.setH,St.kill,pC];rfl
 intro k τ H hk
 conv=>whnf
 refine⟨fun h=>?_,fun h=>?_⟩
 ·have hlt:=yR h
  conv=>whnf
  refine⟨encEv xs[k],zN encEv hlt rfl,?_⟩
  conv=>whnf
  refine⟨_,toEvent_ok xs[k],?_⟩
  rintro r rfl
  conv=>whnf
  refine⟨⟨by omega,by simp;omega⟩,?_⟩
  conv=>whnf
  refine⟨k+1,by omega,by show xs.length - (k+1)<xs.length - k;omega,⟨rfl,rfl,zH hlt (by omega),trivial⟩,⟨?_,trivial⟩⟩
  exact congrArg (fun l=>some (Ob.ds 128 5 l)) (gB xs encEv [di 0,di 0,di 0,di 0,di 0] k 5 hlt rfl)
 ·have hge:=bP h
  conv=>whnf
  exact congrArg (AV.uq 128 5) (dI xs encEv [di 0,di 0,di 0,di 0,di 0] k _ hge hk (by simp))
theorem kM (xs:List Nat) (hx:xs.length≤1048576):CallsTo EE 145 [sl (xs.map encF)] (·=.uq 132 1 (xs.map encF)):=by
 refine callsTo_of_AW (fn:=Tryz.f145) Tryz.func145 rfl (by kernel_rfl) rfl ?_
 conv=>whnf
 refine⟨by simp;omega,?_⟩
 conv=>whnf
 refine yZ (fun k:Nat=>[(0,sl (xs.map encF)),(3,.ref 7 0 (xs.map encF).length),(4,i64 k)]) (fun k=>[(7,.ds 132 1 ((xs.take k).map encF++List.replicate (xs.length - k) [.flt 0]))]) (fun k=>xs.length - k) (fun k=>k≤xs.length) 0 .refl ⟨rfl,by simp[put,St.new,St.setH,St.kill];rfl,rfl,trivial⟩ ⟨?_,trivial⟩ (Nat.zero_le _) ?_
 ·simp[put,St.new,St.setH,St.kill,pC];rfl
 intro k τ H hk
 conv=>whnf
 refine⟨fun h=>?_,fun h=>?_⟩
 ·have hlt:=yR h
  conv=>whnf
  refine⟨encF xs[k],zN encF hlt rfl,?_⟩
  conv=>whnf
  refine⟨⟨by omega,by simp;omega⟩,?_⟩
  conv=>whnf
  refine⟨k+1,by omega,by show xs.length - (k+1)<xs.length - k;omega,⟨rfl,rfl,zH hlt (by omega),trivial⟩,⟨?_,trivial⟩⟩
  exact congrArg (fun l=>some (Ob.ds 132 1 l)) (gB xs encF [.flt 0] k 1 hlt rfl)
 ·have hge:=bP h
  conv=>whnf
  exact congrArg (AV.uq 132 1) (dI xs encF [.flt 0] k _ hge hk (by simp))
theorem m5 (t:Th) (h:t.stack.length≤1048576):CallsTo EE 206 [agg (zD t)] (·=agg (zD t)):=by
 refine callsTo_of_AW (fn:=Tryz.f206) Tryz.func206 rfl (by kernel_rfl) rfl ?_
 conv=>whnf
 refine⟨_,kM t.stack h,?_⟩
 rintro r rfl
 refine .inl ?_
 conv=>whnf
 try rfl
theorem z7 (xs:List Th) (hx:xs.length≤1048576) (hx2:∀ x∈xs,x.stack.length≤1048576):CallsTo EE 144 [sl (xs.map zD)] (·=.uq 175 6 (xs.map zD)):=by
 refine callsTo_of_AW (fn:=Tryz.f144) Tryz.func144 rfl (by kernel_rfl) rfl ?_
 conv=>whnf
 refine⟨by simp;omega,?_⟩
 conv=>whnf
 refine yZ (fun k:Nat=>[(0,sl (xs.map zD)),(3,.ref 7 0 (xs.map zD).length),(4,i64 k)]) (fun k=>[(7,.ds 175 6 ((xs.take k).map zD++List.replicate (xs.length - k) [di 0,di 0,di 0,di 0,di 0,.nil]))]) (fun k=>xs.length - k) (fun k=>k≤xs.length) 0 .refl ⟨rfl,by simp[put,St.new,St.setH,St.kill];rfl,rfl,trivial⟩ ⟨?_,trivial⟩ (Nat.zero_le _) ?_
 ·simp[put,St.new,St.setH,St.kill,pC];rfl
 intro k τ H hk
 conv=>whnf
 refine⟨fun h=>?_,fun h=>?_⟩
 ·have hlt:=yR h
  conv=>whnf
  refine⟨zD xs[k],zN zD hlt rfl,?_⟩
  conv=>whnf
  refine⟨_,m5 xs[k] (hx2 _ (List.getElem_mem hlt)),?_⟩
  rintro r rfl
  conv=>whnf
  refine⟨⟨by omega,by simp;omega⟩,?_⟩
  conv=>whnf
  refine⟨k+1,by omega,by show xs.length - (k+1)<xs.length - k;omega,⟨rfl,rfl,zH hlt (by omega),trivial⟩,⟨?_,trivial⟩⟩
  exact congrArg (fun l=>some (Ob.ds 175 6 l)) (gB xs zD [di 0,di 0,di 0,di 0,di 0,.nil] k 6 hlt rfl)
 ·have hge:=bP h
  conv=>whnf
  exact congrArg (AV.uq 175 6) (dI xs zD [di 0,di 0,di 0,di 0,di 0,.nil] k _ hge hk (by simp))
theorem toState_ok (s:StL) (h:s.fit):CallsTo EE 76 [agg (yL s)] (·=agg (yL s)):=by
 refine callsTo_of_AW (fn:=Tryz.f76) Tryz.func76 rfl (by kernel_rfl) rfl ?_
 conv=>whnf
 refine⟨_,z7 s.ths h.ths h.st,?_⟩
 rintro r rfl
 refine .inl ?_
 conv=>whnf
 refine⟨_,kM s.cells h.cells,?_⟩
 rintro r rfl
 refine .inl ?_
 conv=>whnf
 refine⟨_,dE s.owner h.owner,?_⟩
 rintro r rfl
 refine .inl ?_
 conv=>whnf
 try rfl
theorem tH (x:RunT) (h:x.fit):CallsTo EE 26 [agg (encRT x)] (·=agg (encRT x)):=by
 refine callsTo_of_AW (fn:=Tryz.f26) Tryz.func26 rfl (by kernel_rfl) rfl ?_
 conv=>whnf
 refine⟨_,rI x.tr h.tr,?_⟩
 rintro r rfl
 refine .inl ?_
 conv=>whnf
 refine⟨_,dE x.tk h.tk,?_⟩
 rintro r rfl
 refine .inl ?_
 conv=>whnf
 refine⟨_,toState_ok x.s h.s,?_⟩
 rintro r rfl
 conv=>whnf
 try rfl
theorem z6 (t:Th) (h:t.stack.length≤1048576):CallsTo EE 206 [agg (zD t)] (·=.own [i64 t.rt,i64 t.pc,i64 t.st,i64 t.cond,i64 t.lock,.uq 132 1 (stk t)]):=by
 refine callsTo_of_AW (fn:=Tryz.f206) Tryz.func206 rfl (by kernel_rfl) rfl ?_
 conv=>whnf
 refine⟨_,kM t.stack h,?_⟩
 rintro r rfl
 refine .inr ⟨_,rfl,?_⟩
 conv=>whnf
 refine .inr (.inr ⟨[i64 t.rt,i64 t.pc,i64 t.st,i64 t.cond,i64 t.lock,.uq 132 1 (stk t)],_,wD 21 905,rfl,?_,jM ⟨trivial,trivial,trivial,trivial,trivial,rfl,trivial⟩,rfl⟩)
 intro v hv
 simp only[List.mem_cons,List.not_mem_nil,or_false] at hv
 rcases hv with rfl|rfl|rfl|rfl|rfl|rfl <;> trivial
end Ai
namespace Ai
set_option maxRecDepth 100000
open Go Go.Proofs
theorem wS {α:Type} {a b:List α} {k:Nat} (ha:k<a.length) (hb:k<b.length) (h:a.take k=b.take k) (e:a[k]=b[k]):a.take (k+1)=b.take (k+1):=by
 rw[List.take_succ_eq_append_getElem ha,List.take_succ_eq_append_getElem hb,h,e]
theorem vC {α:Type} {a b:List α} {k:Nat} (ha:a.length≤k) (hb:b.length≤k) (h:a.take k=b.take k):a=b:=by
 rwa [List.take_of_length_le ha,List.take_of_length_le hb] at h
theorem cD {α:Type} {a b:List α} {k:Nat} (ha:k<a.length) (hb:k<b.length) (e:¬ a[k]=b[k]):¬ a=b:=by
 rintro rfl;exact e rfl
theorem ev_eq {x y:Ev}:x=y↔[x.th,x.kind,x.obj,x.lock,x.pc]=[y.th,y.kind,y.obj,y.lock,y.pc]:=by
 constructor
 ·rintro rfl;rfl
 ·intro h
  cases x;cases y
  simp only[List.cons.injEq,and_true] at h
  obtain⟨rfl,rfl,rfl,rfl,rfl⟩:=h
  rfl
theorem EqualEv_ok (a b:List Ev) (hx:a.length≤1048576):CallsTo EE 254 [sl (a.map encEv),sl (b.map encEv)] (·=bp (a=b)):=by
 refine callsTo_of_AW (fn:=Tryz.f254) Tryz.func254 rfl (by kernel_rfl) rfl ?_
 conv=>whnf
 refine kbi (fun h=>?_) (fun h=>?_)
 ·have h:¬ a.length=b.length:=by simp at h;omega
  conv=>whnf
  exact bpf fun e=>h (by rw[e])
 have h:a.length=b.length:=by simp at h;omega
 conv=>whnf
 refine yZ (fun k:Nat=>[(0,sl (a.map encEv)),(1,sl (b.map encEv)),(12,i64 (a.map encEv).length),(13,i64 k)]) (fun k=>[]) (fun k=>a.length - k) (fun k=>k≤a.length∧a.take k=b.take k) 0
  Weak.refl ⟨rfl,rfl,rfl,rfl,trivial⟩ trivial ⟨Nat.zero_le _,by simp⟩ ?_
 rintro k τ H ⟨hk,he⟩
 have hk:k≤a.length:=hk
 conv=>whnf
 refine kbi (fun h2=>?_) (fun h2=>?_)
 ·have hlt:=yR h2
  have hltb:k<b.length:=by omega
  conv=>whnf
  refine⟨by kernel_rfl,?_⟩
  conv=>whnf
  refine⟨encEv a[k],zN encEv hlt rfl,?_⟩
  conv=>whnf
  refine⟨encEv b[k],zN encEv hltb rfl,?_⟩
  conv=>whnf
  refine kbi (fun h3=>?_) (fun h3=>?_)
  ·have h3:¬ a[k]=b[k]:=fun e=>by
    rw[e] at h3
    simp at h3
   conv=>whnf
   exact bpf (cD hlt hltb h3)
  ·have h3:a[k]=b[k]:=ev_eq.2 (by simpa using h3)
   conv=>whnf
   exact⟨k+1,⟨hlt,wS hlt hltb he h3⟩,by show a.length - (k+1)<a.length - k;omega,⟨rfl,rfl,rfl,zH hlt (by omega),trivial⟩,trivial⟩
 ·have hge:a.length≤k:=by simpa using h2
  conv=>whnf
  exact bpt (vC (by omega) (by omega) he)
theorem sM (a b:List Int) (hx:a.length≤1048576):CallsTo EE 255 [sl (a.map encInt),sl (b.map encInt)] (·=bp (a=b)):=by
 refine callsTo_of_AW (fn:=Tryz.f255) Tryz.func255 rfl (by kernel_rfl) rfl ?_
 conv=>whnf
 refine kbi (fun h=>?_) (fun h=>?_)
 ·have h:¬ a.length=b.length:=by simp at h;omega
  conv=>whnf
  exact bpf fun e=>h (by rw[e])
 have h:a.length=b.length:=by simp at h;omega
 conv=>whnf
 refine yZ (fun k:Nat=>[(0,sl (a.map encInt)),(1,sl (b.map encInt)),(12,i64 (a.map encInt).length),(13,i64 k)]) (fun k=>[]) (fun k=>a.length - k) (fun k=>k≤a.length∧a.take k=b.take k) 0
  Weak.refl ⟨rfl,rfl,rfl,rfl,trivial⟩ trivial ⟨Nat.zero_le _,by simp⟩ ?_
 rintro k τ H ⟨hk,he⟩
 have hk:k≤a.length:=hk
 conv=>whnf
 refine kbi (fun h2=>?_) (fun h2=>?_)
 ·have hlt:=yR h2
  have hltb:k<b.length:=by omega
  conv=>whnf
  refine⟨by kernel_rfl,?_⟩
  conv=>whnf
  refine⟨encInt a[k],zN encInt hlt rfl,?_⟩
  conv=>whnf
  refine⟨encInt b[k],zN encInt hltb rfl,?_⟩
  conv=>whnf
  refine kbi (fun h3=>?_) (fun h3=>?_)
  ·have h3:¬ a[k]=b[k]:=by simpa using h3
   conv=>whnf
   exact bpf (cD hlt hltb h3)
  ·have h3:a[k]=b[k]:=by simpa using h3
   conv=>whnf
   exact⟨k+1,⟨hlt,wS hlt hltb he h3⟩,by show a.length - (k+1)<a.length - k;omega,⟨rfl,rfl,rfl,zH hlt (by omega),trivial⟩,trivial⟩
 ·have hge:a.length≤k:=by simpa using h2
  conv=>whnf
  exact bpt (vC (by omega) (by omega) he)
def CF (x:Nat):Prop:=Cn x∧F64 x
theorem sN (a b:List Nat) (hx:a.length≤1048576) (ha:∀ x∈a,CF x) (hb:∀ x∈b,CF x):CallsTo EE 273 [sl (a.map encF),sl (b.map encF),.fn 259 []] (·=bp (a=b)):=by
 refine callsTo_of_AW (fn:=Tryz.f273) Tryz.func273 rfl (by kernel_rfl) rfl ?_
 conv=>whnf
 refine kbi (fun h=>?_) (fun h=>?_)
 ·have h:¬ a.length=b.length:=by simp at h;omega
  conv=>whnf
  exact bpf fun e=>h (by rw[e])
 have h:a.length=b.length:=by simp at h;omega
 conv=>whnf
 refine yZ (fun k:Nat=>[(0,sl (a.map encF)),(1,sl (b.map encF)),(2,.fn 259 []),(15,sl (a.map encF)),(16,i64 (a.map encF).length),(17,i64 k)]) (fun k=>[]) (fun k=>a.length - k) (fun k=>k≤a.length∧a.take k=b.take k) 0
  Weak.refl ⟨rfl,rfl,rfl,rfl,rfl,rfl,trivial⟩ trivial ⟨Nat.zero_le _,by simp⟩ ?_
 rintro k τ H ⟨hk,he⟩
 have hk:k≤a.length:=hk
 conv=>whnf
 refine kbi (fun h2=>?_) (fun h2=>?_)
 ·have hlt:=yR h2
  have hltb:k<b.length:=by omega
  have c1:=ha _ (List.getElem_mem hlt)
  have c2:=hb _ (List.getElem_mem hltb)
  conv=>whnf
  refine⟨encF a[k],zN encF hlt rfl,?_⟩
  conv=>whnf
  refine⟨encF b[k],zN encF hltb rfl,?_⟩
  conv=>whnf
  refine ocase (sL a[k] b[k] c1.2 c2.2) (fun h3=>?_) (fun h3=>?_)
  ·have h3:a[k]=b[k]:=(mG c1.1 c2.1 c1.2 c2.2).1 h3
   conv=>whnf
   exact⟨k+1,⟨hlt,wS hlt hltb he h3⟩,by show a.length - (k+1)<a.length - k;omega,⟨rfl,rfl,rfl,rfl,rfl,zH hlt (by omega),trivial⟩,trivial⟩
  ·have h3:¬ a[k]=b[k]:=fun e=>h3 ((mG c1.1 c2.1 c1.2 c2.2).2 e)
   conv=>whnf
   exact bpf (cD hlt hltb h3)
 ·have hge:a.length≤k:=by simpa using h2
  conv=>whnf
  exact bpt (vC (by omega) (by omega) he)
end Ai
namespace Ai
set_option maxRecDepth 100000
open Go Go.Proofs
def Th.cf (t:Th):Prop:=∀ x∈t.stack,CF x
def StL.cf (s:StL):Prop:=(∀ x∈s.cells,CF x)∧∀ t∈s.ths,t.cf
theorem Same1_ok (x y:Th) (hx:x.stack.length≤1048576) (h1:x.cf) (h2:y.cf):CallsTo EE 275 [agg (zD x),agg (zD y)] (·=bp (x=y)):=by
 refine callsTo_of_AW (fn:=Tryz.f275) Tryz.func275 rfl (by kernel_rfl) rfl ?_
 conv=>whnf
 refine kbi (fun h=>?_) (fun h=>?_)
 rotate_left 1
 ·have h:¬ x.rt=y.rt:=by simpa using h
  conv=>whnf
  exact bpf fun e=>h (by rw[e])
 have e1:x.rt=y.rt:=by simpa using h
 conv=>whnf
 refine kbi (fun h=>?_) (fun h=>?_)
 rotate_left 1
 ·have h:¬ x.pc=y.pc:=by simpa using h
  conv=>whnf
  exact bpf fun e=>h (by rw[e])
 have e2:x.pc=y.pc:=by simpa using h
 conv=>whnf
 refine kbi (fun h=>?_) (fun h=>?_)
 rotate_left 1
 ·have h:¬ x.st=y.st:=by simpa using h
  conv=>whnf
  exact bpf fun e=>h (by rw[e])
 have e3:x.st=y.st:=by simpa using h
 conv=>whnf
 refine kbi (fun h=>?_) (fun h=>?_)
 rotate_left 1
 ·have h:¬ x.cond=y.cond:=by simpa using h
  conv=>whnf
  exact bpf fun e=>h (by rw[e])
 have e4:x.cond=y.cond:=by simpa using h
 conv=>whnf
 refine kbi (fun h=>?_) (fun h=>?_)
 rotate_left 1
 ·have h:¬ x.lock=y.lock:=by simpa using h
  conv=>whnf
  exact bpf fun e=>h (by rw[e])
 have e5:x.lock=y.lock:=by simpa using h
 conv=>whnf
 refine ocase (sN x.stack y.stack hx h1 h2) (fun e6=>?_) (fun h=>?_)
 ·conv=>whnf
  refine bpt ?_
  clear h hx h1 h2
  cases x;cases y
  simp only at e1 e2 e3 e4 e5 e6
  subst e1 e2 e3 e4 e5 e6
  rfl
 ·conv=>whnf
  exact bpf fun e=>h (by rw[e])
theorem EqualTh_ok (a b:List Th) (hx:a.length≤1048576) (hx2:∀ t∈a,t.stack.length≤1048576) (ha:∀ x∈a,x.cf) (hb:∀ x∈b,x.cf):CallsTo EE 274 [sl (a.map zD),sl (b.map zD),.fn 275 []] (·=bp (a=b)):=by
 refine callsTo_of_AW (fn:=Tryz.f274) Tryz.func274 rfl (by kernel_rfl) rfl ?_
 conv=>whnf
 refine kbi (fun h=>?_) (fun h=>?_)
 ·have h:¬ a.length=b.length:=by simp at h;omega
  conv=>whnf
  exact bpf fun e=>h (by rw[e])
 have h:a.length=b.length:=by simp at h;omega
 conv=>whnf
 refine yZ (fun k:Nat=>[(0,sl (a.map zD)),(1,sl (b.map zD)),(2,.fn 275 []),(15,sl (a.map zD)),(16,i64 (a.map zD).length),(17,i64 k)]) (fun k=>[]) (fun k=>a.length - k) (fun k=>k≤a.length∧a.take k=b.take k) 0
  Weak.refl ⟨rfl,rfl,rfl,rfl,rfl,rfl,trivial⟩ trivial ⟨Nat.zero_le _,by simp⟩ ?_
 rintro k τ H ⟨hk,he⟩
 have hk:k≤a.length:=hk
 conv=>whnf
 refine kbi (fun h2=>?_) (fun h2=>?_)
 ·have hlt:=yR h2
  have hltb:k<b.length:=by omega
  conv=>whnf
  refine⟨zD a[k],zN zD hlt rfl,?_⟩
  conv=>whnf
  refine⟨zD b[k],zN zD hltb rfl,?_⟩
  conv=>whnf
  refine ocase (Same1_ok a[k] b[k] (hx2 _ (List.getElem_mem hlt)) (ha _ (List.getElem_mem hlt)) (hb _ (List.getElem_mem hltb))) (fun h3=>?_) (fun h3=>?_)
  ·conv=>whnf
   exact⟨k+1,⟨hlt,wS hlt hltb he h3⟩,by show a.length - (k+1)<a.length - k;omega,⟨rfl,rfl,rfl,rfl,rfl,zH hlt (by omega),trivial⟩,trivial⟩
  ·conv=>whnf
   exact bpf (cD hlt hltb h3)
 ·have hge:a.length≤k:=by simpa using h2
  conv=>whnf
  exact bpt (vC (by omega) (by omega) he)
theorem eO (x y:StL) (hx:x.fit) (h1:x.cf) (h2:y.cf):CallsTo EE 256 [agg (yL x),agg (yL y)] (·=bp (x=y)):=by
 refine callsTo_of_AW (fn:=Tryz.f256) Tryz.func256 rfl (by kernel_rfl) rfl ?_
 conv=>whnf
 refine kbi (fun h=>?_) (fun h=>?_)
 rotate_left 1
 ·have h:¬ x.fault=y.fault:=by simpa using h
  conv=>whnf
  exact bpf fun e=>h (by rw[e])
 have e1:x.fault=y.fault:=by simpa using h
 conv=>whnf
 refine ocase (sM x.owner y.owner hx.owner) (fun e2=>?_) (fun h=>?_)
 rotate_left 1
 ·conv=>whnf
  exact bpf fun e=>h (by rw[e])
 conv=>whnf
 refine ocase (sN x.cells y.cells hx.cells h1.1 h2.1) (fun e3=>?_) (fun h=>?_)
 rotate_left 1
 ·conv=>whnf
  exact bpf fun e=>h (by rw[e])
 conv=>whnf
 refine ocase (EqualTh_ok x.ths y.ths hx.ths hx.st h1.2 h2.2) (fun e4=>?_) (fun h=>?_)
 rotate_left 1
 ·conv=>whnf
  exact bpf fun e=>h (by rw[e])
 conv=>whnf
 refine bpt ?_
 cases x;cases y
 simp only at e1 e2 e3 e4
 subst e1 e2 e3 e4
 rfl
theorem sameRun_ok (x y:RunT) (hx:x.fit) (h1:x.s.cf) (h2:y.s.cf):CallsTo EE 208 [agg (encRT x),agg (encRT y)] (·=bp (x=y)):=by
 refine callsTo_of_AW (fn:=Tryz.f208) Tryz.func208 rfl (by kernel_rfl) rfl ?_
 conv=>whnf
 refine kbi (fun h=>?_) (fun h=>?_)
 rotate_left 1
 ·have h:¬ x.c=y.c:=by simpa using h
  conv=>whnf
  exact bpf fun e=>h (by rw[e])
 have e1:x.c=y.c:=by simpa using h
 conv=>whnf
 refine ocase (EqualEv_ok x.tr y.tr hx.tr) (fun e2=>?_) (fun h=>?_)
 rotate_left 1
 ·conv=>whnf
  exact bpf fun e=>h (by rw[e])
 conv=>whnf
 refine ocase (sM x.tk y.tk hx.tk) (fun e3=>?_) (fun h=>?_)
 rotate_left 1
 ·conv=>whnf
  exact bpf fun e=>h (by rw[e])
 conv=>whnf
 refine ocase (eO x.s y.s hx.s h1 h2) (fun e4=>?_) (fun h=>?_)
 rotate_left 1
 ·conv=>whnf
  exact bpf fun e=>h (by rw[e])
 conv=>whnf
 refine bpt ?_
 cases x;cases y
 simp only at e1 e2 e3 e4
 subst e1 e2 e3 e4
 rfl
end Ai
namespace Ai
set_option maxRecDepth 100000
open Go Go.Proofs Go.Deep
section
variable {H:Type} {enc':TypeId × Value→H} {w:World} {sp:Nat→Bool} {held:Bool}
theorem rd_fltC {n:Nat} {cs:List Value} {x:DataW H × List MemPlace} (h:DataW.trod enc' Tryz.prog w 0 sp held n 132 cs=some x):∃ v:Nat,CF v∧Fits w [.flt v] cs:=by
 cases n with
 |zero=>simp[DataW.trod] at h
 |succ n =>
  unfold DataW.trod at h
  rw[Tryz.underlying132] at h
  split at h <;> simp_all
  rename_i kk b e2
  obtain⟨⟨e1,hb⟩,_⟩:=h
  subst e2
  have hb0:(Lit.float FloatKind.f64 b).wf=true:=hb
  refine⟨canon b,⟨?_,?_⟩,rfl,fun i d u hd hu=>?_⟩
  ·exact canon_canon b
  ·show canon b<18446744073709551616
   have hb2:b<18446744073709551616:=by simpa[Lit.wf] using hb0
   unfold canon nanC
   cases zR b <;> simp <;> omega
  match i,hd,hu with
  | 0,hd,hu=>simp at hd hu;subst hd;subst hu;exact .flt _
  |i+1,hd,hu=>simp at hd
theorem rd_opC {n:Nat} {cs:List Value} {x:DataW H × List MemPlace} (h:DataW.trod enc' Tryz.prog w 0 sp held n 228 cs=some x):∃ o:OpL,CF o.v∧Fits w (encOp o) cs:=by
 obtain⟨xs,m,_,_,hcl,hxl,hf⟩:=DataW.trod_struct Tryz.underlying228 h
 have c3:Tryz.prog.cellsOf 3=1:=by kernel_rfl
 have c105:Tryz.prog.cellsOf 132=1:=by kernel_rfl
 have c151:Tryz.prog.cellsOf 228=4:=by kernel_rfl
 have hxl4:xs.length=4:=hxl
 have g0:DataW.trod enc' Tryz.prog w 0 sp held m 3 ((cs.drop 0).take (Tryz.prog.cellsOf 3))=xs[0]?:=hf 0 _ rfl
 have g1:DataW.trod enc' Tryz.prog w 0 sp held m 3 ((cs.drop 1).take (Tryz.prog.cellsOf 3))=xs[1]?:=hf 1 _ rfl
 have g2:DataW.trod enc' Tryz.prog w 0 sp held m 3 ((cs.drop 2).take (Tryz.prog.cellsOf 3))=xs[2]?:=hf 2 _ rfl
 have g3:DataW.trod enc' Tryz.prog w 0 sp held m 132 ((cs.drop 3).take (Tryz.prog.cellsOf 132))=xs[3]?:=hf 3 _ rfl
 simp only[c3,c105] at g0 g1 g2 g3
 rw[List.getElem?_eq_getElem (by omega)] at g0 g1 g2 g3
 obtain⟨k0,f0⟩:=rd_int g0
 obtain⟨k1,f1⟩:=rd_int g1
 obtain⟨k2,f2⟩:=rd_int g2
 obtain⟨v,hv,f3⟩:=rd_fltC g3
 exact⟨⟨k0,k1,k2,v⟩,hv,yH (k:=0) f0 (yH (k:=1) f1 (yH (k:=2) f2 (yH (k:=3) f3 (bS (by omega)))))⟩
theorem rd_rowC {n:Nat} {cs:List Value} {x:DataW H × List MemPlace} (h:DataW.trod enc' Tryz.prog w 0 sp held n 155 cs=some x):∃ l:List OpL,(l.length≤9223372036854775807∧∀ o∈l,CF o.v)∧Fits w (yD l) cs:=by
 obtain⟨xs,hw,hl,hf⟩:=gG (α:=OpL) Tryz.underlying155 4 (by kernel_rfl) (by omega) encOp (fun o=>CF o.v) (fun n cs x h=>rd_opC h) h
 exact⟨xs,⟨hl,hw⟩,hf⟩
theorem rd_rowsC {n:Nat} {cs:List Value} {x:DataW H × List MemPlace} (h:DataW.trod enc' Tryz.prog w 0 sp held n 22 cs=some x):∃ l:List (List OpL),(l.length≤9223372036854775807∧∀ r∈l,r.length≤9223372036854775807∧∀ o∈r,CF o.v)∧Fits w [.sl (l.map yD)] cs:=by
 obtain⟨xs,hw,hl,hf⟩:=gG (α:=List OpL) Tryz.underlying22 1 (by kernel_rfl) (by omega) yD (fun r=>r.length≤9223372036854775807∧∀ o∈r,CF o.v) (fun n cs x h=>rd_rowC h) h
 exact⟨xs,⟨hl,hw⟩,hf⟩
theorem rd_progC {n:Nat} {cs:List Value} {x:DataW H × List MemPlace} (h:DataW.trod enc' Tryz.prog w 0 sp held n 24 cs=some x):∃ p:ProgL,(p.wf∧p.flt∧p.cn)∧Fits w (encProg p) cs:=by
 obtain⟨xs,m,_,_,hcl,hxl,hf⟩:=DataW.trod_struct Tryz.underlying24 h
 have c22:Tryz.prog.cellsOf 22=1:=by kernel_rfl
 have c24:Tryz.prog.cellsOf 24=4:=by kernel_rfl
 have hxl4:xs.length=4:=hxl
 have g0:DataW.trod enc' Tryz.prog w 0 sp held m 3 ((cs.drop 0).take (Tryz.prog.cellsOf 3))=xs[0]?:=hf 0 _ rfl
 have g1:DataW.trod enc' Tryz.prog w 0 sp held m 3 ((cs.drop 1).take (Tryz.prog.cellsOf 3))=xs[1]?:=hf 1 _ rfl
 have g2:DataW.trod enc' Tryz.prog w 0 sp held m 3 ((cs.drop 2).take (Tryz.prog.cellsOf 3))=xs[2]?:=hf 2 _ rfl
 have g3:DataW.trod enc' Tryz.prog w 0 sp held m 22 ((cs.drop 3).take (Tryz.prog.cellsOf 22))=xs[3]?:=hf 3 _ rfl
 simp only[c3,c22] at g0 g1 g2 g3
 rw[List.getElem?_eq_getElem (by omega)] at g0 g1 g2 g3
 obtain⟨k0,f0⟩:=rd_int g0
 obtain⟨k1,f1⟩:=rd_int g1
 obtain⟨k2,f2⟩:=rd_int g2
 obtain⟨v,⟨hv1,hv2⟩,f3⟩:=rd_rowsC g3
 exact⟨⟨k0,k1,k2,v⟩,⟨⟨hv1,fun r hr=>(hv2 r hr).1⟩,fun r hr o ho=>((hv2 r hr).2 o ho).2,fun r hr o ho=>((hv2 r hr).2 o ho).1⟩,yH (k:=0) f0 (yH (k:=1) f1 (yH (k:=2) f2 (yH (k:=3) f3 (bS (by omega)))))⟩
theorem rd_ev {n:Nat} {cs:List Value} {x:DataW H × List MemPlace} (h:DataW.trod enc' Tryz.prog w 0 sp held n 188 cs=some x):∃ o:Ev,True∧Fits w (encEv o) cs:=by
 obtain⟨xs,m,_,_,hcl,hxl,hf⟩:=DataW.trod_struct Tryz.underlying188 h
 have e3:Tryz.prog.cellsOf 3=1:=by kernel_rfl
 have e188:Tryz.prog.cellsOf 188=5:=by kernel_rfl
 have hxl4:xs.length=5:=hxl
 have g0:DataW.trod enc' Tryz.prog w 0 sp held m 3 ((cs.drop 0).take (Tryz.prog.cellsOf 3))=xs[0]?:=hf 0 _ rfl
 have g1:DataW.trod enc' Tryz.prog w 0 sp held m 3 ((cs.drop 1).take (Tryz.prog.cellsOf 3))=xs[1]?:=hf 1 _ rfl
 have g2:DataW.trod enc' Tryz.prog w 0 sp held m 3 ((cs.drop 2).take (Tryz.prog.cellsOf 3))=xs[2]?:=hf 2 _ rfl
 have g3:DataW.trod enc' Tryz.prog w 0 sp held m 3 ((cs.drop 3).take (Tryz.prog.cellsOf 3))=xs[3]?:=hf 3 _ rfl
 have g4:DataW.trod enc' Tryz.prog w 0 sp held m 3 ((cs.drop 4).take (Tryz.prog.cellsOf 3))=xs[4]?:=hf 4 _ rfl
 simp only[e3] at g0 g1 g2 g3 g4
 rw[List.getElem?_eq_getElem (by omega)] at g0 g1 g2 g3 g4
 obtain⟨k0,f0⟩:=rd_int g0
 obtain⟨k1,f1⟩:=rd_int g1
 obtain⟨k2,f2⟩:=rd_int g2
 obtain⟨k3,f3⟩:=rd_int g3
 obtain⟨k4,f4⟩:=rd_int g4
 exact⟨⟨k0,k1,k2,k3,k4⟩,trivial,yH (k:=0) f0 (yH (k:=1) f1 (yH (k:=2) f2 (yH (k:=3) f3 (yH (k:=4) f4 (bS (by omega))))))⟩
theorem rd_evs {n:Nat} {cs:List Value} {x:DataW H × List MemPlace} (h:DataW.trod enc' Tryz.prog w 0 sp held n 40 cs=some x):∃ l:List Ev,l.length≤9223372036854775807∧Fits w [.sl (l.map encEv)] cs:=by
 obtain⟨xs,_,hl,hf⟩:=gG (α:=Ev) Tryz.underlying40 5 (by kernel_rfl) (by omega) encEv (fun _=>True) (fun n cs x h=>rd_ev h) h
 exact⟨xs,hl,hf⟩
theorem rd_flts {n:Nat} {cs:List Value} {x:DataW H × List MemPlace} (h:DataW.trod enc' Tryz.prog w 0 sp held n 43 cs=some x):∃ l:List Nat,(l.length≤9223372036854775807∧∀ y∈l,CF y)∧Fits w [.sl (l.map encF)] cs:=by
 obtain⟨xs,hw,hl,hf⟩:=gG (α:=Nat) Tryz.underlying43 1 (by kernel_rfl) (by omega) encF CF (fun n cs x h=>rd_fltC h) h
 exact⟨xs,⟨hl,hw⟩,hf⟩
theorem rd_th {n:Nat} {cs:List Value} {x:DataW H × List MemPlace} (h:DataW.trod enc' Tryz.prog w 0 sp held n 242 cs=some x):∃ o:Th,(o.stack.length≤9223372036854775807∧o.cf)∧Fits w (zD o) cs:=by
 obtain⟨xs,m,_,_,hcl,hxl,hf⟩:=DataW.trod_struct Tryz.underlying242 h
 have e3:Tryz.prog.cellsOf 3=1:=by kernel_rfl
 have e43:Tryz.prog.cellsOf 43=1:=by kernel_rfl
 have e242:Tryz.prog.cellsOf 242=6:=by kernel_rfl
 have hxl4:xs.length=6:=hxl
 have g0:DataW.trod enc' Tryz.prog w 0 sp held m 3 ((cs.drop 0).take (Tryz.prog.cellsOf 3))=xs[0]?:=hf 0 _ rfl
 have g1:DataW.trod enc' Tryz.prog w 0 sp held m 3 ((cs.drop 1).take (Tryz.prog.cellsOf 3))=xs[1]?:=hf 1 _ rfl
 have g2:DataW.trod enc' Tryz.prog w 0 sp held m 3 ((cs.drop 2).take (Tryz.prog.cellsOf 3))=xs[2]?:=hf 2 _ rfl
 have g3:DataW.trod enc' Tryz.prog w 0 sp held m 3 ((cs.drop 3).take (Tryz.prog.cellsOf 3))=xs[3]?:=hf 3 _ rfl
 have g4:DataW.trod enc' Tryz.prog w 0 sp held m 3 ((cs.drop 4).take (Tryz.prog.cellsOf 3))=xs[4]?:=hf 4 _ rfl
 have g5:DataW.trod enc' Tryz.prog w 0 sp held m 43 ((cs.drop 5).take (Tryz.prog.cellsOf 43))=xs[5]?:=hf 5 _ rfl
 simp only[e3,e43] at g0 g1 g2 g3 g4 g5
 rw[List.getElem?_eq_getElem (by omega)] at g0 g1 g2 g3 g4 g5
 obtain⟨k0,f0⟩:=rd_int g0
 obtain⟨k1,f1⟩:=rd_int g1
 obtain⟨k2,f2⟩:=rd_int g2
 obtain⟨k3,f3⟩:=rd_int g3
 obtain⟨k4,f4⟩:=rd_int g4
 obtain⟨l,⟨hl1,hl2⟩,f5⟩:=rd_flts g5
 exact⟨⟨k0,k1,k2,k3,k4,l⟩,⟨hl1,hl2⟩,yH (k:=0) f0 (yH (k:=1) f1 (yH (k:=2) f2 (yH (k:=3) f3 (yH (k:=4) f4 (yH (k:=5) f5 (bS (by omega)))))))⟩
theorem rd_ths {n:Nat} {cs:List Value} {x:DataW H × List MemPlace} (h:DataW.trod enc' Tryz.prog w 0 sp held n 42 cs=some x):∃ l:List Th,(l.length≤9223372036854775807∧∀ t∈l,t.stack.length≤9223372036854775807∧t.cf)∧Fits w [.sl (l.map zD)] cs:=by
 obtain⟨xs,hw,hl,hf⟩:=gG (α:=Th) Tryz.underlying42 6 (by kernel_rfl) (by omega) zD (fun t=>t.stack.length≤9223372036854775807∧t.cf) (fun n cs x h=>rd_th h) h
 exact⟨xs,⟨hl,hw⟩,hf⟩
theorem rd_st {n:Nat} {cs:List Value} {x:DataW H × List MemPlace} (h:DataW.trod enc' Tryz.prog w 0 sp held n 45 cs=some x):∃ o:StL,(o.wf∧o.cf)∧Fits w (yL o) cs:=by
 obtain⟨xs,m,_,_,hcl,hxl,hf⟩:=DataW.trod_struct Tryz.underlying45 h
 have e3:Tryz.prog.cellsOf 3=1:=by kernel_rfl
 have e41:Tryz.prog.cellsOf 41=1:=by kernel_rfl
 have e43:Tryz.prog.cellsOf 43=1:=by kernel_rfl
 have e42:Tryz.prog.cellsOf 42=1:=by kernel_rfl
 have e45:Tryz.prog.cellsOf 45=4:=by kernel_rfl
 have hxl4:xs.length=4:=hxl
 have g0:DataW.trod enc' Tryz.prog w 0 sp held m 42 ((cs.drop 0).take (Tryz.prog.cellsOf 42))=xs[0]?:=hf 0 _ rfl
 have g1:DataW.trod enc' Tryz.prog w 0 sp held m 43 ((cs.drop 1).take (Tryz.prog.cellsOf 43))=xs[1]?:=hf 1 _ rfl
 have g2:DataW.trod enc' Tryz.prog w 0 sp held m 41 ((cs.drop 2).take (Tryz.prog.cellsOf 41))=xs[2]?:=hf 2 _ rfl
 have g3:DataW.trod enc' Tryz.prog w 0 sp held m 3 ((cs.drop 3).take (Tryz.prog.cellsOf 3))=xs[3]?:=hf 3 _ rfl
 simp only[e3,e41,e43,e42] at g0 g1 g2 g3
 rw[List.getElem?_eq_getElem (by omega)] at g0 g1 g2 g3
 obtain⟨a,⟨ha1,ha2⟩,f0⟩:=rd_ths g0
 obtain⟨c,⟨hc1,hc2⟩,f1⟩:=rd_flts g1
 obtain⟨b,hb,f2⟩:=rd_ints g2
 obtain⟨k3,f3⟩:=rd_int g3
 exact⟨⟨a,c,b,k3⟩,⟨⟨ha1,fun t ht=>(ha2 t ht).1,hc1,hb⟩,hc2,fun t ht=>(ha2 t ht).2⟩,yH (k:=0) f0 (yH (k:=1) f1 (yH (k:=2) f2 (yH (k:=3) f3 (bS (by omega)))))⟩
theorem rd_run {n:Nat} {cs:List Value} {x:DataW H × List MemPlace} (h:DataW.trod enc' Tryz.prog w 0 sp held n 47 cs=some x):∃ o:RunT,(o.wf∧o.s.cf)∧Fits w (encRT o) cs:=by
 obtain⟨xs,m,_,_,hcl,hxl,hf⟩:=DataW.trod_struct Tryz.underlying47 h
 have e3:Tryz.prog.cellsOf 3=1:=by kernel_rfl
 have e41:Tryz.prog.cellsOf 41=1:=by kernel_rfl
 have e40:Tryz.prog.cellsOf 40=1:=by kernel_rfl
 have e45:Tryz.prog.cellsOf 45=4:=by kernel_rfl
 have e47:Tryz.prog.cellsOf 47=7:=by kernel_rfl
 have hxl4:xs.length=4:=hxl
 have g0:DataW.trod enc' Tryz.prog w 0 sp held m 3 ((cs.drop 0).take (Tryz.prog.cellsOf 3))=xs[0]?:=hf 0 _ rfl
 have g1:DataW.trod enc' Tryz.prog w 0 sp held m 40 ((cs.drop 1).take (Tryz.prog.cellsOf 40))=xs[1]?:=hf 1 _ rfl
 have g2:DataW.trod enc' Tryz.prog w 0 sp held m 41 ((cs.drop 2).take (Tryz.prog.cellsOf 41))=xs[2]?:=hf 2 _ rfl
 have g3:DataW.trod enc' Tryz.prog w 0 sp held m 45 ((cs.drop 3).take (Tryz.prog.cellsOf 45))=xs[3]?:=hf 3 _ rfl
 simp only[e3,e41,e40,e45] at g0 g1 g2 g3
 rw[List.getElem?_eq_getElem (by omega)] at g0 g1 g2 g3
 obtain⟨k0,f0⟩:=rd_int g0
 obtain⟨a,ha,f1⟩:=rd_evs g1
 obtain⟨b,hb,f2⟩:=rd_ints g2
 obtain⟨s,⟨hs1,hs2⟩,f3⟩:=rd_st g3
 exact⟨⟨k0,a,b,s⟩,⟨⟨ha,hb,hs1⟩,hs2⟩,yH (k:=0) f0 (yH (k:=1) f1 (yH (k:=2) f2 (by rw[List.take_of_length_le (by rw[List.length_drop];omega)] at f3;exact f3)))⟩
end
end Ai
namespace Ai
set_option maxRecDepth 100000
open Go Go.Proofs
theorem lC (els:List (List D)) (k:Int) (n:Nat) (hn:n=els.length) (hx:n≤1048576) (h0:0≤k) (h1:k≤1073741824) (H0:Key→Option Ob) (hH:H0 (.n 50)=some (.ds 132 1 els)) :
  IOCall EE 106 [.ref (.n 50) 0 n,i64 k] H0 (fun r H1=>r=i64 (k+n)∧∀ κ,H1 κ=none):=by
 refine xR (fn:=Tryz.f106) (c:=Tryz.f106.body.getD .skip) Tryz.func106 rfl (by kernel_rfl) rfl ?_
 have hat:At [(0,.ref (.n 50) 0 n),(1,i64 k)] [(.n 50,.ds 132 1 els)] [] ⟨fun i=>[AV.ref (.n 50) 0 n,i64 k].getD i .junk,H0⟩:=⟨⟨rfl,rfl,trivial⟩,⟨hH,trivial⟩,trivial⟩
 obtain⟨τ,H,hf⟩:=hat.form
 rw[hf]
 conv=>whnf
 refine yZ (fun x:Nat × List (List D)=>[(0,.ref (.n 50) 0 n),(1,i64 (k+(x.1:Int))),(5,i64 x.1)]) (fun x=>[(.n 50,.ds 132 1 x.2)]) (fun x=>n - x.1) (fun x=>x.1≤n∧x.2.length=n) (0,els)
  Weak.refl ⟨rfl,?_,rfl,trivial⟩ ⟨rfl,trivial⟩ ⟨Nat.zero_le _,hn.symm⟩ ?_
 ·show i64 k=i64 (k+((0:Nat):Int))
  rw[show k+((0:Nat):Int)=k by omega]
 rintro⟨i,E⟩ τ H ⟨hi,hE⟩
 have hi:i≤n:=hi
 have hE:E.length=n:=hE
 conv=>whnf
 refine kbi (fun h=>?_) (fun h=>?_)
 ·have hlt:i<n:=by simpa using h
  conv=>whnf
  refine⟨⟨by show 0≤(i:Int);omega,by show(i:Int)<n;omega⟩,?_⟩
  conv=>whnf
  refine⟨(i+1,xF E 1 (0+(i:Int).toNat) 0 [.flt (FloatKind.f64.nearest (k+(i:Int)))]),⟨by show i+1≤n;omega,?_⟩,by show n - (i+1)<n - i;omega,⟨rfl,?_,?_,trivial⟩,⟨rfl,trivial⟩⟩
  ·dsimp only
   rw[vQ,hE]
  ·show AV.d (.int .i64 (IntKind.i64.wrap (k+(i:Int)+1)))=i64 (k+((i+1:Nat):Int))
   rw[zG (by omega) (by omega)]
   exact congrArg i64 (by omega)
  ·show AV.d (.int .i64 (IntKind.i64.wrap ((i:Int)+1)))=i64 ((i+1:Nat):Int)
   rw[zG (by omega) (by omega)]
   rfl
 ·conv=>whnf
  have hkk:i=n:=by
   have:¬ i<n:=by simpa using h
   omega
  subst hkk
  refine⟨_,Weak.refl,?_⟩
  conv=>whnf
  exact⟨fun _=>false,rfl,fun κ=>rfl⟩
theorem mE {sz:Nat} {els:List (List D)} {k off:Nat} {x:D} (h:∀ c∈els,c.length=sz) (hs:sz≠1) (ho:off<sz):∀ c∈xF els sz k off [x],c.length=sz:=by
 intro c hc
 unfold xF at hc
 rw[show Nat.beq ([x]:List D).length sz=false from by rw[Bool.eq_false_iff];intro e;exact hs (Nat.eq_of_beq_eq_true e).symm,Bool.and_false] at hc
 obtain⟨i,hi,rfl⟩:=List.mem_iff_getElem.1 hc
 have hil:i<els.length:=by simpa using hi
 have h4:=h _ (List.getElem_mem hil)
 simp only[cond_false,List.getElem_modify]
 split
 ·rw[lK _ _ (by omega)];exact h4
 ·exact h4
theorem eF (els:List (List D)) (k:Int) (n:Nat) (hn:n=els.length) (hx:n≤1048576) (h4:∀ c∈els,c.length=5) (h0:0≤k) (h1:k≤1073741824) (H0:Key→Option Ob) (hH:H0 (.n 901)=some (.ds 128 5 els)) :
  IOCall EE 81 [.ref (.n 901) 0 n,i64 k] H0 (fun r H1=>r=i64 (k+5*n)∧∀ κ,H1 κ=none):=by
 refine xR (fn:=Tryz.f81) (c:=Tryz.f81.body.getD .skip) Tryz.func81 rfl (by kernel_rfl) rfl ?_
 have hat:At [(0,.ref (.n 901) 0 n),(1,i64 k)] [(.n 901,.ds 128 5 els)] [] ⟨fun i=>[AV.ref (.n 901) 0 n,i64 k].getD i .junk,H0⟩:=⟨⟨rfl,rfl,trivial⟩,⟨hH,trivial⟩,trivial⟩
 obtain⟨τ,H,hf⟩:=hat.form
 rw[hf]
 conv=>whnf
 refine yZ (fun x:Nat × List (List D)=>[(0,.ref (.n 901) 0 n),(1,i64 (k+5*(x.1:Int))),(5,i64 x.1)]) (fun x=>[(.n 901,.ds 128 5 x.2)]) (fun x=>n - x.1) (fun x=>x.1≤n∧x.2.length=n∧∀ c∈x.2,c.length=5) (0,els)
  Weak.refl ⟨rfl,?_,rfl,trivial⟩ ⟨rfl,trivial⟩ ⟨Nat.zero_le _,hn.symm,h4⟩ ?_
 ·show i64 k=i64 (k+5*((0:Nat):Int))
  rw[show k+5*((0:Nat):Int)=k by omega]
 rintro⟨i,E⟩ τ H ⟨hi,hE,hE4⟩
 have hi:i≤n:=hi
 have hE:E.length=n:=hE
 have hE4:∀ c∈E,c.length=5:=hE4
 conv=>whnf
 refine kbi (fun h=>?_) (fun h=>?_)
 ·have hlt:i<n:=by simpa using h
  conv=>whnf
  iterate 5
   refine⟨⟨by show 0≤(i:Int);omega,by show(i:Int)<n;omega⟩,?_⟩
   conv=>whnf
  refine⟨(i+1,xF (xF (xF (xF (xF E 5 (0+(i:Int).toNat) (0+0) [.int .i64 (k+5*(i:Int))]) 5 (0+(i:Int).toNat) (0+1) [.int .i64 (IntKind.i64.wrap (k+5*(i:Int)+1))]) 5 (0+(i:Int).toNat) (0+2) [.int .i64 (IntKind.i64.wrap (IntKind.i64.wrap (k+5*(i:Int)+1)+1))]) 5 (0+(i:Int).toNat) (0+3) [.int .i64 (IntKind.i64.wrap (IntKind.i64.wrap (IntKind.i64.wrap (k+5*(i:Int)+1)+1)+1))]) 5 (0+(i:Int).toNat) (0+4) [.int .i64 (IntKind.i64.wrap (IntKind.i64.wrap (IntKind.i64.wrap (IntKind.i64.wrap (k+5*(i:Int)+1)+1)+1)+1))]),⟨by show i+1≤n;omega,?_,?_⟩,by show n - (i+1)<n - i;omega,⟨rfl,?_,?_,trivial⟩,⟨rfl,trivial⟩⟩
  ·dsimp only
   rw[vQ,vQ,vQ,vQ,vQ,hE]
  ·dsimp only
   refine mE (mE (mE (mE (mE hE4 ?_ ?_) ?_ ?_) ?_ ?_) ?_ ?_) ?_ ?_ <;> omega
  ·show AV.d (.int .i64 (IntKind.i64.wrap (IntKind.i64.wrap (IntKind.i64.wrap (IntKind.i64.wrap (IntKind.i64.wrap ((k+5*(i:Int))+1)+1)+1)+1)+1)))=i64 (k+5*((i+1:Nat):Int))
   rw[zG (n:=k+5*(i:Int)+1) (by omega) (by omega),zG (n:=k+5*(i:Int)+1+1) (by omega) (by omega),zG (n:=k+5*(i:Int)+1+1+1) (by omega) (by omega),zG (n:=k+5*(i:Int)+1+1+1+1) (by omega) (by omega),zG (n:=k+5*(i:Int)+1+1+1+1+1) (by omega) (by omega)]
   exact congrArg i64 (by omega)
  ·show AV.d (.int .i64 (IntKind.i64.wrap ((i:Int)+1)))=i64 ((i+1:Nat):Int)
   rw[zG (by omega) (by omega)]
   rfl
 ·conv=>whnf
  have hkk:i=n:=by
   have:¬ i<n:=by simpa using h
   omega
  subst hkk
  refine⟨_,Weak.refl,?_⟩
  conv=>whnf
  exact⟨fun _=>false,rfl,fun κ=>rfl⟩
end Ai
namespace Ai
set_option maxRecDepth 100000
open Go Go.Proofs
def tU (xs:List Th) (k j:Nat):List AV:=if j<k then (match xs[j]? with|some t=>thRow 900 j t|none=>[]) else [i64 0,i64 0,i64 0,i64 0,i64 0,.d .nil]
def vV (xs:List Th) (k:Nat):List (List AV):=(List.range xs.length).map (tU xs k)
def nK (xs:List Th) (k j:Nat):Option Ob:=if j<k then zK xs j else none
theorem rowsH_map {xs:List Th} {i i':Nat} (f:List AV→List AV) (h:∀ j,j<xs.length→f (tU xs i j)=tU xs i' j):(vV xs i).map f=vV xs i':=by
 unfold vV
 rw[List.map_map]
 exact List.map_congr_left fun j hj=>h j (by simpa using hj)
theorem rowsH_zero (xs:List Th):vV xs 0=List.replicate xs.length [i64 0,i64 0,i64 0,i64 0,i64 0,.d .nil]:=by
 apply List.ext_getElem?
 intro j
 by_cases h:j<xs.length
 ·simp[vV,tU,h]
 ·rw[List.getElem?_eq_none (by simp[vV];omega),List.getElem?_eq_none (by simp;omega)]
theorem iI {p:Key→Bool} (xs:List Th) (i:Nat) (hp:∀ j,p (.s 900 j)=false):(vV xs i).map (scrPL p)=vV xs i :=
 rowsH_map _ fun j hj=>by
  unfold tU
  split
  ·rw[List.getElem?_eq_getElem hj]
   exact zY (hp j)
  ·rfl
theorem famH_ren (f:Key→Key) (xs:List Th) (i j:Nat):(nK xs i j).map (renO f)=nK xs i j:=by
 unfold nK
 split
 ·exact thFam_ren _ _ _
 ·rfl
theorem famH_scr (p:Key→Bool) (xs:List Th) (i j:Nat):(nK xs i j).map (scrPO p)=nK xs i j:=by
 unfold nK
 split
 ·exact zQ _ _ _
 ·rfl
theorem rowsH_end (xs:List Th):vV xs xs.length=thRows 900 xs:=by
 apply List.ext_getElem?
 intro j
 by_cases h:j<xs.length
 ·rw[yV h]
  simp[vV,tU,h]
 ·rw[List.getElem?_eq_none (by simp[vV];omega),List.getElem?_eq_none (by rw[zS];omega)]
theorem famH_end (xs:List Th) (j:Nat):nK xs xs.length j=zK xs j:=by
 unfold nK
 split
 ·rfl
 ·rename_i h
  exact(thFam_ge (by omega)).symm
theorem rowsH_put {xs:List Th} {k:Nat} (h:k<xs.length):((yQ (vV xs k) 6 k 0 [i64 xs[k].rt,i64 xs[k].pc,i64 xs[k].st,i64 xs[k].cond,i64 xs[k].lock,.ref (.n 905) 0 (stk xs[k]).length]).map (renL (swp (.n 905) (.s 900 k))))=vV xs (k+1):=by
 have hlen:(vV xs k).length=xs.length:=by simp[vV]
 apply List.ext_getElem?
 intro j
 by_cases hj:j=k
 ·subst hj
  rw[List.getElem?_map,xY (c:=tU xs j j) (c':=[i64 xs[j].rt,i64 xs[j].pc,i64 xs[j].st,i64 xs[j].cond,i64 xs[j].lock,.ref (.n 905) 0 (stk xs[j]).length]) (by simp[vV,h]) (by unfold tU;rw[if_neg (by omega)];rfl)]
  have e:swp (.n 905) (.s 900 j) (.n 905)=.s 900 j:=by simp[swp,Key.beq]
  simp[vV,tU,h,renL,ren,e,thRow,stk]
 ·by_cases hl:j<xs.length
  ·rw[List.getElem?_map,qZ hj (c:=tU xs k j) (by simp[vV,hl])]
   simp only[vV,List.getElem?_map,List.getElem?_range hl,Option.map_some,Option.some.injEq]
   unfold tU
   by_cases hjk:j<k
   ·rw[if_pos hjk,if_pos (by omega),List.getElem?_eq_getElem hl]
    exact nX (by omega)
   ·rw[if_neg hjk,if_neg (by omega)]
    rfl
  ·rw[List.getElem?_eq_none (by simp[yQ];simp[hlen];omega),List.getElem?_eq_none (by simp[vV];omega)]
theorem eA (xs:List Th) (hx:xs.length≤1048576) (hx2:∀ x∈xs,x.stack.length≤1048576):CallsTo EE 144 [sl (xs.map zD)] (·=.ownF 1 [.uqd 175 6 5 132 1 (xs.map vR) (xs.map stk)]):=by
 refine sI (fun v hv=>?_) ?_
 ·simp only[List.mem_cons,List.not_mem_nil,or_false] at hv
  subst hv
  show(xs.map _).length=(xs.map _).length
  simp
 refine xR (fn:=Tryz.f144) (c:=Tryz.f144.body.getD .skip) Tryz.func144 rfl (by kernel_rfl) rfl ?_
 conv=>whnf
 refine⟨by simp;omega,?_⟩
 conv=>whnf
 refine fM (fun k:Nat=>[(0,sl (xs.map zD)),(3,.dref (.n 900) xs.length),(4,i64 k)]) (fun k=>[(.n 900,.rs 175 6 (vV xs k))]) (fun k=>[(900,nK xs k)]) (fun k=>xs.length - k) (fun k=>k≤xs.length) 0
  ((tF (.n 7) rfl).trans (wD 7 900)) ?_ ?_ ?_ (Nat.zero_le _) ?_
 ·exact⟨rfl,by show AV.dref (.n 900) (((xs.map zD).length:Nat):Int).toNat=_;simp,rfl,trivial⟩
 ·refine⟨?_,trivial⟩
  show some (Ob.rs 175 6 (((List.replicate (((xs.map zD).length:Nat):Int).toNat [di 0,di 0,di 0,di 0,di 0,D.nil]).map (List.map AV.d)).map (renL (swp (.n 7) (.n 900)))))=_
  rw[rowsH_zero]
  simp[renL,ren]
 ·refine⟨fun j=>?_,trivial⟩
  unfold nK
  rw[if_neg (by omega)]
  rfl
 intro k τ H hk
 have hk:k≤xs.length:=hk
 conv=>whnf
 refine kbi (fun h=>?_) (fun h=>?_)
 ·have hlt:=yR h
  conv=>whnf
  refine⟨zD xs[k],zN zD hlt rfl,?_⟩
  conv=>whnf
  refine⟨_,z6 xs[k] (hx2 _ (List.getElem_mem hlt)),?_⟩
  rintro r rfl
  conv=>whnf
  refine⟨⟨by omega,by omega⟩,?_⟩
  conv=>whnf
  refine⟨k+1,_,uD 905 900 k,by show k+1≤xs.length;omega,by show xs.length - (k+1)<xs.length - k;omega,⟨rfl,rfl,zH hlt (by omega),trivial⟩,⟨?_,trivial⟩,⟨fun j=>?_,trivial⟩⟩
  ·show some (Ob.rs 175 6 ((yQ ((vV xs k).map (scrPL fun κ=>(ownH [i64 xs[k].rt,i64 xs[k].pc,i64 xs[k].st,i64 xs[k].cond,i64 xs[k].lock,.uq 132 1 (stk xs[k])] κ).isSome)) 6 ((k:Int)).toNat 0 [i64 xs[k].rt,i64 xs[k].pc,i64 xs[k].st,i64 xs[k].cond,i64 xs[k].lock,.ref (.n 905) 0 (stk xs[k]).length]).map (renL (swp (.n 905) (.s 900 k)))))=_
   rw[iI _ _ (fun j=>rfl),Int.toNat_natCast,rowsH_put hlt]
  ·show(St.H _ (swp (.n 905) (.s 900 k) (.s 900 j))).map _=_
   by_cases hj:j=k
   ·subst hj
    have e:swp (.n 905) (.s 900 j) (.s 900 j)=.n 905:=by simp[swp,Key.beq]
    rw[e]
    unfold nK
    rw[if_pos (by omega),thFam_self hlt]
    rfl
   ·have e:swp (.n 905) (.s 900 k) (.s 900 j)=.s 900 j:=by simp[swp,Key.beq,nbeq_ne hj]
    rw[e]
    show Option.map _ (Option.map _ (nK xs k j))=_
    rw[famH_scr,famH_ren]
    unfold nK
    by_cases hjk:j<k
    ·rw[if_pos hjk,if_pos (by omega)]
    ·rw[if_neg hjk,if_neg (by omega)]
 ·have hkk:k=xs.length:=by
   have:¬ k<xs.length:=by simpa using h
   omega
  subst hkk
  conv=>whnf
  refine⟨_,Weak.refl,?_⟩
  conv=>whnf
  refine⟨lend9,?_,fun κ hκ=>?_⟩
  ·show AV.dref (.n 900) xs.length=AV.dref (.n 900) (xs.map _).length
   rw[List.length_map]
  ·cases κ with
   |l n=>exact absurd rfl hκ
   |n q =>
    by_cases hq:q=900
    ·subst hq
     show some (Ob.rs 175 6 ((vV xs xs.length).map (scrPL (fun o=>!lend9 o))))=some (Ob.rs 175 6 (ownRows 900 5 (xs.map vR) (xs.map stk)))
     rw[iI _ _ (fun j=>rfl),rowsH_end];rfl
    ·exact absurd (own1_n hq) hκ
   |s o j =>
    by_cases hq:o=900
    ·subst hq
     show Option.map _ (nK xs xs.length j)=((xs.map stk)[j]?).map (Ob.ds 132 1)
     rw[famH_scr,famH_end]
     simp[zK]
     rfl
    ·exact absurd (own1_s hq) hκ
theorem m6 (s:StL) (h:s.fit):CallsTo EE 76 [agg (yL s)] (·=.own (vM s)):=by
 refine callsTo_of_AW (fn:=Tryz.f76) Tryz.func76 rfl (by kernel_rfl) rfl ?_
 conv=>whnf
 refine⟨_,eA s.ths h.ths h.st,?_⟩
 rintro r rfl
 conv=>whnf
 refine⟨_,kM s.cells h.cells,?_⟩
 rintro r rfl
 refine .inr ⟨_,rfl,?_⟩
 conv=>whnf
 refine⟨_,dE s.owner h.owner,?_⟩
 rintro r rfl
 refine .inr ⟨_,rfl,?_⟩
 conv=>whnf
 refine .inr (.inr ⟨vM s,_,(wD 10 901).trans (wD 14 902),?_,?_,jM ⟨⟨?_,fun j q hq=>?_⟩,?_,?_,trivial,trivial⟩,rfl⟩)
 ·rfl
 ·intro v hv
  simp only[vM,List.mem_cons,List.not_mem_nil,or_false] at hv
  rcases hv with rfl|rfl|rfl|rfl
  ·show(s.ths.map vR).length=(s.ths.map stk).length
   simp
  ·trivial
  ·trivial
  ·trivial
 ·show some (Ob.rs 175 6 (((((thRows 900 s.ths).map (scrPL (isK (.n 10)))).map (scrPL (isK (.n 14)))).map (renL (swp (.n 10) (.n 901)))).map (renL (swp (.n 14) (.n 902)))))=some (Ob.rs 175 6 (thRows 900 s.ths))
  rw[vU,vU,vB,vB]
 ·have hq:(s.ths.map stk)[j]?=some q:=hq
  have e:ownH [AV.uqd 175 6 5 132 1 (s.ths.map vR) (s.ths.map stk)] (.s 900 j)=some (.ds 132 1 q):=by
   show((s.ths.map stk)[j]?).map (Ob.ds 132 1)=_
   rw[hq];rfl
  show Option.map _ (Option.map _ (Option.map _ (Option.map _ (match ownH [AV.uqd 175 6 5 132 1 (s.ths.map vR) (s.ths.map stk)] (.s 900 j) with|some ob=>some ob|none=>_))))=_
  rw[e];rfl
 ·rfl
 ·rfl
def iN (x:RunT):List AV:=[i64 x.c,.uq 128 5 (x.tr.map encEv),.uq 3 1 (x.tk.map encInt),.uqd 175 6 5 132 1 (x.s.ths.map vR) (x.s.ths.map stk),.uq 132 1 (x.s.cells.map encF),.uq 3 1 (x.s.owner.map encInt),.d (di x.s.fault)]
theorem toRun_own (x:RunT) (h:x.fit):CallsTo EE 26 [agg (encRT x)] (·=.own (iN x)):=by
 refine callsTo_of_AW (fn:=Tryz.f26) Tryz.func26 rfl (by kernel_rfl) rfl ?_
 conv=>whnf
 refine⟨_,rI x.tr h.tr,?_⟩
 rintro r rfl
 refine .inr ⟨_,rfl,?_⟩
 conv=>whnf
 refine⟨_,dE x.tk h.tk,?_⟩
 rintro r rfl
 refine .inr ⟨_,rfl,?_⟩
 conv=>whnf
 refine⟨_,m6 x.s h.s,?_⟩
 rintro r rfl
 conv=>whnf
 refine .inr (.inr ⟨iN x,_,(gV shA).trans ((wD 9 901).trans (wD 13 902)),?_,?_,jM ⟨trivial,?_,?_,⟨?_,fun j q hq=>?_⟩,?_,?_,trivial,trivial⟩,rfl⟩)
 ·rfl
 ·intro v hv
  simp only[iN,List.mem_cons,List.not_mem_nil,or_false] at hv
  rcases hv with rfl|rfl|rfl|rfl|rfl|rfl|rfl
  ·trivial
  ·trivial
  ·trivial
  ·show(x.s.ths.map vR).length=(x.s.ths.map stk).length
   simp
  ·trivial
  ·trivial
  ·trivial
 ·rfl
 ·rfl
 ·show some (Ob.rs 175 6 ((((thRows 900 x.s.ths).map (renL shA.f)).map (renL (swp (.n 9) (.n 901)))).map (renL (swp (.n 13) (.n 902)))))=some (Ob.rs 175 6 (thRows 903 x.s.ths))
  rw[show(thRows 900 x.s.ths).map (renL shA.f)=thRows 903 x.s.ths from gA (g:=numA) (hg:=pN) 900 x.s.ths]
  show some (Ob.rs 175 6 (((thRows 903 x.s.ths).map (renL (swp (.n 9) (.n 901)))).map (renL (swp (.n 13) (.n 902)))))=_
  rw[vB,vB]
 ·have hq:(x.s.ths.map stk)[j]?=some q:=hq
  have e:ownH (vM x.s) (.s 900 j)=some (.ds 132 1 q):=by
   show((x.s.ths.map stk)[j]?).map (Ob.ds 132 1)=_
   rw[hq];rfl
  show Option.map _ (Option.map _ (Option.map _ (match ownH (vM x.s) (.s 900 j) with|some ob=>some ob|none=>_)))=_
  rw[e];rfl
 ·rfl
 ·rfl
end Ai
namespace Ai
set_option maxRecDepth 100000
open Go Go.Proofs
def xN (xs:List Th) (i:Nat):Nat:=((xs.take i).map fun t=>5+t.stack.length).sum
theorem totT_succ {xs:List Th} {i:Nat} (h:i<xs.length):xN xs (i+1)=xN xs i+(5+xs[i].stack.length):=by
 unfold xN
 rw[List.take_succ_eq_append_getElem h,List.map_append,List.sum_append]
 simp
theorem totT_le (xs:List Th) (i:Nat):xN xs i≤xN xs xs.length:=by
 unfold xN
 rw[List.take_length]
 have:∀ (l:List Nat) (i:Nat),(l.take i).sum≤l.sum:=by
  intro l
  induction l with
  |nil=>simp
  |cons x xs ih =>
   intro i
   cases i with
   |zero=>simp
   |succ i=>simp only[List.take_succ_cons,List.sum_cons];have:=ih i;omega
 rw[List.map_take]
 exact this _ i
def rowX (k:Int) (xs:List Th) (i j:Nat):List AV:=if j<i then [i64 (k+(xN xs j:Int)),i64 (k+(xN xs j:Int)+1),i64 (k+(xN xs j:Int)+2),i64 (k+(xN xs j:Int)+3),i64 (k+(xN xs j:Int)+4),.junk] else (match xs[j]? with|some t=>thRow 903 j t|none=>[])
def mJ (k:Int) (xs:List Th) (i:Nat):List (List AV):=(List.range xs.length).map (rowX k xs i)
def nJ (xs:List Th) (i j:Nat):Option Ob:=if j<i then none else zK xs j
theorem dL {k:Int} {xs:List Th} {i j:Nat} (h:j<xs.length):(mJ k xs i)[j]?=some (rowX k xs i j):=by simp[mJ,h]
theorem pD {k:Int} {xs:List Th} {i:Nat}:(mJ k xs i).length=xs.length:=by simp[mJ]
theorem rowsX_zero (k:Int) (xs:List Th):mJ k xs 0=thRows 903 xs:=by
 apply List.ext_getElem?
 intro j
 by_cases h:j<xs.length
 ·rw[yV h,dL h]
  simp[rowX,h]
 ·rw[List.getElem?_eq_none (by rw[pD];omega),List.getElem?_eq_none (by rw[zS];omega)]
theorem nI (f:Key→Key) (xs:List Th) (i j:Nat):(nJ xs i j).map (renO f)=nJ xs i j:=by
 unfold nJ
 split
 ·rfl
 ·exact thFam_ren _ _ _
theorem famX_scr (p:Key→Bool) (xs:List Th) (i j:Nat):(nJ xs i j).map (scrPO p)=nJ xs i j:=by
 unfold nJ
 split
 ·rfl
 ·exact zQ _ _ _
def p5 (R:List (List AV)) (i:Nat) (v0 v1 v2 v3 v4:AV):List (List AV) :=
 yQ (yQ (yQ (yQ (yQ R 6 (i:Int).toNat (0+0) [v0]) 6 (i:Int).toNat (0+1) [v1]) 6 (i:Int).toNat (0+2) [v2]) 6 (i:Int).toNat (0+3) [v3]) 6 (i:Int).toNat (0+4) [v4]
theorem put5_eq {R:List (List AV)} {i:Nat} {v0 v1 v2 v3 v4 a0 a1 a2 a3 a4 a5:AV} (h:R[i]?=some [a0,a1,a2,a3,a4,a5]):(p5 R i v0 v1 v2 v3 v4)[i]?=some [v0,v1,v2,v3,v4,a5]:=by
 unfold p5
 rw[Int.toNat_natCast]
 exact xY (xY (xY (xY (xY h rfl) rfl) rfl) rfl) rfl
theorem put5_ne {R:List (List AV)} {i j:Nat} {v0 v1 v2 v3 v4:AV} {c:List AV} (hj:j≠i) (h:R[j]?=some c):(p5 R i v0 v1 v2 v3 v4)[j]?=some c:=by
 unfold p5
 rw[Int.toNat_natCast]
 exact qZ hj (qZ hj (qZ hj (qZ hj (qZ hj h))))
theorem bG {X:List (List AV)} {sz k off:Nat} {xs:List AV}:(yQ X sz k off xs).length=X.length:=by
 unfold yQ
 cases (Nat.beq off 0&&Nat.beq xs.length sz) <;> simp
theorem put5_len {R:List (List AV)} {i:Nat} {v0 v1 v2 v3 v4:AV}:(p5 R i v0 v1 v2 v3 v4).length=R.length:=by
 unfold p5
 rw[bG,bG,bG,bG,bG]
theorem cG (xs:List Th) (k:Int) (hx:xs.length≤1048576) (hs:∀ t∈xs,t.stack.length≤1048576) (ht:xN xs xs.length≤8388608) (h0:0≤k) (h1:k≤67108864) (H0:Key→Option Ob)
  (hH:H0 (.n 903)=some (.rs 175 6 (thRows 903 xs))) (hF:∀ j,H0 (.s 903 j)=zK xs j) :
  IOCall EE 105 [.dref (.n 903) xs.length,i64 k] H0 (fun r H1=>r=i64 (k+xN xs xs.length)∧∀ κ,H1 κ=none):=by
 refine xR (fn:=Tryz.f105) (c:=Tryz.f105.body.getD .skip) Tryz.func105 rfl (by kernel_rfl) rfl ?_
 have hat:At [(0,.dref (.n 903) xs.length),(1,i64 k)] [(.n 903,.rs 175 6 (thRows 903 xs))] [(903,nJ xs 0)] ⟨fun i=>[AV.dref (.n 903) xs.length,i64 k].getD i .junk,H0⟩:=⟨⟨rfl,rfl,trivial⟩,⟨hH,trivial⟩,⟨fun j=>(hF j).trans rfl,trivial⟩⟩
 obtain⟨τ,H,hf⟩:=hat.form
 rw[hf]
 conv=>whnf
 refine fM (fun i:Nat=>[(0,.dref (.n 903) xs.length),(1,i64 (k+(xN xs i:Int))),(5,i64 i)]) (fun i=>[(.n 903,.rs 175 6 (mJ k xs i))]) (fun i=>[(903,nJ xs i)]) (fun i=>xs.length - i) (fun i=>i≤xs.length) 0
  Weak.refl ⟨rfl,?_,rfl,trivial⟩ ⟨?_,trivial⟩ ⟨fun j=>?_,trivial⟩ (Nat.zero_le _) ?_
 ·show i64 k=i64 (k+((xN xs 0:Nat):Int))
  rw[show k+((xN xs 0:Nat):Int)=k by simp[xN]]
 ·rw[rowsX_zero];rfl
 ·rfl
 intro i τ H hi
 have hi:i≤xs.length:=hi
 have hti:=totT_le xs i
 conv=>whnf
 refine kbi (fun h=>?_) (fun h=>?_)
 ·have hlt:i<xs.length:=by simpa using h
  conv=>whnf
  have hrow:rowX k xs i i=thRow 903 i xs[i]:=by unfold rowX;rw[if_neg (by omega),List.getElem?_eq_getElem hlt]
  have hfi:nJ xs i i=some (.ds 132 1 (stk xs[i])):=by unfold nJ;rw[if_neg (by omega),thFam_self hlt]
  iterate 5
   refine⟨⟨by omega,by omega⟩,?_⟩
   conv=>whnf
  have w1:IntKind.i64.wrap (k+(xN xs i:Int)+1)=k+(xN xs i:Int)+1:=zG (by omega) (by omega)
  have w2:IntKind.i64.wrap (k+(xN xs i:Int)+1+1)=k+(xN xs i:Int)+2:=by rw[zG (by omega) (by omega)];omega
  have w3:IntKind.i64.wrap (k+(xN xs i:Int)+2+1)=k+(xN xs i:Int)+3:=by rw[zG (by omega) (by omega)];omega
  have w4:IntKind.i64.wrap (k+(xN xs i:Int)+3+1)=k+(xN xs i:Int)+4:=by rw[zG (by omega) (by omega)];omega
  have w5:IntKind.i64.wrap (k+(xN xs i:Int)+4+1)=k+(xN xs i:Int)+5:=by rw[zG (by omega) (by omega)];omega
  refine⟨⟨by omega,by omega⟩,?_⟩
  conv=>whnf
  have hget:(p5 (mJ k xs i) i (i64 (k+(xN xs i:Int))) (i64 (k+(xN xs i:Int)+1)) (i64 (k+(xN xs i:Int)+2)) (i64 (k+(xN xs i:Int)+3)) (i64 (k+(xN xs i:Int)+4)))[i]?=some [i64 (k+(xN xs i:Int)),i64 (k+(xN xs i:Int)+1),i64 (k+(xN xs i:Int)+2),i64 (k+(xN xs i:Int)+3),i64 (k+(xN xs i:Int)+4),.ref (.s 903 i) 0 xs[i].stack.length] :=
   put5_eq (by rw[dL hlt,hrow];rfl)
  rw[w1,w2,w3,w4,w5]
  refine⟨[i64 (k+(xN xs i:Int)),i64 (k+(xN xs i:Int)+1),i64 (k+(xN xs i:Int)+2),i64 (k+(xN xs i:Int)+3),i64 (k+(xN xs i:Int)+4),.ref (.s 903 i) 0 xs[i].stack.length],⟨?_,by show 0+5+1≤6;omega⟩,?_⟩
  ·rw[← hget,Int.toNat_natCast];rfl
  conv=>whnf
  have hsw:swp (.n 50) (.s 903 i) (.s 903 i)=.n 50:=by simp[swp,Key.beq]
  have hts:=totT_succ hlt
  have hti2:=totT_le xs (i+1)
  have hst:=hs _ (List.getElem_mem hlt)
  split
  case' h_1=>conv=>whnf
  case' h_1=>refine .inr (.inr (.inr (.inl ?_)))
  case' h_2=>refine .inr (.inr (.inl ?_))
  all_goals
   refine⟨_,106,[],uD 50 903 i,rfl,999,0,isK (.n 50),(fun r H1=>r=i64 ((k+(xN xs i:Int)+5)+(xs[i].stack.length:Nat))∧∀ κ,H1 κ=none),?_,rfl,?_⟩
   ·refine vN (lC (stk xs[i]) (k+(xN xs i:Int)+5) xs[i].stack.length (by simp[stk]) hst (by omega) (by omega) _ ?_) ?_
    ·show Option.map _ (Option.map _ (Option.map _ (nJ xs i i)))=_
     rw[hfi]
     rfl
    ·show[scrP _ (.ref (swp (.n 999) (.l 0) (swp (.n 50) (.s 903 i) (.s 903 i))) 0 xs[i].stack.length),_]=_
     rw[hsw]
     rfl
   ·rintro r H1 ⟨rfl,q⟩
    refine⟨fun κ _=>q κ,fun n hn=>(by cases hn),?_⟩
    conv=>whnf
    have hne:∀ j,j≠i→swp (.n 50) (.s 903 i) (.s 903 j)=.s 903 j:=fun j hj=>by simp[swp,Key.beq,nbeq_ne hj]
    refine⟨i+1,_,uD 50 903 i,by show i+1≤xs.length;omega,by show xs.length - (i+1)<xs.length - i;omega,⟨rfl,?_,?_,trivial⟩,⟨?_,trivial⟩,⟨fun j=>?_,trivial⟩⟩
    ·show i64 (k+((xN xs i:Nat):Int)+5+((xs[i].stack.length:Nat):Int))=i64 (k+((xN xs (i+1):Nat):Int))
     rw[hts]
     exact congrArg i64 (by omega)
    ·show AV.d (.int .i64 (IntKind.i64.wrap ((i:Int)+1)))=i64 ((i+1:Nat):Int)
     rw[zG (by omega) (by omega)]
     rfl
    ·show some (Ob.rs 175 6 ((((((p5 (mJ k xs i) i (i64 (k+(xN xs i:Int))) (i64 (k+(xN xs i:Int)+1)) (i64 (k+(xN xs i:Int)+2)) (i64 (k+(xN xs i:Int)+3)) (i64 (k+(xN xs i:Int)+4))).map (renL (swp (.n 50) (.s 903 i)))).map (renL (swp (.n 999) (.l 0)))).map (scrPL (xQ (isK (.n 50))))).map (renL (swp (.n 999) (.l 0)))).map (renL (swp (.n 50) (.s 903 i)))))=some (Ob.rs 175 6 (mJ k xs (i+1)))
     rw[List.map_map,List.map_map,List.map_map,List.map_map]
     refine congrArg (fun x=>some (Ob.rs 175 6 x)) (List.ext_getElem? fun j=>?_)
     by_cases hl:j<xs.length
     ·rw[dL hl,List.getElem?_map]
      by_cases hj:j=i
      ·subst hj
       rw[hget]
       unfold rowX
       rw[if_pos (by omega)]
       show some (renL _ (renL _ (scrPL _ (renL _ [_,_,_,_,_,AV.ref (swp (.n 50) (.s 903 j) (.s 903 j)) 0 _]))))=_
       rw[hsw]
       rfl
      ·rw[put5_ne hj (dL hl)]
       unfold rowX
       by_cases hji:j<i
       ·rw[if_pos hji,if_pos (by omega)]
        rfl
       ·rw[if_neg hji,if_neg (by omega),List.getElem?_eq_getElem hl]
        show some (renL _ (renL _ (scrPL _ (renL _ [_,_,_,_,_,AV.ref (swp (.n 50) (.s 903 i) (.s 903 j)) 0 _]))))=_
        rw[hne j hj]
        show some [_,_,_,_,_,AV.ref (swp (.n 50) (.s 903 i) (.s 903 j)) 0 _]=_
        rw[hne j hj]
        rfl
     ·rw[List.getElem?_eq_none (by rw[List.length_map,put5_len,pD];omega),List.getElem?_eq_none (by rw[pD];omega)]
    ·show(St.H _ (swp (.n 50) (.s 903 i) (.s 903 j))).map _=_
     by_cases hj:j=i
     ·subst hj
      rw[hsw]
      show Option.map _ (Option.map _ (H1 (.n 50)))=_
      rw[q]
      unfold nJ
      rw[if_pos (by omega)]
      rfl
     ·rw[hne j hj]
      show Option.map _ (Option.map _ (Option.map _ (Option.map _ (Option.map _ (St.H _ (swp (.n 50) (.s 903 i) (.s 903 j)))))))=_
      rw[hne j hj]
      show Option.map _ (Option.map _ (Option.map _ (Option.map _ (Option.map _ (nJ xs i j)))))=_
      rw[nI,nI,famX_scr,nI,nI]
      unfold nJ
      by_cases hji:j<i
      ·rw[if_pos hji,if_pos (by omega)]
      ·rw[if_neg hji,if_neg (by omega)]
 ·conv=>whnf
  have hkk:i=xs.length:=by
   have:¬ i<xs.length:=by simpa using h
   omega
  subst hkk
  refine⟨_,Weak.refl,?_⟩
  conv=>whnf
  exact⟨fun _=>false,rfl,fun κ=>rfl⟩
end Ai
namespace Ai
set_option maxRecDepth 100000
open Go Go.Proofs
theorem vA {l:List Th} {p:Key→Bool} (h:∀ j,p (.s 903 j)=false):(thRows 903 l).map (scrPL p)=thRows 903 l:=zV fun j _=>h j
theorem wH {f:Key→Key} {o:Nat} {l:List Th} (h:∀ j,f (.s o j)=.s o j):(thRows o l).map (renL f)=thRows o l:=by
 apply List.ext_getElem?
 intro j
 rw[List.getElem?_map]
 by_cases hl:j<l.length
 ·rw[yV hl]
  show some [_,_,_,_,_,AV.ref (f (.s o j)) 0 _]=_
  rw[h j]
  rfl
 ·rw[List.getElem?_eq_none (by rw[zS];omega)]
  rfl
def lendS:Key→Bool
 | .n k=>Nat.beq k 903 || Nat.beq k 904 || Nat.beq k 905
 | .s o _=>Nat.beq o 903
 | .l _=>false
theorem w7 (s:StL) (k:Int) (h:s.fit) (ht:xN s.ths s.ths.length≤8388608) (h0:0≤k) (h1:k≤67108864) (H0:Key→Option Ob)
  (hH:H0 (.n 903)=some (.rs 175 6 (thRows 903 s.ths))) (hF:∀ j,H0 (.s 903 j)=zK s.ths j) (hC:H0 (.n 904)=some (.ds 132 1 (s.cells.map encF))) (hO:H0 (.n 905)=some (.ds 3 1 (s.owner.map encInt))) :
  IOCall EE 49 [.agg [.dref (.n 903) s.ths.length,.ref (.n 904) 0 s.cells.length,.ref (.n 905) 0 s.owner.length,i64 s.fault],i64 k] H0 (fun r H1=>(∃ n:Int,r=i64 n∧0≤n∧n≤268435456)∧∀ κ,H1 κ=none):=by
 have hc:=h.cells
 have ho:=h.owner
 refine xR (fn:=Tryz.f49) (c:=Tryz.f49.body.getD .skip) Tryz.func49 rfl (by kernel_rfl) rfl ?_
 have hat:At [(0,.agg [.dref (.n 903) s.ths.length,.ref (.n 904) 0 s.cells.length,.ref (.n 905) 0 s.owner.length,i64 s.fault]),(1,i64 k)] [(.n 903,.rs 175 6 (thRows 903 s.ths)),(.n 904,.ds 132 1 (s.cells.map encF)),(.n 905,.ds 3 1 (s.owner.map encInt))] [(903,zK s.ths)] ⟨fun i=>[AV.agg [.dref (.n 903) s.ths.length,.ref (.n 904) 0 s.cells.length,.ref (.n 905) 0 s.owner.length,i64 s.fault],i64 k].getD i .junk,H0⟩:=⟨⟨rfl,rfl,trivial⟩,⟨hH,hC,hO,trivial⟩,⟨hF,trivial⟩⟩
 obtain⟨τ,H,hf⟩:=hat.form
 rw[hf]
 conv=>whnf
 refine .inr (.inl ⟨999,0,cM,(fun r H1=>r=i64 (k+xN s.ths s.ths.length)∧∀ κ,H1 κ=none),?_,rfl,?_⟩)
 ·refine vN (cG s.ths k h.ths h.st ht h0 h1 _ ?_ fun j=>?_) rfl
  ·show some (Ob.rs 175 6 ((((thRows 903 s.ths).map (scrPL (isK (.n 2)))).map (renL (swp (.n 999) (.l 0)))).map (scrPL (fun o=>!cM o))))=_
   rw[vA (fun j=>rfl),wH (fun j=>rfl),vA (fun j=>rfl)]
  ·show Option.map _ (Option.map _ (Option.map _ (zK s.ths j)))=_
   rw[zQ,thFam_ren,zQ]
 rintro r H1 ⟨rfl,q⟩
 refine⟨fun κ _=>q κ,fun n hn=>(by cases hn),?_⟩
 generalize xN s.ths s.ths.length=T at ht ⊢
 conv=>whnf
 refine .inr (.inr (.inr (.inl ⟨_,106,[],wD 50 904,rfl,999,0,isK (.n 50),(fun r H1=>r=i64 (k+(T:Int)+(s.cells.length:Nat))∧∀ κ,H1 κ=none),?_,rfl,?_⟩)))
 ·exact vN (lC (s.cells.map encF) (k+(T:Int)) s.cells.length (by simp) hc (by omega) (by omega) _ rfl) rfl
 rintro r H2 ⟨rfl,q2⟩
 refine⟨fun κ _=>q2 κ,fun n hn=>(by cases hn),?_⟩
 conv=>whnf
 refine .inr (.inl ⟨905,77,isK (.l 77),_,vN (rT (.l 77) (.inr rfl) s.owner (k+(T:Int)+(s.cells.length:Nat)) ho (by omega) (by omega) _ rfl) rfl,rfl,?_⟩)
 rintro r H3 ⟨rfl,e1,q3⟩
 refine⟨q3,fun n hn=>⟨.ds 3 1 (s.owner.map encInt),?_,(lB (k+(T:Int)+(s.cells.length:Nat)) s.owner.length).map encInt,?_,by simp[dQ]⟩,?_⟩
 ·have:n=77:=Nat.eq_of_beq_eq_true hn
  subst this;rfl
 ·have:n=77:=Nat.eq_of_beq_eq_true hn
  subst this;exact e1
 conv=>whnf
 refine⟨_,Weak.refl,?_⟩
 conv=>whnf
 exact⟨fun _=>false,⟨_,rfl,by omega,by omega⟩,fun κ=>rfl⟩
end Ai
namespace Ai
set_option maxRecDepth 100000
open Go Go.Proofs
def lendX:Key→Bool
 | .n k=>Nat.beq k 901 || Nat.beq k 902 || Nat.beq k 903 || Nat.beq k 904 || Nat.beq k 905
 | .s o _=>Nat.beq o 903
 | .l _=>false
def refRn (x:RunT):List AV:=[i64 x.c,.ref (.n 901) 0 x.tr.length,.ref (.n 902) 0 x.tk.length,.dref (.n 903) x.s.ths.length,.ref (.n 904) 0 x.s.cells.length,.ref (.n 905) 0 x.s.owner.length,i64 x.s.fault]
theorem markRun_ok (x:RunT) (k:Int) (h:x.fit) (ht:xN x.s.ths x.s.ths.length≤8388608) (h0:0≤k) (h1:k≤8388608) (H0:Key→Option Ob)
  (hE:H0 (.n 901)=some (.ds 128 5 (x.tr.map encEv))) (hT:H0 (.n 902)=some (.ds 3 1 (x.tk.map encInt)))
  (hH:H0 (.n 903)=some (.rs 175 6 (thRows 903 x.s.ths))) (hF:∀ j,H0 (.s 903 j)=zK x.s.ths j) (hC:H0 (.n 904)=some (.ds 132 1 (x.s.cells.map encF))) (hO:H0 (.n 905)=some (.ds 3 1 (x.s.owner.map encInt))) :
  IOCall EE 30 [.agg (refRn x),i64 k] H0 (fun r H1=>(∃ n:Int,r=i64 n∧0≤n∧n≤268435456)∧∀ κ,H1 κ=none):=by
 have he:=h.tr
 have hk:=h.tk
 refine xR (fn:=Tryz.f30) (c:=Tryz.f30.body.getD .skip) Tryz.func30 rfl (by kernel_rfl) rfl ?_
 have hat:At [(0,.agg (refRn x)),(1,i64 k)] [(.n 901,.ds 128 5 (x.tr.map encEv)),(.n 902,.ds 3 1 (x.tk.map encInt)),(.n 903,.rs 175 6 (thRows 903 x.s.ths)),(.n 904,.ds 132 1 (x.s.cells.map encF)),(.n 905,.ds 3 1 (x.s.owner.map encInt))] [(903,zK x.s.ths)] ⟨fun i=>[AV.agg (refRn x),i64 k].getD i .junk,H0⟩:=⟨⟨rfl,rfl,trivial⟩,⟨hE,hT,hH,hC,hO,trivial⟩,⟨hF,trivial⟩⟩
 obtain⟨τ,H,hf⟩:=hat.form
 rw[hf]
 conv=>whnf
 refine .inr (.inr (.inl ⟨999,0,isK (.n 901),(fun r H1=>r=i64 (k+5*(x.tr.length:Nat))∧∀ κ,H1 κ=none),?_,rfl,?_⟩))
 ·exact vN (eF (x.tr.map encEv) k x.tr.length (by simp) he (fun c hc=>by obtain⟨e,_,rfl⟩:=List.mem_map.1 hc;rfl) h0 (by omega) _ rfl) rfl
 rintro r H1 ⟨rfl,q⟩
 refine⟨fun κ _=>q κ,fun n hn=>(by cases hn),?_⟩
 conv=>whnf
 refine .inr (.inl ⟨902,77,isK (.l 77),_,vN (rT (.l 77) (.inr rfl) x.tk (k+5*(x.tr.length:Nat)) hk (by omega) (by omega) _ rfl) rfl,rfl,?_⟩)
 rintro r H3 ⟨rfl,e1,q3⟩
 refine⟨q3,fun n hn=>⟨.ds 3 1 (x.tk.map encInt),?_,(lB (k+5*(x.tr.length:Nat)) x.tk.length).map encInt,?_,by simp[dQ]⟩,?_⟩
 ·have:n=77:=Nat.eq_of_beq_eq_true hn
  subst this;rfl
 ·have:n=77:=Nat.eq_of_beq_eq_true hn
  subst this;exact e1
 conv=>whnf
 refine .inr (.inl ⟨999,0,lendS,(fun r H1=>(∃ n:Int,r=i64 n∧0≤n∧n≤268435456)∧∀ κ,H1 κ=none),?_,rfl,?_⟩)
 ·refine vN (w7 x.s (k+5*(x.tr.length:Nat)+(x.tk.length:Nat)) h.s ht (by omega) (by omega) _ ?_ (fun j=>?_) ?_ ?_) ?_
  ·show some (Ob.rs 175 6 ((((((((((thRows 903 x.s.ths).map (scrPL (isK (.n 2)))).map (renL (swp (.n 999) (.l 0)))).map (scrPL (xQ (isK (.n 901))))).map (renL (swp (.n 999) (.l 0)))).map (renL (swp (.n 902) (.l 77)))).map (scrPL (xQ (isK (.l 77))))).map (renL (swp (.n 902) (.l 77)))).map (renL (swp (.n 999) (.l 0)))).map (scrPL (fun o=>!lendS o))))=_
   rw[vA (fun j=>rfl),wH (fun j=>rfl),vA (fun j=>rfl),wH (fun j=>rfl),wH (fun j=>rfl),vA (fun j=>rfl),wH (fun j=>rfl),wH (fun j=>rfl),vA (fun j=>rfl)]
  ·show Option.map _ (Option.map _ (Option.map _ (Option.map _ (Option.map _ (Option.map _ (Option.map _ (Option.map _ (Option.map _ (zK x.s.ths j)))))))))=_
   rw[zQ,thFam_ren,zQ,thFam_ren,thFam_ren,zQ,thFam_ren,thFam_ren,zQ]
  ·rfl
  ·rfl
  ·rfl
 rintro r H4 ⟨⟨n,rfl,hn1,hn2⟩,q4⟩
 refine⟨fun κ _=>q4 κ,fun n hn=>(by cases hn),?_⟩
 conv=>whnf
 refine⟨_,Weak.refl,?_⟩
 conv=>whnf
 exact⟨fun _=>false,⟨n,rfl,hn1,hn2⟩,fun κ=>rfl⟩
end Ai
namespace Ai
set_option maxRecDepth 100000
open Go Go.Proofs
theorem eqEvent_ok (x:Ev):CallsTo EE 149 [agg (encEv x),agg (encEv x)] (·=bv true):=by
 refine callsTo_of_AW (fn:=Tryz.f149) Tryz.func149 rfl (by kernel_rfl) rfl ?_
 conv=>whnf
 iterate 5
  refine⟨fun h=>(yI _ h).elim,fun _=>?_⟩
  conv=>whnf
theorem eqEventS_ok (xs:List Ev) (hx:xs.length≤1048576):CallsTo EE 80 [sl (xs.map encEv),sl (xs.map encEv)] (·=bv true):=by
 refine callsTo_of_AW (fn:=Tryz.f80) Tryz.func80 rfl (by kernel_rfl) rfl ?_
 conv=>whnf
 refine⟨fun h=>(yI _ h).elim,fun _=>?_⟩
 conv=>whnf
 refine yZ (fun k:Nat=>[(0,sl (xs.map encEv)),(1,sl (xs.map encEv)),(5,i64 k)]) (fun k=>[]) (fun k=>xs.length - k) (fun k=>k≤xs.length) 0 .refl ⟨rfl,rfl,rfl,trivial⟩ trivial (Nat.zero_le _) ?_
 intro k τ H hk
 conv=>whnf
 refine⟨fun h=>?_,fun h=>?_⟩
 ·have hlt:=yR h
  conv=>whnf
  refine⟨by kernel_rfl,?_⟩
  conv=>whnf
  refine⟨encEv xs[k],zN encEv hlt rfl,?_⟩
  conv=>whnf
  refine⟨encEv xs[k],zN encEv hlt rfl,?_⟩
  conv=>whnf
  refine⟨_,eqEvent_ok xs[k],?_⟩
  conv=>whnf
  refine⟨k+1,by omega,by show xs.length - (k+1)<xs.length - k;omega,⟨rfl,rfl,zH hlt (by omega),trivial⟩,trivial⟩
 ·conv=>whnf
theorem sF (xs:List Nat) (hx:xs.length≤1048576):CallsTo EE 104 [sl (xs.map encF),sl (xs.map encF)] (·=bv true):=by
 refine callsTo_of_AW (fn:=Tryz.f104) Tryz.func104 rfl (by kernel_rfl) rfl ?_
 conv=>whnf
 refine⟨fun h=>(yI _ h).elim,fun _=>?_⟩
 conv=>whnf
 refine yZ (fun k:Nat=>[(0,sl (xs.map encF)),(1,sl (xs.map encF)),(5,i64 k)]) (fun k=>[]) (fun k=>xs.length - k) (fun k=>k≤xs.length) 0 .refl ⟨rfl,rfl,rfl,trivial⟩ trivial (Nat.zero_le _) ?_
 intro k τ H hk
 conv=>whnf
 refine⟨fun h=>?_,fun h=>?_⟩
 ·have hlt:=yR h
  conv=>whnf
  refine⟨by kernel_rfl,?_⟩
  conv=>whnf
  refine⟨encF xs[k],zN encF hlt rfl,?_⟩
  conv=>whnf
  refine⟨encF xs[k],zN encF hlt rfl,?_⟩
  conv=>whnf
  refine⟨_,gX xs[k],?_⟩
  conv=>whnf
  refine⟨k+1,by omega,by show xs.length - (k+1)<xs.length - k;omega,⟨rfl,rfl,zH hlt (by omega),trivial⟩,trivial⟩
 ·conv=>whnf
theorem eqThread_ok (x:Th) (hx:x.stack.length≤1048576):CallsTo EE 178 [agg (zD x),agg (zD x)] (·=bv true):=by
 refine callsTo_of_AW (fn:=Tryz.f178) Tryz.func178 rfl (by kernel_rfl) rfl ?_
 conv=>whnf
 iterate 5
  refine⟨fun h=>(yI _ h).elim,fun _=>?_⟩
  conv=>whnf
 refine⟨_,sF x.stack hx,?_⟩
 rintro r rfl
 conv=>whnf
theorem j4 (xs:List Th) (hx:xs.length≤1048576) (h9:∀ t∈xs,t.stack.length≤1048576):CallsTo EE 103 [sl (xs.map zD),sl (xs.map zD)] (·=bv true):=by
 refine callsTo_of_AW (fn:=Tryz.f103) Tryz.func103 rfl (by kernel_rfl) rfl ?_
 conv=>whnf
 refine⟨fun h=>(yI _ h).elim,fun _=>?_⟩
 conv=>whnf
 refine yZ (fun k:Nat=>[(0,sl (xs.map zD)),(1,sl (xs.map zD)),(5,i64 k)]) (fun k=>[]) (fun k=>xs.length - k) (fun k=>k≤xs.length) 0 .refl ⟨rfl,rfl,rfl,trivial⟩ trivial (Nat.zero_le _) ?_
 intro k τ H hk
 conv=>whnf
 refine⟨fun h=>?_,fun h=>?_⟩
 ·have hlt:=yR h
  conv=>whnf
  refine⟨by kernel_rfl,?_⟩
  conv=>whnf
  refine⟨zD xs[k],zN zD hlt rfl,?_⟩
  conv=>whnf
  refine⟨zD xs[k],zN zD hlt rfl,?_⟩
  conv=>whnf
  refine⟨_,eqThread_ok xs[k] (h9 _ (List.getElem_mem hlt)),?_⟩
  conv=>whnf
  refine⟨k+1,by omega,by show xs.length - (k+1)<xs.length - k;omega,⟨rfl,rfl,zH hlt (by omega),trivial⟩,trivial⟩
 ·conv=>whnf
theorem eqState_ok (s:StL) (h:s.fit):CallsTo EE 48 [agg (yL s),agg (yL s)] (·=bv true):=by
 refine callsTo_of_AW (fn:=Tryz.f48) Tryz.func48 rfl (by kernel_rfl) rfl ?_
 conv=>whnf
 refine⟨_,j4 s.ths h.ths h.st,?_⟩
 rintro r rfl
 conv=>whnf
 refine⟨_,sF s.cells h.cells,?_⟩
 rintro r rfl
 conv=>whnf
 refine⟨_,oQ s.owner h.owner,?_⟩
 rintro r rfl
 conv=>whnf
 refine⟨fun h=>(yI _ h).elim,fun _=>?_⟩
 conv=>whnf
theorem eqRun_ok (x:RunT) (h:x.fit):CallsTo EE 29 [agg (encRT x),agg (encRT x)] (·=bv true):=by
 refine callsTo_of_AW (fn:=Tryz.f29) Tryz.func29 rfl (by kernel_rfl) rfl ?_
 conv=>whnf
 refine⟨fun h=>(yI _ h).elim,fun _=>?_⟩
 conv=>whnf
 refine⟨_,eqEventS_ok x.tr h.tr,?_⟩
 rintro r rfl
 conv=>whnf
 refine⟨_,oQ x.tk h.tk,?_⟩
 rintro r rfl
 conv=>whnf
 refine⟨_,eqState_ok x.s h.s,?_⟩
 rintro r rfl
 conv=>whnf
end Ai
namespace Ai
set_option maxRecDepth 100000
open Go Go.Proofs
def PkRn (x:RunT):Prop:=x.tk.length≤200∧AllIn x.tk 0 999
def IsRn (p:ProgL) (x:RunT):Prop:=p.goodS∧x.tr.length≤200∧PkRn x∧hY p x.tk x.tk.length=x
theorem cf_run {p:ProgL} (hg:p.goodS) (hv:p.flt) (hc:p.cn) (x:RunT) (h:PkRn x):(hY p x.tk x.tk.length).s.cf∧(hY p x.tk x.tk.length).fit:=by
 have hpk:∀ i∈x.tk,0≤i:=fun i hi=>(h.2 i hi).1
 have he:=runOf_end hg hv x.tk x.tk.length hpk (by omega)
 have hcn:=runOf_cn hg hv hc x.tk x.tk.length hpk
 have hs:=((rN hg).small _ he.inv.si).1
 have hle:=he.le
 have hln:=he.len
 have h200:=h.1
 refine⟨⟨fun c hc=>⟨hcn.1 c hc,he.inv.fl.1 c hc⟩,fun t ht c hc=>⟨hcn.2 t ht c hc,he.inv.fl.2 t ht c hc⟩⟩,by omega,by omega,⟨hs.1,hs.2.1,hs.2.2.1,hs.2.2.2⟩⟩
theorem IsRunI_ok (p:ProgL) (hp:p.wf) (hs:p.rs.length≤1048576∧∀ x∈p.rs,x.length≤1048576) (hv:p.flt) (hc:p.cn) (x:RunT) (hx:x.fit) (hf:x.s.cf) :
  CallsTo EE 146 [agg (encProg p),agg (encRT x)] (fun r=>(IsRn p x∧r=.tup [bv true,bv true])∨(¬ IsRn p x∧(r=.tup [bv false,bv true]∨r=.tup [bv false,bv false]))):=by
 refine callsTo_of_AW (fn:=Tryz.f146) Tryz.func146 rfl (by kernel_rfl) rfl ?_
 conv=>whnf
 refine ocase (l0 p hs) (fun hg=>?_) (fun hg=>?_)
 rotate_left 1
 ·conv=>whnf
  exact .inr ⟨fun e=>hg ((iM p).1 e.1),.inr rfl⟩
 have hg:p.goodS:=(iM p).2 hg
 conv=>whnf
 refine kbi (fun h=>?_) (fun h=>?_)
 ·have h:¬ x.tr.length≤200:=by simp at h;omega
  conv=>whnf
  exact .inr ⟨fun e=>h e.2.1,.inr rfl⟩
 have htr:x.tr.length≤200:=by simp at h;omega
 conv=>whnf
 refine ocase (arePicks_ok x.tk 200 hx.tk) (fun hpk=>?_) (fun hpk=>?_)
 rotate_left 1
 ·conv=>whnf
  exact .inr ⟨fun e=>hpk e.2.2.1,.inr rfl⟩
 have hpk:PkRn x:=hpk
 obtain⟨c1,c2⟩:=cf_run hg hv hc x hpk
 have hrun:=n7 p hp hg hv x.tk x.tk.length (fun i hi=>(hpk.2 i hi).1) hx.tk ⟨by omega,by have:=hpk.1;omega⟩
 have e0:((x.tk.map encInt).length:Int)=(x.tk.length:Int):=by simp
 rw[← e0] at hrun
 have hsame:=sameRun_ok _ x c2 c1 hf
 rw[← e0] at hsame
 conv=>whnf
 refine⟨by kernel_rfl,?_⟩
 conv=>whnf
 refine⟨_,hrun,?_⟩
 conv=>whnf
 refine qcase hsame (fun h=>?_) (fun h=>?_)
 all_goals rw[e0] at h
 ·conv=>whnf
  exact .inl ⟨⟨hg,htr,hpk,h⟩,rfl⟩
 ·conv=>whnf
  exact .inr ⟨fun e=>h e.2.2.2,.inl rfl⟩
theorem isRunI_ok (p:ProgL) (hp:p.wf) (hs:p.rs.length≤1048576∧∀ x∈p.rs,x.length≤1048576) (hv:p.flt) (hc:p.cn) (x:RunT) (hx:x.fit) (hf:x.s.cf) :
  CallsTo EE 77 [agg (encProg p),agg (encRT x)] (·=bp (IsRn p x)):=by
 refine callsTo_of_AW (fn:=Tryz.f77) Tryz.func77 rfl (by kernel_rfl) rfl ?_
 conv=>whnf
 refine⟨_,IsRunI_ok p hp hs hv hc x hx hf,?_⟩
 rintro r (⟨h,rfl⟩|⟨h,rfl|rfl⟩)
 ·conv=>whnf
  exact bpt h
 ·conv=>whnf
  exact bpf h
 ·conv=>whnf
  exact bpf h
end Ai
namespace Ai
set_option maxRecDepth 100000
open Go Go.Proofs
theorem sS (a b:List Ev) (hx:a.length≤1048576):CallsTo EE 201 [sl (a.map encEv),sl (b.map encEv)] (·=bp (a=b)):=by
 refine callsTo_of_AW (fn:=Tryz.f201) Tryz.func201 rfl (by kernel_rfl) rfl ?_
 conv=>whnf
 refine kbi (fun h=>?_) (fun h=>?_)
 ·have h:¬ a.length=b.length:=by simp at h;omega
  conv=>whnf
  exact bpf fun e=>h (by rw[e])
 have h:a.length=b.length:=by simp at h;omega
 conv=>whnf
 refine yZ (fun k:Nat=>[(0,sl (a.map encEv)),(1,sl (b.map encEv)),(12,i64 (a.map encEv).length),(13,i64 k)]) (fun k=>[]) (fun k=>a.length - k) (fun k=>k≤a.length∧a.take k=b.take k) 0
  Weak.refl ⟨rfl,rfl,rfl,rfl,trivial⟩ trivial ⟨Nat.zero_le _,by simp⟩ ?_
 rintro k τ H ⟨hk,he⟩
 have hk:k≤a.length:=hk
 conv=>whnf
 refine kbi (fun h2=>?_) (fun h2=>?_)
 ·have hlt:=yR h2
  have hltb:k<b.length:=by omega
  conv=>whnf
  refine⟨by kernel_rfl,?_⟩
  conv=>whnf
  refine⟨encEv a[k],zN encEv hlt rfl,?_⟩
  conv=>whnf
  refine⟨encEv b[k],zN encEv hltb rfl,?_⟩
  conv=>whnf
  refine kbi (fun h3=>?_) (fun h3=>?_)
  ·have h3:¬ a[k]=b[k]:=fun e=>by
    rw[e] at h3
    simp at h3
   conv=>whnf
   exact bpf (cD hlt hltb h3)
  ·have h3:a[k]=b[k]:=ev_eq.2 (by simpa using h3)
   conv=>whnf
   exact⟨k+1,⟨hlt,wS hlt hltb he h3⟩,by show a.length - (k+1)<a.length - k;omega,⟨rfl,rfl,rfl,zH hlt (by omega),trivial⟩,trivial⟩
 ·have hge:a.length≤k:=by simpa using h2
  conv=>whnf
  exact bpt (vC (by omega) (by omega) he)
theorem iZ (a b:List Int) (hx:a.length≤1048576):CallsTo EE 202 [sl (a.map encInt),sl (b.map encInt)] (·=bp (a=b)):=by
 refine callsTo_of_AW (fn:=Tryz.f202) Tryz.func202 rfl (by kernel_rfl) rfl ?_
 conv=>whnf
 refine kbi (fun h=>?_) (fun h=>?_)
 ·have h:¬ a.length=b.length:=by simp at h;omega
  conv=>whnf
  exact bpf fun e=>h (by rw[e])
 have h:a.length=b.length:=by simp at h;omega
 conv=>whnf
 refine yZ (fun k:Nat=>[(0,sl (a.map encInt)),(1,sl (b.map encInt)),(12,i64 (a.map encInt).length),(13,i64 k)]) (fun k=>[]) (fun k=>a.length - k) (fun k=>k≤a.length∧a.take k=b.take k) 0
  Weak.refl ⟨rfl,rfl,rfl,rfl,trivial⟩ trivial ⟨Nat.zero_le _,by simp⟩ ?_
 rintro k τ H ⟨hk,he⟩
 have hk:k≤a.length:=hk
 conv=>whnf
 refine kbi (fun h2=>?_) (fun h2=>?_)
 ·have hlt:=yR h2
  have hltb:k<b.length:=by omega
  conv=>whnf
  refine⟨by kernel_rfl,?_⟩
  conv=>whnf
  refine⟨encInt a[k],zN encInt hlt rfl,?_⟩
  conv=>whnf
  refine⟨encInt b[k],zN encInt hltb rfl,?_⟩
  conv=>whnf
  refine kbi (fun h3=>?_) (fun h3=>?_)
  ·have h3:¬ a[k]=b[k]:=by simpa using h3
   conv=>whnf
   exact bpf (cD hlt hltb h3)
  ·have h3:a[k]=b[k]:=by simpa using h3
   conv=>whnf
   exact⟨k+1,⟨hlt,wS hlt hltb he h3⟩,by show a.length - (k+1)<a.length - k;omega,⟨rfl,rfl,rfl,zH hlt (by omega),trivial⟩,trivial⟩
 ·have hge:a.length≤k:=by simpa using h2
  conv=>whnf
  exact bpt (vC (by omega) (by omega) he)
theorem lE (a b:List Nat) (hx:a.length≤1048576) (ha:∀ x∈a,CF x) (hb:∀ x∈b,CF x):CallsTo EE 250 [sl (a.map encF),sl (b.map encF)] (·=bp (a=b)):=by
 refine callsTo_of_AW (fn:=Tryz.f250) Tryz.func250 rfl (by kernel_rfl) rfl ?_
 conv=>whnf
 refine kbi (fun h=>?_) (fun h=>?_)
 ·have h:¬ a.length=b.length:=by simp at h;omega
  conv=>whnf
  exact bpf fun e=>h (by rw[e])
 have h:a.length=b.length:=by simp at h;omega
 conv=>whnf
 refine yZ (fun k:Nat=>[(0,sl (a.map encF)),(1,sl (b.map encF)),(12,i64 (a.map encF).length),(13,i64 k)]) (fun k=>[]) (fun k=>a.length - k) (fun k=>k≤a.length∧a.take k=b.take k) 0
  Weak.refl ⟨rfl,rfl,rfl,rfl,trivial⟩ trivial ⟨Nat.zero_le _,by simp⟩ ?_
 rintro k τ H ⟨hk,he⟩
 have hk:k≤a.length:=hk
 conv=>whnf
 refine kbi (fun h2=>?_) (fun h2=>?_)
 ·have hlt:=yR h2
  have hltb:k<b.length:=by omega
  have c1:=ha _ (List.getElem_mem hlt)
  have c2:=hb _ (List.getElem_mem hltb)
  conv=>whnf
  refine⟨by kernel_rfl,?_⟩
  conv=>whnf
  refine⟨encF a[k],zN encF hlt rfl,?_⟩
  conv=>whnf
  refine⟨encF b[k],zN encF hltb rfl,?_⟩
  conv=>whnf
  refine qcase (nC a[k] b[k]) (fun h3=>?_) (fun h3=>?_)
  ·have h3:a[k]=b[k]:=(mG c1.1 c2.1 c1.2 c2.2).1 h3
   conv=>whnf
   exact⟨k+1,⟨hlt,wS hlt hltb he h3⟩,by show a.length - (k+1)<a.length - k;omega,⟨rfl,rfl,rfl,zH hlt (by omega),trivial⟩,trivial⟩
  ·have h3:¬ a[k]=b[k]:=fun e=>h3 ((mG c1.1 c2.1 c1.2 c2.2).2 e)
   conv=>whnf
   exact bpf (cD hlt hltb h3)
 ·have hge:a.length≤k:=by simpa using h2
  conv=>whnf
  exact bpt (vC (by omega) (by omega) he)
end Ai
namespace Ai
set_option maxRecDepth 100000
open Go Go.Proofs
theorem th_eq {x y:Th} (a1:x.rt=y.rt) (a2:x.pc=y.pc) (a3:x.st=y.st) (a4:x.cond=y.cond) (a5:x.lock=y.lock) (a6:x.stack=y.stack):x=y:=by
 cases x;cases y
 simp only at a1 a2 a3 a4 a5 a6
 subst a1 a2 a3 a4 a5 a6
 rfl
theorem eN (x y:StL) (hx:x.fit) (h1:x.cf) (h9:y.cf):CallsTo EE 203 [agg (yL x),agg (yL y)] (·=bp (x=y)):=by
 refine callsTo_of_AW (fn:=Tryz.f203) Tryz.func203 rfl (by kernel_rfl) rfl ?_
 conv=>whnf
 refine kbi (fun h=>?_) (fun h=>?_)
 ·have h:¬ x.ths.length=y.ths.length:=by simp at h;omega
  conv=>whnf
  exact bpf fun e=>h (by rw[e])
 have h:x.ths.length=y.ths.length:=by simp at h;omega
 conv=>whnf
 refine ocase (lE x.cells y.cells hx.cells h1.1 h9.1) (fun e3=>?_) (fun h=>?_)
 rotate_left 1
 ·conv=>whnf
  exact bpf fun e=>h (by rw[e])
 conv=>whnf
 refine ocase (iZ x.owner y.owner hx.owner) (fun e2=>?_) (fun h=>?_)
 rotate_left 1
 ·conv=>whnf
  exact bpf fun e=>h (by rw[e])
 conv=>whnf
 refine kbi (fun h=>?_) (fun h=>?_)
 ·have h:¬ x.fault=y.fault:=by simpa using h
  conv=>whnf
  exact bpf fun e=>h (by rw[e])
 have e1:x.fault=y.fault:=by simpa using h
 conv=>whnf
 refine yZ (fun k:Nat=>[(2,.ptr (.n 2) 0),(3,.ptr (.n 3) 0),(39,sl (x.ths.map zD)),(40,i64 (x.ths.map zD).length),(41,i64 k)]) (fun k=>[(.n 2,.vs 54 ((yL x).map .d)),(.n 3,.vs 54 ((yL y).map .d))]) (fun k=>x.ths.length - k) (fun k=>k≤x.ths.length∧x.ths.take k=y.ths.take k) 0
  Weak.refl ⟨rfl,rfl,rfl,rfl,rfl,trivial⟩ ⟨rfl,rfl,trivial⟩ ⟨Nat.zero_le _,by simp⟩ ?_
 rintro k τ H ⟨hk,he⟩
 have hk:k≤x.ths.length:=hk
 conv=>whnf
 refine kbi (fun h2=>?_) (fun h2=>?_)
 ·have hlt:=yR h2
  have hltb:k<y.ths.length:=by omega
  have c1:=h1.2 _ (List.getElem_mem hlt)
  have c2:=h9.2 _ (List.getElem_mem hltb)
  conv=>whnf
  refine⟨zD x.ths[k],zN zD hlt rfl,?_⟩
  conv=>whnf
  refine⟨zD y.ths[k],zN zD hltb rfl,?_⟩
  conv=>whnf
  refine kbi (fun h=>?_) (fun h=>?_)
  ·have h:¬ x.ths[k].rt=y.ths[k].rt:=by simpa using h
   conv=>whnf
   exact bpf fun e=>h (by subst e;rfl)
  have a1:x.ths[k].rt=y.ths[k].rt:=by simpa using h
  conv=>whnf
  refine kbi (fun h=>?_) (fun h=>?_)
  ·have h:¬ x.ths[k].pc=y.ths[k].pc:=by simpa using h
   conv=>whnf
   exact bpf fun e=>h (by subst e;rfl)
  have a2:x.ths[k].pc=y.ths[k].pc:=by simpa using h
  conv=>whnf
  refine kbi (fun h=>?_) (fun h=>?_)
  ·have h:¬ x.ths[k].st=y.ths[k].st:=by simpa using h
   conv=>whnf
   exact bpf fun e=>h (by subst e;rfl)
  have a3:x.ths[k].st=y.ths[k].st:=by simpa using h
  conv=>whnf
  refine kbi (fun h=>?_) (fun h=>?_)
  ·have h:¬ x.ths[k].cond=y.ths[k].cond:=by simpa using h
   conv=>whnf
   exact bpf fun e=>h (by subst e;rfl)
  have a4:x.ths[k].cond=y.ths[k].cond:=by simpa using h
  conv=>whnf
  refine kbi (fun h=>?_) (fun h=>?_)
  ·have h:¬ x.ths[k].lock=y.ths[k].lock:=by simpa using h
   conv=>whnf
   exact bpf fun e=>h (by subst e;rfl)
  have a5:x.ths[k].lock=y.ths[k].lock:=by simpa using h
  conv=>whnf
  refine ocase (lE x.ths[k].stack y.ths[k].stack (hx.st _ (List.getElem_mem hlt)) c1 c2) (fun a6=>?_) (fun h=>?_)
  rotate_left 1
  ·conv=>whnf
   exact bpf fun e=>h (by subst e;rfl)
  have a7:x.ths[k]=y.ths[k]:=th_eq a1 a2 a3 a4 a5 a6
  conv=>whnf
  exact⟨k+1,⟨hlt,wS hlt hltb he a7⟩,by show x.ths.length - (k+1)<x.ths.length - k;have:=hlt;omega,⟨rfl,rfl,rfl,rfl,zH hlt (Nat.le_trans hx.ths (by omega)),trivial⟩,⟨rfl,rfl,trivial⟩⟩
 ·have hge:x.ths.length≤k:=by simpa using h2
  have e4:=vC (by omega) (by omega) he
  conv=>whnf
  refine bpt ?_
  clear h1 h9 hx
  cases x;cases y
  simp only at e1 e2 e3 e4
  subst e1 e2 e3 e4
  rfl
theorem v5 (x y:RunT) (hx:x.fit) (h1:x.s.cf) (h2:y.s.cf):CallsTo EE 140 [agg (encRT x),agg (encRT y)] (·=bp (x=y)):=by
 refine callsTo_of_AW (fn:=Tryz.f140) Tryz.func140 rfl (by kernel_rfl) rfl ?_
 conv=>whnf
 refine kbi (fun h=>?_) (fun h=>?_)
 rotate_left 1
 ·have h:¬ x.c=y.c:=by simpa using h
  conv=>whnf
  exact bpf fun e=>h (by rw[e])
 have e1:x.c=y.c:=by simpa using h
 conv=>whnf
 refine ocase (sS x.tr y.tr hx.tr) (fun e2=>?_) (fun h=>?_)
 rotate_left 1
 ·conv=>whnf
  exact bpf fun e=>h (by rw[e])
 conv=>whnf
 refine ocase (iZ x.tk y.tk hx.tk) (fun e3=>?_) (fun h=>?_)
 rotate_left 1
 ·conv=>whnf
  exact bpf fun e=>h (by rw[e])
 conv=>whnf
 refine ocase (eN x.s y.s hx.s h1 h2) (fun e4=>?_) (fun h=>?_)
 rotate_left 1
 ·conv=>whnf
  exact bpf fun e=>h (by rw[e])
 conv=>whnf
 refine bpt ?_
 cases x;cases y
 simp only at e1 e2 e3 e4
 subst e1 e2 e3 e4
 rfl
end Ai
namespace Ai
set_option maxRecDepth 100000
open Go Go.Proofs
theorem l4Is_ok (p:ProgL) (hp:p.wf) (hg:p.goodS) (hv:p.flt) (hc:p.cn) (x:RunT) (hx:x.fit) (hf:x.s.cf) :
  CallsTo EE 73 [agg (encProg p),agg (encRT x)] (·=bp (IsRn p x)):=by
 refine callsTo_of_AW (fn:=Tryz.f73) Tryz.func73 rfl (by kernel_rfl) rfl ?_
 conv=>whnf
 refine⟨by kernel_rfl,?_⟩
 conv=>whnf
 refine kbi (fun h=>?_) (fun h=>?_)
 rotate_left 1
 ·have h:¬ x.tr.length≤200:=by simp at h;omega
  conv=>whnf
  exact bpf fun e=>h e.2.1
 have htr:x.tr.length≤200:=by simp at h;omega
 conv=>whnf
 refine qcase (l4Picks_ok x.tk hx.tk) (fun hpk=>?_) (fun hpk=>?_)
 rotate_left 1
 ·conv=>whnf
  exact bpf fun e=>hpk e.2.2.1
 have hpk:PkRn x:=hpk
 obtain⟨c1,c2⟩:=cf_run hg hv hc x hpk
 have hrun:=l4Run_of p hp hg x.tk x.tk.length (fun i hi=>(hpk.2 i hi).1) hx.tk ⟨by omega,by have:=hpk.1;omega⟩
 have e0:((x.tk.map encInt).length:Int)=(x.tk.length:Int):=by simp
 rw[← e0] at hrun
 have hsame:=v5 _ x c2 c1 hf
 rw[← e0] at hsame
 conv=>whnf
 refine⟨_,hrun,?_⟩
 conv=>whnf
 refine qcase hsame (fun h=>?_) (fun h=>?_)
 all_goals rw[e0] at h
 ·conv=>whnf
  exact bpt ⟨hg,htr,hpk,h⟩
 ·conv=>whnf
  exact bpf fun e=>h e.2.2.2
end Ai
namespace Ai
set_option maxRecDepth 100000
open Go Go.Proofs Cyc
open Classical in
noncomputable def keptBy (K:StL→Nat→Ev→Prop) (s:StL) (l:List Nat) (e:Ev):List Nat:=l.filter fun u=>decide (K s u e)
structure XS where
 acc:List RunT
 tried:List Nat
 ok:Bool
noncomputable def bX (p:ProgL) (r:RunT) (k:Nat):Nat:=(zA p r.s).getD k 0
noncomputable def runBy (p:ProgL) (r:RunT) (k:Nat):RunT:=⟨0,r.tr++[(zM p r.s (bX p r k)).2],r.tk++[(k:Int)],(zM p r.s (bX p r k)).1⟩
open Classical in
noncomputable def tE (p:ProgL) (sl:Bool) (K:StL→Nat→Ev→Prop) (f:RunT→List Nat→List RunT→List RunT × Bool) (r:RunT) (sleep:List Nat) (acc:List RunT):Nat→XS
 | 0=>⟨acc,[],true⟩
 |k+1 =>
  if (tE p sl K f r sleep acc k).ok=false∨(sl=true∧bX p r k∈sleep) then tE p sl K f r sleep acc k
  else ⟨(f (runBy p r k) (keptBy K r.s (sleep++(tE p sl K f r sleep acc k).tried) (zM p r.s (bX p r k)).2) (tE p sl K f r sleep acc k).acc).1,(tE p sl K f r sleep acc k).tried++[bX p r k],
   (f (runBy p r k) (keptBy K r.s (sleep++(tE p sl K f r sleep acc k).tried) (zM p r.s (bX p r k)).2) (tE p sl K f r sleep acc k).acc).2⟩
def leaf (p:ProgL) (b:Int) (c:Int) (r:RunT):RunT:=⟨c,r.tr,r.tk,r.s⟩
noncomputable def xE (p:ProgL) (tr:List Ev):Nat→StL
 | 0=>xV p
 |i+1=>(zM p (xE p tr i) (tr.getD i gO).th.toNat).1
theorem tN (p:ProgL) (tr:List Ev) (e:Ev):∀ i,i≤tr.length→xE p (tr++[e]) i=xE p tr i
 | 0,_=>rfl
 |i+1,h=>by
  rw[xE,xE,tN p tr e i (by omega)]
  have:(tr++[e]).getD i gO=tr.getD i gO:=by
   rw[List.getD_eq_getElem?_getD,List.getD_eq_getElem?_getD,List.getElem?_append_left (by omega)]
  rw[this]
structure XR (p:ProgL) (b:Int) (r:RunT):Prop where
 inv:AInv p r.s
 tr:TrOK r.s r.tr
 len:r.tr.length=r.tk.length
 le:(r.tr.length:Int)≤b
 tk:∀ i∈r.tk,0≤i∧i<5
 at_:xE p r.tr r.tr.length=r.s
 en:∀ i,i<r.tr.length→(r.tr.getD i gO).th.toNat∈zA p (xE p r.tr i)∧0≤(r.tr.getD i gO).th
 run:∀ picks,r.tk <+: picks→hY p picks b=lL p picks b (b.toNat+1 - r.tr.length) r.s r.tr r.tk
structure XEnd (p:ProgL) (b:Int) (x:RunT):Prop where
 fin:REnd p b x
 en:∀ i,i<x.tr.length→(x.tr.getD i gO).th.toNat∈zA p (xE p x.tr i)∧0≤(x.tr.getD i gO).th
 run:hY p x.tk b=x
theorem XR.new {p:ProgL} (hg:p.goodS) {b:Int} (hb:0≤b):XR p b ⟨0,[],[],xV p⟩ :=
 ⟨nO hg,⟨fun e he=>(by cases he),fun h=>absurd rfl h⟩,rfl,hb,fun i hi=>(by cases hi),rfl,fun i hi=>(by cases hi),fun picks h=>rfl⟩
theorem XR.mem {p:ProgL} {b:Int} {r:RunT} {k:Nat} (hk:k<(zA p r.s).length):bX p r k∈zA p r.s:=by
 unfold bX
 rw[List.getD_eq_getElem?_getD,List.getElem?_eq_getElem hk];exact List.getElem_mem hk
theorem XR.step {p:ProgL} (hg:p.goodS) (hv:p.flt) {b:Int} {r:RunT} (h:XR p b r) (hc:¬ 0<xA p r.s r.tr.length b) {k:Nat} (hk:k<(zA p r.s).length):XR p b (runBy p r k):=by
 have hm:=XR.mem (b:=b) hk
 have h5:(zA p r.s).length≤5:=Nat.le_trans (jV) h.inv.si.len
 have hlb:=(en_ne hc).2
 have hle:=h.le
 have hth:(zM p r.s (bX p r k)).2.th=(bX p r k:Nat):=(step_ev p r.s _).1
 refine⟨dU hg hv hm h.inv,tr_step hg hm h.inv h.tr,by simp[runBy,h.len],?_,fun i hi=>?_,?_,fun i hi=>?_,fun picks hp=>?_⟩
 ·show((r.tr++[_]).length:Int)≤b
  simp;omega
 ·rcases List.mem_append.1 hi with e|e
  ·exact h.tk i e
  ·simp only[List.mem_cons,List.not_mem_nil,or_false] at e
   subst e;omega
 ·show xE p (r.tr++[_]) (r.tr++[_]).length=(zM p r.s _).1
  rw[List.length_append]
  show xE p (r.tr++[_]) (r.tr.length+1)=_
  rw[xE,tN _ _ _ _ (Nat.le_refl _),h.at_]
  have:(r.tr++[(zM p r.s (bX p r k)).2]).getD r.tr.length gO=(zM p r.s (bX p r k)).2:=by simp[List.getD_eq_getElem?_getD]
  rw[this,hth]
  rfl
 ·have hi:i<(r.tr++[(zM p r.s (bX p r k)).2]).length:=hi
  show((r.tr++[_]).getD i gO).th.toNat∈zA p (xE p (r.tr++[_]) i)∧0≤((r.tr++[_]).getD i gO).th
  simp only[List.length_append,List.length_cons,List.length_nil] at hi
  rw[tN _ _ _ _ (by omega)]
  by_cases he:i=r.tr.length
  ·subst he
   have:(r.tr++[(zM p r.s (bX p r k)).2]).getD r.tr.length gO=(zM p r.s (bX p r k)).2:=by simp[List.getD_eq_getElem?_getD]
   rw[this,hth,h.at_]
   exact⟨by simpa using hm,by omega⟩
  ·have:(r.tr++[(zM p r.s (bX p r k)).2]).getD i gO=r.tr.getD i gO:=by
    rw[List.getD_eq_getElem?_getD,List.getD_eq_getElem?_getD,List.getElem?_append_left (by omega)]
   rw[this]
   exact h.en i (by omega)
 ·have hp:r.tk++[(k:Int)] <+: picks:=hp
  obtain⟨more,rfl⟩:=hp
  rw[h.run _ ⟨[(k:Int)]++more,by simp⟩]
  have hn:b.toNat+1 - r.tr.length=(b.toNat - r.tr.length)+1:=by omega
  rw[hn,lL,if_neg hc]
  have hpk:wX (r.tk++[(k:Int)]++more) r.tk (zA p r.s).length=(k:Int):=by
   unfold wX
   rw[if_pos (by simp)]
   have:(r.tk++[(k:Int)]++more).getD r.tk.length 0=(k:Int):=by simp[List.getD_eq_getElem?_getD]
   rw[this]
   exact Int.tmod_eq_of_lt (by omega) (by omega)
  simp only[hpk]
  show _=lL p _ b (b.toNat+1 - (r.tr++[_]).length) _ _ _
  rw[show b.toNat+1 - (r.tr++[(zM p r.s (bX p r k)).2]).length=b.toNat - r.tr.length by simp]
  rfl
theorem XR.leaf {p:ProgL} {b:Int} {r:RunT} (h:XR p b r) (hc:0<xA p r.s r.tr.length b):XEnd p b (leaf p b (xA p r.s r.tr.length b) r):=by
 refine⟨⟨h.inv,h.tr,rfl,hc,h.len,h.le,h.tk⟩,h.en,?_⟩
 show hY p r.tk b=_
 rw[h.run _ (List.prefix_rfl)]
 have hle:=h.le
 have hn:b.toNat+1 - r.tr.length=(b.toNat - r.tr.length)+1:=by omega
 rw[hn,lL,if_pos hc]
 rfl
end Ai
namespace Ai
set_option maxRecDepth 100000
open Go Go.Proofs Cyc
theorem bE {p:ProgL} (hg:p.goodS) (hv:p.flt) {tr:List Ev} (h:∀ i,i<tr.length→(tr.getD i gO).th.toNat∈zA p (xE p tr i)∧0≤(tr.getD i gO).th):∀ i,i≤tr.length→AInv p (xE p tr i)
 | 0,_=>nO hg
 |i+1,hi=>dU hg hv (h i (by omega)).1 (bE hg hv h i (by omega))
end Ai
namespace Ai
set_option maxRecDepth 100000
open Go Go.Proofs
def gW (e:Ev):Prop:=e.kind=2∨e.kind=3
theorem touchS_ok (e:Ev):CallsTo EE 91 [agg (encEv e)] (·=bp (gW e)):=by
 refine callsTo_of_AW (fn:=Tryz.f91) Tryz.func91 rfl (by kernel_rfl) rfl ?_
 conv=>whnf
 repeat' (refine kbi (fun h=>?_) (fun h=>?_) <;> conv=>whnf)
 all_goals simp only[beq_iff_eq] at *
 all_goals first|exact bpt (by unfold gW;omega)|exact bpf (by unfold gW;omega)
theorem touchI_ok (e:Ev):CallsTo EE 93 [agg (encEv e)] (·=bp (gW e)):=by
 refine callsTo_of_AW (fn:=Tryz.f93) Tryz.func93 rfl (by kernel_rfl) rfl ?_
 conv=>whnf
 repeat' (refine kbi (fun h=>?_) (fun h=>?_) <;> conv=>whnf)
 all_goals simp only[beq_iff_eq] at *
 all_goals first|exact bpt (by unfold gW;omega)|exact bpf (by unfold gW;omega)
end Ai
namespace Ai
set_option maxRecDepth 100000
open Go Go.Proofs Cyc
theorem jF {tr:List Ev} {k:Nat} (h:k<tr.length):tr.getD k gO=tr[k]:=by
 rw[List.getD_eq_getElem?_getD,List.getElem?_eq_getElem h];rfl
end Ai
namespace Ai
set_option maxRecDepth 100000
open Go Go.Proofs
theorem l8 (s:StL) {p:Key→Bool} (h:(p (.n 900) || p (.n 901) || p (.n 902))=false):scrPL p ([]++stRef s)=[]++stRef s:=by
 have:=xU (E:=0) s h
 simpa[scrPO] using this
theorem spawn_vs0 {s s':StL} {L:List AV} {v:AV} (hv:v=.dref (.n 900) s'.ths.length) (hL:L=[]++stRef s) (hc:s'.cells.length=s.cells.length) (ho:s'.owner.length=s.owner.length) (hf:s'.fault=s.fault) :
  yE (scrPL (isK (.n 900)) L) (0+0) [v]=[]++stRef s':=by
 subst hv hL
 simp only[stRef,List.cons_append,List.nil_append,scrPL,hc,ho,hf]
 rfl
theorem doI_preB0 (E:TypeId) (g:Nat→Option Ob) (hg:∀ p j,(g j).map (scrPO p)=g j) (s:StL) (k:Nat) (o:OpL) (e:Ev) (hk:k<s.ths.length) (t:Th) (htk:(zB o.code).1≤t.stack.length) (ht8:t.stack.length≤1048576) (hpc:InR t.pc 0 1048576)
  (τ:Nat→AV) (H:Key→Option Ob) (Q:AX→St→Prop) (K:St→Prop) (hK:∀ s',At (doI1 0 k o t) (doIO E [] s k o e t (zE t o)) [(900,g)] s'→K s') :
  mQ EE Tryz.f172.ntmps K Q 7 (Tryz.f172.body.getD .skip) (sR [(0,.ptr (.l 0) 0),(1,i64 k),(2,agg (encOp o)),(3,agg (encEv e))] (sQ [(.l 0,.vs E ([]++stRef s)),(.n 899,.ds 132 1 (stk t)),(.n 900,.rs 175 6 (rowsA s.ths k t)),(.n 901,.ds 132 1 (s.cells.map encF)),(.n 902,.ds 3 1 (s.owner.map encInt))] (bF [(900,g)] ⟨τ,H⟩))):=by
 have ht:0≤(zB o.code).1∧(zB o.code).1≤2∧0≤(zB o.code).2∧(zB o.code).2≤1:=by
  unfold zB;split
  ·decide
  ·split
   ·decide
   ·split <;> decide
 have e1:(IntKind.i64.wrap ((t.stack.length:Int) - (zB o.code).1))=(t.stack.length:Int) - (zB o.code).1:=zG (by omega) (by omega)
 have e2:((t.stack.length:Int) - (zB o.code).1).toNat=zU t o:=by unfold zU xS;omega
 have allLen:∀ a b:Nat,(((stk t).drop a).take b).all (fun c=>c.length==1)=true:=by
  intro a b
  simp only[List.all_eq_true]
  intro x hx
  have hx:=List.mem_of_mem_drop (List.mem_of_mem_take hx)
  obtain⟨y,_,rfl⟩:=List.mem_map.1 hx
  rfl
 conv=>whnf
 refine⟨⟨by omega,by omega⟩,?_⟩
 conv=>whnf
 refine⟨_,nZ o,?_⟩
 rintro r rfl
 conv=>whnf
 refine⟨yK t,⟨?_,by simp[yK]⟩,?_⟩
 ·repeat (first|exact zT hk|refine xG ?_ (yC rfl t))
 conv=>whnf
 refine⟨yK t,⟨?_,by simp[yK]⟩,?_⟩
 ·repeat (first|exact zT hk|refine xG ?_ (yC rfl t))
 conv=>whnf
 rw[e1]
 have e3:((stk t).drop (0+((t.stack.length:Int) - (zB o.code).1).toNat)).take ((t.stack.length:Int).toNat - ((t.stack.length:Int) - (zB o.code).1).toNat)=(t.stack.drop (zU t o)).map encF:=by
  rw[e2,Nat.zero_add,List.take_of_length_le (by simp[stk]),stk,List.map_drop]
 have hlen:(t.stack.drop (zU t o)).length≤1048576:=by simp;omega
 rcases Int.lt_or_eq_of_le ht.1 with h0|h0
 refine .inl ⟨⟨by omega,by omega,by omega,.inr (by omega)⟩,?_⟩
 conv=>whnf
 refine .inl ⟨(·=.uq 132 1 ((t.stack.drop (zU t o)).map encF)),Eq.mp (congrArg (fun x=>CallsTo EE 193 [sl x] _) e3.symm) (gT (t.stack.drop (zU t o)) hlen),?_⟩
 rintro r rfl
 refine⟨fun c hc=>?_,.inl ?_⟩
 ·obtain⟨y,_,rfl⟩:=List.mem_map.1 hc
  rfl
 conv=>whnf
 rotate_left 1
 refine .inr ⟨⟨by omega,by omega,by omega⟩,?_⟩
 conv=>whnf
 refine⟨(·=.uq 132 1 ((t.stack.drop (zU t o)).map encF)),Eq.mp (congrArg (fun x=>CallsTo EE 193 [sl x] _) (by simp[zU,xS,← h0])) (gT (t.stack.drop (zU t o)) hlen),?_⟩
 rintro r rfl
 refine .inl ?_
 conv=>whnf
 all_goals
  refine⟨yK t,⟨by repeat (first|exact zT hk|refine xG ?_ (yC rfl t)),by simp[yK]⟩,?_⟩
  conv=>whnf
  refine .inl ⟨⟨by omega,by omega,by omega,.inl rfl⟩,?_⟩
  conv=>whnf
  have e5:((t.stack.length:Int) - (zB o.code).1).toNat - (0:Int).toNat=zU t o:=by rw[e2];rfl
  refine⟨[i64 t.rt,i64 t.pc,i64 t.st,i64 t.cond,i64 t.lock,.ref (.n 899) 0 (zU t o)],⟨?_,by simp⟩,?_⟩
  ·refine xY (c:=yK t) (by repeat (first|exact zT hk|refine xG ?_ (yC rfl t))) ?_
   conv=>lhs;whnf
   rw[← e5]
   rfl
  conv=>whnf
  refine hK _ ⟨?_,?_,?_⟩
  ·exact⟨rfl,rfl,rfl,rfl,rfl,rfl,rfl,trivial⟩
  ·refine⟨?_,rfl,rfl,rfl,rfl,?_,rfl,rfl,trivial⟩
   ·conv=>lhs;whnf
    refine congrArg some ?_
    repeat (refine yJ ?_ (xU s rfl))
    rfl
   ·conv=>lhs;whnf
    refine congrArg (fun x=>some (Ob.rs 175 6 x)) ?_
    have hkl:(t.stack.take (zU t o)).length=zU t o:=by simp[zU]
    refine dM hk (dM hk (t:=t) (t':={ t with stack:=t.stack.take (zU t o) }) (by repeat (first|rfl|refine Eq.trans (congrArg (List.map (scrPL _)) ?_) (uS rfl (fun _=>rfl) _ _ _))) ?_) ?_
    ·show[_,_,_,_,_,AV.ref (.n 899) 0 (((t.stack.length:Int) - (zB o.code).1).toNat - (0:Int).toNat)]=[_,_,_,_,_,AV.ref (.n 899) 0 (t.stack.take (zU t o)).length]
     rw[e5,hkl]
    ·show[_,AV.d (.int .i64 (IntKind.i64.wrap (t.pc+1))),_,_,_,AV.ref (.n 899) 0 (t.stack.take (zU t o)).length]=[_,i64 (t.pc+1),_,_,_,AV.ref (.n 899) 0 (t.stack.take (zU t o)).length]
     rw[zG (by have:=hpc.1;omega) (by have:=hpc.2;omega)]
     rfl
  ·refine⟨fun j=>?_,trivial⟩
   repeat (first|exact rfl|refine hscrO ?_ (hg _ _)|conv=>lhs;whnf)
theorem doI_swB0 (hI:yO) (E:TypeId) (g:Nat→Option Ob) (hg:∀ p j,(g j).map (scrPO p)=g j) (s:StL) (k:Nat) (o:OpL) (e:Ev) (hk:k<s.ths.length) (h5:s.ths.length≤5) (hgj:∀ j,j≠k→g j=zK s.ths j)
  (hs:s.small) (ho:o.fits s s.ths[k]) (hpc:InR s.ths[k].pc 0 1048576) (hst3:s.ths[k].st≠3) (he:e.kind=1) (hel:e.lock=-1) (hfl:∀ x∈s.ths[k].stack,x<18446744073709551616) (hjo:o.code=15→∃ j,yU (yP s.ths[k] o 0) s.ths.length=some j∧yA s s.ths[k]=some j)
  (Q:AX→St→Prop) (K:St→Prop) (S:St) (hS:At (doI1 0 k o s.ths[k]) (doIO E [] s k o e s.ths[k] (zE s.ths[k] o)) [(900,g)] S) (hK:∀ S',DoI2 E [] g k (doL s k o e).1 (doL s k o e).2 S'→K S') :
  mQ EE Tryz.f172.ntmps K Q 1 (dropC 7 (Tryz.f172.body.getD .skip)) S:=by
 have hst:=hs.2.1 _ (List.getElem_mem hk)
 have hgd:s.ths.getD k th0=s.ths[k]:=by simp[List.getD_eq_getElem?_getD,hk]
 generalize ht0:s.ths[k]=t at *
 obtain⟨τ,H,rfl⟩:=hS.form
 clear hS
 obtain⟨o1,o2,o3,o4,o5⟩:=ho
 obtain⟨eth,ekind,eobj,elock,epc⟩:=e
 have he:ekind=1:=he
 subst he
 have hel:elock=-1:=hel
 subst hel
 have hkn:zU t o≤t.stack.length:=Nat.sub_le _ _
 have hkl:(t.stack.take (zU t o)).length=zU t o:=by simp;omega
 have hpl:(zE t o).stack.length=zU t o:=hkl
 conv=>whnf
 refine kbi (fun hc=>?_) (fun hc=>?_)
 ·have hc:o.code=1:=by simpa using hc
  conv=>whnf
  refine .inr (.inr (.inr ⟨[0],by kernel_rfl,8,[],?_⟩))
  conv=>whnf
  refine⟨yK (zE t o),⟨by repeat (first|exact zT hk|refine xG ?_ (yC rfl _)),by simp[yK]⟩,?_⟩
  conv=>whnf
  refine⟨by kernel_rfl,?_⟩
  conv=>whnf
  refine⟨⟨rfl,by rw[hpl];simp;omega,by rw[hpl];simp;omega⟩,?_⟩
  conv=>whnf
  have hd:doL s k o ⟨eth,1,eobj,-1,epc⟩=(s.put k (zO (zE t o) o.v),⟨eth,1,eobj,-1,epc⟩):=by unfold doL;rw[hgd];simp[hc]
  rw[hd] at hK
  dsimp only at hK
  refine hK _ (.inl ⟨zO (zE t o) o.v,s.ths,stk (zO (zE t o) o.v),hk,rfl,hgj,jD _,by simp[StL.put],⟨rfl,rfl,trivial⟩,⟨?_,?_,rfl,?_,?_,?_,?_,trivial⟩,⟨fun j=>?_,trivial⟩⟩)
  ·rw[show stRef _=stRef s by simp[stRef,StL.put]]
   conv=>lhs;whnf
   all_goals (
    refine congrArg some ?_
    repeat (refine yJ ?_ (xU s rfl))
    all_goals rfl)
  ·rfl
  ·conv=>lhs;whnf
   show some (Ob.ds 132 1 _)=some (Ob.ds 132 1 _)
   simp[stk,zO,zE,encF]
  ·conv=>lhs;whnf
   all_goals (
    refine congrArg (fun x=>some (Ob.rs 175 6 x)) ?_
    apply uB
    ·repeat (first|exact rfl|apply wB hk|apply wA (fun _=>rfl))
    ·show[_,_,_,_,_,AV.ref (.n 899) 0 ((zE t o).stack.length+1)]=_
     simp[yK,zO]
     exact⟨rfl,rfl,rfl,rfl,rfl⟩)
  ·rfl
  ·rfl
  ·repeat (first|exact rfl|refine hscrO ?_ (hg _ _)|conv=>lhs;whnf)
 have n1:¬ o.code=1:=by simpa using hc
 clear hc
 conv=>whnf
 refine kbi (fun hc=>?_) (fun hc=>?_)
 ·have hc:o.code=2:=by simpa using hc
  have hr:=o2 (.inl hc)
  conv=>whnf
  refine .inr (.inl ⟨4,[],?_⟩)
  conv=>whnf
  refine⟨by kernel_rfl,?_⟩
  conv=>whnf
  refine .inr (.inr (.inr ⟨[0],by kernel_rfl,14,[],?_⟩))
  conv=>whnf
  refine⟨yK (zE t o),⟨by repeat (first|exact zT hk|refine xG ?_ (yC rfl _)),by simp[yK]⟩,?_⟩
  conv=>whnf
  refine⟨⟨by omega,by omega⟩,?_⟩
  conv=>whnf
  refine⟨encF (s.cells.getD o.a.toNat 0),⟨by rw[Nat.zero_add];exact aJ hr,by simp[encF]⟩,?_⟩
  conv=>whnf
  refine⟨by kernel_rfl,?_⟩
  conv=>whnf
  refine⟨⟨rfl,by rw[hpl];simp;omega,by rw[hpl];simp;omega⟩,?_⟩
  conv=>whnf
  have hd:doL s k o ⟨eth,1,eobj,-1,epc⟩=(s.put k (zO (zE t o) (s.cells.getD o.a.toNat 0)),⟨eth,2,o.a,(-1),epc⟩):=by unfold doL;rw[hgd];simp[hc]
  rw[hd] at hK
  dsimp only at hK
  refine hK _ (.inl ⟨zO (zE t o) (s.cells.getD o.a.toNat 0),s.ths,stk (zO (zE t o) (s.cells.getD o.a.toNat 0)),hk,rfl,hgj,jD _,by simp[StL.put],⟨rfl,rfl,trivial⟩,⟨?_,?_,rfl,?_,?_,?_,?_,trivial⟩,⟨fun j=>?_,trivial⟩⟩)
  ·rw[show stRef _=stRef s by simp[stRef,StL.put]]
   conv=>lhs;whnf
   all_goals (
    refine congrArg some ?_
    repeat (refine yJ ?_ (xU s rfl))
    all_goals rfl)
  ·rfl
  ·conv=>lhs;whnf
   show some (Ob.ds 132 1 _)=some (Ob.ds 132 1 _)
   simp[stk,zO,zE,encF]
  ·conv=>lhs;whnf
   all_goals (
    refine congrArg (fun x=>some (Ob.rs 175 6 x)) ?_
    apply uB
    ·repeat (first|exact rfl|apply wB hk|apply wA (fun _=>rfl))
    ·show[_,_,_,_,_,AV.ref (.n 899) 0 ((zE t o).stack.length+1)]=_
     simp[yK,zO]
     exact⟨rfl,rfl,rfl,rfl,rfl⟩)
  ·rfl
  ·rfl
  ·repeat (first|exact rfl|refine hscrO ?_ (hg _ _)|conv=>lhs;whnf)
 have n2:¬ o.code=2:=by simpa using hc
 clear hc
 conv=>whnf
 refine kbi (fun hc=>?_) (fun hc=>?_)
 ·have hc:o.code=3:=by simpa using hc
  have hr:=o2 (.inr hc)
  have htk:xS o=1:=by simp[xS,zB,hc]
  conv=>whnf
  refine .inr (.inl ⟨4,[],?_⟩)
  conv=>whnf
  refine⟨by kernel_rfl,?_⟩
  conv=>whnf
  refine .inr (.inl ⟨9,[],?_⟩)
  conv=>whnf
  refine⟨encF (yP t o 0),⟨by omega,vE o5 (by omega),by simp[encF]⟩,?_⟩
  conv=>whnf
  refine⟨by kernel_rfl,?_⟩
  conv=>whnf
  refine⟨⟨by omega,by omega⟩,?_⟩
  conv=>whnf
  have hd:doL s k o ⟨eth,1,eobj,-1,epc⟩=({ s with cells:=s.cells.set o.a.toNat (yP t o 0) }.put k (zE t o),⟨eth,3,o.a,(-1),epc⟩):=by unfold doL;rw[hgd];simp[hc]
  rw[hd] at hK
  dsimp only at hK
  refine hK _ (.inl ⟨zE t o,s.ths,stk t,hk,rfl,hgj,xP t o,by simp[StL.put],⟨rfl,rfl,trivial⟩,⟨?_,?_,rfl,?_,?_,?_,?_,trivial⟩,⟨fun j=>?_,trivial⟩⟩)
  ·rw[show stRef _=stRef s by simp[stRef,StL.put]]
   conv=>lhs;whnf
   all_goals (
    refine congrArg some ?_
    repeat (refine yJ ?_ (xU s rfl))
    all_goals rfl)
  ·rfl
  ·rfl
  ·conv=>lhs;whnf
   all_goals (
    refine congrArg (fun x=>some (Ob.rs 175 6 x)) ?_
    apply uB
    ·repeat (first|exact rfl|apply wB hk|apply wA (fun _=>rfl))
    ·rfl)
  ·conv=>lhs;whnf
   show some (Ob.ds 132 1 ((s.cells.map encF).set (0+o.a.toNat) (encF (yP t o 0))))=some (Ob.ds 132 1 ((s.cells.set o.a.toNat (yP t o 0)).map encF))
   rw[Nat.zero_add,List.map_set]
  ·rfl
  ·repeat (first|exact rfl|refine hscrO ?_ (hg _ _)|conv=>lhs;whnf)
 have n3:¬ o.code=3:=by simpa using hc
 clear hc
 conv=>whnf
 refine kbi (fun hc=>?_) (fun hc=>?_)
 ·have hc:o.code=10:=by simpa using hc
  conv=>whnf
  have hd:doL s k o ⟨eth,1,eobj,-1,epc⟩=(s.put k ({ zE t o with pc:=o.a }),⟨eth,1,eobj,-1,epc⟩):=by unfold doL;rw[hgd];simp[hc]
  rw[hd] at hK
  dsimp only at hK
  refine hK _ (.inl ⟨({ zE t o with pc:=o.a }),s.ths,stk t,hk,rfl,hgj,xP t o,by simp[StL.put],⟨rfl,rfl,trivial⟩,⟨?_,?_,rfl,?_,?_,?_,?_,trivial⟩,⟨fun j=>?_,trivial⟩⟩)
  ·rw[show stRef _=stRef s by simp[stRef,StL.put]]
   conv=>lhs;whnf
   all_goals (
    refine congrArg some ?_
    repeat (refine yJ ?_ (xU s rfl))
    all_goals rfl)
  ·rfl
  ·rfl
  ·conv=>lhs;whnf
   all_goals (
    refine congrArg (fun x=>some (Ob.rs 175 6 x)) ?_
    apply uB
    ·repeat (first|exact rfl|apply wB hk|apply wA (fun _=>rfl))
    ·rfl)
  ·rfl
  ·rfl
  ·repeat (first|exact rfl|refine hscrO ?_ (hg _ _)|conv=>lhs;whnf)
 have n10:¬ o.code=10:=by simpa using hc
 clear hc
 conv=>whnf
 refine kbi (fun hc=>?_) (fun hc=>?_)
 ·have hc:o.code=11:=by simpa using hc
  have htk:xS o=1:=by simp[xS,zB,hc]
  conv=>whnf
  refine⟨encF (yP t o 0),⟨by omega,vE o5 (by omega),by simp[encF]⟩,?_⟩
  conv=>whnf
  refine ocase (isNo_ok _) (fun hn=>?_) (fun hn=>?_)
  ·conv=>whnf
   have hd:doL s k o ⟨eth,1,eobj,-1,epc⟩=(s.put k ({ zE t o with pc:=o.a }),⟨eth,1,eobj,-1,epc⟩):=by unfold doL;rw[hgd];simp[hc];rw[if_pos hn]
   rw[hd] at hK
   dsimp only at hK
   refine hK _ (.inl ⟨({ zE t o with pc:=o.a }),s.ths,stk t,hk,rfl,hgj,xP t o,by simp[StL.put],⟨rfl,rfl,trivial⟩,⟨?_,?_,rfl,?_,?_,?_,?_,trivial⟩,⟨fun j=>?_,trivial⟩⟩)
   ·rw[show stRef _=stRef s by simp[stRef,StL.put]]
    conv=>lhs;whnf
    all_goals (
     refine congrArg some ?_
     repeat (refine yJ ?_ (xU s rfl))
     all_goals rfl)
   ·rfl
   ·rfl
   ·conv=>lhs;whnf
    all_goals (
     refine congrArg (fun x=>some (Ob.rs 175 6 x)) ?_
     apply uB
     ·repeat (first|exact rfl|apply wB hk|apply wA (fun _=>rfl))
     ·rfl)
   ·rfl
   ·rfl
   ·repeat (first|exact rfl|refine hscrO ?_ (hg _ _)|conv=>lhs;whnf)
  ·conv=>whnf
   have hd:doL s k o ⟨eth,1,eobj,-1,epc⟩=(s.put k (zE t o),⟨eth,1,eobj,-1,epc⟩):=by unfold doL;rw[hgd];simp[hc];rw[if_neg hn]
   rw[hd] at hK
   dsimp only at hK
   refine hK _ (.inl ⟨zE t o,s.ths,stk t,hk,rfl,hgj,xP t o,by simp[StL.put],⟨rfl,rfl,trivial⟩,⟨?_,?_,rfl,?_,?_,?_,?_,trivial⟩,⟨fun j=>?_,trivial⟩⟩)
   ·rw[show stRef _=stRef s by simp[stRef,StL.put]]
    conv=>lhs;whnf
    all_goals (
     refine congrArg some ?_
     repeat (refine yJ ?_ (xU s rfl))
     all_goals rfl)
   ·rfl
   ·rfl
   ·conv=>lhs;whnf
    all_goals (
     refine congrArg (fun x=>some (Ob.rs 175 6 x)) ?_
     apply uB
     ·repeat (first|exact rfl|apply wB hk|apply wA (fun _=>rfl))
     ·rfl)
   ·rfl
   ·rfl
   ·repeat (first|exact rfl|refine hscrO ?_ (hg _ _)|conv=>lhs;whnf)
 have n11:¬ o.code=11:=by simpa using hc
 clear hc
 conv=>whnf
 refine kbi (fun hc=>?_) (fun hc=>?_)
 ·have hc:o.code=12:=by simpa using hc
  have hr:=o3 (.inl hc)
  conv=>whnf
  refine .inr (.inl ⟨4,[],?_⟩)
  conv=>whnf
  refine⟨by kernel_rfl,?_⟩
  conv=>whnf
  refine .inr (.inl ⟨7,[],?_⟩)
  conv=>whnf
  refine⟨by kernel_rfl,?_⟩
  conv=>whnf
  refine⟨⟨by omega,by omega⟩,?_⟩
  conv=>whnf
  have hd:doL s k o ⟨eth,1,eobj,-1,epc⟩=({ s with owner:=s.owner.set o.a.toNat ((k:Nat):Int) }.put k (zE t o),⟨eth,4,o.a,(-1),epc⟩):=by unfold doL;rw[hgd];simp[hc]
  rw[hd] at hK
  dsimp only at hK
  refine hK _ (.inl ⟨zE t o,s.ths,stk t,hk,rfl,hgj,xP t o,by simp[StL.put],⟨rfl,rfl,trivial⟩,⟨?_,?_,rfl,?_,?_,?_,?_,trivial⟩,⟨fun j=>?_,trivial⟩⟩)
  ·rw[show stRef _=stRef s by simp[stRef,StL.put]]
   conv=>lhs;whnf
   all_goals (
    refine congrArg some ?_
    repeat (refine yJ ?_ (xU s rfl))
    all_goals rfl)
  ·rfl
  ·rfl
  ·conv=>lhs;whnf
   all_goals (
    refine congrArg (fun x=>some (Ob.rs 175 6 x)) ?_
    apply uB
    ·repeat (first|exact rfl|apply wB hk|apply wA (fun _=>rfl))
    ·rfl)
  ·rfl
  ·conv=>lhs;whnf
   show some (Ob.ds 3 1 ((s.owner.map encInt).set (0+o.a.toNat) (encInt ((k:Nat):Int))))=some (Ob.ds 3 1 ((s.owner.set o.a.toNat ((k:Nat):Int)).map encInt))
   rw[Nat.zero_add,List.map_set]
  ·repeat (first|exact rfl|refine hscrO ?_ (hg _ _)|conv=>lhs;whnf)
 have n12:¬ o.code=12:=by simpa using hc
 clear hc
 conv=>whnf
 refine kbi (fun hc=>?_) (fun hc=>?_)
 ·have hc:o.code=13:=by simpa using hc
  have hr:=o3 (.inr hc)
  conv=>whnf
  refine .inr (.inl ⟨4,[],?_⟩)
  conv=>whnf
  refine⟨by kernel_rfl,?_⟩
  conv=>whnf
  refine .inr (.inl ⟨6,[],?_⟩)
  conv=>whnf
  refine⟨by kernel_rfl,?_⟩
  conv=>whnf
  refine⟨⟨by omega,by omega⟩,?_⟩
  conv=>whnf
  have hd:doL s k o ⟨eth,1,eobj,-1,epc⟩=({ s with owner:=s.owner.set o.a.toNat (-1) }.put k (zE t o),⟨eth,5,o.a,(-1),epc⟩):=by unfold doL;rw[hgd];simp[hc]
  rw[hd] at hK
  dsimp only at hK
  refine hK _ (.inl ⟨zE t o,s.ths,stk t,hk,rfl,hgj,xP t o,by simp[StL.put],⟨rfl,rfl,trivial⟩,⟨?_,?_,rfl,?_,?_,?_,?_,trivial⟩,⟨fun j=>?_,trivial⟩⟩)
  ·rw[show stRef _=stRef s by simp[stRef,StL.put]]
   conv=>lhs;whnf
   all_goals (
    refine congrArg some ?_
    repeat (refine yJ ?_ (xU s rfl))
    all_goals rfl)
  ·rfl
  ·rfl
  ·conv=>lhs;whnf
   all_goals (
    refine congrArg (fun x=>some (Ob.rs 175 6 x)) ?_
    apply uB
    ·repeat (first|exact rfl|apply wB hk|apply wA (fun _=>rfl))
    ·rfl)
  ·rfl
  ·conv=>lhs;whnf
   show some (Ob.ds 3 1 ((s.owner.map encInt).set (0+o.a.toNat) (encInt (-1))))=some (Ob.ds 3 1 ((s.owner.set o.a.toNat (-1)).map encInt))
   rw[Nat.zero_add,List.map_set]
  ·repeat (first|exact rfl|refine hscrO ?_ (hg _ _)|conv=>lhs;whnf)
 have n13:¬ o.code=13:=by simpa using hc
 clear hc
 conv=>whnf
 refine kbi (fun hc=>?_) (fun hc=>?_)
 ·have hc:o.code=14:=by simpa using hc
  conv=>whnf
  refine .inr (.inl ⟨7,[],?_⟩)
  conv=>whnf
  refine⟨by kernel_rfl,?_⟩
  conv=>whnf
  refine .inr (.inr (.inr ⟨[0],by kernel_rfl,12,[],?_⟩))
  conv=>whnf
  refine⟨yK (zE t o),⟨by repeat (first|exact zT hk|refine xG ?_ (yC rfl _)),by simp[yK]⟩,?_⟩
  conv=>whnf
  refine⟨by kernel_rfl,?_⟩
  conv=>whnf
  refine⟨⟨rfl,by rw[hpl];simp;omega,by rw[hpl];simp;omega⟩,?_⟩
  conv=>whnf
  refine .inr (.inr (.inr ⟨[0],by kernel_rfl,9,[2715],?_⟩))
  conv=>whnf
  refine⟨_,kU o.a,?_⟩
  conv=>whnf
  refine⟨by kernel_rfl,?_⟩
  conv=>whnf
  refine⟨⟨fun c hc'=>?_,?_,?_⟩,?_⟩
  ·have hc':c∈[[i64 o.a,i64 0,i64 1,i64 (-1),i64 (-1),AV.ref (.n 905) 0 0]]:=hc'
   simp only[List.mem_singleton] at hc'
   subst hc';rfl
  ·show(s.ths.length+1)*64≤_
   omega
  ·show s.ths.length+1≤_
   omega
  conv=>whnf
  have hd:doL s k o ⟨eth,1,eobj,-1,epc⟩=({ s with ths:=s.ths++[jE o.a] }.put k (zO (zE t o) (FloatKind.f64.nearest (s.ths.length:Int))),⟨eth,6,s.ths.length,(-1),epc⟩):=by unfold doL;rw[hgd];simp[hc]
  rw[hd] at hK
  dsimp only at hK
  refine hK _ (.inr ⟨s.ths,zO (zE t o) (FloatKind.f64.nearest (s.ths.length:Int)),o.a,hk,?_,hgj,⟨rfl,rfl,trivial⟩,⟨?_,rfl,rfl,?_,?_,rfl,rfl,rfl,trivial⟩,⟨fun j=>?_,trivial⟩⟩)
  ·simp[StL.put,List.set_append_left _ _ hk]
  ·conv=>lhs;whnf
   refine congrArg (fun x=>some (Ob.vs E x)) ?_
   refine spawn_vs0 (s:=s) ?_ ?_ rfl rfl rfl
   ·conv=>lhs;whnf
    all_goals simp[StL.put]
   all_goals (
    repeat (refine hscrL ?_ (l8 s rfl))
    all_goals rfl)
  ·conv=>lhs;whnf
   show some (Ob.ds 132 1 _)=some (Ob.ds 132 1 _)
   simp[stk,zO,zE,encF]
  ·conv=>lhs;whnf
   refine congrArg (fun x=>some (Ob.rs 175 6 x)) ?_
   refine tO rfl ?_ rfl rfl
   apply uB
   ·repeat (first|exact rfl|apply wB hk|apply wA (fun _=>rfl))
   ·show[_,_,_,_,_,AV.ref (.n 899) 0 ((zE t o).stack.length+1)]=_
    simp[yK,zO]
    exact⟨rfl,rfl,rfl,rfl,rfl⟩
  ·repeat (first|exact rfl|refine hscrO ?_ (hg _ _)|conv=>lhs;whnf)
 have n14:¬ o.code=14:=by simpa using hc
 clear hc
 conv=>whnf
 refine kbi (fun hc=>?_) (fun hc=>?_)
 ·have hc:o.code=15:=by simpa using hc
  have htk:xS o=1:=by simp[xS,zB,hc]
  obtain⟨jj,hj1,hj2⟩:=hjo hc
  conv=>whnf
  refine .inr (.inl ⟨14,[],?_⟩)
  conv=>whnf
  refine⟨encF (yP t o 0),⟨by omega,vE o5 (by omega),by simp[encF]⟩,?_⟩
  conv=>whnf
  refine⟨_,hI _ _,?_⟩
  conv=>whnf
  refine⟨by kernel_rfl,?_⟩
  conv=>whnf
  have hd:doL s k o ⟨eth,1,eobj,-1,epc⟩=(s.put k (zE t o),⟨eth,7,(yA s t).getD (-1),(-1),epc⟩):=by unfold doL;rw[hgd];simp[hc]
  rw[hd] at hK
  dsimp only at hK
  refine hK _ (.inl ⟨zE t o,s.ths,stk t,hk,rfl,hgj,xP t o,by simp[StL.put],⟨rfl,rfl,trivial⟩,⟨?_,?_,rfl,?_,?_,?_,?_,trivial⟩,⟨fun j=>?_,trivial⟩⟩)
  ·rw[show stRef _=stRef s by simp[stRef,StL.put]]
   conv=>lhs;whnf
   all_goals (
    refine congrArg some ?_
    repeat (refine yJ ?_ (xU s rfl))
    all_goals rfl)
  ·conv=>lhs;whnf
   show some (Ob.vs 128 [i64 eth,i64 7,i64 ((yU (yP t o 0) s.ths.length).getD 0),i64 (-1),i64 epc])=some (Ob.vs 128 [i64 eth,i64 7,i64 ((yA s t).getD (-1)),i64 (-1),i64 epc])
   rw[hj1,hj2]
   rfl
  ·rfl
  ·conv=>lhs;whnf
   all_goals (
    refine congrArg (fun x=>some (Ob.rs 175 6 x)) ?_
    apply uB
    ·repeat (first|exact rfl|apply wB hk|apply wA (fun _=>rfl))
    ·rfl)
  ·rfl
  ·rfl
  ·repeat (first|exact rfl|refine hscrO ?_ (hg _ _)|conv=>lhs;whnf)
 have n15:¬ o.code=15:=by simpa using hc
 clear hc
 conv=>whnf
 refine kbi (fun hc=>?_) (fun hc=>?_)
 ·have hc:o.code=16:=by simpa using hc
  have hr:=o4 hc
  conv=>whnf
  refine .inr (.inl ⟨8,[],?_⟩)
  conv=>whnf
  refine⟨by kernel_rfl,?_⟩
  conv=>whnf
  refine .inr (.inl ⟨6,[],?_⟩)
  conv=>whnf
  refine⟨by kernel_rfl,?_⟩
  conv=>whnf
  refine⟨⟨by omega,by omega⟩,?_⟩
  conv=>whnf
  refine⟨yK (zE t o),⟨by repeat (first|exact zT hk|refine xG ?_ (yC rfl _)),by simp[yK]⟩,?_⟩
  conv=>whnf
  refine .inr (.inr (.inr ⟨[0,1,2],by kernel_rfl,by kernel_rfl,by kernel_rfl,13,[],?_⟩))
  conv=>whnf
  refine⟨by kernel_rfl,?_⟩
  conv=>whnf
  have hd:doL s k o ⟨eth,1,eobj,-1,epc⟩=({ s with owner:=s.owner.set o.b.toNat (-1) }.put k ({ zE t o with st:=3,cond:=o.a,lock:=o.b,pc:=(zE t o).pc - 1 }),⟨eth,8,o.a,o.b,epc⟩):=by unfold doL;rw[hgd];simp[hc]
  rw[hd] at hK
  dsimp only at hK
  refine hK _ (.inl ⟨({ zE t o with st:=3,cond:=o.a,lock:=o.b,pc:=(zE t o).pc - 1 }),s.ths,stk t,hk,rfl,hgj,xP t o,by simp[StL.put],⟨rfl,rfl,trivial⟩,⟨?_,?_,rfl,?_,?_,?_,?_,trivial⟩,⟨fun j=>?_,trivial⟩⟩)
  ·rw[show stRef _=stRef s by simp[stRef,StL.put]]
   conv=>lhs;whnf
   all_goals (
    refine congrArg some ?_
    repeat (refine yJ ?_ (xU s rfl))
    all_goals rfl)
  ·rfl
  ·rfl
  ·conv=>lhs;whnf
   all_goals (
    refine congrArg (fun x=>some (Ob.rs 175 6 x)) ?_
    apply uB
    ·repeat (first|exact rfl|apply wB hk|apply wA (fun _=>rfl))
    ·have ew:IntKind.i64.wrap (t.pc+1 - 1)=t.pc+1 - 1:=zG (by have:=hpc.1;omega) (by have:=hpc.2;omega)
     show[_,AV.d (.int .i64 (IntKind.i64.wrap (t.pc+1 - 1))),_,_,_,_]=_
     rw[ew]
     rfl)
  ·rfl
  ·conv=>lhs;whnf
   show some (Ob.ds 3 1 ((s.owner.map encInt).set (0+o.b.toNat) (encInt (-1))))=some (Ob.ds 3 1 ((s.owner.set o.b.toNat (-1)).map encInt))
   rw[Nat.zero_add,List.map_set]
  ·repeat (first|exact rfl|refine hscrO ?_ (hg _ _)|conv=>lhs;whnf)
 have n16:¬ o.code=16:=by simpa using hc
 clear hc
 conv=>whnf
 refine kbi (fun hc=>?_) (fun hc=>?_)
 ·have hc:o.code=17:=by simpa using hc
  have hcall:CallsTo EE 222 [sl ((s.ths.set k (zE t o)).map zD),.fn 223 [.fp (encOp o)]] (·=i64 (eI (wW s.ths o.a))):=by
   rw[← tG hk (t':=zE t o) o.a hst3 (by rw[ht0];exact hst3)]
   exact kX _ (by simp;omega) 223 _ (.inr ⟨_,rfl⟩) (fun t=>t.st==3&&t.cond==o.a) (fun u _=>rM u o)
  conv=>whnf
  refine .inr (.inl ⟨4,[],?_⟩)
  conv=>whnf
  refine⟨by kernel_rfl,?_⟩
  conv=>whnf
  refine .inl ⟨[sl ((s.ths.set k (zE t o)).map zD),.fn 223 [.fp (encOp o)]],[],_,⟨_,_,rfl,⟨_,rfl,lG (l:=s.ths) (k:=k) (t:=zE t o) (els:=stk t) hk ?_ ?_ ?_ (xP t o)⟩,_,_,rfl,rfl,rfl⟩,rfl,hcall,?_⟩
  ·conv=>lhs;whnf
   refine congrArg (fun x=>some (Ob.rs 175 6 x)) ?_
   repeat (first|exact rfl|refine qO ?_ rfl (fun _=>rfl))
  ·intro j hj hjl
   refine Eq.trans (b:=g j) ?_ ((hgj j hj).trans (by simp[zK,hjl]))
   repeat (first|exact rfl|refine hscrO ?_ (hg _ _)|conv=>lhs;whnf)
  ·rfl
  rintro r rfl
  refine⟨rfl,?_⟩
  cases hwk:wW s.ths o.a with
  |none =>
   conv=>whnf
   refine kbi (fun hw=>?_) (fun hw=>?_)
   ·simp[eI] at hw
   conv=>whnf
   have hd:doL s k o ⟨eth,1,eobj,-1,epc⟩=(s.put k (zE t o),⟨eth,10,o.a,(-1),epc⟩):=by unfold doL;rw[hgd];simp[hc,hwk]
   rw[hd] at hK
   dsimp only at hK
   refine hK _ (.inl ⟨zE t o,s.ths,stk t,hk,rfl,hgj,xP t o,by simp[StL.put],⟨rfl,rfl,trivial⟩,⟨?_,?_,rfl,?_,?_,?_,?_,trivial⟩,⟨fun j=>?_,trivial⟩⟩)
   ·rw[show stRef _=stRef s by simp[stRef,StL.put]]
    conv=>lhs;whnf
    all_goals (
     refine congrArg some ?_
     repeat (refine yJ ?_ (xU s rfl))
     all_goals rfl)
   ·rfl
   ·rfl
   ·conv=>lhs;whnf
    all_goals (
     refine congrArg (fun x=>some (Ob.rs 175 6 x)) ?_
     apply uB
     ·repeat (first|exact rfl|apply wB hk|apply wA (fun _=>rfl))
     ·rfl)
   ·rfl
   ·rfl
   ·repeat (first|exact rfl|refine hscrO ?_ (hg _ _)|conv=>lhs;whnf)
  |some j =>
   obtain⟨hjl,hj3,hjc⟩:=rH hwk
   have hjk:j≠k:=by
    rintro rfl
    rw[ht0] at hj3;exact hst3 hj3
   conv=>whnf
   refine kbi (fun hw=>?_) (fun hw=>?_)
   rotate_left 1
   ·simp[eI] at hw
   conv=>whnf
   refine .inr (.inl ⟨6,[],?_⟩)
   conv=>whnf
   have hd:doL s k o ⟨eth,1,eobj,-1,epc⟩=({ s with ths:=s.ths.modify j fun u=>{ u with st:=4 } }.put k (zE t o),⟨eth,10,o.a,j,epc⟩):=by unfold doL;rw[hgd];simp[hc,hwk]
   rw[hd] at hK
   dsimp only at hK
   refine⟨by kernel_rfl,?_⟩
   conv=>whnf
   refine⟨⟨by show(0:Int)≤(j:Int);omega,by show(j:Int)<s.ths.length;omega⟩,?_⟩
   conv=>whnf
   refine hK _ (.inl ⟨zE t o,s.ths.modify j fun u=>{ u with st:=4 },stk t,by simpa using hk,rfl,fun i hi=>(hgj i hi).trans (tL i).symm,xP t o,by simp[StL.put],⟨rfl,rfl,trivial⟩,⟨?_,?_,rfl,?_,?_,?_,?_,trivial⟩,⟨fun j=>?_,trivial⟩⟩)
   ·rw[show stRef _=stRef s by simp[stRef,StL.put]]
    conv=>lhs;whnf
    all_goals (
     refine congrArg some ?_
     repeat (refine yJ ?_ (xU s rfl))
     all_goals rfl)
   ·rfl
   ·rfl
   ·conv=>lhs;whnf
    all_goals (
     refine congrArg (fun x=>some (Ob.rs 175 6 x)) ?_
     refine tS hjl hjk ?_
     repeat (first|exact rfl|refine qO ?_ rfl (fun _=>rfl)))
   ·rfl
   ·rfl
   ·repeat (first|exact rfl|refine hscrO ?_ (hg _ _)|conv=>lhs;whnf)
 have n17:¬ o.code=17:=by simpa using hc
 clear hc
 conv=>whnf
 have hcode:4≤o.code∧o.code≤9:=by have:=o1.1;have:=o1.2;omega
 have htk:xS o=2:=by simp only[xS,zB];rw[if_neg (by omega),if_neg (by omega),if_pos hcode];rfl
 refine .inr (.inr (.inr ⟨[0],by kernel_rfl,15,[],?_⟩))
 conv=>whnf
 refine⟨yK (zE t o),⟨by repeat (first|exact zT hk|refine xG ?_ (yC rfl _)),by simp[yK]⟩,?_⟩
 conv=>whnf
 refine⟨encF (yP t o 0),⟨by omega,vE o5 (by omega),by simp[encF]⟩,?_⟩
 conv=>whnf
 refine⟨encF (yP t o 1),⟨by omega,vE o5 (by omega),by simp[encF]⟩,?_⟩
 conv=>whnf
 refine⟨_,eU _ _ _ hcode (mB hfl) (mB hfl),?_⟩
 conv=>whnf
 refine⟨by kernel_rfl,?_⟩
 conv=>whnf
 refine⟨⟨rfl,by rw[hpl];simp;omega,by rw[hpl];simp;omega⟩,?_⟩
 conv=>whnf
 have hd:doL s k o ⟨eth,1,eobj,-1,epc⟩=(s.put k (zO (zE t o) (yN o.code (yP t o 0) (yP t o 1))),⟨eth,1,eobj,-1,epc⟩):=by unfold doL;rw[hgd];simp[n1,n2,n3,n10,n11,n12,n13,n14,n15,n16,n17]
 rw[hd] at hK
 dsimp only at hK
 refine hK _ (.inl ⟨zO (zE t o) (yN o.code (yP t o 0) (yP t o 1)),s.ths,stk (zO (zE t o) (yN o.code (yP t o 0) (yP t o 1))),hk,rfl,hgj,jD _,by simp[StL.put],⟨rfl,rfl,trivial⟩,⟨?_,?_,rfl,?_,?_,?_,?_,trivial⟩,⟨fun j=>?_,trivial⟩⟩)
 ·rw[show stRef _=stRef s by simp[stRef,StL.put]]
  conv=>lhs;whnf
  all_goals (
   refine congrArg some ?_
   repeat (refine yJ ?_ (xU s rfl))
   all_goals rfl)
 ·rfl
 ·conv=>lhs;whnf
  show some (Ob.ds 132 1 _)=some (Ob.ds 132 1 _)
  simp[stk,zO,zE,encF]
 ·conv=>lhs;whnf
  all_goals (
   refine congrArg (fun x=>some (Ob.rs 175 6 x)) ?_
   apply uB
   ·repeat (first|exact rfl|apply wB hk|apply wA (fun _=>rfl))
   ·show[_,_,_,_,_,AV.ref (.n 899) 0 ((zE t o).stack.length+1)]=_
    simp[yK,zO]
    exact⟨rfl,rfl,rfl,rfl,rfl⟩)
 ·rfl
 ·rfl
 ·repeat (first|exact rfl|refine hscrO ?_ (hg _ _)|conv=>lhs;whnf)
theorem doI_okA0 (hI:yO) (E:TypeId) (s:StL) (k:Nat) (o:OpL) (e:Ev) (hk:k<s.ths.length) (h5:s.ths.length≤5)
  (hs:s.small) (ho:o.fits s s.ths[k]) (hpc:InR s.ths[k].pc 0 1048576) (hst3:s.ths[k].st≠3) (he:e.kind=1) (hel:e.lock=-1) (hfl:∀ x∈s.ths[k].stack,x<18446744073709551616) (hjo:o.code=15→∃ j,yU (yP s.ths[k] o 0) s.ths.length=some j∧yA s s.ths[k]=some j)
  (H0:Key→Option Ob) (h0:H0 (.l 0)=some (.vs E ([]++stRef s))) (h1:H0 (.n 899)=some (.ds 132 1 (stk s.ths[k]))) (h2:H0 (.n 900)=some (.rs 175 6 (rowsA s.ths k s.ths[k]))) (h3:∀ j,H0 (.s 900 j)=fam0 s.ths k j)
  (h4:H0 (.n 901)=some (.ds 132 1 (s.cells.map encF))) (h6:H0 (.n 902)=some (.ds 3 1 (s.owner.map encInt))) :
  IOCall EE 172 [.ptr (.l 0) 0,i64 k,agg (encOp o),agg (encEv e)] H0 (doIPost E [] k (doL s k o e).1 (doL s k o e).2):=by
 refine xR (fn:=Tryz.f172) (c:=Tryz.f172.body.getD .skip) Tryz.func172 rfl (by kernel_rfl) rfl ?_
 have hat:At [(0,.ptr (.l 0) 0),(1,i64 k),(2,agg (encOp o)),(3,agg (encEv e))] [(.l 0,.vs E ([]++stRef s)),(.n 899,.ds 132 1 (stk s.ths[k])),(.n 900,.rs 175 6 (rowsA s.ths k s.ths[k])),(.n 901,.ds 132 1 (s.cells.map encF)),(.n 902,.ds 3 1 (s.owner.map encInt))] [(900,fam0 s.ths k)]
   ⟨fun i=>[AV.ptr (.l 0) 0,i64 k,agg (encOp o),agg (encEv e)].getD i .junk,H0⟩ :=
  ⟨⟨rfl,rfl,rfl,rfl,trivial⟩,⟨h0,h1,h2,h4,h6,trivial⟩,⟨h3,trivial⟩⟩
 obtain⟨τ,H,hf⟩:=hat.form
 rw[hf]
 have hst:=hs.2.1 _ (List.getElem_mem hk)
 have hgk:fam0 s.ths k k=none:=by unfold fam0;rw[nbeq_self];rfl
 refine fR 7 (At (doI1 0 k o s.ths[k]) (doIO E [] s k o e s.ths[k] (zE s.ths[k] o)) [(900,fam0 s.ths k)]) (fun K hK=>doI_preB0 E (fam0 s.ths k) (xC _ _) s k o e hk s.ths[k] ho.2.2.2.2 hst hpc τ H _ K hK) (fun S hS=>?_)
 refine fR 1 (DoI2 E [] (fam0 s.ths k) k (doL s k o e).1 (doL s k o e).2) (fun K hK=>doI_swB0 hI E (fam0 s.ths k) (xC _ _) s k o e hk h5 (fun j hj=>by unfold fam0;rw[nbeq_ne hj];rfl) hs ho hpc hst3 he hel hfl hjo _ K S hS hK) (fun S' hS'=>?_)
 have hp:InertL []:=fun x hx=>by cases hx
 rcases hS' with ⟨t',h⟩|⟨l',t',r,h⟩
 ·exact doI_fin E _ hp _ k (xC _ _) (fam0_cut _ _ _) hgk _ _ S' t' h
 ·exact doI_finF E _ hp _ k (xC _ _) (gN _ _) hgk _ _ S' l' t' r h
theorem stepI_A0 (hI:yO) (E:TypeId) (p:ProgL) (s:StL) (k:Nat) (hp:p.wf) (hk:k<s.ths.length) (h5:s.ths.length≤5)
  (hs:s.small) (hr:s.ths[k].ready p s k) (hst3:s.ths[k].st≠3) (hfl:∀ x∈s.ths[k].stack,x<18446744073709551616) (hjo:∀ o,yG p s.ths[k]=some o→yB s k o=0→o.code=15→∃ j,yU (yP s.ths[k] o 0) s.ths.length=some j∧yA s s.ths[k]=some j)
  (H0:Key→Option Ob) (h0:H0 (.l 0)=some (.vs E ([]++stRef s))) (h1:H0 (.n 899)=some (.ds 132 1 (stk s.ths[k]))) (h2:H0 (.n 900)=some (.rs 175 6 (rowsA s.ths k s.ths[k]))) (h3:∀ j,H0 (.s 900 j)=fam0 s.ths k j)
  (h4:H0 (.n 901)=some (.ds 132 1 (s.cells.map encF))) (h6:H0 (.n 902)=some (.ds 3 1 (s.owner.map encInt))) :
  IOCall EE 92 [.ptr (.l 0) 0,agg (encProg p),i64 k] H0 (doIPost E [] k (zM p s k).1 (zM p s k).2):=by
 refine xR (fn:=Tryz.f92) (c:=Tryz.f92.body.getD .skip) Tryz.func92 rfl (by kernel_rfl) rfl ?_
 have hat:At [(0,.ptr (.l 0) 0),(1,agg (encProg p)),(2,i64 k)] [(.l 0,.vs E ([]++stRef s)),(.n 899,.ds 132 1 (stk s.ths[k])),(.n 900,.rs 175 6 (rowsA s.ths k s.ths[k])),(.n 901,.ds 132 1 (s.cells.map encF)),(.n 902,.ds 3 1 (s.owner.map encInt))] [(900,fam0 s.ths k)]
   ⟨fun i=>[AV.ptr (.l 0) 0,agg (encProg p),i64 k].getD i .junk,H0⟩ :=
  ⟨⟨rfl,rfl,rfl,trivial⟩,⟨h0,h1,h2,h4,h6,trivial⟩,⟨h3,trivial⟩⟩
 obtain⟨τ,H,hf⟩:=hat.form
 rw[hf]
 have hst:=hs.2.1 _ (List.getElem_mem hk)
 have hgd:s.ths.getD k th0=s.ths[k]:=by simp[List.getD_eq_getElem?_getD,hk]
 have hp3:InertL []:=fun x hx=>by cases hx
 have hpc:=hr.pc
 clear hat hf h0 h1 h2 h3 h4 h6
 generalize ht0:s.ths[k]=t at *
 conv=>whnf
 refine⟨⟨by omega,by omega⟩,?_⟩
 conv=>whnf
 refine⟨yK t,⟨by repeat (first|exact zT hk|refine xG ?_ (yC rfl t)),by simp[yK]⟩,?_⟩
 conv=>whnf
 refine .inr (.inl ⟨10,[],?_⟩)
 conv=>whnf
 refine⟨yK t,⟨by repeat (first|exact zT hk|refine xG ?_ (yC rfl t)),by simp[yK]⟩,?_⟩
 conv=>whnf
 refine⟨_,Eq.mp (congrArg (fun x=>CallsTo EE 169 [agg (encProg p),.agg [i64 t.rt,i64 t.pc,i64 t.st,i64 t.cond,i64 t.lock,sl x]] _) (jD t).symm) (cA p t hp hr.inP),?_,?_⟩
 ·intro c hc
  simp only[List.mem_cons,List.not_mem_nil,or_false] at hc
  rcases hc with rfl|rfl
  ·exact .inr ⟨encOp _,rfl,rfl⟩
  ·exact .inl ⟨_,rfl,rfl⟩
 conv=>whnf
 refine⟨by kernel_rfl,?_⟩
 conv=>whnf
 refine⟨yK t,⟨by repeat (first|exact zT hk|refine xG ?_ (yC rfl t)),by simp[yK]⟩,?_⟩
 conv=>whnf
 have hp3:InertL []:=fun x hx=>by cases hx
 refine kbi (fun h4=>?_) (fun h4=>?_)
 ·have h4:t.st=4:=by simpa using h4
  have hlk:=hr.lock h4
  have hd:zM p s k=({ s with owner:=s.owner.set t.lock.toNat ((k:Nat):Int) }.put k { t with st:=1,cond:=-1,lock:=-1,pc:=if (yG p t).isSome=true then t.pc+1 else t.pc },{ ev0 k t with kind:=9,obj:=t.cond,lock:=t.lock }):=by
   unfold zM;rw[hgd,if_pos h4]
  conv=>whnf
  refine .inr (.inl ⟨12,[],?_⟩)
  conv=>whnf
  refine⟨yK t,⟨by repeat (first|exact zT hk|refine xG ?_ (yC rfl _)),by simp[yK]⟩,?_⟩
  conv=>whnf
  refine⟨yK t,⟨by repeat (first|exact zT hk|refine xG ?_ (yC rfl _)),by simp[yK]⟩,?_⟩
  conv=>whnf
  refine⟨by kernel_rfl,?_⟩
  conv=>whnf
  refine .inr (.inl ⟨9,[],?_⟩)
  conv=>whnf
  refine⟨yK t,⟨by repeat (first|exact zT hk|refine xG ?_ (yC rfl _)),by simp[yK]⟩,?_⟩
  conv=>whnf
  refine⟨by kernel_rfl,?_⟩
  conv=>whnf
  refine⟨⟨by omega,by omega⟩,?_⟩
  conv=>whnf
  refine .inr (.inl ⟨7,[],?_⟩)
  conv=>whnf
  refine⟨yK { t with st:=1,cond:=-1,lock:=-1 },⟨xG (tT hk ?_) (yC rfl _),by simp[yK]⟩,?_⟩
  ·apply uB
   ·repeat (first|exact rfl|apply wB hk|apply wA (fun _=>rfl))
   ·rfl
  conv=>whnf
  refine⟨_,qU _,?_⟩
  conv=>whnf
  refine⟨by kernel_rfl,?_⟩
  conv=>whnf
  refine⟨_,Weak.refl,?_⟩
  conv=>whnf
  rw[hd]
  refine⟨wM,by rfl,?_⟩
  refine uU hp3 (l:=s.ths) (t':={ t with st:=1,cond:=-1,lock:=-1,pc:=if (yG p t).isSome=true then t.pc+1 else t.pc }) hk rfl ?_ ?_ ?_ (fun j=>?_) ?_ ?_
  ·refine Eq.trans ?_ (congrArg (fun x=>some (Ob.vs E ([]++x))) (show stRef s=stRef _ by simp[stRef,StL.put]))
   conv=>lhs;whnf
   all_goals (
    refine congrArg some ?_
    repeat (refine yJ ?_ (xU s rfl))
    all_goals rfl)
  ·rfl
  ·conv=>lhs;whnf
   all_goals (
    refine congrArg (fun x=>some (Ob.rs 175 6 x)) ?_
    apply uB
    ·repeat (first|exact rfl|apply wB hk|apply wA (fun _=>rfl))
    ·have ew:IntKind.i64.wrap (t.pc+(if (yG p t).isSome=true then 1 else 0))=(if (yG p t).isSome=true then t.pc+1 else t.pc):=by have a:=hpc.1;have b:=hpc.2;split <;> rw[zG (by omega) (by omega)];omega
     show[_,AV.d (.int .i64 (IntKind.i64.wrap (t.pc+(if (yG p t).isSome=true then 1 else 0)))),_,_,_,_]=_
     rw[ew]
     rfl)
  ·repeat (first|exact rfl|refine hscrO ?_ (xC _ _ _ _)|conv=>lhs;whnf)
  ·rfl
  ·conv=>lhs;whnf
   show some (Ob.ds 3 1 ((s.owner.map encInt).set (0+t.lock.toNat) (encInt ((k:Nat):Int))))=some (Ob.ds 3 1 ((s.owner.set t.lock.toNat ((k:Nat):Int)).map encInt))
   rw[Nat.zero_add,List.map_set]
 have h4:¬ t.st=4:=by simpa using h4
 cases hn:yG p t with
 |none =>
  conv=>whnf
  have hd:zM p s k=(s.put k { t with st:=2 },{ ev0 k t with kind:=11 }):=by
   unfold zM;rw[hgd];simp[h4,hn]
  refine⟨_,Weak.refl,?_⟩
  conv=>whnf
  rw[hd]
  refine⟨wM,by rfl,?_⟩
  refine uU hp3 (l:=s.ths) (t':={ t with st:=2 }) hk rfl ?_ ?_ ?_ (fun j=>?_) ?_ ?_
  ·refine Eq.trans ?_ (congrArg (fun x=>some (Ob.vs E ([]++x))) (show stRef s=stRef _ by simp[stRef,StL.put]))
   conv=>lhs;whnf
   all_goals (
    refine congrArg some ?_
    repeat (refine yJ ?_ (xU s rfl))
    all_goals rfl)
  ·rfl
  ·conv=>lhs;whnf
   all_goals (
    refine congrArg (fun x=>some (Ob.rs 175 6 x)) ?_
    apply uB
    ·repeat (first|exact rfl|apply wB hk|apply wA (fun _=>rfl))
    ·rfl)
  ·repeat (first|exact rfl|refine hscrO ?_ (xC _ _ _ _)|conv=>lhs;whnf)
  ·rfl
  ·rfl
 |some o =>
  obtain⟨hoS,hoF⟩:=hr.op o hn
  conv=>whnf
  refine .inl ⟨[.fp (yL s),i64 k,agg (encOp o)],[],_,⟨_,_,rfl,l1 (E:=E) (cs:=[]++stRef s) ?_ (fz_stA (k:=k) (t:=t) (els:=stk t) hk ht0 ?_ (fun j hj hjl=>?_) rfl (by simp[stk,List.take_of_length_le]) ?_ ?_),_,_,rfl,rfl,_,_,rfl,⟨encOp o,rfl,_,_,rfl,rfl,_,_,rfl,rfl,_,_,rfl,rfl,_,_,rfl,rfl,rfl⟩,rfl⟩,rfl,oO hI s k o hk hs hoS,?_⟩
  ·conv=>lhs;whnf
   all_goals (
    refine congrArg some ?_
    repeat (refine yJ ?_ (xU s rfl))
    all_goals rfl)
  ·conv=>lhs;whnf
   all_goals (
    refine congrArg (fun x=>some (Ob.rs 175 6 x)) ?_
    repeat (first|exact rfl|refine qO ?_ rfl (fun _=>rfl)))
  ·refine Eq.trans (b:=fam0 s.ths k j) ?_ (by simp[fam0,nbeq_ne hj,zK,hjl])
   repeat (first|exact rfl|refine hscrO ?_ (xC _ _ _ _)|conv=>lhs;whnf)
  ·rfl
  ·rfl
  rintro r rfl
  refine⟨rfl,?_⟩
  conv=>whnf
  refine kbi (fun h6=>?_) (fun h6=>?_)
  ·have h6:¬ yB s k o=0:=by simpa using h6
   have hd:zM p s k=({ s with fault:=yB s k o },{ ev0 k t with kind:=12,obj:=yB s k o }):=by
    unfold zM;rw[hgd];simp[h4,hn,h6]
   conv=>whnf
   refine⟨_,Weak.refl,?_⟩
   conv=>whnf
   rw[hd]
   refine⟨wM,by rfl,?_⟩
   refine uU hp3 (l:=s.ths) (t':=t) hk (by show s.ths=s.ths.set k t;rw[← ht0,List.set_getElem_self]) ?_ ?_ ?_ (fun j=>?_) ?_ ?_
   ·conv=>lhs;whnf
    refine congrArg some ?_
    repeat (refine yJ ?_ (xU { s with fault:=yB s k o } rfl))
    refine congrArg (Ob.vs E) (fault_vs (pre:=[]) ?_)
    repeat (refine hscrL ?_ (l8 s rfl))
    all_goals rfl
   ·rfl
   ·conv=>lhs;whnf
    all_goals (
     refine congrArg (fun x=>some (Ob.rs 175 6 x)) ?_
     apply uB
     ·repeat (first|exact rfl|apply wB hk|apply wA (fun _=>rfl))
     ·rfl)
   ·repeat (first|exact rfl|refine hscrO ?_ (xC _ _ _ _)|conv=>lhs;whnf)
   ·rfl
   ·rfl
  ·have h6:yB s k o=0:=by simpa using h6
   have hd:zM p s k=doL s k o (ev0 k t):=by
    unfold zM;rw[hgd];simp[h4,hn,h6]
   conv=>whnf
   refine .inr (.inl ⟨999,99,wM,_,doI_okA0 hI E s k o { ev0 k t with kind:=1 } hk h5 hs (by rw[ht0];exact hoF h6) (by rw[ht0];exact hpc) (by rw[ht0];exact hst3) rfl rfl (by rw[ht0];exact hfl) (by rw[ht0];exact hjo o hn h6) _ ?_ ?_ ?_ (fun j=>?_) ?_ ?_,rfl,?_⟩)
   ·conv=>lhs;whnf
    refine congrArg some ?_
    repeat (first|exact rfl|refine yJ ?_ (xU s rfl)|refine sD ?_ (z5 hp3 s))
   ·rw[ht0]
    rfl
   ·rw[ht0]
    conv=>lhs;whnf
    refine congrArg some ?_
    repeat (first|exact rfl|refine yJ ?_ (gZ rfl (fun _=>rfl) _ _ _)|refine sD ?_ (fA _ _ _))
   ·repeat (first|exact rfl|refine hscrO ?_ (xC _ _ _ _)|refine oE ?_ (gN _ _ _ _)|conv=>lhs;whnf)
   ·rfl
   ·rfl
   rintro r H1 ⟨rfl,hk2,rfl⟩
   refine⟨iB,?_,?_⟩
   ·intro n hn
    have:n=0:=by simpa[wM] using hn
    subst this
    exact⟨E,_,_,rfl,rfl⟩
   conv=>whnf
   refine⟨_,Weak.refl,?_⟩
   conv=>whnf
   rw[hd]
   refine⟨wM,by rfl,?_⟩
   refine uU hp3 (l:=(doL s k o (ev0 k t)).1.ths) (t':=(doL s k o (ev0 k t)).1.ths[k]) hk2 (List.set_getElem_self _).symm ?_ ?_ ?_ (fun j=>?_) ?_ ?_
   ·conv=>lhs;whnf
    refine congrArg some ?_
    repeat (first|exact rfl|refine yJ ?_ (xU _ rfl)|refine sD ?_ (z5 hp3 _))
   ·rfl
   ·conv=>lhs;whnf
    refine congrArg some ?_
    repeat (first|exact rfl|refine yJ ?_ (gZ rfl (fun _=>rfl) _ _ _)|refine sD ?_ (fA _ _ _))
   ·refine Eq.trans (b:=fam0 (doL s k o (ev0 k t)).1.ths k j) ?_ rfl
    repeat (first|exact rfl|refine hscrO ?_ (xC _ _ _ _)|refine oE ?_ (gN _ _ _ _)|conv=>lhs;whnf)
   ·rfl
   ·rfl
theorem stepI_ok0 (hI:yO) (E:TypeId) (p:ProgL) (s:StL) (k:Nat) (hp:p.wf) (hk:k<s.ths.length) (h5:s.ths.length≤5)
  (hs:s.small) (hr:s.ths[k].ready p s k) (hst3:s.ths[k].st≠3) (hfl:∀ x∈s.ths[k].stack,x<18446744073709551616) (hjo:∀ o,yG p s.ths[k]=some o→yB s k o=0→o.code=15→∃ j,yU (yP s.ths[k] o 0) s.ths.length=some j∧yA s s.ths[k]=some j)
  (H0:Key→Option Ob) (hH:AtC E [] s H0) :
  IOCall EE 92 [.ptr (.l 0) 0,agg (encProg p),i64 k] H0 (fun r H1=>r=agg (encEv (zM p s k).2)∧H1=stHC E [] (zM p s k).1):=by
 have hp3:InertL []:=fun x hx=>by cases hx
 refine io_canon hp3 hk ?_ hH fun H0 a b c d e f=>stepI_A0 hI E p s k hp hk h5 hs hr hst3 hfl hjo H0 a b c d e f
 simp only[List.map_cons,List.map_nil,g9]
 rfl
end Ai
namespace Ai
set_option maxRecDepth 100000
open Go Go.Proofs
def r4 (p:ProgL):List AV:=[i64 p.cells,i64 p.locks,i64 p.conds,.uqd 157 1 0 183 4 (p.rs.map fun _=>[.nil]) (zX p)]
theorem pJ (o:Nat) (p:ProgL):ownRows o 0 (p.rs.map fun _=>[.nil]) (zX p)=(List.range p.rs.length).map fun j=>[.ref (.s o j) 0 ((zX p).getD j []).length]:=by
 unfold ownRows
 apply List.ext_getElem?
 intro j
 by_cases h:j<p.rs.length
 ·simp[h]
 ·rw[List.getElem?_eq_none (by simp;omega),List.getElem?_eq_none (by simp;omega)]
theorem r3 {o o':Nat} {p:ProgL} (f:List AV→List AV) (h:∀ j n,f [.ref (.s o j) 0 n]=[.ref (.s o' j) 0 n]):(ownRows o 0 (p.rs.map fun _=>[.nil]) (zX p)).map f=ownRows o' 0 (p.rs.map fun _=>[.nil]) (zX p):=by
 rw[pJ,pJ,List.map_map]
 exact List.map_congr_left fun j _=>h j _
theorem ownRows_M (p:ProgL):ownRows 903 0 (p.rs.map fun _=>[.nil]) (zX p)=wK (zX p) 0:=by
 rw[pJ]
 unfold wK
 rw[show(zX p).length=p.rs.length by simp[zX]]
 refine List.map_congr_left fun j _=>?_
 unfold dV
 rw[if_neg (by omega)]
theorem toProg_own (p:ProgL) (h:p.rs.length≤1048576∧∀ x∈p.rs,x.length≤1048576):CallsTo EE 13 [agg (encProg p)] (·=.own (r4 p)):=by
 refine callsTo_of_AW (fn:=Tryz.f13) Tryz.func13 rfl (by kernel_rfl) rfl ?_
 conv=>whnf
 refine⟨_,toOpSS_own _ h.1 h.2,?_⟩
 rintro r rfl
 conv=>whnf
 refine .inr (.inr ⟨r4 p,_,gV shA,rfl,?_,jM ⟨trivial,trivial,trivial,⟨?_,fun j q hq=>?_⟩,trivial⟩,rfl⟩)
 ·intro v hv
  simp only[r4,List.mem_cons,List.not_mem_nil,or_false] at hv
  rcases hv with rfl|rfl|rfl|rfl
  ·trivial
  ·trivial
  ·trivial
  ·show(p.rs.map _).length=(zX p).length
   simp[zX]
 ·show some (Ob.rs 157 1 ((ownRows 900 0 (p.rs.map fun _=>[.nil]) (zX p)).map (renL shA.f)))=some (Ob.rs 157 1 (ownRows 903 0 (p.rs.map fun _=>[.nil]) (zX p)))
  exact congrArg (fun x=>some (Ob.rs 157 1 x)) (r3 _ fun j n=>rfl)
 ·have hq:(zX p)[j]?=some q:=hq
  have e:ownH [.uqd 157 1 0 183 4 (p.rs.map fun _=>[.nil]) (zX p)] (.s 900 j)=some (.ds 183 4 q):=by
   show((zX p)[j]?).map (Ob.ds 183 4)=_
   rw[hq]
   rfl
  show Option.map (renO shA.f) (match ownH [.uqd 157 1 0 183 4 (p.rs.map fun _=>[.nil]) (zX p)] (.s 900 j) with|some ob=>some ob|none=>_)=_
  rw[e]
  rfl
end Ai
namespace Ai
set_option maxRecDepth 100000
open Go Go.Proofs Cyc
theorem ownPg_fam {p:ProgL} {j:Nat}:ownH (r4 p) (.s 903 j)=qH (zX p) 0 j:=by
 show((zX p)[j]?).map (Ob.ds 183 4)=_
 unfold qH
 rw[if_neg (by omega)]
theorem fz_own {p:ProgL} {S:St} {n:Nat} (h1:S.H (.n 903)=some (.rs 157 1 (wK (zX p) 0))) (h2:∀ j,S.H (.s 903 j)=qH (zX p) 0 j) (hn:n=p.rs.length) :
  FzC S [i64 p.cells,i64 p.locks,i64 p.conds,.dref (.n 903) n] (encProg p):=by
 subst hn
 refine⟨di p.cells,_,rfl,rfl,di p.locks,_,rfl,rfl,di p.conds,_,rfl,rfl,.sl (p.rs.map yD),_,rfl,⟨_,rfl,m3 h1 (by simp) (by simp[wK,zX]) ?_⟩,rfl⟩
 intro j row d hr hd
 have hj:j<p.rs.length:=by
  have:=(List.getElem?_eq_some_iff.1 hd).1
  simpa using this
 have hjs:j<(zX p).length:=by simpa[zX] using hj
 rw[iH hjs] at hr
 rw[List.getElem?_map,List.getElem?_eq_getElem hj] at hd
 simp only[Option.map_some,Option.some.injEq] at hr hd
 subst hr hd
 have hg:(zX p)[j]=p.rs[j].map encOp:=by simp[zX,gI]
 have h3:=h2 j
 unfold qH at h3
 rw[if_neg (by omega),List.getElem?_eq_getElem hjs,hg] at h3
 unfold dV
 rw[if_neg (by omega)]
 simp[fz1s,fz1,h3,List.getD_eq_getElem?_getD,hjs,hg,yD,List.take_of_length_le]
theorem rowsM_ren0 (subs:List (List (List D))) (a b:Nat):(wK subs 0).map (renL (swp (.n a) (.n b)))=wK subs 0:=lM subs fun j=>rfl
theorem tot_size {p:ProgL} (h:p.size≤1048576):tot (zX p) (zX p).length≤1048576:=by
 unfold ProgL.size jL at h
 unfold tot zX
 rw[List.take_length,List.map_map]
 have e:(List.length ∘ gI:List OpL→Nat)=List.length:=by funext r;simp[gI]
 rw[e];omega
theorem ops4 (p:ProgL):∀ q∈zX p,∀ c∈q,c.length=4:=by
 intro q hq c hc
 obtain⟨r,_,rfl⟩:=List.mem_map.1 hq
 obtain⟨y,_,rfl⟩:=List.mem_map.1 hc
 rfl
end Ai
namespace Ai
open Go Go.RowKit
def Snd (E:Env) (N:Nat) (c:Code) (Q:AX→St→Prop) (s:St):Prop:=∀ (A:Fr) (w0:World) (m:Own) (a:Act) (w:World),SRel E N A w0 m s a w→c.wp E.P (vT E N A w0 Q) a w
section
variable {E:Env} {N:Nat} {s:St} {Q:AX→St→Prop}
theorem iC {c:Code} (h:AW E N c Q s):Snd E N c Q s:=fun A w0 m a w hs=>nT c Q hs h
theorem snd_weak {c:Code} {s':St} (hw:Weak E N s s') (h:Snd E N c Q s'):Snd E N c Q s:=fun A w0 m a w hs=>by
 obtain⟨m',h'⟩:=hw A w0 m a w hs
 exact h A w0 m' a w h'
theorem snd_seq {x y:Code} {K:St→Prop} (h:AW E N x (bC K Q) s) (h2:∀ s,K s→Snd E N y Q s):Snd E N (.seq x y) Q s:=fun A w0 m a w hs=>by
 refine wp_seq (wp_mono (nT x _ hs h) fun e a' w' hq=>?_)
 cases e with
 |normal =>
  obtain⟨m',s',hS,hk⟩:=hq
  exact h2 s' hk A w0 m' a' w' hS
 |exit id=>exact hq
 |ret=>exact hq
 |goto l=>exact hq.elim
 |panic ch=>exact hq.elim
 |outgrown=>exact hq.elim
theorem snd_pre {K:St→Prop}:∀ (n:Nat) (c:Code) (s:St),mQ E N K Q n c s→(∀ s,K s→Snd E N (dropC n c) Q s)→Snd E N c Q s
 | 0,c,s,h,h2=>by
  have:=h2 s h
  cases c <;> exact this
 |n+1,c,s,h,h2=>by
  cases c with
  |seq x y=>exact snd_seq (K:=mQ E N K Q n y) h fun s' hk=>snd_pre n y s' hk h2
  | _=>exact iC h
theorem snd_cut {c:Code} (n:Nat) (C:St→Prop) (h1:∀ K:St→Prop,(∀ s s',Weak E N s s'→C s'→K s)→mQ E N K Q n c s) (h2:∀ s,C s→Snd E N (dropC n c) Q s):Snd E N c Q s :=
 snd_pre (K:=fun s=>∃ s',Weak E N s s'∧C s') n c s (h1 _ fun s s' hw hc=>⟨s',hw,hc⟩) fun s ⟨s',hw,hc⟩=>snd_weak hw (h2 s' hc)
end
section
variable {E:Env} {w:World}
theorem j6 {A:Nat→Prop} {f:FuncId} {fn:Func} {c:Code} {as1:List AV} {R:AV→Prop} {vs:Array Value} (hf:E.P.funcs[f]?=some fn) (hb:fn.body=some c) (hN:Nat.ble as1.length fn.ntmps=true)
  (h:Snd E fn.ntmps c (eD E fn R) (St.init as1)) (hI:E.I w) (hr:ARel w A as1 vs) :
  Calls E.P f vs w fun e w'=>∃ v,e=.returned v∧∃ r,R r∧Below w.heap.size w w'∧eP w w' A r v:=by
 have hN':as1.length≤fn.ntmps:=Nat.le_of_ble_eq_true hN
 have hsz:vs.size≤fn.ntmps:=by rw[← hr.1];exact hN'
 refine calls_of_wp hf hb ?_
 have hS:SRel E fn.ntmps ⟨fun b=>A b∨w.heap.size≤b,fun _=>False,fun _=>none,fun _=>none⟩ w (fun _=>none) (St.init as1) { tmps:=vs++Array.replicate (fn.ntmps - vs.size) undef,defers:=[] } w:=by
  refine⟨by simp;omega,rfl,Below.refl _ _,hI,fun i hi=>?_,fun o ob ho=>by simp[St.init] at ho,fun o o' p p' ho=>by simp[St.init] at ho,fun b hb=>.inl (.inr hb),fun b hb=>hb.elim,fun n hn=>absurd rfl hn⟩
  by_cases hlt:i<as1.length
  ·have h1:as1[i]?=some as1[i]:=List.getElem?_eq_getElem hlt
   have hlv:i<vs.size:=by rw[← hr.1];exact hlt
   have:=hr.2 i as1[i] vs[i] h1 (Array.getElem?_eq_getElem hlv)
   have e1:(St.init as1).τ i=as1[i]:=by simp[St.init,List.getD,h1]
   have e2:(vs++Array.replicate (fn.ntmps - vs.size) undef).getD i undef=vs[i]:=by
    rw[Array.getD_eq_getD_getElem?,Array.getElem?_append_left hlv,Array.getElem?_eq_getElem hlv];rfl
   rw[e1]
   show VRel _ _ _ _ _ ((vs++Array.replicate (fn.ntmps - vs.size) undef).getD i undef)
   rw[e2]
   exact this.lift fun b hb=>⟨hb.1,fun o ho=>by simp[St.init] at ho,.inl hb.2⟩
  ·have e1:(St.init as1).τ i=.junk:=by simp[St.init,List.getD,List.getElem?_eq_none (Nat.le_of_not_lt hlt)]
   rw[e1];exact .junk _
 refine wp_mono (h _ _ _ _ _ hS) fun e a' w' hq=>?_
 cases e with
 |normal =>
  obtain⟨m',s',hS',hk⟩:=hq
  refine⟨hS'.defers,?_⟩
  have fin:(match vG E fn.ntmps s' fn.results.toList with|some r=>kv r R|none=>False)∨vF E fn.ntmps s' fn.results.toList R∨mM E fn.ntmps s' fn.results.toList R:=by
   have hk2:(match dW E fn.ntmps s' fn.results.toList with
    |some [.agg cs]=>bif zZ cs then (match vG E fn.ntmps s' fn.results.toList with|some r=>kv r R|none=>False)∨vF E fn.ntmps s' fn.results.toList R
      else (match vG E fn.ntmps s' fn.results.toList with|some r=>kv r R|none=>vF E fn.ntmps s' fn.results.toList R)
    |some (v1::v2::vs)=>bif zZ (v1::v2::vs) || kV (v1::v2::vs) then (match vG E fn.ntmps s' fn.results.toList with|some r=>kv r R|none=>vF E fn.ntmps s' fn.results.toList R)∨mM E fn.ntmps s' fn.results.toList R
      else (match vG E fn.ntmps s' fn.results.toList with|some r=>kv r R|none=>vF E fn.ntmps s' fn.results.toList R)
    | _=>(match vG E fn.ntmps s' fn.results.toList with|some r=>kv r R|none=>vF E fn.ntmps s' fn.results.toList R)):=hk
   have both:(match vG E fn.ntmps s' fn.results.toList with|some r=>kv r R|none=>vF E fn.ntmps s' fn.results.toList R)→(match vG E fn.ntmps s' fn.results.toList with|some r=>kv r R|none=>False)∨vF E fn.ntmps s' fn.results.toList R∨mM E fn.ntmps s' fn.results.toList R:=by
    intro h
    split at h
    ·exact .inl h
    ·exact .inr (.inl h)
   split at hk2
   ·rename_i cs _
    cases hq:zZ cs with
    |true =>
     rw[hq] at hk2
     rcases hk2 with hk2|hk2
     ·exact .inl hk2
     ·exact .inr (.inl hk2)
    |false=>rw[hq] at hk2;exact both hk2
   ·rename_i v1 v2 vs _
    cases hq:zZ (v1::v2::vs) || kV (v1::v2::vs) with
    |true =>
     rw[hq] at hk2
     rcases hk2 with hk2|hk2
     ·exact both hk2
     ·exact .inr (.inr hk2)
    |false=>rw[hq] at hk2;exact both hk2
   ·exact both hk2
  rcases fin with hk2|hk2|hk2
  ·split at hk2
   ·rename_i r ho
    rw[yY] at hk2
    obtain⟨v,hv,hrr⟩:=mS hS' (B:=A) (fun b hb=>hb) fn ho
    exact⟨v,hv,v,rfl,r,hk2,hS'.below,hrr⟩
   ·exact hk2.elim
  ·obtain⟨v,r,hv,hR,hrr⟩:=mN hS' (B:=A) (fun b hb=>hb) fn hk2
   exact⟨v,hv,v,rfl,r,hR,hS'.below,hrr⟩
  ·obtain⟨v,r,hv,hR,hrr⟩:=mL hS' (B:=A) (fun b hb=>hb) fn hk2
   exact⟨v,hv,v,rfl,r,hR,hS'.below,hrr⟩
 |ret =>
  obtain⟨m',s',hS',hk⟩:=hq
  refine⟨hS'.defers,?_⟩
  have fin:(match vG E fn.ntmps s' fn.results.toList with|some r=>kv r R|none=>False)∨vF E fn.ntmps s' fn.results.toList R∨mM E fn.ntmps s' fn.results.toList R:=by
   have hk2:(match dW E fn.ntmps s' fn.results.toList with
    |some [.agg cs]=>bif zZ cs then (match vG E fn.ntmps s' fn.results.toList with|some r=>kv r R|none=>False)∨vF E fn.ntmps s' fn.results.toList R
      else (match vG E fn.ntmps s' fn.results.toList with|some r=>kv r R|none=>vF E fn.ntmps s' fn.results.toList R)
    |some (v1::v2::vs)=>bif zZ (v1::v2::vs) || kV (v1::v2::vs) then (match vG E fn.ntmps s' fn.results.toList with|some r=>kv r R|none=>vF E fn.ntmps s' fn.results.toList R)∨mM E fn.ntmps s' fn.results.toList R
      else (match vG E fn.ntmps s' fn.results.toList with|some r=>kv r R|none=>vF E fn.ntmps s' fn.results.toList R)
    | _=>(match vG E fn.ntmps s' fn.results.toList with|some r=>kv r R|none=>vF E fn.ntmps s' fn.results.toList R)):=hk
   have both:(match vG E fn.ntmps s' fn.results.toList with|some r=>kv r R|none=>vF E fn.ntmps s' fn.results.toList R)→(match vG E fn.ntmps s' fn.results.toList with|some r=>kv r R|none=>False)∨vF E fn.ntmps s' fn.results.toList R∨mM E fn.ntmps s' fn.results.toList R:=by
    intro h
    split at h
    ·exact .inl h
    ·exact .inr (.inl h)
   split at hk2
   ·rename_i cs _
    cases hq:zZ cs with
    |true =>
     rw[hq] at hk2
     rcases hk2 with hk2|hk2
     ·exact .inl hk2
     ·exact .inr (.inl hk2)
    |false=>rw[hq] at hk2;exact both hk2
   ·rename_i v1 v2 vs _
    cases hq:zZ (v1::v2::vs) || kV (v1::v2::vs) with
    |true =>
     rw[hq] at hk2
     rcases hk2 with hk2|hk2
     ·exact both hk2
     ·exact .inr (.inr hk2)
    |false=>rw[hq] at hk2;exact both hk2
   ·exact both hk2
  rcases fin with hk2|hk2|hk2
  ·split at hk2
   ·rename_i r ho
    rw[yY] at hk2
    obtain⟨v,hv,hrr⟩:=mS hS' (B:=A) (fun b hb=>hb) fn ho
    exact⟨v,hv,v,rfl,r,hk2,hS'.below,hrr⟩
   ·exact hk2.elim
  ·obtain⟨v,r,hv,hR,hrr⟩:=mN hS' (B:=A) (fun b hb=>hb) fn hk2
   exact⟨v,hv,v,rfl,r,hR,hS'.below,hrr⟩
  ·obtain⟨v,r,hv,hR,hrr⟩:=mL hS' (B:=A) (fun b hb=>hb) fn hk2
   exact⟨v,hv,v,rfl,r,hR,hS'.below,hrr⟩
 |exit i =>
  obtain⟨m',s',hS',hk⟩:=hq
  exact hk.elim
 |goto l=>exact hq.elim
 |panic ch=>exact hq.elim
 |outgrown=>exact hq.elim
theorem aL {f : FuncId} {fn : Func} {c : Code} {as1 : List AV} {R : AV → Prop} (hf : E.P.funcs[f]? = some fn) (hb : fn.body = some c) (hn : (fn.name == "runtime.NumGoroutine") = false) (hN : Nat.ble as1.length fn.ntmps = true)
  (h:Snd E fn.ntmps c (eD E fn R) (St.init as1)):CallsTo E f as1 R:=by
 intro w A vs hI hr
 have hrun:(callFunc f vs).run E.P w=.ok (.enter f vs) w:=by
  simp only[callFunc,Sem.run_bind,run_program,Result.andThen_ok,hf,hn,hb]
  rfl
 unfold Invokes
 rw[hrun]
 exact(j6 hf hb hN h hI hr).mono fun e w' ⟨v,he,hp⟩=>⟨v,he,hp⟩
end
end Ai
namespace Ai
set_option maxRecDepth 100000
open Go Go.Proofs Cyc
def refR (o:Nat) (x:RunT):List AV:=[i64 x.c,.ref (.n 901) 0 x.tr.length,.ref (.n 902) 0 x.tk.length,.dref (.n o) x.s.ths.length,.ref (.n 904) 0 x.s.cells.length,.ref (.n 905) 0 x.s.owner.length,i64 x.s.fault]
theorem fz_ownR {o:Nat} {x:RunT} {S:St} (h1:S.H (.n 901)=some (.ds 128 5 (x.tr.map encEv))) (h2:S.H (.n 902)=some (.ds 3 1 (x.tk.map encInt))) (h3:S.H (.n o)=some (.rs 175 6 (thRows o x.s.ths))) (h4:∀ j,S.H (.s o j)=zK x.s.ths j)
  (h5:S.H (.n 904)=some (.ds 132 1 (x.s.cells.map encF))) (h6:S.H (.n 905)=some (.ds 3 1 (x.s.owner.map encInt))):FzC S (refR o x) (encRT x):=by
 refine⟨di x.c,_,rfl,rfl,.sl (x.tr.map encEv),_,rfl,?_,.sl (x.tk.map encInt),_,rfl,?_,.sl (x.s.ths.map zD),_,rfl,⟨_,rfl,?_⟩,.sl (x.s.cells.map encF),_,rfl,?_,.sl (x.s.owner.map encInt),_,rfl,?_,di x.s.fault,[],rfl,rfl,rfl⟩
 ·simp[FzD,fz1,h1,List.take_of_length_le]
 ·simp[FzD,fz1,h2,List.take_of_length_le]
 ·unfold kJ
  rw[h3]
  refine⟨by simp,fun j row hj hr=>?_⟩
  rw[yV hj] at hr
  simp only[Option.some.injEq] at hr
  subst hr
  exact⟨zD x.s.ths[j],by simp[hj],fz_row ((h4 j).trans (thFam_self hj))⟩
 ·simp[FzD,fz1,h5,List.take_of_length_le]
 ·simp[FzD,fz1,h6,List.take_of_length_le]
def numZ (k:Nat):Nat:=bif Nat.beq k 903 then 963 else bif Nat.beq k 963 then 903 else k
theorem pM (k:Nat):numZ (numZ k)=k:=by
 by_cases h1:k=903
 ·subst h1;rfl
 by_cases h2:k=963
 ·subst h2;rfl
 have e:numZ k=k:=by unfold numZ;rw[nbeq_ne h1,nbeq_ne h2];rfl
 rw[e,e]
def shZ:Sh:=mkSh numZ pM
def mI (subs:List (List (List D))):List (List AV):=(List.range subs.length).map fun j=>[.ref (.s 963 j) 0 (subs.getD j []).length]
theorem rowsM_Z (subs:List (List (List D))):(wK subs 0).map (renL shZ.f)=mI subs:=by
 unfold wK mI
 rw[List.map_map]
 refine List.map_congr_left fun j _=>?_
 show renL _ (dV subs 0 j)=_
 unfold dV
 rw[if_neg (by omega)]
 rfl
theorem rowsZ_M (subs:List (List (List D))):(mI subs).map (renL shZ.f)=wK subs 0:=by
 unfold wK mI
 rw[List.map_map]
 refine List.map_congr_left fun j _=>?_
 show _=dV subs 0 j
 unfold dV
 rw[if_neg (by omega)]
 rfl
theorem iF {p:Key→Bool} (subs:List (List (List D))) (hp:∀ j,p (.s 963 j)=false):(mI subs).map (scrPL p)=mI subs:=by
 unfold mI
 rw[List.map_map]
 refine List.map_congr_left fun j _=>?_
 show scrPL p [_]=_
 simp[scrPL,scrP,hp j]
theorem totT_size {s:StL} (h:s.size≤1048576):xN s.ths s.ths.length≤8388608:=by
 unfold StL.size jL at h
 unfold xN
 rw[List.take_length]
 have:∀ l:List Th,(l.map fun t=>5+t.stack.length).sum=5*l.length+(l.map Th.stl).sum:=by
  intro l
  induction l with
  |nil=>rfl
  |cons a l ih=>simp only[List.map_cons,List.sum_cons,List.length_cons,ih,Th.stl];omega
 rw[this]
 omega
structure SmX (p:ProgL) (x:RunT):Prop where
 hs:p.rs.length≤1048576∧∀ x∈p.rs,x.length≤1048576
 hz:p.size≤1048576
 hx:x.fit
 ht:xN x.s.ths x.s.ths.length≤8388608
end Ai
namespace Ai
set_option maxRecDepth 100000
open Go Go.Proofs Cyc
theorem fz_runV {S:St} (x:RunT):FzA S (agg (encRT x)) (agg (encRT x)):=⟨encRT x,rfl,_,_,rfl,rfl,_,_,rfl,rfl,_,_,rfl,rfl,_,_,rfl,rfl,_,_,rfl,rfl,_,_,rfl,rfl,_,_,rfl,rfl,rfl⟩
end Ai
namespace Ai
set_option maxRecDepth 100000
open Go Go.Proofs Cyc
theorem runT_x {p:ProgL} (hg:p.goodS) (hv:p.flt) {b:Int} (picks:List Int) (hpk:∀ i∈picks,0≤i):∀ n s tr tk,XR p b ⟨0,tr,tk,s⟩→b.toNat+1 - tr.length≤n→XEnd p b (lL p picks b n s tr tk)
 | 0,s,tr,tk,h,hn=>by
  have hb:(tr.length:Int)≤b:=h.le
  omega
 |n+1,s,tr,tk,h,hn=>by
  unfold lL
  split
  ·rename_i hc
   exact XR.leaf h hc
  ·rename_i hc
   have h1:=(en_ne hc).1
   have h3:=y9 p s picks tk hpk h1
   generalize wX picks tk (zA p s).length=k at h3
   obtain⟨k,rfl⟩:=Int.eq_ofNat_of_zero_le h3.1
   have hk:k<(zA p s).length:=by omega
   have:=XR.step hg hv h hc hk
   exact runT_x hg hv picks hpk n _ _ _ this (by simp;omega)
theorem isRn_x {p:ProgL} (hv:p.flt) {x:RunT} (h:IsRn p x):XEnd p x.tk.length x:=by
 have:=runT_x h.1 hv (b:=x.tk.length) x.tk (fun i hi=>(h.2.2.1.2 i hi).1) _ _ _ _ (XR.new h.1 (by omega)) (Nat.le_refl _)
 have e:lL p x.tk x.tk.length ((x.tk.length:Int).toNat+1 - ([]:List Ev).length) (xV p) [] []=x:=h.2.2.2
 rwa [e] at this
end Ai
namespace Ai
set_option maxRecDepth 100000
open Go Go.Proofs Cyc
structure CallL where
 th:Int
 inv:Int
 ret:Int
 wr:Bool
 v:Nat
def wO (c:CallL):List D:=[di c.th,di c.inv,di c.ret,.bool c.wr,.flt c.v]
noncomputable def lX (p:ProgL) (x:RunT) (c:Int) (k:Nat):CallL:=⟨(x.tr.getD k gO).th,2*(k:Int),2*(k:Int)+1,(x.tr.getD k gO).kind==3,(xE p x.tr (k+1)).cells.getD c.toNat 0⟩
open Classical in
noncomputable def yF (p:ProgL) (x:RunT) (c:Int):Nat→List CallL
 | 0=>[]
 |k+1=>if gW (x.tr.getD k gO)∧(x.tr.getD k gO).obj=c∧(yF p x c k).length<8 then yF p x c k++[lX p x c k] else yF p x c k
theorem nD (p:ProgL) (x:RunT) (c:Int):∀ k,(yF p x c k).length≤8
 | 0=>by simp[yF]
 |k+1=>by
  have:=nD p x c k
  unfold yF
  split
  ·simp;omega
  ·exact this
open Classical in
/-- the answer of CellHistory -/
noncomputable def vD (p:ProgL) (x:RunT) (c:Int):List CallL × Bool:=if IsRn p x∧InR c 0 (p.cells - 1) then (yF p x c x.tr.length,true) else ([],false)
theorem HistS_ok (p:ProgL) (hp:p.wf) (hs:p.rs.length≤1048576∧∀ x∈p.rs,x.length≤1048576) (hv:p.flt) (hc:p.cn) (x:RunT) (hx:x.fit) (hf:x.s.cf) (c:Int) :
  CallsTo EE 40 [agg (encProg p),agg (encRT x),i64 c] (·=.tup [sl ((vD p x c).1.map wO),bv (vD p x c).2]):=by
 classical
 unfold vD
 refine callsTo_of_AW (fn:=Tryz.f40) Tryz.func40 rfl (by kernel_rfl) rfl ?_
 conv=>whnf
 refine ocase (d9 p hs hv) (fun hg=>?_) (fun hg=>?_)
 rotate_left 1
 ·rw[if_neg fun e=>hg e.1.1]
  conv=>whnf
  refine .inl ?_
  conv=>whnf
  rfl
 conv=>whnf
 refine ocase (l4Is_ok p hp hg hv hc x hx hf) (fun hi=>?_) (fun hi=>?_)
 rotate_left 1
 ·rw[if_neg fun e=>hi e.1]
  conv=>whnf
  refine .inl ?_
  conv=>whnf
  rfl
 have hxe:=isRn_x hv hi
 have hok:=rN hg
 obtain⟨b1,b2,b3,b4⟩:=hg.1
 have hw1:IntKind.i64.wrap (p.cells - 1)=p.cells - 1:=zG (by have:=b1.1;omega) (by have:=b1.2;omega)
 conv=>whnf
 rw[hw1]
 refine ocase (jT c 0 (p.cells - 1)) (fun hin=>?_) (fun hin=>?_)
 rotate_left 1
 ·rw[if_neg fun e=>hin e.2]
  conv=>whnf
  refine .inl ?_
  conv=>whnf
  rfl
 rw[if_pos ⟨hi,hin⟩]
 conv=>whnf
 refine⟨_,e8 p ⟨b1.1,by have:=b1.2;omega⟩ ⟨b2.1,by have:=b2.2;omega⟩,?_⟩
 rintro r rfl
 conv=>whnf
 refine yZ (fun k:Nat=>[(2,i64 c),(3,.ptr (.n 3) 0),(4,.ptr (.n 4) 0),(8,.ptr (.n 8) 0),(9,.ref (.n 9) 0 (yF p x c k).length),(34,sl (x.tr.map encEv)),(35,i64 (x.tr.map encEv).length),(36,i64 k)])
  (fun k=>[(.n 3,.vs 31 ((encProg p).map .d)),(.n 4,.vs 56 ((encRT x).map .d)),(.n 8,.vs 54 ((yL (xE p x.tr k)).map .d)),(.n 9,.ds 134 5 ((yF p x c k).map wO))]) (fun k=>x.tr.length - k) (fun k=>k≤x.tr.length) 0 (mA 9 (.n 9) 134 5 rfl)
  ⟨rfl,rfl,rfl,rfl,rfl,rfl,rfl,rfl,trivial⟩ ⟨rfl,rfl,rfl,rfl,trivial⟩ (Nat.zero_le _) ?_
 rintro k τ H hk
 have hk:k≤x.tr.length:=hk
 have hai:=bE hg hv hxe.en k hk
 have hsm:=hok.small _ hai.si
 have htr:=hi.2.1
 have hl8:=nD p x c k
 conv=>whnf
 refine kbi (fun h=>?_) (fun h=>?_)
 ·have hlt:k<x.tr.length:=by simpa using h
  have hme:=hxe.en k hlt
  rw[jF hlt] at hme
  have hwl:=sG hme.1
  have hst:=pP m8 p (xE p x.tr k) x.tr[k].th.toNat hp hwl hsm.2 hsm.1 (pT hg hai.si hwl)
  rw[Int.toNat_of_nonneg hme.2] at hst
  have hS:xE p x.tr (k+1)=(zM p (xE p x.tr k) x.tr[k].th.toNat).1:=by rw[xE,jF hlt]
  have hai2:=bE hg hv hxe.en (k+1) hlt
  have hcl:c.toNat<(xE p x.tr (k+1)).cells.length:=by have:=hai2.si.cells;have:=hin.1;have:=hin.2;omega
  have hgt:((xE p x.tr (k+1)).cells.map encF)[c.toNat]?=some (encF ((xE p x.tr (k+1)).cells.getD c.toNat 0)):=by
   rw[List.getElem?_map,List.getElem?_eq_getElem hcl,List.getD_eq_getElem?_getD,List.getElem?_eq_getElem hcl];rfl
  have hH:yF p x c (k+1)=if gW x.tr[k]∧x.tr[k].obj=c∧(yF p x c k).length<8 then yF p x c k++[lX p x c k] else yF p x c k:=by rw[yF,jF hlt]
  have hC:lX p x c k=⟨x.tr[k].th,2*(k:Int),2*(k:Int)+1,x.tr[k].kind==3,(xE p x.tr (k+1)).cells.getD c.toNat 0⟩:=by unfold lX;rw[jF hlt]
  have hw2:IntKind.i64.wrap (2*(k:Int))=2*(k:Int):=zG (by omega) (by omega)
  have hw3:IntKind.i64.wrap (2*(k:Int)+1)=2*(k:Int)+1:=zG (by omega) (by omega)
  rw[hS] at hcl hgt hC
  conv=>whnf
  refine⟨encEv x.tr[k],zN encEv hlt rfl,?_⟩
  conv=>whnf
  refine⟨_,hst,?_⟩
  rintro r rfl
  conv=>whnf
  refine ocase (touchS_ok x.tr[k]) (fun h1=>?_) (fun h1=>?_)
  ·conv=>whnf
   refine kbi (fun h2=>?_) (fun h2=>?_)
   ·have h2:x.tr[k].obj=c:=by simpa using h2
    conv=>whnf
    refine kbi (fun h3=>?_) (fun h3=>?_)
    ·have h3:(yF p x c k).length<8:=by have:=of_decide_eq_true h3;omega
     conv=>whnf
     refine .inl ⟨18,by kernel_rfl,?_⟩
     conv=>whnf
     refine kbi (fun h4=>?_) (fun h4=>?_)
     ·conv=>whnf
      refine⟨encF _,⟨hin.1,hgt,rfl⟩,?_⟩
      conv=>whnf
      refine⟨⟨rfl,by show((yF p x c k).length+1)*40≤_;omega,by show(yF p x c k).length+1≤_;omega⟩,?_⟩
      conv=>whnf
      rw[if_pos ⟨h1,h2,h3⟩] at hH
      refine⟨k+1,hlt,by show x.tr.length - (k+1)<x.tr.length - k;omega,⟨rfl,rfl,rfl,rfl,?_,rfl,rfl,zH hlt (by omega),trivial⟩,⟨rfl,rfl,?_,?_,trivial⟩⟩
      ·rw[hH]
       show AV.ref (.n 9) 0 ((yF p x c k).length+1)=_
       simp
      ·rw[hS];rfl
      ·rw[hH,hC]
       show some (Ob.ds 134 5 (((yF p x c k).map wO).take (yF p x c k).length++[[di x.tr[k].th,.int .i64 (IntKind.i64.wrap (2*(k:Int))),.int .i64 (IntKind.i64.wrap (IntKind.i64.wrap (2*(k:Int))+1)),.bool true,.flt _]]))=_
       rw[List.take_of_length_le (by simp),hw2,hw3,List.map_append]
       simp[wO,h4]
     ·conv=>whnf
      refine⟨encF _,⟨hin.1,hgt,rfl⟩,?_⟩
      conv=>whnf
      refine⟨⟨rfl,by show((yF p x c k).length+1)*40≤_;omega,by show(yF p x c k).length+1≤_;omega⟩,?_⟩
      conv=>whnf
      rw[if_pos ⟨h1,h2,h3⟩] at hH
      refine⟨k+1,hlt,by show x.tr.length - (k+1)<x.tr.length - k;omega,⟨rfl,rfl,rfl,rfl,?_,rfl,rfl,zH hlt (by omega),trivial⟩,⟨rfl,rfl,?_,?_,trivial⟩⟩
      ·rw[hH]
       show AV.ref (.n 9) 0 ((yF p x c k).length+1)=_
       simp
      ·rw[hS];rfl
      ·rw[hH,hC]
       show some (Ob.ds 134 5 (((yF p x c k).map wO).take (yF p x c k).length++[[di x.tr[k].th,.int .i64 (IntKind.i64.wrap (2*(k:Int))),.int .i64 (IntKind.i64.wrap (IntKind.i64.wrap (2*(k:Int))+1)),.bool false,.flt _]]))=_
       rw[List.take_of_length_le (by simp),hw2,hw3,List.map_append]
       simp[wO,h4]
    ·have h3:¬ (yF p x c k).length<8:=fun e=>h3 (decide_eq_true (by omega))
     rw[if_neg fun e=>h3 e.2.2] at hH
     conv=>whnf
     refine⟨k+1,hlt,by show x.tr.length - (k+1)<x.tr.length - k;omega,⟨rfl,rfl,rfl,rfl,?_,rfl,rfl,zH hlt (by omega),trivial⟩,⟨rfl,rfl,?_,?_,trivial⟩⟩
     ·rw[hH];rfl
     ·rw[hS];rfl
     ·rw[hH];rfl
   ·have h2:¬ x.tr[k].obj=c:=by simpa using h2
    rw[if_neg fun e=>h2 e.2.1] at hH
    conv=>whnf
    refine⟨k+1,hlt,by show x.tr.length - (k+1)<x.tr.length - k;omega,⟨rfl,rfl,rfl,rfl,?_,rfl,rfl,zH hlt (by omega),trivial⟩,⟨rfl,rfl,?_,?_,trivial⟩⟩
    ·rw[hH];rfl
    ·rw[hS];rfl
    ·rw[hH];rfl
  ·rw[if_neg fun e=>h1 e.1] at hH
   conv=>whnf
   refine⟨k+1,hlt,by show x.tr.length - (k+1)<x.tr.length - k;omega,⟨rfl,rfl,rfl,rfl,?_,rfl,rfl,zH hlt (by omega),trivial⟩,⟨rfl,rfl,?_,?_,trivial⟩⟩
   ·rw[hH];rfl
   ·rw[hS];rfl
   ·rw[hH];rfl
 ·have hge:k=x.tr.length:=by
   have:¬ (k:Int)<(x.tr.map encEv).length:=fun e=>h (decide_eq_true e)
   simp at this;omega
  subst hge
  conv=>whnf
  refine .inl ?_
  conv=>whnf
  rw[List.drop_zero,List.take_of_length_le (by simp)]
end Ai
namespace Ai
set_option maxRecDepth 100000
open Go Go.Proofs Cyc
def oHi (p:ProgL) (x:RunT) (s:StL) (h:List CallL):List (Key × Ob):=[(.n 3,.vs 31 ((encProg p).map .d)),(.n 4,.vs 56 ((encRT x).map .d)),(.n 9,.vs 54 (stRef s)),(.n 900,.rs 175 6 (thRows 900 s.ths)),(.n 901,.ds 132 1 (s.cells.map encF)),(.n 902,.ds 3 1 (s.owner.map encInt)),(.n 24,.ds 134 5 (h.map wO))]
theorem HistI_ok (p:ProgL) (hp:p.wf) (hs:p.rs.length≤1048576∧∀ x∈p.rs,x.length≤1048576) (hv:p.flt) (hc:p.cn) (x:RunT) (hx:x.fit) (hf:x.s.cf) (c:Int) :
  CallsTo EE 41 [agg (encProg p),agg (encRT x),i64 c] (·=.ownF 1 [.uq 134 5 ((vD p x c).1.map wO),bv (vD p x c).2]):=by
 classical
 unfold vD
 refine callsTo_of_AW (fn:=Tryz.f41) Tryz.func41 rfl (by kernel_rfl) rfl ?_
 conv=>whnf
 refine ocase (isRunI_ok p hp hs hv hc x hx hf) (fun hi=>?_) (fun hi=>?_)
 rotate_left 1
 ·rw[if_neg fun e=>hi e.1]
  conv=>whnf
  refine .inr ⟨1,[.uq 134 5 [],bv false],_,[.ref (.n 900) 0 0,bv false],mA 6 (.n 900) 134 5 rfl,rfl,by simp,rfl,?_,jM ⟨rfl,trivial,trivial⟩,rfl⟩
  intro v hv
  simp only[List.mem_cons,List.not_mem_nil,or_false] at hv
  rcases hv with rfl|rfl <;> trivial
 have hg:=hi.1
 have hxe:=isRn_x hv hi
 have hok:=rN hg
 have hri:=runI hg hv
 obtain⟨b1,b2,b3,b4⟩:=hg.1
 have hw1:IntKind.i64.wrap (p.cells - 1)=p.cells - 1:=zG (by have:=b1.1;omega) (by have:=b1.2;omega)
 conv=>whnf
 rw[hw1]
 refine ocase (in_ok c 0 (p.cells - 1)) (fun hin=>?_) (fun hin=>?_)
 rotate_left 1
 ·rw[if_neg fun e=>hin e.2]
  conv=>whnf
  refine .inr ⟨1,[.uq 134 5 [],bv false],_,[.ref (.n 900) 0 0,bv false],mA 6 (.n 900) 134 5 rfl,rfl,by simp,rfl,?_,jM ⟨rfl,trivial,trivial⟩,rfl⟩
  intro v hv
  simp only[List.mem_cons,List.not_mem_nil,or_false] at hv
  rcases hv with rfl|rfl <;> trivial
 rw[if_pos ⟨hi,hin⟩]
 conv=>whnf
 refine⟨_,n6 p ⟨b1.1,by have:=b1.2;omega⟩ ⟨b2.1,by have:=b2.2;omega⟩,?_⟩
 rintro r rfl
 conv=>whnf
 refine fM (fun k:Nat=>[(2,i64 c),(3,.ptr (.n 3) 0),(4,.ptr (.n 4) 0),(8,.ref (.n 24) 0 (yF p x c k).length),(9,.ptr (.n 9) 0),(28,sl (x.tr.map encEv)),(29,i64 (x.tr.map encEv).length),(30,i64 k)])
  (fun k=>oHi p x (xE p x.tr k) (yF p x c k)) (fun k=>[(900,zK (xE p x.tr k).ths)]) (fun k=>x.tr.length - k) (fun k=>k≤x.tr.length) 0 .refl
  ⟨rfl,rfl,rfl,rfl,rfl,rfl,rfl,rfl,trivial⟩ ⟨rfl,rfl,?_,?_,?_,?_,?_,trivial⟩ ⟨fun j=>?_,trivial⟩ (Nat.zero_le _) ?_
 ·show some (Ob.vs 54 [.dref (.n 900) ((xV p).ths.map vR).length,.ref (.n 901) 0 ((xV p).cells.map encF).length,.ref (.n 902) 0 ((xV p).owner.map encInt).length,i64 0])=some (Ob.vs 54 [.dref (.n 900) (xV p).ths.length,.ref (.n 901) 0 (xV p).cells.length,.ref (.n 902) 0 (xV p).owner.length,i64 0])
  rw[List.length_map,List.length_map,List.length_map]
 ·conv=>lhs;whnf
  refine congrArg some ?_
  repeat (first|exact rfl|refine yJ ?_ (congrArg (Ob.rs 175 6) (zV fun _ _=>rfl)))
 ·rfl
 ·rfl
 ·rfl
 ·conv=>lhs;whnf
  repeat (first|exact x3 (xV p) j|(refine hscrO ?_ (zQ _ _ _);conv=>lhs;whnf))
 rintro k τ H hk
 have hk:k≤x.tr.length:=hk
 have hai:=bE hg hv hxe.en k hk
 have hin2:SInv p (xE p x.tr k)∧(xE p x.tr k).flt:=⟨hai.si,hai.fl⟩
 have hsm:=hok.small _ hai.si
 have htr:=hi.2.1
 have hl8:=nD p x c k
 conv=>whnf
 refine kbi (fun h=>?_) (fun h=>?_)
 ·have hlt:k<x.tr.length:=by simpa using h
  have hme:=hxe.en k hlt
  rw[jF hlt] at hme
  have hkl:=sG hme.1
  have hst:=fun H0 hH=>stepI_ok0 m9 54 p (xE p x.tr k) x.tr[k].th.toNat hp hkl hsm.2 hsm.1 (hri.ready _ hin2 _ hme.1 hkl) (hri.awake _ hin2 _ hme.1 hkl) (hri.flt _ hin2 _ (List.getElem_mem hkl)) (hri.joins _ hin2 _ hme.1 hkl) H0 hH
  rw[Int.toNat_of_nonneg hme.2] at hst
  have hS:xE p x.tr (k+1)=(zM p (xE p x.tr k) x.tr[k].th.toNat).1:=by rw[xE,jF hlt]
  have hai2:=bE hg hv hxe.en (k+1) hlt
  have hcl:c.toNat<(xE p x.tr (k+1)).cells.length:=by have:=hai2.si.cells;have:=hin.1;have:=hin.2;omega
  have hgt:((xE p x.tr (k+1)).cells.map encF)[c.toNat]?=some (encF ((xE p x.tr (k+1)).cells.getD c.toNat 0)):=by
   rw[List.getElem?_map,List.getElem?_eq_getElem hcl,List.getD_eq_getElem?_getD,List.getElem?_eq_getElem hcl];rfl
  have hH:yF p x c (k+1)=if gW x.tr[k]∧x.tr[k].obj=c∧(yF p x c k).length<8 then yF p x c k++[lX p x c k] else yF p x c k:=by rw[yF,jF hlt]
  have hC:lX p x c k=⟨x.tr[k].th,2*(k:Int),2*(k:Int)+1,x.tr[k].kind==3,(xE p x.tr (k+1)).cells.getD c.toNat 0⟩:=by unfold lX;rw[jF hlt]
  have hw2:IntKind.i64.wrap (2*(k:Int))=2*(k:Int):=zG (by omega) (by omega)
  have hw3:IntKind.i64.wrap (2*(k:Int)+1)=2*(k:Int)+1:=zG (by omega) (by omega)
  generalize hs0:xE p x.tr k=s at *
  generalize hs1:xE p x.tr (k+1)=s1 at *
  generalize hh0:yF p x c k=h0 at *
  generalize hh1:yF p x c (k+1)=h1 at *
  conv=>whnf
  refine⟨encEv x.tr[k],zN encEv hlt rfl,?_⟩
  conv=>whnf
  refine .inr (.inl ⟨9,0,xZ,_,hst _ ⟨rfl,rfl,?_,fun j=>?_,rfl,rfl⟩,rfl,?_⟩)
  ·show some (Ob.rs 175 6 ((((thRows 900 s.ths).map (scrPL (isK (.n 11)))).map (renL (swp (.n 9) (.l 0)))).map (scrPL fun o=>!xZ o)))=_
   rw[zV (fun _ _=>rfl),wG]
   exact congrArg (fun x=>some (Ob.rs 175 6 x)) (zV fun _ _=>rfl)
  ·show Option.map (scrPO (fun o=>!xZ o)) (Option.map (renO (swp (.n 9) (.l 0))) (Option.map (scrPO (isK (.n 11))) (zK s.ths j)))=zK s.ths j
   rw[zQ,thFam_ren,zQ]
  rintro q H1 ⟨rfl,rfl⟩
  refine⟨iA,fun n hn=>?_,?_⟩
  ·have:n=0:=by simpa[xZ] using hn
   subst this
   exact⟨54,_,_,rfl,rfl⟩
  conv=>whnf
  refine ocase (touchI_ok x.tr[k]) (fun g1=>?_) (fun g1=>?_)
  ·conv=>whnf
   refine kbi (fun g2=>?_) (fun g2=>?_)
   ·have g2:x.tr[k].obj=c:=by simpa using g2
    conv=>whnf
    refine kbi (fun g3=>?_) (fun g3=>?_)
    ·have g3:h0.length<8:=by have:=of_decide_eq_true g3;omega
     conv=>whnf
     refine .inl ⟨18,by kernel_rfl,?_⟩
     conv=>whnf
     refine kbi (fun h4=>?_) (fun h4=>?_)
     ·conv=>whnf
      refine⟨⟨hin.1,by rw[← hS];have:=hcl;omega⟩,?_⟩
      conv=>whnf
      refine⟨encF _,⟨by rw[Nat.zero_add,← hS];exact hgt,by show 0+1≤1;omega⟩,?_⟩
      conv=>whnf
      refine⟨⟨rfl,by show(h0.length+1)*40≤_;omega,by show h0.length+1≤_;omega⟩,?_⟩
      rw[if_pos ⟨g1,g2,g3⟩] at hH
      conv=>whnf
      refine⟨k+1,_,Weak.refl,hlt,by show x.tr.length - (k+1)<x.tr.length - k;omega,⟨rfl,rfl,rfl,?_,rfl,rfl,rfl,zH hlt (by omega),trivial⟩,⟨rfl,rfl,?_,?_,?_,?_,?_,trivial⟩,⟨fun j=>?_,trivial⟩⟩
      ·show _=AV.ref (.n 24) 0 (yF p x c (k+1)).length
       rw[hh1,hH]
       show AV.ref (.n 24) 0 (h0.length+1)=_
       simp
      ·show _=some (Ob.vs 54 (stRef (xE p x.tr (k+1))))
       rw[hs1,hS];rfl
      ·show _=some (Ob.rs 175 6 (thRows 900 (xE p x.tr (k+1)).ths))
       rw[hs1,hS]
       show some (Ob.rs 175 6 (((thRows 900 (zM p s x.tr[k].th.toNat).1.ths).map (renL (swp (.n 9) (.l 0)))).map (scrPL (isK (.n 24)))))=_
       rw[wG,zV (fun _ _=>rfl)]
      ·show _=some (Ob.ds 132 1 ((xE p x.tr (k+1)).cells.map encF))
       rw[hs1,hS];rfl
      ·show _=some (Ob.ds 3 1 ((xE p x.tr (k+1)).owner.map encInt))
       rw[hs1,hS];rfl
      ·show _=some (Ob.ds 134 5 ((yF p x c (k+1)).map wO))
       rw[hh1,hH,hC]
       show some (Ob.ds 134 5 ((h0.map wO).take h0.length++[[di x.tr[k].th,.int .i64 (IntKind.i64.wrap (2*(k:Int))),.int .i64 (IntKind.i64.wrap (IntKind.i64.wrap (2*(k:Int))+1)),.bool true,.flt _]]))=_
       rw[List.take_of_length_le (by simp),hw2,hw3,List.map_append]
       simp[wO,h4]
      ·show _=zK (xE p x.tr (k+1)).ths j
       rw[hs1,hS]
       show Option.map _ (Option.map _ (zK (zM p s x.tr[k].th.toNat).1.ths j))=_
       rw[thFam_ren,zQ]
     ·conv=>whnf
      refine⟨⟨hin.1,by rw[← hS];have:=hcl;omega⟩,?_⟩
      conv=>whnf
      refine⟨encF _,⟨by rw[Nat.zero_add,← hS];exact hgt,by show 0+1≤1;omega⟩,?_⟩
      conv=>whnf
      refine⟨⟨rfl,by show(h0.length+1)*40≤_;omega,by show h0.length+1≤_;omega⟩,?_⟩
      rw[if_pos ⟨g1,g2,g3⟩] at hH
      conv=>whnf
      refine⟨k+1,_,Weak.refl,hlt,by show x.tr.length - (k+1)<x.tr.length - k;omega,⟨rfl,rfl,rfl,?_,rfl,rfl,rfl,zH hlt (by omega),trivial⟩,⟨rfl,rfl,?_,?_,?_,?_,?_,trivial⟩,⟨fun j=>?_,trivial⟩⟩
      ·show _=AV.ref (.n 24) 0 (yF p x c (k+1)).length
       rw[hh1,hH]
       show AV.ref (.n 24) 0 (h0.length+1)=_
       simp
      ·show _=some (Ob.vs 54 (stRef (xE p x.tr (k+1))))
       rw[hs1,hS];rfl
      ·show _=some (Ob.rs 175 6 (thRows 900 (xE p x.tr (k+1)).ths))
       rw[hs1,hS]
       show some (Ob.rs 175 6 (((thRows 900 (zM p s x.tr[k].th.toNat).1.ths).map (renL (swp (.n 9) (.l 0)))).map (scrPL (isK (.n 24)))))=_
       rw[wG,zV (fun _ _=>rfl)]
      ·show _=some (Ob.ds 132 1 ((xE p x.tr (k+1)).cells.map encF))
       rw[hs1,hS];rfl
      ·show _=some (Ob.ds 3 1 ((xE p x.tr (k+1)).owner.map encInt))
       rw[hs1,hS];rfl
      ·show _=some (Ob.ds 134 5 ((yF p x c (k+1)).map wO))
       rw[hh1,hH,hC]
       show some (Ob.ds 134 5 ((h0.map wO).take h0.length++[[di x.tr[k].th,.int .i64 (IntKind.i64.wrap (2*(k:Int))),.int .i64 (IntKind.i64.wrap (IntKind.i64.wrap (2*(k:Int))+1)),.bool false,.flt _]]))=_
       rw[List.take_of_length_le (by simp),hw2,hw3,List.map_append]
       simp[wO,h4]
      ·show _=zK (xE p x.tr (k+1)).ths j
       rw[hs1,hS]
       show Option.map _ (Option.map _ (zK (zM p s x.tr[k].th.toNat).1.ths j))=_
       rw[thFam_ren,zQ]
    ·have g3:¬ h0.length<8:=fun e=>g3 (decide_eq_true (by omega))
     rw[if_neg fun e=>g3 e.2.2] at hH
     conv=>whnf
     refine⟨k+1,_,Weak.refl,hlt,by show x.tr.length - (k+1)<x.tr.length - k;omega,⟨rfl,rfl,rfl,?_,rfl,rfl,rfl,zH hlt (by omega),trivial⟩,⟨rfl,rfl,?_,?_,?_,?_,?_,trivial⟩,⟨fun j=>?_,trivial⟩⟩
     ·show _=AV.ref (.n 24) 0 (yF p x c (k+1)).length
      rw[hh1,hH];rfl
     ·show _=some (Ob.vs 54 (stRef (xE p x.tr (k+1))))
      rw[hs1,hS];rfl
     ·show _=some (Ob.rs 175 6 (thRows 900 (xE p x.tr (k+1)).ths))
      rw[hs1,hS]
      exact congrArg (fun x=>some (Ob.rs 175 6 x)) (wG 9 0 900 _)
     ·show _=some (Ob.ds 132 1 ((xE p x.tr (k+1)).cells.map encF))
      rw[hs1,hS];rfl
     ·show _=some (Ob.ds 3 1 ((xE p x.tr (k+1)).owner.map encInt))
      rw[hs1,hS];rfl
     ·show _=some (Ob.ds 134 5 ((yF p x c (k+1)).map wO))
      rw[hh1,hH];rfl
     ·show _=zK (xE p x.tr (k+1)).ths j
      rw[hs1,hS]
      exact thFam_ren (swp (.n 9) (.l 0)) _ j
   ·have g2:¬ x.tr[k].obj=c:=by simpa using g2
    rw[if_neg fun e=>g2 e.2.1] at hH
    conv=>whnf
    refine⟨k+1,_,Weak.refl,hlt,by show x.tr.length - (k+1)<x.tr.length - k;omega,⟨rfl,rfl,rfl,?_,rfl,rfl,rfl,zH hlt (by omega),trivial⟩,⟨rfl,rfl,?_,?_,?_,?_,?_,trivial⟩,⟨fun j=>?_,trivial⟩⟩
    ·show _=AV.ref (.n 24) 0 (yF p x c (k+1)).length
     rw[hh1,hH];rfl
    ·show _=some (Ob.vs 54 (stRef (xE p x.tr (k+1))))
     rw[hs1,hS];rfl
    ·show _=some (Ob.rs 175 6 (thRows 900 (xE p x.tr (k+1)).ths))
     rw[hs1,hS]
     exact congrArg (fun x=>some (Ob.rs 175 6 x)) (wG 9 0 900 _)
    ·show _=some (Ob.ds 132 1 ((xE p x.tr (k+1)).cells.map encF))
     rw[hs1,hS];rfl
    ·show _=some (Ob.ds 3 1 ((xE p x.tr (k+1)).owner.map encInt))
     rw[hs1,hS];rfl
    ·show _=some (Ob.ds 134 5 ((yF p x c (k+1)).map wO))
     rw[hh1,hH];rfl
    ·show _=zK (xE p x.tr (k+1)).ths j
     rw[hs1,hS]
     exact thFam_ren (swp (.n 9) (.l 0)) _ j
  ·rw[if_neg fun e=>g1 e.1] at hH
   conv=>whnf
   refine⟨k+1,_,Weak.refl,hlt,by show x.tr.length - (k+1)<x.tr.length - k;omega,⟨rfl,rfl,rfl,?_,rfl,rfl,rfl,zH hlt (by omega),trivial⟩,⟨rfl,rfl,?_,?_,?_,?_,?_,trivial⟩,⟨fun j=>?_,trivial⟩⟩
   ·show _=AV.ref (.n 24) 0 (yF p x c (k+1)).length
    rw[hh1,hH];rfl
   ·show _=some (Ob.vs 54 (stRef (xE p x.tr (k+1))))
    rw[hs1,hS];rfl
   ·show _=some (Ob.rs 175 6 (thRows 900 (xE p x.tr (k+1)).ths))
    rw[hs1,hS]
    exact congrArg (fun x=>some (Ob.rs 175 6 x)) (wG 9 0 900 _)
   ·show _=some (Ob.ds 132 1 ((xE p x.tr (k+1)).cells.map encF))
    rw[hs1,hS];rfl
   ·show _=some (Ob.ds 3 1 ((xE p x.tr (k+1)).owner.map encInt))
    rw[hs1,hS];rfl
   ·show _=some (Ob.ds 134 5 ((yF p x c (k+1)).map wO))
    rw[hh1,hH];rfl
   ·show _=zK (xE p x.tr (k+1)).ths j
    rw[hs1,hS]
    exact thFam_ren (swp (.n 9) (.l 0)) _ j
 ·have hge:k=x.tr.length:=by
   have:¬ (k:Int)<(x.tr.map encEv).length:=fun e=>h (decide_eq_true e)
   simp at this;omega
  subst hge
  conv=>whnf
  refine .inr ⟨1,[.uq 134 5 ((yF p x c x.tr.length).map wO),bv true],_,[.ref (.n 900) 0 (yF p x c x.tr.length).length,bv true],wD 24 900,rfl,by simp,?_,?_,jM ⟨?_,trivial,trivial⟩,rfl⟩
  ·show AV.tup [.ref (.n 900) 0 ((yF p x c x.tr.length).map wO).length,bv true]=_
   rw[List.length_map]
  ·intro v hv
   simp only[List.mem_cons,List.not_mem_nil,or_false] at hv
   rcases hv with rfl|rfl <;> trivial
  ·rfl
end Ai
