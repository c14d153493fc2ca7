import Derived.Test.YtbfdknfodpcdnaaGreatZD
set_option maxHeartbeats 8000000
set_option linter.unusedVariables false
set_option linter.unusedSimpArgs false
namespace Ai
set_option maxRecDepth 100000
open Go Go.Proofs Ieee
def F64 (x:Nat):Prop:=x<18446744073709551616
theorem nearest_f64 (s:Bool) (m:Nat) (i:Int):F64 (double.nearest s m i):=by
 unfold F64 Format.nearest
 have e1:double.signWeight=9223372036854775808:=by decide
 have e2:double.infRung=9218868437227405312:=by decide
 split
 ·unfold Format.word;rw[e1];split <;> omega
 ·unfold Format.word
  rw[e1,e2]
  simp only
  generalize (max (i+↑m.log2 - ↑double.fractionBits) double.leastPlace - double.leastPlace).toNat*double.binade+Toward.even.cut s (m <<< (i - max (i+↑m.log2 - ↑double.fractionBits) double.leastPlace).toNat) (max (i+↑m.log2 - ↑double.fractionBits) double.leastPlace - i).toNat=r
  split <;> omega
theorem w7 (d:Datum):F64 (double.write d):=by
 cases d with
 |number s m i=>exact nearest_f64 s m i
 |infinity s=>unfold F64 Format.write Format.word;cases s <;> decide
 |nan s f =>
  show(if s=true then double.signWeight+(double.infRung+f % double.binade) else double.infRung+f % double.binade)<18446744073709551616
  rw[show double.signWeight=9223372036854775808 by decide,show double.infRung=9218868437227405312 by decide,show double.binade=4503599627370496 by decide]
  split <;> omega
theorem nearN_f64 (n:Int):F64 (FloatKind.f64.nearest n):=w7 (.number (n<0) n.natAbs 0)
theorem fop_f64 (op:BinOp) (x y:Nat):F64 (fop op x y):=by
 have hn:F64 nanC:=by unfold F64;decide
 have key:∀ o:Option Datum,F64 ((o.map double.write).getD nanC):=by
  intro o
  cases o with
  |none=>exact hn
  |some d=>exact w7 d
 unfold fop floatBits
 cases op <;> first|exact hn|exact key _
theorem reckon_f64 (c:Int) (x y:Nat):F64 (yS c x y):=by
 unfold yS
 repeat' split
 all_goals first|exact fop_f64 _ _ _|(unfold F64 oneF;decide)|(unfold F64;decide)
def StL.flt (s:StL):Prop:=(∀ c∈s.cells,F64 c)∧∀ t∈s.ths,∀ x∈t.stack,F64 x
theorem vQ {s:StL} {k:Nat} {t:Th} (h:s.flt) (ht:∀ x∈t.stack,F64 x):(s.put k t).flt:=by
 refine⟨h.1,fun u hu=>?_⟩
 rcases List.mem_or_eq_of_mem_set hu with e|e
 ·exact h.2 u e
 ·subst e;exact ht
theorem topN_f64 {t:Th} {o:OpL} {i:Nat} (h:∀ x∈t.stack,F64 x):F64 (yQ t o i):=pA h
theorem flt_do {s:StL} {k:Nat} {o:OpL} {e:Ev} (hk:k<s.ths.length) (h:s.flt) (ho:F64 o.v):(doL s k o e).1.flt:=by
 have hgd:s.ths.getD k th0=s.ths[k]:=by simp[List.getD_eq_getElem?_getD,hk]
 have ht:=h.2 _ (List.getElem_mem hk)
 generalize s.ths[k]=t at *
 unfold doL
 simp only[hgd]
 have hpop:∀ x∈(zF t o).stack,F64 x:=fun x hx=>ht x (List.mem_of_mem_take hx)
 have hpush:∀ v,F64 v→∀ x∈(zS (zF t o) v).stack,F64 x:=by
  intro v hv x hx
  rcases List.mem_append.1 hx with e|e
  ·exact hpop x e
  ·simp only[List.mem_cons,List.not_mem_nil,or_false] at e
   subst e;exact hv
 by_cases n1:o.code=1
 ·rw[if_pos n1];exact vQ h (hpush _ ho)
 rw[if_neg n1]
 by_cases n2:o.code=2
 ·rw[if_pos n2]
  refine vQ h (hpush _ ?_)
  rw[List.getD_eq_getElem?_getD]
  cases hg:s.cells[o.a.toNat]? with
  |none=>unfold F64;decide
  |some c=>exact h.1 c (List.mem_of_getElem? hg)
 rw[if_neg n2]
 by_cases n3:o.code=3
 ·rw[if_pos n3]
  refine vQ ⟨fun c hc=>?_,h.2⟩ hpop
  rcases List.mem_or_eq_of_mem_set hc with e|e
  ·exact h.1 c e
  ·subst e;exact topN_f64 ht
 rw[if_neg n3]
 by_cases n10:o.code=10
 ·rw[if_pos n10];exact vQ h hpop
 rw[if_neg n10]
 by_cases n11:o.code=11
 ·rw[if_pos n11]
  refine vQ h ?_
  split
  ·exact hpop
  ·exact hpop
 rw[if_neg n11]
 by_cases n12:o.code=12
 ·rw[if_pos n12];exact vQ (s:={ s with owner:=_ }) h hpop
 rw[if_neg n12]
 by_cases n13:o.code=13
 ·rw[if_pos n13];exact vQ (s:={ s with owner:=_ }) h hpop
 rw[if_neg n13]
 by_cases n14:o.code=14
 ·rw[if_pos n14]
  refine vQ (s:={ s with ths:=_ }) ⟨h.1,fun u hu=>?_⟩ (hpush _ (nearN_f64 _))
  rcases List.mem_append.1 hu with e|e
  ·exact h.2 u e
  ·simp only[List.mem_cons,List.not_mem_nil,or_false] at e
   subst e;intro x hx;cases hx
 rw[if_neg n14]
 by_cases n15:o.code=15
 ·rw[if_pos n15];exact vQ h hpop
 rw[if_neg n15]
 by_cases n16:o.code=16
 ·rw[if_pos n16];exact vQ (s:={ s with owner:=_ }) h hpop
 rw[if_neg n16]
 by_cases n17:o.code=17
 ·rw[if_pos n17]
  cases yY s.ths o.a with
  |none=>exact vQ h hpop
  |some j =>
   refine vQ (s:={ s with ths:=_ }) ⟨h.1,fun u hu=>?_⟩ hpop
   obtain⟨i,hi,rfl⟩:=List.mem_iff_getElem.1 hu
   have hil:i<s.ths.length:=by simpa using hi
   have:=h.2 _ (List.getElem_mem hil)
   rw[List.getElem_modify]
   split
   ·exact this
   ·exact this
 rw[if_neg n17]
 exact vQ h (hpush _ (reckon_f64 _ _ _))
theorem flt_step {p:ProgL} (hv:p.flt) {s:StL} {k:Nat} (hk:k<s.ths.length) (h:s.flt):(zG p s k).1.flt:=by
 have hgd:s.ths.getD k th0=s.ths[k]:=by simp[List.getD_eq_getElem?_getD,hk]
 have ht:=h.2 _ (List.getElem_mem hk)
 unfold zG
 simp only[hgd]
 split
 ·exact vQ (s:={ s with owner:=_ }) h ht
 ·split
  ·exact vQ h ht
  ·rename_i o hn
   split
   ·refine flt_do hk h ?_
    unfold yE at hn
    by_cases hr:s.ths[k].rt.toNat<p.rs.length
    ·have e:p.rs.getD s.ths[k].rt.toNat []=p.rs[s.ths[k].rt.toNat]:=by rw[List.getD_eq_getElem?_getD,List.getElem?_eq_getElem hr];rfl
     rw[e] at hn
     exact hv _ (List.getElem_mem hr) o (List.mem_of_getElem? hn)
    ·have e:p.rs.getD s.ths[k].rt.toNat []=[]:=by rw[List.getD_eq_getElem?_getD,List.getElem?_eq_none (by omega)];rfl
     rw[e] at hn
     simp at hn
   ·exact h
theorem flt_new (p:ProgL):(xC p).flt:=by
 refine⟨fun c hc=>?_,fun t ht=>?_⟩
 ·obtain⟨_,rfl⟩:=List.mem_replicate.1 hc
  unfold F64;decide
 ·have:t=jH 0:=by simpa[xC] using ht
  subst this
  intro x hx;cases hx
theorem goes_st {p:ProgL} {s:StL} {k:Nat} (h:k∈zA p s) (hk:k<s.ths.length):s.ths[k].st=1∨s.ths[k].st=4:=by
 have:=(List.mem_filter.1 h).2
 unfold jG at this
 have this:=of_decide_eq_true this
 simp only[List.getD_eq_getElem?_getD,List.getElem?_eq_getElem hk,Option.getD_some] at this
 exact this.2.1
theorem joins_top {s:StL} {k:Nat} {o:OpL} (hk:k<s.ths.length) (hf:yB s k o=0) (h15:o.code=15):∃ j,yX (yQ s.ths[k] o 0) s.ths.length=some j∧yA s s.ths[k]=some j:=by
 have hgd:s.ths.getD k th0=s.ths[k]:=by simp[List.getD_eq_getElem?_getD,hk]
 unfold yB at hf
 simp only[hgd] at hf
 generalize s.ths[k]=t at *
 have ht:zB o.code=(1,0):=by rw[h15];decide
 rw[ht] at hf
 simp only at hf
 split at hf
 ·cases hf
 rename_i h1
 have hl:1≤t.stack.length:=by
  have:=fun e=>h1 (.inl e)
  omega
 split at hf
 ·cases hf
 split at hf
 ·cases hf
 rename_i h3
 have hj:¬ (yA s t).getD (-1)<0:=fun e=>h3 ⟨h15,e⟩
 have hkn:yD t o=t.stack.length - 1:=by simp[yD,xZ,ht]
 have htop:t.stack.getLast?=some (yQ t o 0):=by
  unfold yQ
  rw[hkn,List.getLast?_eq_getElem?,List.getD_eq_getElem?_getD,List.getElem?_drop]
  rw[Nat.add_zero,List.getElem?_eq_getElem (by omega)]
  rfl
 unfold yA at hj ⊢
 rw[htop] at hj ⊢
 simp only[Option.bind_some] at hj ⊢
 cases hi:yX (yQ t o 0) s.ths.length with
 |none=>rw[hi] at hj;exact absurd (by decide) hj
 |some j=>exact⟨j,rfl,rfl⟩
theorem runI {p:ProgL} (hg:p.goodS) (hv:p.flt):RunI p (fun s=>SInv p s∧s.flt):={
 small:=fun s h=>(pJ hg).small s h.1
 seen:=fun s h=>(pJ hg).seen s h.1
 ready:=fun s h=>(pJ hg).ready s h.1
 awake:=fun s h k hk hl=>by
  have:=goes_st hk hl
  omega
 flt:=fun s h=>h.2.2
 joins:=fun s h k hk hl o hn hf h15=>joins_top hl hf h15
 step:=fun s h k hk=>by
  have:k<s.ths.length:=by have:=(List.mem_filter.1 hk).1;simpa using this
  exact⟨(pJ hg).step s h.1 k hk,flt_step hv this h.2⟩ }
theorem y2 (p:ProgL) (hp:p.wf) (hg:p.goodS) (hv:p.flt) (picks:List Int) (budget:Int) (hpk:∀ i∈picks,0≤i) (hl:picks.length≤1048576) (hb:InR budget 0 1048576) :
  CallsTo EE 175 [agg (encProg p),sl (picks.map encInt),i64 budget] (·=agg (bI p picks budget (budget.toNat+1) (xC p) [] [])):=by
 obtain⟨b1,b2,b3,b4⟩:=hg.1
 exact r3 toIndexI p hp ⟨b1.1,by have:=b1.2;omega⟩ ⟨b2.1,by have:=b2.2;omega⟩ _ ⟨o6 hg,flt_new p⟩ (runI hg hv) picks budget hpk hl hb
end Ai
namespace Ai.Cyc
structure BS where
 out:List Nat
 queue:List Nat
 far:List (Nat × Nat)
deriving DecidableEq
def setF (l:List (Nat × Nat)) (k v:Nat):List (Nat × Nat):=if l.any (fun p=>p.1==k)=true then l.map (fun p=>if p.1==k then (k,v) else p) else l++[(k,v)]
def getF (l:List (Nat × Nat)) (k:Nat):Nat:=((l.find? fun p=>p.1==k).map (·.2)).getD 0
def bsE (goal cur:Nat) (st:BS) (e:Nat × Nat):BS :=
 if (e.2 != cur || decide (0<st.out.getD e.1 0))=true then st
 else if (e.1 != goal)=true then ⟨st.out.set e.1 (getF st.far cur+1),st.queue++[e.1],setF st.far e.1 (getF st.far cur+1)⟩
 else ⟨st.out.set e.1 (getF st.far cur+1),st.queue,st.far⟩
def bs0 (goal:Nat):BS:=⟨List.replicate 100 0,[goal],[(goal,0)]⟩
def oP (goal:Nat) (edges:List (Nat × Nat)):Nat→Nat→BS→Option BS
 | 0,_,_=>none
 |f+1,i,st=>if i<st.queue.length then oP goal edges f (i+1) (edges.foldl (bsE goal (st.queue.getD i 0)) st) else some st
def nextI (edges:List (Nat × Nat)) (far:List Nat) (n at_ left:Nat):Nat :=
 edges.foldl (fun nx e=>if (e.1==at_&&e.2 != n&&far.getD e.2 0==left)=true then min nx e.2 else nx) 100
def wayI (edges:List (Nat × Nat)) (far:List Nat) (n:Nat):Nat→List Nat→Nat→List Nat
 | 0,out,_=>out
 |left+1,out,at_=>wayI edges far n left (out++[nextI edges far n at_ (left+1)]) (nextI edges far n at_ (left+1))
def cycI (edges:List (Nat × Nat)) (n:Nat):Option (List Nat) :=
 match oP n edges 7 0 (bs0 n) with
 |none=>none
 |some st=>if st.out.getD n 0=0 then some [] else some (wayI edges st.out n (st.out.getD n 0 - 1) [n] n)
def wayS (edges:List (Nat × Nat)) (to:Nat):Nat→Nat→List (List Nat)→List Nat→Option (List Nat)
 | 0,_,_,_=>none
 |f+1,i,ways,seen =>
  if i<ways.length then
   match edges.find? (fun e=>e.1==(ways.getD i []).getLastD 0) with
   |none=>wayS edges to f (i+1) ways seen
   |some e=>if e.2=to then some (ways.getD i []) else if seen.contains e.2=true then wayS edges to f (i+1) ways seen
     else wayS edges to f (i+1) (ways++[ways.getD i []++[e.2]]) (seen++[e.2])
  else some []
def cycS (edges:List (Nat × Nat)) (n:Nat):Option (List Nat):=wayS edges n 8 0 [[n]] []
def opts:List (Option Nat):=[none,some 0,some 1,some 2,some 3,some 4]
def ed (k:Nat) (o:Option Nat):List (Nat × Nat):=match o with|some b=>[(k,b)]|none=>[]
def ok (edges:List (Nat × Nat)):Bool:=(List.range 5).all fun n=>(cycI edges n).isSome&&cycI edges n==cycS edges n
def hZ (a:Option Nat):Bool:=opts.all fun b=>opts.all fun c=>opts.all fun d=>opts.all fun e=>ok (ed 0 a++ed 1 b++ed 2 c++ed 3 d++ed 4 e)
theorem okN:hZ none=true:=by decide +kernel
theorem ok0:hZ (some 0)=true:=by decide +kernel
theorem ok1:hZ (some 1)=true:=by decide +kernel
theorem ok2:hZ (some 2)=true:=by decide +kernel
theorem ok3:hZ (some 3)=true:=by decide +kernel
theorem ok4:hZ (some 4)=true:=by decide +kernel
theorem ok_all (a b c d e:Option Nat) (ha:a∈opts) (hb:b∈opts) (hc:c∈opts) (hd:d∈opts) (he:e∈opts):ok (ed 0 a++ed 1 b++ed 2 c++ed 3 d++ed 4 e)=true:=by
 have h:hZ a=true:=by
  simp only[opts,List.mem_cons,List.not_mem_nil,or_false] at ha
  rcases ha with rfl|rfl|rfl|rfl|rfl|rfl
  ·exact okN
  ·exact ok0
  ·exact ok1
  ·exact ok2
  ·exact ok3
  ·exact ok4
 simp only[hZ,List.all_eq_true] at h
 exact h b hb c hc d hd e he
end Ai.Cyc
namespace Ai.Cyc
theorem l4 {goal cur:Nat}:∀ (es:List (Nat × Nat)) (st:BS),(∀ e∈es,e.2≠cur)→es.foldl (bsE goal cur) st=st
 | [],st,h=>rfl
 |e::es,st,h=>by
  have:bsE goal cur st e=st:=by
   unfold bsE
   rw[if_pos (by rw[Bool.or_eq_true];exact .inl (bne_iff_ne.2 (h e List.mem_cons_self)))]
  rw[List.foldl_cons,this]
  exact l4 es st fun x hx=>h x (List.mem_cons_of_mem _ hx)
theorem run_far {n:Nat} {edges:List (Nat × Nat)} (h:∀ e∈edges,e.2≠n):oP n edges 7 0 (bs0 n)=some (bs0 n):=by
 unfold oP
 rw[if_pos (by simp[bs0])]
 rw[show(bs0 n).queue.getD 0 0=n from rfl,l4 edges _ h]
 unfold oP
 rw[if_neg (by simp[bs0])]
theorem cycI_far {n:Nat} {edges:List (Nat × Nat)} (h:∀ e∈edges,e.2≠n):cycI edges n=some []:=by
 unfold cycI
 rw[run_far h]
 have:(bs0 n).out.getD n 0=0:=by
  simp only[bs0,List.getD_eq_getElem?_getD,List.getElem?_replicate]
  split <;> rfl
 show(if (bs0 n).out.getD n 0=0 then some [] else _)=_
 rw[if_pos this]
theorem cycS_far {n:Nat} {edges:List (Nat × Nat)} (h:∀ e∈edges,e.1≠n):cycS edges n=some []:=by
 have hf:edges.find? (fun e=>e.1==n)=none:=by
  rw[List.find?_eq_none]
  intro e he
  simpa using h e he
 unfold cycS wayS
 rw[if_pos (by simp)]
 have:(([[n]]:List (List Nat)).getD 0 []).getLastD 0=n:=rfl
 rw[this,hf]
 unfold wayS
 rw[if_neg (by simp)]
structure Graph (edges:List (Nat × Nat)):Prop where
 g:∃ a b c d e:Option Nat,(a∈opts∧b∈opts∧c∈opts∧d∈opts∧e∈opts)∧edges=ed 0 a++ed 1 b++ed 2 c++ed 3 d++ed 4 e
theorem ed_in {k:Nat} {o:Option Nat} (ho:o∈opts) (hk:k<5):∀ e∈ed k o,e.1<5∧e.2<5:=by
 intro e he
 simp only[opts,List.mem_cons,List.not_mem_nil,or_false] at ho
 rcases ho with rfl|rfl|rfl|rfl|rfl|rfl <;> simp[ed] at he <;> subst he <;> exact⟨hk,by simp⟩
theorem Graph.small {edges:List (Nat × Nat)} (h:Graph edges):∀ e∈edges,e.1<5∧e.2<5:=by
 obtain⟨a,b,c,d,e,⟨ha,hb,hc,hd,he⟩,rfl⟩:=h.g
 intro x hx
 simp only[List.mem_append] at hx
 rcases hx with (((hx|hx)|hx)|hx)|hx
 ·exact ed_in ha (by decide) x hx
 ·exact ed_in hb (by decide) x hx
 ·exact ed_in hc (by decide) x hx
 ·exact ed_in hd (by decide) x hx
 ·exact ed_in he (by decide) x hx
theorem oH (k:Nat) (o:Option Nat):(ed k o).length≤1:=by cases o <;> simp[ed]
theorem Graph.len {edges:List (Nat × Nat)} (h:Graph edges):edges.length≤5:=by
 obtain⟨a,b,c,d,e,-,rfl⟩:=h.g
 simp only[List.length_append]
 have:=oH 0 a;have:=oH 1 b;have:=oH 2 c;have:=oH 3 d;have:=oH 4 e
 omega
theorem Graph.same {edges:List (Nat × Nat)} (h:Graph edges) (n:Nat):(cycI edges n).isSome=true∧cycI edges n=cycS edges n:=by
 by_cases hn:n<5
 ·obtain⟨a,b,c,d,e,⟨ha,hb,hc,hd,he⟩,rfl⟩:=h.g
  have:=ok_all a b c d e ha hb hc hd he
  simp only[ok,List.all_eq_true,List.mem_range,Bool.and_eq_true,beq_iff_eq] at this
  exact this n hn
 ·have h1:cycI edges n=some []:=cycI_far fun e he=>by have:=h.small e he;omega
  have h2:cycS edges n=some []:=cycS_far fun e he=>by have:=h.small e he;omega
  rw[h1,h2]
  exact⟨rfl,rfl⟩
theorem Graph.run {edges:List (Nat × Nat)} (h:Graph edges) (n:Nat):(oP n edges 7 0 (bs0 n)).isSome=true:=by
 have:=(h.same n).1
 unfold cycI at this
 cases hr:oP n edges 7 0 (bs0 n) with
 |none=>rw[hr] at this;cases this
 |some x=>rfl
end Ai.Cyc
namespace Ai
set_option maxRecDepth 100000
open Go Go.Proofs Cyc
def w6 (s:StL):Prop:=∀ x∈s.owner,-1≤x∧x<s.ths.length
theorem wN {s:StL} {k:Nat} {t:Th} (h:w6 s):w6 (s.put k t):=by
 intro x hx
 have:=h x hx
 simpa[StL.put] using this
theorem pW {s:StL} {i:Nat} {v:Int} (h:w6 s) (hv:-1≤v∧v<s.ths.length):w6 { s with owner:=s.owner.set i v }:=by
 intro x hx
 rcases List.mem_or_eq_of_mem_set hx with e|e
 ·exact h x e
 ·subst e;exact hv
theorem oinv_do {s:StL} {k:Nat} {o:OpL} {e:Ev} (hk:k<s.ths.length) (h:w6 s):w6 (doL s k o e).1:=by
 unfold doL
 simp only
 generalize s.ths.getD k th0=t at *
 by_cases n1:o.code=1
 ·rw[if_pos n1];exact wN h
 rw[if_neg n1]
 by_cases n2:o.code=2
 ·rw[if_pos n2];exact wN h
 rw[if_neg n2]
 by_cases n3:o.code=3
 ·rw[if_pos n3];exact wN (s:={ s with cells:=_ }) h
 rw[if_neg n3]
 by_cases n10:o.code=10
 ·rw[if_pos n10];exact wN h
 rw[if_neg n10]
 by_cases n11:o.code=11
 ·rw[if_pos n11];exact wN h
 rw[if_neg n11]
 by_cases n12:o.code=12
 ·rw[if_pos n12];exact wN (pW h ⟨by omega,by omega⟩)
 rw[if_neg n12]
 by_cases n13:o.code=13
 ·rw[if_pos n13];exact wN (pW h ⟨by omega,by omega⟩)
 rw[if_neg n13]
 by_cases n14:o.code=14
 ·rw[if_pos n14]
  refine wN (s:={ s with ths:=_ }) fun x hx=>?_
  have:=h x hx
  refine⟨this.1,?_⟩
  show x<((s.ths++[jH o.a]).length:Int)
  simp;omega
 rw[if_neg n14]
 by_cases n15:o.code=15
 ·rw[if_pos n15];exact wN h
 rw[if_neg n15]
 by_cases n16:o.code=16
 ·rw[if_pos n16];exact wN (pW h ⟨by omega,by omega⟩)
 rw[if_neg n16]
 by_cases n17:o.code=17
 ·rw[if_pos n17]
  cases yY s.ths o.a with
  |none=>exact wN h
  |some j =>
   refine wN (s:={ s with ths:=_ }) fun x hx=>?_
   have:=h x hx
   refine⟨this.1,?_⟩
   show x<((s.ths.modify j fun u=>{ u with st:=4 }).length:Int)
   simp;omega
 rw[if_neg n17]
 exact wN h
theorem oinv_step {p:ProgL} {s:StL} {k:Nat} (hk:k<s.ths.length) (h:w6 s):w6 (zG p s k).1:=by
 unfold zG
 simp only
 split
 ·exact wN (pW h ⟨by omega,by omega⟩)
 ·split
  ·exact wN h
  ·split
   ·exact oinv_do hk h
   ·exact h
theorem oinv_new (p:ProgL):w6 (xC p):=by
 intro x hx
 obtain⟨_,rfl⟩:=List.mem_replicate.1 hx
 simp[xC]
end Ai
namespace Ai
set_option maxRecDepth 100000
open Go Go.Proofs Cyc
def GTh (p:ProgL) (t:Th):Prop:=((t.st=1∨t.st=2)∧t.cond=-1∧t.lock=-1)∨((t.st=3∨t.st=4)∧0≤t.cond∧t.cond<p.conds∧0≤t.lock∧t.lock<p.locks)
structure GInv (p:ProgL) (s:StL):Prop where
 ths:∀ t∈s.ths,GTh p t
 ne:1≤s.ths.length
 fault:InR s.fault 0 4
theorem wP {p:ProgL} {s:StL} {k:Nat} {t:Th} (h:GInv p s) (ht:GTh p t):GInv p (s.put k t):=by
 refine⟨fun u hu=>?_,by simpa[StL.put] using h.ne,h.fault⟩
 rcases List.mem_or_eq_of_mem_set hu with e|e
 ·exact h.ths u e
 ·subst e;exact ht
theorem fault_in (s:StL) (k:Nat) (o:OpL):InR (yB s k o) 0 4:=by
 unfold yB InR
 simp only
 split
 ·omega
 split
 ·omega
 split
 ·omega
 split <;> omega
theorem ginv_do {p:ProgL} (hg:p.goodS) {s:StL} (hi:SInv p s) {k:Nat} (h:k<s.ths.length) {o:OpL} (hn:yE p s.ths[k]=some o) (e:Ev) (hG:GInv p s) (h1:s.ths[k].st=1):GInv p (doL s k o e).1:=by
 have hT:=hi.ths _ (List.getElem_mem h)
 have hgd:s.ths.getD k th0=s.ths[k]:=by simp[List.getD_eq_getElem?_getD,h]
 obtain⟨⟨g1,g2⟩,hlt⟩:=dZ hg hT hn
 obtain⟨c1,c2,c3,_⟩:=g1
 obtain⟨a1,a2,a3,a4,a5,a6⟩:=g2
 have ht:=hG.ths _ (List.getElem_mem h)
 generalize s.ths[k]=t at *
 unfold doL
 simp only[hgd]
 have hp:GTh p (zF t o):=ht
 have hpush:∀ v,GTh p (zS (zF t o) v):=fun v=>ht
 have hpc:∀ a,GTh p { zF t o with pc:=a }:=fun a=>ht
 by_cases n1:o.code=1
 ·rw[if_pos n1];exact wP hG (hpush _)
 rw[if_neg n1]
 by_cases n2:o.code=2
 ·rw[if_pos n2];exact wP hG (hpush _)
 rw[if_neg n2]
 by_cases n3:o.code=3
 ·rw[if_pos n3];exact wP (s:={ s with cells:=_ }) ⟨hG.ths,hG.ne,hG.fault⟩ hp
 rw[if_neg n3]
 by_cases n10:o.code=10
 ·rw[if_pos n10];exact wP hG (hpc _)
 rw[if_neg n10]
 by_cases n11:o.code=11
 ·rw[if_pos n11]
  refine wP hG ?_
  split
  ·exact hpc _
  ·exact hp
 rw[if_neg n11]
 by_cases n12:o.code=12
 ·rw[if_pos n12];exact wP (s:={ s with owner:=_ }) ⟨hG.ths,hG.ne,hG.fault⟩ hp
 rw[if_neg n12]
 by_cases n13:o.code=13
 ·rw[if_pos n13];exact wP (s:={ s with owner:=_ }) ⟨hG.ths,hG.ne,hG.fault⟩ hp
 rw[if_neg n13]
 by_cases n14:o.code=14
 ·rw[if_pos n14]
  refine wP (s:={ s with ths:=_ }) ⟨fun u hu=>?_,by show 1≤(s.ths++[jH o.a]).length;simp,hG.fault⟩ (hpush _)
  rcases List.mem_append.1 hu with e|e
  ·exact hG.ths u e
  ·simp only[List.mem_cons,List.not_mem_nil,or_false] at e
   subst e;exact .inl ⟨.inl rfl,rfl,rfl⟩
 rw[if_neg n14]
 by_cases n15:o.code=15
 ·rw[if_pos n15];exact wP hG hp
 rw[if_neg n15]
 by_cases n16:o.code=16
 ·rw[if_pos n16]
  exact wP (s:={ s with owner:=_ }) ⟨hG.ths,hG.ne,hG.fault⟩ (.inr ⟨.inl rfl,c2.1,(a5 n16).1,c3.1,(a5 n16).2⟩)
 rw[if_neg n16]
 by_cases n17:o.code=17
 ·rw[if_pos n17]
  cases hw:yY s.ths o.a with
  |none=>exact wP hG hp
  |some j =>
   refine wP (s:={ s with ths:=_ }) ⟨fun u hu=>?_,by simpa using hG.ne,hG.fault⟩ hp
   obtain⟨i,hi2,rfl⟩:=List.mem_iff_getElem.1 hu
   have hil:i<s.ths.length:=by simpa using hi2
   have hU:=hG.ths _ (List.getElem_mem hil)
   rw[List.getElem_modify]
   split
   ·rename_i hji
    subst hji
    unfold yY at hw
    rw[List.findIdx?_eq_some_iff_getElem] at hw
    obtain⟨_,hpw,_⟩:=hw
    simp only[Bool.and_eq_true,beq_iff_eq] at hpw
    rcases hU with ⟨h9,_⟩|⟨_,h9⟩
    ·have:=hpw.1;omega
    ·exact .inr ⟨.inr rfl,h9⟩
   ·exact hU
 rw[if_neg n17]
 exact wP hG (hpush _)
theorem ginv_step {p:ProgL} (hg:p.goodS) {s:StL} (hi:SInv p s) {k:Nat} (h:k<s.ths.length) (hk:k∈zA p s) (hG:GInv p s):GInv p (zG p s k).1:=by
 have ht:=hG.ths _ (List.getElem_mem h)
 have hgo:=goes_st hk h
 have hgd:s.ths.getD k th0=s.ths[k]:=by simp[List.getD_eq_getElem?_getD,h]
 unfold zG
 simp only[hgd]
 split
 ·exact wP (s:={ s with owner:=_ }) ⟨hG.ths,hG.ne,hG.fault⟩ (.inl ⟨.inl rfl,rfl,rfl⟩)
 ·rename_i h4
  have h1:s.ths[k].st=1:=by omega
  split
  ·refine wP hG (.inl ⟨.inr rfl,?_⟩)
   rcases ht with ⟨_,h9⟩|⟨h9,_⟩
   ·exact h9
   ·omega
  ·rename_i o hn
   split
   ·exact ginv_do hg hi h hn _ hG h1
   ·exact⟨hG.ths,hG.ne,fault_in s k o⟩
theorem ginv_new (p:ProgL):GInv p (xC p):=by
 refine⟨fun t ht=>?_,by simp[xC],by simp[xC,InR]⟩
 have:t=jH 0:=by simpa[xC] using ht
 subst this
 exact .inl ⟨.inl rfl,rfl,rfl⟩
structure AInv (p:ProgL) (s:StL):Prop where
 si:SInv p s
 fl:s.flt
 ow:w6 s
 gi:GInv p s
theorem rO {p:ProgL} {s:StL} {k:Nat} (hk:k∈zA p s):k<s.ths.length:=by have:=(List.mem_filter.1 hk).1;simpa using this
theorem uN {p:ProgL} (hg:p.goodS) (hv:p.flt) {s:StL} {k:Nat} (hk:k∈zA p s) (h:AInv p s):AInv p (zG p s k).1 :=
 ⟨inv_step hg h.si (rO hk),flt_step hv (rO hk) h.fl,oinv_step (rO hk) h.ow,ginv_step hg h.si (rO hk) hk h.gi⟩
theorem jE {p:ProgL} (hg:p.goodS):AInv p (xC p):=⟨o6 hg,flt_new p,oinv_new p,ginv_new p⟩
theorem do_lev (s:StL) (k:Nat) (o:OpL) (e:Ev):s.ths.length≤(doL s k o e).1.ths.length∧(doL s k o e).2.th=e.th∧(doL s k o e).2.pc=e.pc:=by
 have hput:∀ (s:StL) (t:Th),(s.put k t).ths.length=s.ths.length:=fun s t=>by simp[StL.put]
 have hle:∀ (s2:StL) (t:Th),s.ths.length≤s2.ths.length→s.ths.length≤(s2.put k t).ths.length:=fun s2 t h=>by rw[hput];exact h
 unfold doL
 simp only
 by_cases n1:o.code=1
 ·rw[if_pos n1];exact⟨hle _ _ (Nat.le_refl _),rfl,rfl⟩
 rw[if_neg n1]
 by_cases n2:o.code=2
 ·rw[if_pos n2];exact⟨hle _ _ (Nat.le_refl _),rfl,rfl⟩
 rw[if_neg n2]
 by_cases n3:o.code=3
 ·rw[if_pos n3];exact⟨hle _ _ (Nat.le_refl _),rfl,rfl⟩
 rw[if_neg n3]
 by_cases n10:o.code=10
 ·rw[if_pos n10];exact⟨hle _ _ (Nat.le_refl _),rfl,rfl⟩
 rw[if_neg n10]
 by_cases n11:o.code=11
 ·rw[if_pos n11];exact⟨hle _ _ (Nat.le_refl _),rfl,rfl⟩
 rw[if_neg n11]
 by_cases n12:o.code=12
 ·rw[if_pos n12];exact⟨hle _ _ (Nat.le_refl _),rfl,rfl⟩
 rw[if_neg n12]
 by_cases n13:o.code=13
 ·rw[if_pos n13];exact⟨hle _ _ (Nat.le_refl _),rfl,rfl⟩
 rw[if_neg n13]
 by_cases n14:o.code=14
 ·rw[if_pos n14];exact⟨hle _ _ (by show _≤(s.ths++[jH o.a]).length;simp),rfl,rfl⟩
 rw[if_neg n14]
 by_cases n15:o.code=15
 ·rw[if_pos n15];exact⟨hle _ _ (Nat.le_refl _),rfl,rfl⟩
 rw[if_neg n15]
 by_cases n16:o.code=16
 ·rw[if_pos n16];exact⟨hle _ _ (Nat.le_refl _),rfl,rfl⟩
 rw[if_neg n16]
 by_cases n17:o.code=17
 ·rw[if_pos n17]
  cases yY s.ths o.a with
  |none=>exact⟨hle _ _ (Nat.le_refl _),rfl,rfl⟩
  |some j=>exact⟨hle _ _ (by show _≤(s.ths.modify j _).length;simp),rfl,rfl⟩
 rw[if_neg n17]
 exact⟨hle _ _ (Nat.le_refl _),rfl,rfl⟩
theorem step_len (p:ProgL) (s:StL) (k:Nat):s.ths.length≤(zG p s k).1.ths.length:=by
 have hput:∀ (s:StL) (t:Th),(s.put k t).ths.length=s.ths.length:=fun s t=>by simp[StL.put]
 unfold zG
 simp only
 split
 ·rw[hput];exact Nat.le_refl _
 ·split
  ·rw[hput];exact Nat.le_refl _
  ·split
   ·exact(do_lev _ _ _ _).1
   ·exact Nat.le_refl _
theorem mA (p:ProgL) (s:StL) (k:Nat):(zG p s k).2.th=k∧(zG p s k).2.pc=(s.ths.getD k th0).pc:=by
 unfold zG
 simp only
 split
 ·exact⟨rfl,rfl⟩
 ·split
  ·exact⟨rfl,rfl⟩
  ·split
   ·exact(do_lev _ _ _ _).2
   ·exact⟨rfl,rfl⟩
structure TrOK (s:StL) (tr:List Ev):Prop where
 ev:∀ e∈tr,0≤e.th∧e.th<s.ths.length∧0≤e.pc∧e.pc≤24
 ne:s.fault≠0→tr≠[]
theorem tr_step {p:ProgL} (hg:p.goodS) {s:StL} {k:Nat} (hk:k∈zA p s) (h:AInv p s) {tr:List Ev} (ht:TrOK s tr):TrOK (zG p s k).1 (tr++[(zG p s k).2]):=by
 have hl:=rO hk
 have hgd:s.ths.getD k th0=s.ths[k]:=by simp[List.getD_eq_getElem?_getD,hl]
 have hT:=h.si.ths _ (List.getElem_mem hl)
 have hr:s.ths[k].rt.toNat<p.rs.length:=by have:=hT.rt;omega
 have e24:(p.rs.getD s.ths[k].rt.toNat []).length≤24:=by
  rw[List.getD_eq_getElem?_getD,List.getElem?_eq_getElem hr]
  exact(hg.2 _ (List.getElem_mem hr)).2
 have h2:=step_len p s k
 refine⟨fun e he=>?_,fun _=>by simp⟩
 rcases List.mem_append.1 he with e1|e1
 ·have:=ht.ev e e1
  omega
 ·simp only[List.mem_cons,List.not_mem_nil,or_false] at e1
  subst e1
  obtain⟨e1,e2⟩:=mA p s k
  rw[e1,e2,hgd]
  have:=hT.pc
  omega
structure RunT where
 c:Int
 tr:List Ev
 tk:List Int
 s:StL
noncomputable def nL (p:ProgL) (picks:List Int) (budget:Int):Nat→StL→List Ev→List Int→RunT
 | 0,s,tr,tk=>⟨0,tr,tk,s⟩
 |n+1,s,tr,tk =>
  if 0<xF p s tr.length budget then ⟨xF p s tr.length budget,tr,tk,s⟩
  else
   let k:=vB picks tk (zA p s).length
   let w:=(zA p s).getD k.toNat 0
   nL p picks budget n (zG p s w).1 (tr++[(zG p s w).2]) (tk++[k])
def encRT (x:RunT):List D:=lM x.c x.tr x.tk x.s
theorem r4 (p:ProgL) (picks:List Int) (budget:Int):∀ n s tr tk,bI p picks budget n s tr tk=encRT (nL p picks budget n s tr tk)
 | 0,s,tr,tk=>rfl
 |n+1,s,tr,tk=>by
  unfold bI nL
  split
  ·rfl
  ·exact r4 p picks budget n _ _ _
structure REnd (p:ProgL) (budget:Int) (x:RunT):Prop where
 inv:AInv p x.s
 tr:TrOK x.s x.tr
 code:x.c=xF p x.s x.tr.length budget
 pos:0<x.c
 len:x.tr.length=x.tk.length
 le:(x.tr.length:Int)≤budget
 tk:∀ i∈x.tk,0≤i∧i<5
theorem r9 (p:ProgL) (s:StL) (picks tk:List Int) (hpk:∀ i∈picks,0≤i) (h:0<(zA p s).length):0≤vB picks tk (zA p s).length∧vB picks tk (zA p s).length<(zA p s).length:=by
 unfold vB
 split
 ·rename_i h1
  have h2:0≤picks.getD tk.length 0:=by
   rw[List.getD_eq_getElem?_getD,List.getElem?_eq_getElem h1]
   exact hpk _ (List.getElem_mem h1)
  exact⟨Int.tmod_nonneg _ h2,Int.tmod_lt_of_pos _ (by omega)⟩
 ·omega
theorem en_ne {p:ProgL} {s:StL} {a b:Int} (h:¬ 0<xF p s a b):0<(zA p s).length∧a≠b:=by
 have hen:zA p s≠[]:=by
  intro he
  apply h
  unfold xF
  by_cases hf:s.fault≠0
  ·rw[if_pos hf];decide
  ·rw[if_neg hf,if_pos he];split <;> decide
 refine⟨List.length_pos_iff.2 hen,fun he=>h ?_⟩
 unfold xF
 by_cases hf:s.fault≠0
 ·rw[if_pos hf];decide
 ·rw[if_neg hf,if_neg hen,if_pos he];decide
theorem run_end {p:ProgL} (hg:p.goodS) (hv:p.flt) (picks:List Int) (budget:Int) (hpk:∀ i∈picks,0≤i):∀ n s tr tk,AInv p s→TrOK s tr→tr.length=tk.length→(tr.length:Int)≤budget→budget.toNat+1 - tr.length≤n→(∀ i∈tk,0≤i∧i<5)→REnd p budget (nL p picks budget n s tr tk)
 | 0,s,tr,tk,hi,ht,hl,hb,hn,hk=>by omega
 |n+1,s,tr,tk,hi,ht,hl,hb,hn,hk=>by
  unfold nL
  split
  ·rename_i h
   exact⟨hi,ht,rfl,h,hl,hb,hk⟩
  ·rename_i h
   obtain⟨h1,h2⟩:=en_ne h
   have h3:=r9 p s picks tk hpk h1
   have hkl:(vB picks tk (zA p s).length).toNat<(zA p s).length:=by omega
   have hmem:(zA p s).getD (vB picks tk (zA p s).length).toNat 0∈zA p s:=by rw[List.getD_eq_getElem?_getD,List.getElem?_eq_getElem hkl];exact List.getElem_mem hkl
   have h5:(zA p s).length≤5:=Nat.le_trans (kS) hi.si.len
   refine run_end hg hv picks budget hpk n _ _ _ (uN hg hv hmem hi) (tr_step hg hmem hi ht) (by simp;exact hl) (by simp;omega) (by simp;omega) fun i hx=>?_
   rcases List.mem_append.1 hx with e|e
   ·exact hk i e
   ·simp only[List.mem_cons,List.not_mem_nil,or_false] at e
    subst e
    omega
noncomputable def dW (p:ProgL) (picks:List Int) (budget:Int):RunT:=nL p picks budget (budget.toNat+1) (xC p) [] []
theorem runOf_end {p:ProgL} (hg:p.goodS) (hv:p.flt) (picks:List Int) (budget:Int) (hpk:∀ i∈picks,0≤i) (hb:0≤budget):REnd p budget (dW p picks budget) :=
 run_end hg hv picks budget hpk _ _ _ _ (jE hg) ⟨fun e he=>(by cases he),fun h=>absurd rfl h⟩ rfl hb (by simp) fun i hi=>(by cases hi)
theorem l4Run_of (p:ProgL) (hp:p.wf) (hg:p.goodS) (picks:List Int) (budget:Int) (hpk:∀ i∈picks,0≤i) (hl:picks.length≤1048576) (hb:InR budget 0 1048576) :
  CallsTo EE 104 [agg (encProg p),sl (picks.map encInt),i64 budget] (·=agg (encRT (dW p picks budget))):=by
 have:=l4Run_good p hp hg picks budget hpk hl hb
 rwa [r4] at this
theorem runPicks_of (p:ProgL) (hp:p.wf) (hg:p.goodS) (hv:p.flt) (picks:List Int) (budget:Int) (hpk:∀ i∈picks,0≤i) (hl:picks.length≤1048576) (hb:InR budget 0 1048576) :
  CallsTo EE 175 [agg (encProg p),sl (picks.map encInt),i64 budget] (·=agg (encRT (dW p picks budget))):=by
 have:=y2 p hp hg hv picks budget hpk hl hb
 rwa [r4] at this
end Ai
namespace Ai
set_option maxRecDepth 100000
open Go Go.Proofs
def nH (e:Ev):Prop:=e.kind=2∨e.kind=3
def rQ (e:Ev):Prop:=e.kind=8∨e.kind=9∨e.kind=10
def xS (e:Ev):Int:=if e.kind=4∨e.kind=5 then e.obj else if e.kind=8∨e.kind=9 then e.lock else -2
def iS (e:Ev):Int:=if e.kind=5 then e.obj else if e.kind=8 then e.lock else -1
def eE (e:Ev):Int:=if e.kind=4 then e.obj else if e.kind=9 then e.lock else -1
def gR (e:Ev):Int:=if eE e > iS e then eE e else iS e
def qS (a b:Ev):Prop :=
 if a.kind=3 then nH b∧a.obj=b.obj
 else if a.kind=6 then b.kind=6∨b.th=a.obj
 else if a.kind=7 then b.kind=11∧b.th=a.obj
 else if a.kind=10 then b.th=a.lock∨(rQ b∧a.obj=b.obj)
 else if a.kind=8 then rQ b∧a.obj=b.obj
 else a.kind=12
def fY (a b:Ev):Prop:=a.th=b.th∨qS a b∨qS b a∨(xS a=xS b∧xS a≠-2)
def rG (a b:Ev):Prop:=a.th=b.th∨qS a b∨qS b a∨(0≤gR a∧gR a=gR b)
theorem touchS_ok (e:Ev):CallsTo EE 146 [agg (encEv e)] (·=bp (nH e)):=by
 refine callsTo_of_AW (fn:=Tryz.f146) Tryz.func146 rfl (by kernel_rfl) rfl ?_
 conv=>whnf
 repeat' (refine kbi (fun h=>?_) (fun h=>?_) <;> conv=>whnf)
 all_goals simp only[beq_iff_eq] at *
 all_goals first|exact bpt (by unfold nH;omega)|exact bpf (by unfold nH;omega)
theorem touchI_ok (e:Ev):CallsTo EE 149 [agg (encEv e)] (·=bp (nH e)):=by
 refine callsTo_of_AW (fn:=Tryz.f149) Tryz.func149 rfl (by kernel_rfl) rfl ?_
 conv=>whnf
 repeat' (refine kbi (fun h=>?_) (fun h=>?_) <;> conv=>whnf)
 all_goals simp only[beq_iff_eq] at *
 all_goals first|exact bpt (by unfold nH;omega)|exact bpf (by unfold nH;omega)
theorem condS_ok (e:Ev):CallsTo EE 185 [agg (encEv e)] (·=bp (rQ e)):=by
 refine callsTo_of_AW (fn:=Tryz.f185) Tryz.func185 rfl (by kernel_rfl) rfl ?_
 conv=>whnf
 repeat' (refine kbi (fun h=>?_) (fun h=>?_) <;> conv=>whnf)
 all_goals simp only[beq_iff_eq] at *
 all_goals first|exact bpt (by unfold rQ;omega)|exact bpf (by unfold rQ;omega)
theorem condI_ok (e:Ev):CallsTo EE 187 [agg (encEv e)] (·=bp (rQ e)):=by
 refine callsTo_of_AW (fn:=Tryz.f187) Tryz.func187 rfl (by kernel_rfl) rfl ?_
 conv=>whnf
 repeat' (refine kbi (fun h=>?_) (fun h=>?_) <;> conv=>whnf)
 all_goals simp only[beq_iff_eq] at *
 all_goals first|exact bpt (by unfold rQ;omega)|exact bpf (by unfold rQ;omega)
theorem iH (e:Ev):CallsTo EE 124 [agg (encEv e)] (·=i64 (xS e)):=by
 refine callsTo_of_AW (fn:=Tryz.f124) Tryz.func124 rfl (by kernel_rfl) rfl ?_
 conv=>whnf
 repeat' (refine kbi (fun h=>?_) (fun h=>?_) <;> conv=>whnf)
 all_goals simp only[beq_iff_eq] at *
 all_goals exact congrArg i64 (by unfold xS;simp[*])
theorem givesI_ok (e:Ev):CallsTo EE 188 [agg (encEv e)] (·=i64 (iS e)):=by
 refine callsTo_of_AW (fn:=Tryz.f188) Tryz.func188 rfl (by kernel_rfl) rfl ?_
 conv=>whnf
 repeat' (refine kbi (fun h=>?_) (fun h=>?_) <;> conv=>whnf)
 all_goals simp only[beq_iff_eq] at *
 all_goals exact congrArg i64 (by unfold iS;simp[*])
theorem takesI2_ok (e:Ev):CallsTo EE 189 [agg (encEv e)] (·=i64 (eE e)):=by
 refine callsTo_of_AW (fn:=Tryz.f189) Tryz.func189 rfl (by kernel_rfl) rfl ?_
 conv=>whnf
 repeat' (refine kbi (fun h=>?_) (fun h=>?_) <;> conv=>whnf)
 all_goals simp only[beq_iff_eq] at *
 all_goals exact congrArg i64 (by unfold eE;simp[*])
end Ai
namespace Ai
set_option maxRecDepth 100000
open Go Go.Proofs Cyc
def vE:Ev:=⟨0,0,0,0,0⟩
end Ai
namespace Ai
set_option maxRecDepth 100000
open Go Go.Proofs
theorem arePicks_ok (xs:List Int) (most:Nat) (hx:xs.length≤1048576):CallsTo EE 173 [sl (xs.map encInt),i64 most] (·=bp (xs.length≤most∧z5 xs 0 999)):=by
 refine callsTo_of_AW (fn:=Tryz.f173) Tryz.func173 rfl (by kernel_rfl) rfl ?_
 conv=>whnf
 refine kbi (fun h=>?_) (fun h=>?_)
 ·simp at h
  conv=>whnf
  refine ocase (lN xs hx 218 (fun n=>¬ InR n 0 999) (fun n _=>arePicks1_ok n)) (fun h2=>?_) (fun h2=>?_)
  ·conv=>whnf
   refine bpf fun hm=>?_
   obtain⟨x,hx1,hx2⟩:=h2
   exact hx2 (hm.2 x hx1)
  ·conv=>whnf
   refine bpt ⟨by omega,fun x hx1=>?_⟩
   exact Classical.byContradiction fun hb=>h2 ⟨x,hx1,hb⟩
 ·simp at h
  conv=>whnf
  exact bpf fun hm=>by have:=hm.1;omega
end Ai
namespace Ai
set_option maxRecDepth 100000
open Go Go.Proofs
theorem szOpS_ok (xs:List (List D)) (left:Int) (h0:0≤left) (h1:left≤1048576) (hx:xs.length≤9223372036854775807) :
  CallsTo EE 98 [sl xs,i64 left] (szR left xs.length):=by
 refine callsTo_of_AW (fn:=Tryz.f98) Tryz.func98 rfl (by kernel_rfl) rfl ?_
 conv=>whnf
 rw[zK (by omega) (by omega)]
 refine⟨fun h=>?_,fun h=>?_⟩
 ·conv=>whnf
  exact⟨-1,rfl,by omega,by omega,by omega⟩
 ·conv=>whnf
  simp at h
  exact⟨_,rfl,by omega,by omega,by omega⟩
theorem v8 (xs:List (List D)) (left:Int) (h0:0≤left) (h1:left≤1048576) (hx:xs.length≤9223372036854775807) :
  CallsTo EE 45 [sl xs,i64 left] (szR left xs.length):=by
 refine callsTo_of_AW (fn:=Tryz.f45) Tryz.func45 rfl (by kernel_rfl) rfl ?_
 conv=>whnf
 rw[zK (by omega) (by omega)]
 refine⟨fun h=>?_,fun h=>?_⟩
 ·conv=>whnf
  exact⟨-1,rfl,by omega,by omega,by omega⟩
 ·conv=>whnf
  simp at h
  exact⟨_,rfl,by omega,by omega,by omega⟩
theorem szOpSS_ok (xs:List (List OpL)) (left:Int) (h0:0≤left) (h1:left≤1048576) (hx:xs.length≤9223372036854775807) (hx2:∀ x∈xs,x.length≤9223372036854775807) :
  CallsTo EE 43 [sl (xs.map yF),i64 left] (szR left (kJ List.length xs)):=by
 refine callsTo_of_AW (fn:=Tryz.f43) Tryz.func43 rfl (by kernel_rfl) rfl ?_
 conv=>whnf
 rw[zK (by simp;omega) (by simp;omega),List.length_map]
 refine⟨fun h=>?_,fun h=>?_⟩
 ·conv=>whnf
  exact⟨-1,rfl,by omega,by omega,by omega⟩
 ·simp at h
  conv=>whnf
  refine yN (fun x:Nat × Int=>[(0,sl (xs.map yF)),(5,i64 x.1),(1,i64 x.2)]) (fun _=>[]) (fun x=>xs.length - x.1)
   (fun x=>x.1≤xs.length∧0≤x.2∧(xs.length:Int)+((xs.map List.length).take x.1).sum+x.2≤left) (0,left - xs.length) .refl ⟨rfl,rfl,rfl,trivial⟩ trivial ⟨by omega,by omega,by simp;omega⟩ ?_
  rintro⟨k,l⟩ τ H ⟨hk,hl,hs⟩
  dsimp only at hk hl hs
  conv=>whnf
  refine⟨fun h=>?_,fun h=>?_⟩
  ·have hlt:=yK h
   conv=>whnf
   refine⟨yF xs[k],zQ yF hlt rfl,?_⟩
   conv=>whnf
   refine⟨_,szOpS_ok _ l hl (by omega) (by simpa using hx2 _ (List.getElem_mem hlt)),?_⟩
   rintro r ⟨n,rfl,hn1,hn2,hn3⟩
   conv=>whnf
   refine⟨fun h=>?_,fun h=>?_⟩
   ·conv=>whnf
    exact⟨-1,rfl,by omega,by omega,by omega⟩
   ·simp at h
    conv=>whnf
    refine⟨(k+1,n),⟨by omega,by omega,?_⟩,by show xs.length - (k+1)<xs.length - k;omega,⟨rfl,zJ hlt hx,rfl,trivial⟩,trivial⟩
    have hm:k<(xs.map List.length).length:=by simpa using hlt
    rw[mV _ _ hm]
    have:=hn3 h
    simp at this ⊢
    omega
  ·have hge:=lF h
   conv=>whnf
   have hkk:k=xs.length:=by omega
   subst hkk
   refine⟨_,rfl,by omega,?_,?_⟩
   ·omega
   ·intro _
    simp only[kJ]
    rw[List.take_of_length_le (by simp)] at hs
    simp at hs ⊢
    omega
theorem szProg_ok (p:ProgL) (left:Int) (h0:0≤left) (h1:left≤1048576) (hs:p.wf):CallsTo EE 9 [agg (encProg p),i64 left] (szR left p.size):=by
 refine callsTo_of_AW (fn:=Tryz.f9) Tryz.func9 rfl (by kernel_rfl) rfl ?_
 conv=>whnf
 refine⟨_,szOpSS_ok _ left h0 h1 hs.1 hs.2,?_⟩
 rintro r ⟨n,rfl,hn1,hn2,hn3⟩
 conv=>whnf
 refine⟨fun h=>?_,fun h=>?_⟩
 ·conv=>whnf
  exact⟨-1,rfl,by omega,by omega,by omega⟩
 ·simp at h
  conv=>whnf
  exact⟨_,rfl,by omega,by omega,hn3⟩
end Ai
namespace Ai
set_option maxRecDepth 100000
open Go Go.Proofs
theorem yU (n:Int) (h:(n != n)=true):False:=by simp at h
theorem mO (xs:List Int) (hx:xs.length≤1048576):CallsTo EE 19 [sl (xs.map encInt),sl (xs.map encInt)] (·=bv true):=by
 refine callsTo_of_AW (fn:=Tryz.f19) Tryz.func19 rfl (by kernel_rfl) rfl ?_
 conv=>whnf
 refine⟨fun h=>(yU _ h).elim,fun _=>?_⟩
 conv=>whnf
 refine yN (fun k:Nat=>[(0,sl (xs.map encInt)),(1,sl (xs.map encInt)),(5,i64 k)]) (fun k=>[]) (fun k=>xs.length - k) (fun k=>k≤xs.length) 0 .refl ⟨rfl,rfl,rfl,trivial⟩ trivial (Nat.zero_le _) ?_
 intro k τ H hk
 conv=>whnf
 refine⟨fun h=>?_,fun h=>?_⟩
 ·have hlt:=yK h
  conv=>whnf
  refine⟨by kernel_rfl,?_⟩
  conv=>whnf
  refine⟨encInt xs[k],zQ encInt hlt rfl,?_⟩
  conv=>whnf
  refine⟨encInt xs[k],zQ encInt hlt rfl,?_⟩
  conv=>whnf
  refine⟨fun h=>(yU _ h).elim,fun _=>?_⟩
  conv=>whnf
  refine⟨k+1,by omega,by show xs.length - (k+1)<xs.length - k;omega,⟨rfl,rfl,zJ hlt (by omega),trivial⟩,trivial⟩
 ·conv=>whnf
theorem pI (x:Nat):CallsTo EE 120 [.d (.flt x),.d (.flt x)] (·=bv true):=by
 refine callsTo_of_AW (fn:=Tryz.f120) Tryz.func120 rfl (by kernel_rfl) rfl ?_
 conv=>whnf
 repeat' (refine kbi (fun h=>?_) (fun h=>?_) <;> first|contradiction|conv=>whnf)
 all_goals simp[aS] at *
 all_goals simp_all
theorem eqOp_ok (x:OpL):CallsTo EE 184 [agg (encOp x),agg (encOp x)] (·=bv true):=by
 refine callsTo_of_AW (fn:=Tryz.f184) Tryz.func184 rfl (by kernel_rfl) rfl ?_
 conv=>whnf
 refine⟨fun h=>(yU _ h).elim,fun _=>?_⟩
 conv=>whnf
 refine⟨fun h=>(yU _ h).elim,fun _=>?_⟩
 conv=>whnf
 refine⟨fun h=>(yU _ h).elim,fun _=>?_⟩
 conv=>whnf
 refine⟨_,pI x.v,?_⟩
 rintro r rfl
 conv=>whnf
theorem eqOpS_ok (xs:List OpL) (hx:xs.length≤1048576):CallsTo EE 121 [sl (xs.map encOp),sl (xs.map encOp)] (·=bv true):=by
 refine callsTo_of_AW (fn:=Tryz.f121) Tryz.func121 rfl (by kernel_rfl) rfl ?_
 conv=>whnf
 refine⟨fun h=>(yU _ h).elim,fun _=>?_⟩
 conv=>whnf
 refine yN (fun k:Nat=>[(0,sl (xs.map encOp)),(1,sl (xs.map encOp)),(5,i64 k)]) (fun k=>[]) (fun k=>xs.length - k) (fun k=>k≤xs.length) 0 .refl ⟨rfl,rfl,rfl,trivial⟩ trivial (Nat.zero_le _) ?_
 intro k τ H hk
 conv=>whnf
 refine⟨fun h=>?_,fun h=>?_⟩
 ·have hlt:=yK h
  conv=>whnf
  refine⟨by kernel_rfl,?_⟩
  conv=>whnf
  refine⟨encOp xs[k],zQ encOp hlt rfl,?_⟩
  conv=>whnf
  refine⟨encOp xs[k],zQ encOp hlt rfl,?_⟩
  conv=>whnf
  refine⟨_,eqOp_ok xs[k],?_⟩
  conv=>whnf
  refine⟨k+1,by omega,by show xs.length - (k+1)<xs.length - k;omega,⟨rfl,rfl,zJ hlt (by omega),trivial⟩,trivial⟩
 ·conv=>whnf
theorem eqOpSS_ok (xs:List (List OpL)) (hx:xs.length≤1048576) (hx2:∀ x∈xs,x.length≤1048576):CallsTo EE 63 [sl (xs.map yF),sl (xs.map yF)] (·=bv true):=by
 refine callsTo_of_AW (fn:=Tryz.f63) Tryz.func63 rfl (by kernel_rfl) rfl ?_
 conv=>whnf
 refine⟨fun h=>(yU _ h).elim,fun _=>?_⟩
 conv=>whnf
 refine yN (fun k:Nat=>[(0,sl (xs.map yF)),(1,sl (xs.map yF)),(5,i64 k)]) (fun k=>[]) (fun k=>xs.length - k) (fun k=>k≤xs.length) 0 .refl ⟨rfl,rfl,rfl,trivial⟩ trivial (Nat.zero_le _) ?_
 intro k τ H hk
 conv=>whnf
 refine⟨fun h=>?_,fun h=>?_⟩
 ·have hlt:=yK h
  conv=>whnf
  refine⟨by kernel_rfl,?_⟩
  conv=>whnf
  refine⟨yF xs[k],zQ yF hlt rfl,?_⟩
  conv=>whnf
  refine⟨yF xs[k],zQ yF hlt rfl,?_⟩
  conv=>whnf
  refine⟨_,eqOpS_ok xs[k] (hx2 _ (List.getElem_mem hlt)),?_⟩
  conv=>whnf
  refine⟨k+1,by omega,by show xs.length - (k+1)<xs.length - k;omega,⟨rfl,rfl,zJ hlt (by omega),trivial⟩,trivial⟩
 ·conv=>whnf
theorem m3 (p:ProgL) (h:p.rs.length≤1048576∧∀ x∈p.rs,x.length≤1048576):CallsTo EE 17 [agg (encProg p),agg (encProg p)] (·=bv true):=by
 refine callsTo_of_AW (fn:=Tryz.f17) Tryz.func17 rfl (by kernel_rfl) rfl ?_
 conv=>whnf
 refine⟨fun h=>(yU _ h).elim,fun _=>?_⟩
 conv=>whnf
 refine⟨fun h=>(yU _ h).elim,fun _=>?_⟩
 conv=>whnf
 refine⟨fun h=>(yU _ h).elim,fun _=>?_⟩
 conv=>whnf
 refine⟨_,eqOpSS_ok _ h.1 h.2,?_⟩
 rintro r rfl
 conv=>whnf
end Ai
namespace Ai
set_option maxRecDepth 100000
open Go Go.Proofs Cyc
def Picks6 (xs:List Int):Prop:=xs.length≤60∧z5 xs 0 999
theorem Picks6.nn {xs:List Int} (h:Picks6 xs):∀ i∈xs,0≤i:=fun i hi=>(h.2 i hi).1
end Ai
namespace Ai
set_option maxRecDepth 100000
open Go Go.Proofs Cyc
theorem u5 (c:List Int) (k:Nat) (x:Int):xY (c.map encInt) 1 (0+(k:Int).toNat) 0 [di x]=(c.set k x).map encInt:=by
 have e:xY (c.map encInt) 1 (0+(k:Int).toNat) 0 [di x]=(c.map encInt).set k [di x]:=by
  unfold xY
  rw[show([di x]:List D).length=1 from rfl,nbeq_self,nbeq_self]
  simp
 rw[e,List.map_set]
 rfl
end Ai
namespace Ai
set_option maxRecDepth 100000
open Go Go.Proofs Cyc
noncomputable def tL (p:ProgL) (r:RunT) (k:Nat):Nat:=(zA p r.s).getD k 0
noncomputable def runBy (p:ProgL) (r:RunT) (k:Nat):RunT:=⟨0,r.tr++[(zG p r.s (tL p r k)).2],r.tk++[(k:Int)],(zG p r.s (tL p r k)).1⟩
def leaf (p:ProgL) (b:Int) (c:Int) (r:RunT):RunT:=⟨c,r.tr,r.tk,r.s⟩
noncomputable def aB (p:ProgL) (tr:List Ev):Nat→StL
 | 0=>xC p
 |i+1=>(zG p (aB p tr i) (tr.getD i vE).th.toNat).1
theorem eF (p:ProgL) (tr:List Ev) (e:Ev):∀ i,i≤tr.length→aB p (tr++[e]) i=aB p tr i
 | 0,_=>rfl
 |i+1,h=>by
  rw[aB,aB,eF p tr e i (by omega)]
  have:(tr++[e]).getD i vE=tr.getD i vE:=by
   rw[List.getD_eq_getElem?_getD,List.getD_eq_getElem?_getD,List.getElem?_append_left (by omega)]
  rw[this]
structure XR (p:ProgL) (b:Int) (r:RunT):Prop where
 inv:AInv p r.s
 tr:TrOK r.s r.tr
 len:r.tr.length=r.tk.length
 le:(r.tr.length:Int)≤b
 tk:∀ i∈r.tk,0≤i∧i<5
 at_:aB p r.tr r.tr.length=r.s
 en:∀ i,i<r.tr.length→(r.tr.getD i vE).th.toNat∈zA p (aB p r.tr i)∧0≤(r.tr.getD i vE).th
 run:∀ picks,r.tk <+: picks→dW p picks b=nL p picks b (b.toNat+1 - r.tr.length) r.s r.tr r.tk
structure XEnd (p:ProgL) (b:Int) (x:RunT):Prop where
 fin:REnd p b x
 en:∀ i,i<x.tr.length→(x.tr.getD i vE).th.toNat∈zA p (aB p x.tr i)∧0≤(x.tr.getD i vE).th
 run:dW p x.tk b=x
theorem XR.new {p:ProgL} (hg:p.goodS) {b:Int} (hb:0≤b):XR p b ⟨0,[],[],xC p⟩ :=
 ⟨jE hg,⟨fun e he=>(by cases he),fun h=>absurd rfl h⟩,rfl,hb,fun i hi=>(by cases hi),rfl,fun i hi=>(by cases hi),fun picks h=>rfl⟩
theorem XR.mem {p:ProgL} {b:Int} {r:RunT} {k:Nat} (hk:k<(zA p r.s).length):tL p r k∈zA p r.s:=by
 unfold tL
 rw[List.getD_eq_getElem?_getD,List.getElem?_eq_getElem hk];exact List.getElem_mem hk
theorem XR.step {p:ProgL} (hg:p.goodS) (hv:p.flt) {b:Int} {r:RunT} (h:XR p b r) (hc:¬ 0<xF p r.s r.tr.length b) {k:Nat} (hk:k<(zA p r.s).length):XR p b (runBy p r k):=by
 have hm:=XR.mem (b:=b) hk
 have h5:(zA p r.s).length≤5:=Nat.le_trans (kS) h.inv.si.len
 have hlb:=(en_ne hc).2
 have hle:=h.le
 have hth:(zG p r.s (tL p r k)).2.th=(tL p r k:Nat):=(mA p r.s _).1
 refine⟨uN hg hv hm h.inv,tr_step hg hm h.inv h.tr,by simp[runBy,h.len],?_,fun i hi=>?_,?_,fun i hi=>?_,fun picks hp=>?_⟩
 ·show((r.tr++[_]).length:Int)≤b
  simp;omega
 ·rcases List.mem_append.1 hi with e|e
  ·exact h.tk i e
  ·simp only[List.mem_cons,List.not_mem_nil,or_false] at e
   subst e;omega
 ·show aB p (r.tr++[_]) (r.tr++[_]).length=(zG p r.s _).1
  rw[List.length_append]
  show aB p (r.tr++[_]) (r.tr.length+1)=_
  rw[aB,eF _ _ _ _ (Nat.le_refl _),h.at_]
  have:(r.tr++[(zG p r.s (tL p r k)).2]).getD r.tr.length vE=(zG p r.s (tL p r k)).2:=by simp[List.getD_eq_getElem?_getD]
  rw[this,hth]
  rfl
 ·have hi:i<(r.tr++[(zG p r.s (tL p r k)).2]).length:=hi
  show((r.tr++[_]).getD i vE).th.toNat∈zA p (aB p (r.tr++[_]) i)∧0≤((r.tr++[_]).getD i vE).th
  simp only[List.length_append,List.length_cons,List.length_nil] at hi
  rw[eF _ _ _ _ (by omega)]
  by_cases he:i=r.tr.length
  ·subst he
   have:(r.tr++[(zG p r.s (tL p r k)).2]).getD r.tr.length vE=(zG p r.s (tL p r k)).2:=by simp[List.getD_eq_getElem?_getD]
   rw[this,hth,h.at_]
   exact⟨by simpa using hm,by omega⟩
  ·have:(r.tr++[(zG p r.s (tL p r k)).2]).getD i vE=r.tr.getD i vE:=by
    rw[List.getD_eq_getElem?_getD,List.getD_eq_getElem?_getD,List.getElem?_append_left (by omega)]
   rw[this]
   exact h.en i (by omega)
 ·have hp:r.tk++[(k:Int)] <+: picks:=hp
  obtain⟨more,rfl⟩:=hp
  rw[h.run _ ⟨[(k:Int)]++more,by simp⟩]
  have hn:b.toNat+1 - r.tr.length=(b.toNat - r.tr.length)+1:=by omega
  rw[hn,nL,if_neg hc]
  have hpk:vB (r.tk++[(k:Int)]++more) r.tk (zA p r.s).length=(k:Int):=by
   unfold vB
   rw[if_pos (by simp)]
   have:(r.tk++[(k:Int)]++more).getD r.tk.length 0=(k:Int):=by simp[List.getD_eq_getElem?_getD]
   rw[this]
   exact Int.tmod_eq_of_lt (by omega) (by omega)
  simp only[hpk]
  show _=nL p _ b (b.toNat+1 - (r.tr++[_]).length) _ _ _
  rw[show b.toNat+1 - (r.tr++[(zG p r.s (tL p r k)).2]).length=b.toNat - r.tr.length by simp]
  rfl
theorem XR.leaf {p:ProgL} {b:Int} {r:RunT} (h:XR p b r) (hc:0<xF p r.s r.tr.length b):XEnd p b (leaf p b (xF p r.s r.tr.length b) r):=by
 refine⟨⟨h.inv,h.tr,rfl,hc,h.len,h.le,h.tk⟩,h.en,?_⟩
 show dW p r.tk b=_
 rw[h.run _ (List.prefix_rfl)]
 have hle:=h.le
 have hn:b.toNat+1 - r.tr.length=(b.toNat - r.tr.length)+1:=by omega
 rw[hn,nL,if_pos hc]
 rfl
end Ai
namespace Ai
set_option maxRecDepth 100000
open Go Go.Proofs
theorem rS (a b:Ev):CallsTo EE 125 [agg (encEv a),agg (encEv b)] (·=bp (qS a b)):=by
 refine callsTo_of_AW (fn:=Tryz.f125) Tryz.func125 rfl (by kernel_rfl) rfl ?_
 conv=>whnf
 repeat' (first|refine kbi (fun h=>?_) (fun h=>?_)|refine ocase (touchS_ok b) (fun h=>?_) (fun h=>?_)|refine ocase (condS_ok b) (fun h=>?_) (fun h=>?_)) <;> conv=>whnf
 all_goals simp only[beq_iff_eq] at *
 all_goals first|exact bpt (by unfold qS;simp[*])|exact bpf (by unfold qS;simp[*])
theorem bindI_ok (a b:Ev):CallsTo EE 129 [agg (encEv a),agg (encEv b)] (·=bp (qS a b)):=by
 refine callsTo_of_AW (fn:=Tryz.f129) Tryz.func129 rfl (by kernel_rfl) rfl ?_
 conv=>whnf
 repeat' (first|refine kbi (fun h=>?_) (fun h=>?_)|refine ocase (touchI_ok b) (fun h=>?_) (fun h=>?_)|refine ocase (condI_ok b) (fun h=>?_) (fun h=>?_)) <;> conv=>whnf
 all_goals simp only[beq_iff_eq] at *
 all_goals first|exact bpt (by unfold qS;simp[*])|exact bpf (by unfold qS;simp[*])
theorem tA (e:Ev):CallsTo EE 130 [agg (encEv e)] (·=i64 (gR e)):=by
 refine callsTo_of_AW (fn:=Tryz.f130) Tryz.func130 rfl (by kernel_rfl) rfl ?_
 conv=>whnf
 refine⟨by kernel_rfl,?_⟩
 conv=>whnf
 refine⟨_,givesI_ok e,?_⟩
 conv=>whnf
 refine⟨_,takesI2_ok e,?_⟩
 conv=>whnf
 rfl
theorem hangS_ok (a b:Ev):CallsTo EE 72 [agg (encEv a),agg (encEv b)] (·=bp (fY a b)):=by
 refine callsTo_of_AW (fn:=Tryz.f72) Tryz.func72 rfl (by kernel_rfl) rfl ?_
 conv=>whnf
 refine⟨by kernel_rfl,?_⟩
 conv=>whnf
 refine kbi (fun h1=>?_) (fun h1=>?_)
 ·conv=>whnf
  exact bpt (.inl (by simpa using h1))
 have h1:¬ a.th=b.th:=by simpa using h1
 conv=>whnf
 refine⟨_,iH a,?_⟩
 conv=>whnf
 refine⟨_,iH b,?_⟩
 conv=>whnf
 have rest:¬ (xS a=xS b∧xS a≠-2)→(fY a b↔qS a b∨qS b a):=fun h=>by unfold fY;simp[h,h1]
 refine kbi (fun h2=>?_) (fun h2=>?_)
 ·have h2:xS a=xS b:=by simpa using h2
  conv=>whnf
  refine⟨_,iH a,?_⟩
  conv=>whnf
  refine kbi (fun h3=>?_) (fun h3=>?_)
  ·have h3:xS a≠-2:=by simpa using h3
   conv=>whnf
   exact bpt (.inr (.inr (.inr ⟨h2,h3⟩)))
  have h3:xS a=-2:=by simpa using h3
  have rest:=rest fun e=>e.2 h3
  conv=>whnf
  refine ocase (rS a b) (fun h=>?_) (fun h=>?_)
  ·conv=>whnf
   exact bpt (rest.2 (.inl h))
  conv=>whnf
  refine ocase (rS b a) (fun h4=>?_) (fun h4=>?_)
  ·conv=>whnf
   exact bpt (rest.2 (.inr h4))
  conv=>whnf
  exact bpf fun e=>(rest.1 e).elim h h4
 ·have h2:¬ xS a=xS b:=by simpa using h2
  have rest:=rest fun e=>h2 e.1
  conv=>whnf
  refine ocase (rS a b) (fun h=>?_) (fun h=>?_)
  ·conv=>whnf
   exact bpt (rest.2 (.inl h))
  conv=>whnf
  refine ocase (rS b a) (fun h4=>?_) (fun h4=>?_)
  ·conv=>whnf
   exact bpt (rest.2 (.inr h4))
  conv=>whnf
  exact bpf fun e=>(rest.1 e).elim h h4
theorem hangI_ok (a b:Ev):CallsTo EE 77 [agg (encEv a),agg (encEv b)] (·=bp (rG a b)):=by
 refine callsTo_of_AW (fn:=Tryz.f77) Tryz.func77 rfl (by kernel_rfl) rfl ?_
 conv=>whnf
 refine⟨by kernel_rfl,?_⟩
 conv=>whnf
 refine kbi (fun h1=>?_) (fun h1=>?_)
 ·conv=>whnf
  exact bpt (.inl (by simpa using h1))
 have h1:¬ a.th=b.th:=by simpa using h1
 conv=>whnf
 refine eR (bindI_ok a b) (fun h2=>?_) (fun h2=>?_)
 ·conv=>whnf
  exact bpt (.inr (.inl h2))
 conv=>whnf
 refine eR (bindI_ok b a) (fun h3=>?_) (fun h3=>?_)
 ·conv=>whnf
  exact bpt (.inr (.inr (.inl h3)))
 have rest:rG a b↔0≤gR a∧gR a=gR b:=by unfold rG;simp[h1,h2,h3]
 conv=>whnf
 refine⟨_,tA a,?_⟩
 conv=>whnf
 refine kbi (fun h4=>?_) (fun h4=>?_)
 ·have h4:0≤gR a:=by simpa using h4
  conv=>whnf
  refine⟨_,tA a,?_⟩
  conv=>whnf
  refine⟨_,tA b,?_⟩
  conv=>whnf
  refine kbi (fun h5=>?_) (fun h5=>?_)
  ·conv=>whnf
   exact bpt (rest.2 ⟨h4,by simpa using h5⟩)
  ·conv=>whnf
   exact bpf fun e=>h5 (by simpa using (rest.1 e).2)
 ·conv=>whnf
  exact bpf fun e=>h4 (decide_eq_true (rest.1 e).1)
end Ai
namespace Ai
set_option maxRecDepth 100000
open Go Go.Proofs Cyc
theorem bind12 {a b:Ev} (h:a.kind=12):qS a b:=by
 unfold qS;simp[h]
theorem fZ {p:ProgL} {s:StL} {u:Nat}:u∈zA p s↔u<s.ths.length∧s.fault=0∧((s.ths.getD u th0).st=1∨(s.ths.getD u th0).st=4)∧zZ p s (s.ths.getD u th0)<0:=by
 unfold zA zM
 rw[List.mem_filter,List.mem_range]
 unfold jG
 rw[decide_eq_true_iff]
end Ai
namespace Ai
set_option maxRecDepth 100000
open Go Go.Proofs
def qY (k:Int) (n:Nat):List Int:=(List.range n).map fun (j:Nat)=>k+(j:Int)
theorem vY (k:Int) (n:Nat):(qY k n).length=n:=by simp[qY]
theorem marks_get {k:Int} {n j:Nat} (h:j<n):(qY k n)[j]?=some (k+(j:Int)):=by simp[qY,h]
def qC (xs:List Int) (k:Int) (n:Nat):List Int:=qY k n++xs.drop n
theorem cB {xs:List Int} {k:Int} {n:Nat} (h:n<xs.length):(qC xs k n).set n (k+(n:Int))=qC xs k (n+1):=by
 unfold qC
 rw[List.drop_eq_getElem_cons h,List.set_append_right _ _ (by rw[vY];omega),vY,Nat.sub_self,List.set_cons_zero]
 unfold qY
 rw[List.range_succ,List.map_append]
 simp
theorem iD (xs:List Int) (k:Int):qC xs k xs.length=qY k xs.length:=by simp[qC]
theorem kD (κ:Key) (hκ:κ=.n 77∨κ=.l 77) (xs:List Int) (k:Int) (hx:xs.length≤1048576) (h0:0≤k) (h1:k≤1073741824) (H0:Key→Option Ob) (hH:H0 κ=some (.ds 3 1 (xs.map encInt))) :
  IOCall EE 22 [.ref κ 0 xs.length,i64 k] H0 (fun r H1=>r=i64 (k+xs.length)∧H1 κ=some (.ds 3 1 ((qY k xs.length).map encInt))∧∀ κ',isK κ κ'=false→H1 κ'=none):=by
 rcases hκ with rfl|rfl
 ·refine xN (fn:=Tryz.f22) (c:=Tryz.f22.body.getD .skip) Tryz.func22 rfl (by kernel_rfl) rfl ?_
  have hat:At [(0,.ref (.n 77) 0 xs.length),(1,i64 k)] [(.n 77,.ds 3 1 (xs.map encInt))] [] ⟨fun i=>[AV.ref (.n 77) 0 xs.length,i64 k].getD i .junk,H0⟩:=⟨⟨rfl,rfl,trivial⟩,⟨hH,trivial⟩,trivial⟩
  obtain⟨τ,H,hf⟩:=hat.form
  rw[hf]
  conv=>whnf
  refine yN (fun n:Nat=>[(0,.ref (.n 77) 0 xs.length),(1,i64 (k+(n:Int))),(5,i64 n)]) (fun n=>[(.n 77,.ds 3 1 ((qC xs k n).map encInt))]) (fun n=>xs.length - n) (fun n=>n≤xs.length) 0
   Weak.refl ⟨rfl,?_,rfl,trivial⟩ ⟨?_,trivial⟩ (Nat.zero_le _) ?_
  ·show i64 k=i64 (k+((0:Nat):Int))
   rw[show k+((0:Nat):Int)=k by omega]
  ·show some (Ob.ds 3 1 (xs.map encInt))=some (Ob.ds 3 1 ((qC xs k 0).map encInt))
   simp[qC,qY]
  intro n τ H hn
  have hn:n≤xs.length:=hn
  conv=>whnf
  refine kbi (fun h=>?_) (fun h=>?_)
  ·have hlt:n<xs.length:=by simpa using h
   conv=>whnf
   refine⟨⟨by omega,by omega⟩,?_⟩
   conv=>whnf
   refine⟨n+1,by show n+1≤xs.length;omega,by show xs.length - (n+1)<xs.length - n;omega,⟨rfl,?_,?_,trivial⟩,⟨?_,trivial⟩⟩
   ·show AV.d (.int .i64 (IntKind.i64.wrap ((k+(n:Int))+1)))=i64 (k+((n+1:Nat):Int))
    rw[zK (by omega) (by omega)]
    exact congrArg i64 (by omega)
   ·show AV.d (.int .i64 (IntKind.i64.wrap ((n:Int)+1)))=i64 ((n+1:Nat):Int)
    rw[zK (by omega) (by omega)]
    rfl
   ·show some (Ob.ds 3 1 (xY ((qC xs k n).map encInt) 1 (0+(n:Int).toNat) 0 [di (k+(n:Int))]))=_
    rw[u5,cB hlt]
  ·have hkk:n=xs.length:=by
    have:¬ n<xs.length:=by simpa using h
    omega
   subst hkk
   conv=>whnf
   refine⟨_,Weak.refl,?_⟩
   conv=>whnf
   refine⟨isK (.n 77),rfl,?_,fun κ hκ=>?_⟩
   ·show some (Ob.ds 3 1 ((qC xs k xs.length).map encInt))=_
    rw[iD]
   ·unfold xB
    rw[hκ];rfl
 ·refine xN (fn:=Tryz.f22) (c:=Tryz.f22.body.getD .skip) Tryz.func22 rfl (by kernel_rfl) rfl ?_
  have hat:At [(0,.ref (.l 77) 0 xs.length),(1,i64 k)] [(.l 77,.ds 3 1 (xs.map encInt))] [] ⟨fun i=>[AV.ref (.l 77) 0 xs.length,i64 k].getD i .junk,H0⟩:=⟨⟨rfl,rfl,trivial⟩,⟨hH,trivial⟩,trivial⟩
  obtain⟨τ,H,hf⟩:=hat.form
  rw[hf]
  conv=>whnf
  refine yN (fun n:Nat=>[(0,.ref (.l 77) 0 xs.length),(1,i64 (k+(n:Int))),(5,i64 n)]) (fun n=>[(.l 77,.ds 3 1 ((qC xs k n).map encInt))]) (fun n=>xs.length - n) (fun n=>n≤xs.length) 0
   Weak.refl ⟨rfl,?_,rfl,trivial⟩ ⟨?_,trivial⟩ (Nat.zero_le _) ?_
  ·show i64 k=i64 (k+((0:Nat):Int))
   rw[show k+((0:Nat):Int)=k by omega]
  ·show some (Ob.ds 3 1 (xs.map encInt))=some (Ob.ds 3 1 ((qC xs k 0).map encInt))
   simp[qC,qY]
  intro n τ H hn
  have hn:n≤xs.length:=hn
  conv=>whnf
  refine kbi (fun h=>?_) (fun h=>?_)
  ·have hlt:n<xs.length:=by simpa using h
   conv=>whnf
   refine⟨⟨by omega,by omega⟩,?_⟩
   conv=>whnf
   refine⟨n+1,by show n+1≤xs.length;omega,by show xs.length - (n+1)<xs.length - n;omega,⟨rfl,?_,?_,trivial⟩,⟨?_,trivial⟩⟩
   ·show AV.d (.int .i64 (IntKind.i64.wrap ((k+(n:Int))+1)))=i64 (k+((n+1:Nat):Int))
    rw[zK (by omega) (by omega)]
    exact congrArg i64 (by omega)
   ·show AV.d (.int .i64 (IntKind.i64.wrap ((n:Int)+1)))=i64 ((n+1:Nat):Int)
    rw[zK (by omega) (by omega)]
    rfl
   ·show some (Ob.ds 3 1 (xY ((qC xs k n).map encInt) 1 (0+(n:Int).toNat) 0 [di (k+(n:Int))]))=_
    rw[u5,cB hlt]
  ·have hkk:n=xs.length:=by
    have:¬ n<xs.length:=by simpa using h
    omega
   subst hkk
   conv=>whnf
   refine⟨_,Weak.refl,?_⟩
   conv=>whnf
   refine⟨isK (.l 77),rfl,?_,fun κ hκ=>?_⟩
   ·show some (Ob.ds 3 1 ((qC xs k xs.length).map encInt))=_
    rw[iD]
   ·unfold xB
    rw[hκ];rfl
theorem heldIntS_ok (k:Int) (n:Nat) (hx:n≤1048576) (h0:0≤k) (h1:k≤1073741824):CallsTo EE 42 [sl ((qY k n).map encInt),i64 k] (·=i64 (k+n)):=by
 have hml:=vY k n
 refine callsTo_of_AW (fn:=Tryz.f42) Tryz.func42 rfl (by kernel_rfl) rfl ?_
 conv=>whnf
 refine yN (fun j:Nat=>[(0,sl ((qY k n).map encInt)),(1,i64 (k+(j:Int))),(5,i64 j)]) (fun j=>[]) (fun j=>n - j) (fun j=>j≤n) 0
  Weak.refl ⟨rfl,?_,rfl,trivial⟩ trivial (Nat.zero_le _) ?_
 ·show i64 k=i64 (k+((0:Nat):Int))
  rw[show k+((0:Nat):Int)=k by omega]
 intro j τ H hj
 have hj:j≤n:=hj
 conv=>whnf
 refine kbi (fun h=>?_) (fun h=>?_)
 ·have hlt:=yK h
  rw[hml] at hlt
  conv=>whnf
  refine⟨encInt (k+(j:Int)),⟨by omega,?_,rfl⟩,?_⟩
  ·rw[List.getElem?_map,Int.toNat_natCast,marks_get hlt];rfl
  conv=>whnf
  refine kbi (fun h=>absurd h (by simp)) (fun _=>?_)
  conv=>whnf
  refine⟨j+1,by show j+1≤n;omega,by show n - (j+1)<n - j;omega,⟨rfl,?_,?_,trivial⟩,trivial⟩
  ·show AV.d (.int .i64 (IntKind.i64.wrap ((k+(j:Int))+1)))=i64 (k+((j+1:Nat):Int))
   rw[zK (by omega) (by omega)]
   exact congrArg i64 (by omega)
  ·show AV.d (.int .i64 (IntKind.i64.wrap ((j:Int)+1)))=i64 ((j+1:Nat):Int)
   rw[zK (by omega) (by omega)]
   rfl
 ·have hkk:j=n:=by
   have:¬ j<n:=by simpa[hml] using h
   omega
  subst hkk
  conv=>whnf
  try rfl
end Ai
namespace Ai
set_option maxRecDepth 100000
open Go Go.Proofs
theorem vX (els:List (List D)) (sz k off:Nat) (xs:List D):(xY els sz k off xs).length=els.length:=by
 unfold xY
 cases Nat.beq off 0&&Nat.beq xs.length sz <;> simp
theorem nK {x:D}:∀ (c:List D) (off:Nat),off<c.length→(yJ c off [x]).length=c.length
 | [],off,h=>by simp at h
 |c::cs,0,h=>by simp[yJ]
 |c::cs,off+1,h=>by
  have:=nK (x:=x) cs off (by simpa using h)
  simp[yJ,this]
theorem aL {els:List (List D)} {k off:Nat} {x:D} (h:∀ c∈els,c.length=4) (ho:off<4):∀ c∈xY els 4 k off [x],c.length=4:=by
 intro c hc
 unfold xY at hc
 rw[show Nat.beq ([x]:List D).length 4=false from rfl,Bool.and_false] at hc
 obtain⟨i,hi,rfl⟩:=List.mem_iff_getElem.1 hc
 have hil:i<els.length:=by simpa using hi
 have h4:=h _ (List.getElem_mem hil)
 simp only[cond_false,List.getElem_modify]
 split
 ·rw[nK _ _ (by omega)];exact h4
 ·exact h4
theorem markOpS_ok (els:List (List D)) (k:Int) (n:Nat) (hn:n=els.length) (hx:n≤1048576) (h4:∀ c∈els,c.length=4) (h0:0≤k) (h1:k≤1073741824) (H0:Key→Option Ob) (hH:H0 (.n 50)=some (.ds 135 4 els)) :
  IOCall EE 123 [.ref (.n 50) 0 n,i64 k] H0 (fun r H1=>r=i64 (k+4*n)∧∀ κ,H1 κ=none):=by
 refine xN (fn:=Tryz.f123) (c:=Tryz.f123.body.getD .skip) Tryz.func123 rfl (by kernel_rfl) rfl ?_
 have hat:At [(0,.ref (.n 50) 0 n),(1,i64 k)] [(.n 50,.ds 135 4 els)] [] ⟨fun i=>[AV.ref (.n 50) 0 n,i64 k].getD i .junk,H0⟩:=⟨⟨rfl,rfl,trivial⟩,⟨hH,trivial⟩,trivial⟩
 obtain⟨τ,H,hf⟩:=hat.form
 rw[hf]
 conv=>whnf
 refine yN (fun x:Nat × List (List D)=>[(0,.ref (.n 50) 0 n),(1,i64 (k+4*(x.1:Int))),(5,i64 x.1)]) (fun x=>[(.n 50,.ds 135 4 x.2)]) (fun x=>n - x.1) (fun x=>x.1≤n∧x.2.length=n∧∀ c∈x.2,c.length=4) (0,els)
  Weak.refl ⟨rfl,?_,rfl,trivial⟩ ⟨rfl,trivial⟩ ⟨Nat.zero_le _,hn.symm,h4⟩ ?_
 ·show i64 k=i64 (k+4*((0:Nat):Int))
  rw[show k+4*((0:Nat):Int)=k by omega]
 rintro⟨i,E⟩ τ H ⟨hi,hE,hE4⟩
 have hi:i≤n:=hi
 have hE:E.length=n:=hE
 have hE4:∀ c∈E,c.length=4:=hE4
 conv=>whnf
 refine kbi (fun h=>?_) (fun h=>?_)
 ·have hlt:i<n:=by simpa using h
  conv=>whnf
  refine⟨⟨by show 0≤(i:Int);omega,by show(i:Int)<n;omega⟩,?_⟩
  conv=>whnf
  refine⟨⟨by show 0≤(i:Int);omega,by show(i:Int)<n;omega⟩,?_⟩
  conv=>whnf
  refine⟨⟨by show 0≤(i:Int);omega,by show(i:Int)<n;omega⟩,?_⟩
  conv=>whnf
  refine⟨⟨by show 0≤(i:Int);omega,by show(i:Int)<n;omega⟩,?_⟩
  conv=>whnf
  refine⟨(i+1,xY (xY (xY (xY E 4 (0+(i:Int).toNat) (0+0) [.int .i64 (k+4*(i:Int))]) 4 (0+(i:Int).toNat) (0+1) [.int .i64 (IntKind.i64.wrap (k+4*(i:Int)+1))]) 4 (0+(i:Int).toNat) (0+2) [.int .i64 (IntKind.i64.wrap (IntKind.i64.wrap (k+4*(i:Int)+1)+1))]) 4 (0+(i:Int).toNat) (0+3) [.flt (FloatKind.f64.nearest (IntKind.i64.wrap (IntKind.i64.wrap (IntKind.i64.wrap (k+4*(i:Int)+1)+1)+1)))]),⟨by show i+1≤n;omega,?_,?_⟩,by show n - (i+1)<n - i;omega,⟨rfl,?_,?_,trivial⟩,⟨rfl,trivial⟩⟩
  ·dsimp only
   rw[vX,vX,vX,vX,hE]
  ·dsimp only
   refine aL (aL (aL (aL hE4 ?_) ?_) ?_) ?_ <;> omega
  ·show AV.d (.int .i64 (IntKind.i64.wrap (IntKind.i64.wrap (IntKind.i64.wrap (IntKind.i64.wrap ((k+4*(i:Int))+1)+1)+1)+1)))=i64 (k+4*((i+1:Nat):Int))
   rw[zK (n:=k+4*(i:Int)+1) (by omega) (by omega),zK (n:=k+4*(i:Int)+1+1) (by omega) (by omega),zK (n:=k+4*(i:Int)+1+1+1) (by omega) (by omega),zK (n:=k+4*(i:Int)+1+1+1+1) (by omega) (by omega)]
   exact congrArg i64 (by omega)
  ·show AV.d (.int .i64 (IntKind.i64.wrap ((i:Int)+1)))=i64 ((i+1:Nat):Int)
   rw[zK (by omega) (by omega)]
   rfl
 ·conv=>whnf
  have hkk:i=n:=by
   have:¬ i<n:=by simpa using h
   omega
  subst hkk
  refine⟨_,Weak.refl,?_⟩
  conv=>whnf
  exact⟨fun _=>false,rfl,fun κ=>rfl⟩
end Ai
namespace Ai
set_option maxRecDepth 100000
open Go Go.Proofs
theorem xO {g:FuncId} {xs ys:List AV} {H0:Key→Option Ob} {Post:AV→(Key→Option Ob)→Prop} (h:IOCall EE g xs H0 Post) (e:ys=xs):IOCall EE g ys H0 Post:=by rw[e];exact h
def mR (subs:List (List (List D))) (i j:Nat):List AV:=if j<i then [.junk] else [.ref (.s 903 j) 0 (subs.getD j []).length]
def vC (subs:List (List (List D))) (i:Nat):List (List AV):=(List.range subs.length).map (mR subs i)
def vR (subs:List (List (List D))) (i j:Nat):Option Ob:=if j<i then none else (subs[j]?).map (.ds 135 4)
theorem q8 {subs:List (List (List D))} {i j:Nat} (h:j<subs.length):(vC subs i)[j]?=some (mR subs i j):=by simp[vC,h]
theorem sP {subs:List (List (List D))} {i i':Nat} (f:List AV→List AV) (h:∀ j,f (mR subs i j)=mR subs i' j):(vC subs i).map f=vC subs i':=by
 unfold vC
 rw[List.map_map]
 exact List.map_congr_left fun j _=>h j
theorem wZ (f:Key→Key) (subs:List (List (List D))) (i j:Nat):(vR subs i j).map (renO f)=vR subs i j:=by
 unfold vR
 split
 ·rfl
 ·cases subs[j]? <;> rfl
theorem vG (p:Key→Bool) (subs:List (List (List D))) (i j:Nat):(vR subs i j).map (scrPO p)=vR subs i j:=by
 unfold vR
 split
 ·rfl
 ·cases subs[j]? <;> rfl
def tot (subs:List (List (List D))) (i:Nat):Nat:=((subs.take i).map List.length).sum
theorem tot_succ {subs:List (List (List D))} {i:Nat} (h:i<subs.length):tot subs (i+1)=tot subs i+subs[i].length:=by
 unfold tot
 rw[List.take_succ_eq_append_getElem h,List.map_append,List.sum_append]
 simp
theorem tot_le (subs:List (List (List D))) (i:Nat):tot subs i≤tot subs subs.length:=by
 unfold tot
 rw[List.take_length]
 have:∀ (l:List Nat) (i:Nat),(l.take i).sum≤l.sum:=by
  intro l
  induction l with
  |nil=>simp
  |cons x xs ih =>
   intro i
   cases i with
   |zero=>simp
   |succ i=>simp only[List.take_succ_cons,List.sum_cons];have:=ih i;omega
 rw[List.map_take]
 exact this _ i
theorem markOpSS_ok (subs:List (List (List D))) (k:Int) (hx:subs.length≤1048576) (hs:∀ q∈subs,∀ c∈q,c.length=4) (ht:tot subs subs.length≤1048576) (h0:0≤k) (h1:k≤1048576) (H0:Key→Option Ob)
  (hH:H0 (.n 903)=some (.rs 133 1 (vC subs 0))) (hF:∀ j,H0 (.s 903 j)=vR subs 0 j) :
  IOCall EE 65 [.dref (.n 903) subs.length,i64 k] H0 (fun r H1=>r=i64 (k+4*tot subs subs.length)∧∀ κ,H1 κ=none):=by
 refine xN (fn:=Tryz.f65) (c:=Tryz.f65.body.getD .skip) Tryz.func65 rfl (by kernel_rfl) rfl ?_
 have hat:At [(0,.dref (.n 903) subs.length),(1,i64 k)] [(.n 903,.rs 133 1 (vC subs 0))] [(903,vR subs 0)] ⟨fun i=>[AV.dref (.n 903) subs.length,i64 k].getD i .junk,H0⟩:=⟨⟨rfl,rfl,trivial⟩,⟨hH,trivial⟩,⟨hF,trivial⟩⟩
 obtain⟨τ,H,hf⟩:=hat.form
 rw[hf]
 conv=>whnf
 refine fD (fun i:Nat=>[(0,.dref (.n 903) subs.length),(1,i64 (k+4*(tot subs i:Int))),(5,i64 i)]) (fun i=>[(.n 903,.rs 133 1 (vC subs i))]) (fun i=>[(903,vR subs i)]) (fun i=>subs.length - i) (fun i=>i≤subs.length) 0
  Weak.refl ⟨rfl,?_,rfl,trivial⟩ ⟨rfl,trivial⟩ ⟨fun j=>?_,trivial⟩ (Nat.zero_le _) ?_
 ·show i64 k=i64 (k+4*((tot subs 0:Nat):Int))
  rw[show k+4*((tot subs 0:Nat):Int)=k by simp[tot]]
 ·rfl
 intro i τ H hi
 have hi:i≤subs.length:=hi
 have hti:=tot_le subs i
 conv=>whnf
 refine kbi (fun h=>?_) (fun h=>?_)
 ·have hlt:i<subs.length:=by simpa using h
  conv=>whnf
  refine⟨⟨by omega,by omega⟩,?_⟩
  conv=>whnf
  have hgi:subs.getD i []=subs[i]:=by simp[List.getD_eq_getElem?_getD,hlt]
  have hrow:mR subs i i=[.ref (.s 903 i) 0 subs[i].length]:=by unfold mR;rw[if_neg (by omega),hgi]
  have hfi:vR subs i i=some (.ds 135 4 subs[i]):=by unfold vR;rw[if_neg (by omega),List.getElem?_eq_getElem hlt];rfl
  refine⟨[.ref (.s 903 i) 0 subs[i].length],⟨?_,Nat.le_refl _⟩,?_⟩
  ·rw[Int.toNat_natCast,q8 hlt,hrow]
  conv=>whnf
  have hsw:swp (.n 50) (.s 903 i) (.s 903 i)=.n 50:=by simp[swp,Key.beq]
  have hts:=tot_succ hlt
  have hti2:=tot_le subs (i+1)
  split
  case' h_1=>conv=>whnf
  case' h_1=>refine .inr (.inr (.inr (.inl ?_)))
  case' h_2=>refine .inr (.inr (.inl ?_))
  all_goals
   refine⟨_,123,[],uS 50 903 i,rfl,999,0,isK (.n 50),(fun r H1=>r=i64 ((k+4*(tot subs i:Int))+4*(subs[i].length:Nat))∧∀ κ,H1 κ=none),?_,rfl,?_⟩
   ·refine xO (markOpS_ok subs[i] (k+4*(tot subs i:Int)) subs[i].length rfl (by omega) (hs _ (List.getElem_mem hlt)) (by omega) (by omega) _ ?_) ?_
    ·show Option.map _ (Option.map _ (Option.map _ (vR subs i i)))=_
     rw[hfi]
     rfl
    ·show[scrP _ (.ref (swp (.n 999) (.l 0) (swp (.n 50) (.s 903 i) (.s 903 i))) 0 subs[i].length),_]=_
     rw[hsw]
     rfl
   ·rintro r H1 ⟨rfl,q⟩
    refine⟨fun κ _=>q κ,fun n hn=>(by cases hn),?_⟩
    conv=>whnf
    have hne:∀ j,j≠i→swp (.n 50) (.s 903 i) (.s 903 j)=.s 903 j:=fun j hj=>by simp[swp,Key.beq,nbeq_ne hj]
    refine⟨i+1,_,uS 50 903 i,by show i+1≤subs.length;omega,by show subs.length - (i+1)<subs.length - i;omega,⟨rfl,?_,?_,trivial⟩,⟨?_,trivial⟩,⟨fun j=>?_,trivial⟩⟩
    ·show i64 (k+4*((tot subs i:Nat):Int)+4*((subs[i].length:Nat):Int))=i64 (k+4*((tot subs (i+1):Nat):Int))
     rw[hts]
     exact congrArg i64 (by omega)
    ·show AV.d (.int .i64 (IntKind.i64.wrap ((i:Int)+1)))=i64 ((i+1:Nat):Int)
     rw[zK (by omega) (by omega)]
     rfl
    ·show some (Ob.rs 133 1 ((((((vC subs i).map (renL (swp (.n 50) (.s 903 i)))).map (renL (swp (.n 999) (.l 0)))).map (scrPL (xQ (isK (.n 50))))).map (renL (swp (.n 999) (.l 0)))).map (renL (swp (.n 50) (.s 903 i)))))=_
     rw[List.map_map,List.map_map,List.map_map,List.map_map]
     refine congrArg (fun x=>some (Ob.rs 133 1 x)) (sP _ fun j=>?_)
     by_cases hj:j=i
     ·subst hj
      rw[hrow]
      unfold mR
      rw[if_pos (by omega)]
      show renL _ (renL _ (scrPL _ (renL _ [AV.ref (swp (.n 50) (.s 903 j) (.s 903 j)) 0 _])))=_
      rw[hsw]
      rfl
     ·unfold mR
      by_cases hji:j<i
      ·rw[if_pos hji,if_pos (by omega)]
       rfl
      ·rw[if_neg hji,if_neg (by omega)]
       show renL _ (renL _ (scrPL _ (renL _ [AV.ref (swp (.n 50) (.s 903 i) (.s 903 j)) 0 _])))=_
       rw[hne j hj]
       show[AV.ref (swp (.n 50) (.s 903 i) (.s 903 j)) 0 _]=_
       rw[hne j hj]
    ·show(St.H _ (swp (.n 50) (.s 903 i) (.s 903 j))).map _=_
     by_cases hj:j=i
     ·subst hj
      rw[hsw]
      show Option.map _ (Option.map _ (H1 (.n 50)))=_
      rw[q]
      unfold vR
      rw[if_pos (by omega)]
      rfl
     ·rw[hne j hj]
      show Option.map _ (Option.map _ (Option.map _ (Option.map _ (Option.map _ (St.H _ (swp (.n 50) (.s 903 i) (.s 903 j)))))))=_
      rw[hne j hj]
      show Option.map _ (Option.map _ (Option.map _ (Option.map _ (Option.map _ (vR subs i j)))))=_
      rw[wZ,wZ,vG,wZ,wZ]
      unfold vR
      by_cases hji:j<i
      ·rw[if_pos hji,if_pos (by omega)]
      ·rw[if_neg hji,if_neg (by omega)]
 ·conv=>whnf
  have hkk:i=subs.length:=by
   have:¬ i<subs.length:=by simpa using h
   omega
  subst hkk
  refine⟨_,Weak.refl,?_⟩
  conv=>whnf
  exact⟨fun _=>false,rfl,fun κ=>rfl⟩
end Ai
namespace Ai
set_option maxRecDepth 100000
open Go Go.Proofs
theorem vs_scrL0 (s:StL) {p:Key→Bool} (h:(p (.n 900) || p (.n 901) || p (.n 902))=false):scrPL p ([]++stRef s)=[]++stRef s:=by
 have:=wB (E:=0) s h
 simpa[scrPO] using this
theorem spawn_vs0 {s s':StL} {L:List AV} {v:AV} (hv:v=.dref (.n 900) s'.ths.length) (hL:L=[]++stRef s) (hc:s'.cells.length=s.cells.length) (ho:s'.owner.length=s.owner.length) (hf:s'.fault=s.fault) :
  yJ (scrPL (isK (.n 900)) L) (0+0) [v]=[]++stRef s':=by
 subst hv hL
 simp only[stRef,List.cons_append,List.nil_append,scrPL,hc,ho,hf]
 rfl
theorem doI_preB0 (E:TypeId) (g:Nat→Option Ob) (hg:∀ p j,(g j).map (scrPO p)=g j) (s:StL) (k:Nat) (o:OpL) (e:Ev) (hk:k<s.ths.length) (t:Th) (htk:(zB o.code).1≤t.stack.length) (ht8:t.stack.length≤1048576) (hpc:InR t.pc 0 1048576)
  (τ:Nat→AV) (H:Key→Option Ob) (Q:AX→St→Prop) (K:St→Prop) (hK:∀ s',At (doI1 0 k o t) (doIO E [] s k o e t (zF t o)) [(900,g)] s'→K s') :
  pR EE Tryz.f181.ntmps K Q 7 (Tryz.f181.body.getD .skip) (aD [(0,.ptr (.l 0) 0),(1,i64 k),(2,agg (encOp o)),(3,agg (encEv e))] (aC [(.l 0,.vs E ([]++stRef s)),(.n 899,.ds 74 1 (stk t)),(.n 900,.rs 158 6 (rowsA s.ths k t)),(.n 901,.ds 74 1 (s.cells.map encF)),(.n 902,.ds 3 1 (s.owner.map encInt))] (dT [(900,g)] ⟨τ,H⟩))):=by
 have ht:0≤(zB o.code).1∧(zB o.code).1≤2∧0≤(zB o.code).2∧(zB o.code).2≤1:=by
  unfold zB;split
  ·decide
  ·split
   ·decide
   ·split <;> decide
 have e1:(IntKind.i64.wrap ((t.stack.length:Int) - (zB o.code).1))=(t.stack.length:Int) - (zB o.code).1:=zK (by omega) (by omega)
 have e2:((t.stack.length:Int) - (zB o.code).1).toNat=yD t o:=by unfold yD xZ;omega
 have allLen:∀ a b:Nat,(((stk t).drop a).take b).all (fun c=>c.length==1)=true:=by
  intro a b
  simp only[List.all_eq_true]
  intro x hx
  have hx:=List.mem_of_mem_drop (List.mem_of_mem_take hx)
  obtain⟨y,_,rfl⟩:=List.mem_map.1 hx
  rfl
 conv=>whnf
 refine⟨⟨by omega,by omega⟩,?_⟩
 conv=>whnf
 refine⟨_,sJ o,?_⟩
 rintro r rfl
 conv=>whnf
 refine⟨yO t,⟨?_,by simp[yO]⟩,?_⟩
 ·repeat (first|exact yC hk|refine xL ?_ (yI rfl t))
 conv=>whnf
 refine⟨yO t,⟨?_,by simp[yO]⟩,?_⟩
 ·repeat (first|exact yC hk|refine xL ?_ (yI rfl t))
 conv=>whnf
 rw[e1]
 have e3:((stk t).drop (0+((t.stack.length:Int) - (zB o.code).1).toNat)).take ((t.stack.length:Int).toNat - ((t.stack.length:Int) - (zB o.code).1).toNat)=(t.stack.drop (yD t o)).map encF:=by
  rw[e2,Nat.zero_add,List.take_of_length_le (by simp[stk]),stk,List.map_drop]
 have hlen:(t.stack.drop (yD t o)).length≤1048576:=by simp;omega
 rcases Int.lt_or_eq_of_le ht.1 with h0|h0
 refine .inl ⟨⟨by omega,by omega,by omega,.inr (by omega)⟩,?_⟩
 conv=>whnf
 refine .inl ⟨(·=.uq 74 1 ((t.stack.drop (yD t o)).map encF)),Eq.mp (congrArg (fun x=>CallsTo EE 182 [sl x] _) e3.symm) (bG (t.stack.drop (yD t o)) hlen),?_⟩
 rintro r rfl
 refine⟨fun c hc=>?_,.inl ?_⟩
 ·obtain⟨y,_,rfl⟩:=List.mem_map.1 hc
  rfl
 conv=>whnf
 rotate_left 1
 refine .inr ⟨⟨by omega,by omega,by omega⟩,?_⟩
 conv=>whnf
 refine⟨(·=.uq 74 1 ((t.stack.drop (yD t o)).map encF)),Eq.mp (congrArg (fun x=>CallsTo EE 182 [sl x] _) (by simp[yD,xZ,← h0])) (bG (t.stack.drop (yD t o)) hlen),?_⟩
 rintro r rfl
 refine .inl ?_
 conv=>whnf
 all_goals
  refine⟨yO t,⟨by repeat (first|exact yC hk|refine xL ?_ (yI rfl t)),by simp[yO]⟩,?_⟩
  conv=>whnf
  refine .inl ⟨⟨by omega,by omega,by omega,.inl rfl⟩,?_⟩
  conv=>whnf
  have e5:((t.stack.length:Int) - (zB o.code).1).toNat - (0:Int).toNat=yD t o:=by rw[e2];rfl
  refine⟨[i64 t.rt,i64 t.pc,i64 t.st,i64 t.cond,i64 t.lock,.ref (.n 899) 0 (yD t o)],⟨?_,by simp⟩,?_⟩
  ·refine wD (c:=yO t) (by repeat (first|exact yC hk|refine xL ?_ (yI rfl t))) ?_
   conv=>lhs;whnf
   rw[← e5]
   rfl
  conv=>whnf
  refine hK _ ⟨?_,?_,?_⟩
  ·exact⟨rfl,rfl,rfl,rfl,rfl,rfl,rfl,trivial⟩
  ·refine⟨?_,rfl,rfl,rfl,rfl,?_,rfl,rfl,trivial⟩
   ·conv=>lhs;whnf
    refine congrArg some ?_
    repeat (refine yM ?_ (wB s rfl))
    rfl
   ·conv=>lhs;whnf
    refine congrArg (fun x=>some (Ob.rs 158 6 x)) ?_
    have hkl:(t.stack.take (yD t o)).length=yD t o:=by simp[yD]
    refine mG hk (mG hk (t:=t) (t':={ t with stack:=t.stack.take (yD t o) }) (by repeat (first|rfl|refine Eq.trans (congrArg (List.map (scrPL _)) ?_) (qK rfl (fun _=>rfl) _ _ _))) ?_) ?_
    ·show[_,_,_,_,_,AV.ref (.n 899) 0 (((t.stack.length:Int) - (zB o.code).1).toNat - (0:Int).toNat)]=[_,_,_,_,_,AV.ref (.n 899) 0 (t.stack.take (yD t o)).length]
     rw[e5,hkl]
    ·show[_,AV.d (.int .i64 (IntKind.i64.wrap (t.pc+1))),_,_,_,AV.ref (.n 899) 0 (t.stack.take (yD t o)).length]=[_,i64 (t.pc+1),_,_,_,AV.ref (.n 899) 0 (t.stack.take (yD t o)).length]
     rw[zK (by have:=hpc.1;omega) (by have:=hpc.2;omega)]
     rfl
  ·refine⟨fun j=>?_,trivial⟩
   repeat (first|exact rfl|refine hscrO ?_ (hg _ _)|conv=>lhs;whnf)
theorem doI_swB0 (hI:yV) (E:TypeId) (g:Nat→Option Ob) (hg:∀ p j,(g j).map (scrPO p)=g j) (s:StL) (k:Nat) (o:OpL) (e:Ev) (hk:k<s.ths.length) (h5:s.ths.length≤5) (hgj:∀ j,j≠k→g j=zE s.ths j)
  (hs:s.small) (ho:o.fits s s.ths[k]) (hpc:InR s.ths[k].pc 0 1048576) (hst3:s.ths[k].st≠3) (he:e.kind=1) (hel:e.lock=-1) (hfl:∀ x∈s.ths[k].stack,x<18446744073709551616) (hjo:o.code=15→∃ j,yX (yQ s.ths[k] o 0) s.ths.length=some j∧yA s s.ths[k]=some j)
  (Q:AX→St→Prop) (K:St→Prop) (S:St) (hS:At (doI1 0 k o s.ths[k]) (doIO E [] s k o e s.ths[k] (zF s.ths[k] o)) [(900,g)] S) (hK:∀ S',DoI2 E [] g k (doL s k o e).1 (doL s k o e).2 S'→K S') :
  pR EE Tryz.f181.ntmps K Q 1 (dropC 7 (Tryz.f181.body.getD .skip)) S:=by
 have hst:=hs.2.1 _ (List.getElem_mem hk)
 have hgd:s.ths.getD k th0=s.ths[k]:=by simp[List.getD_eq_getElem?_getD,hk]
 generalize ht0:s.ths[k]=t at *
 obtain⟨τ,H,rfl⟩:=hS.form
 clear hS
 obtain⟨o1,o2,o3,o4,o5⟩:=ho
 obtain⟨eth,ekind,eobj,elock,epc⟩:=e
 have he:ekind=1:=he
 subst he
 have hel:elock=-1:=hel
 subst hel
 have hkn:yD t o≤t.stack.length:=Nat.sub_le _ _
 have hkl:(t.stack.take (yD t o)).length=yD t o:=by simp;omega
 have hpl:(zF t o).stack.length=yD t o:=hkl
 conv=>whnf
 refine kbi (fun hc=>?_) (fun hc=>?_)
 ·have hc:o.code=1:=by simpa using hc
  conv=>whnf
  refine .inr (.inr (.inr ⟨[0],by kernel_rfl,8,[],?_⟩))
  conv=>whnf
  refine⟨yO (zF t o),⟨by repeat (first|exact yC hk|refine xL ?_ (yI rfl _)),by simp[yO]⟩,?_⟩
  conv=>whnf
  refine⟨by kernel_rfl,?_⟩
  conv=>whnf
  refine⟨⟨rfl,by rw[hpl];simp;omega,by rw[hpl];simp;omega⟩,?_⟩
  conv=>whnf
  have hd:doL s k o ⟨eth,1,eobj,-1,epc⟩=(s.put k (zS (zF t o) o.v),⟨eth,1,eobj,-1,epc⟩):=by unfold doL;rw[hgd];simp[hc]
  rw[hd] at hK
  dsimp only at hK
  refine hK _ (.inl ⟨zS (zF t o) o.v,s.ths,stk (zS (zF t o) o.v),hk,rfl,hgj,kC _,by simp[StL.put],⟨rfl,rfl,trivial⟩,⟨?_,?_,rfl,?_,?_,?_,?_,trivial⟩,⟨fun j=>?_,trivial⟩⟩)
  ·rw[show stRef _=stRef s by simp[stRef,StL.put]]
   conv=>lhs;whnf
   all_goals (
    refine congrArg some ?_
    repeat (refine yM ?_ (wB s rfl))
    all_goals rfl)
  ·rfl
  ·conv=>lhs;whnf
   show some (Ob.ds 74 1 _)=some (Ob.ds 74 1 _)
   simp[stk,zS,zF,encF]
  ·conv=>lhs;whnf
   all_goals (
    refine congrArg (fun x=>some (Ob.rs 158 6 x)) ?_
    apply uP
    ·repeat (first|exact rfl|apply wG hk|apply wF (fun _=>rfl))
    ·show[_,_,_,_,_,AV.ref (.n 899) 0 ((zF t o).stack.length+1)]=_
     simp[yO,zS]
     exact⟨rfl,rfl,rfl,rfl,rfl⟩)
  ·rfl
  ·rfl
  ·repeat (first|exact rfl|refine hscrO ?_ (hg _ _)|conv=>lhs;whnf)
 have n1:¬ o.code=1:=by simpa using hc
 clear hc
 conv=>whnf
 refine kbi (fun hc=>?_) (fun hc=>?_)
 ·have hc:o.code=2:=by simpa using hc
  have hr:=o2 (.inl hc)
  conv=>whnf
  refine .inr (.inl ⟨4,[],?_⟩)
  conv=>whnf
  refine⟨by kernel_rfl,?_⟩
  conv=>whnf
  refine .inr (.inr (.inr ⟨[0],by kernel_rfl,14,[],?_⟩))
  conv=>whnf
  refine⟨yO (zF t o),⟨by repeat (first|exact yC hk|refine xL ?_ (yI rfl _)),by simp[yO]⟩,?_⟩
  conv=>whnf
  refine⟨⟨by omega,by omega⟩,?_⟩
  conv=>whnf
  refine⟨encF (s.cells.getD o.a.toNat 0),⟨by rw[Nat.zero_add];exact oL hr,by simp[encF]⟩,?_⟩
  conv=>whnf
  refine⟨by kernel_rfl,?_⟩
  conv=>whnf
  refine⟨⟨rfl,by rw[hpl];simp;omega,by rw[hpl];simp;omega⟩,?_⟩
  conv=>whnf
  have hd:doL s k o ⟨eth,1,eobj,-1,epc⟩=(s.put k (zS (zF t o) (s.cells.getD o.a.toNat 0)),⟨eth,2,o.a,(-1),epc⟩):=by unfold doL;rw[hgd];simp[hc]
  rw[hd] at hK
  dsimp only at hK
  refine hK _ (.inl ⟨zS (zF t o) (s.cells.getD o.a.toNat 0),s.ths,stk (zS (zF t o) (s.cells.getD o.a.toNat 0)),hk,rfl,hgj,kC _,by simp[StL.put],⟨rfl,rfl,trivial⟩,⟨?_,?_,rfl,?_,?_,?_,?_,trivial⟩,⟨fun j=>?_,trivial⟩⟩)
  ·rw[show stRef _=stRef s by simp[stRef,StL.put]]
   conv=>lhs;whnf
   all_goals (
    refine congrArg some ?_
    repeat (refine yM ?_ (wB s rfl))
    all_goals rfl)
  ·rfl
  ·conv=>lhs;whnf
   show some (Ob.ds 74 1 _)=some (Ob.ds 74 1 _)
   simp[stk,zS,zF,encF]
  ·conv=>lhs;whnf
   all_goals (
    refine congrArg (fun x=>some (Ob.rs 158 6 x)) ?_
    apply uP
    ·repeat (first|exact rfl|apply wG hk|apply wF (fun _=>rfl))
    ·show[_,_,_,_,_,AV.ref (.n 899) 0 ((zF t o).stack.length+1)]=_
     simp[yO,zS]
     exact⟨rfl,rfl,rfl,rfl,rfl⟩)
  ·rfl
  ·rfl
  ·repeat (first|exact rfl|refine hscrO ?_ (hg _ _)|conv=>lhs;whnf)
 have n2:¬ o.code=2:=by simpa using hc
 clear hc
 conv=>whnf
 refine kbi (fun hc=>?_) (fun hc=>?_)
 ·have hc:o.code=3:=by simpa using hc
  have hr:=o2 (.inr hc)
  have htk:xZ o=1:=by simp[xZ,zB,hc]
  conv=>whnf
  refine .inr (.inl ⟨4,[],?_⟩)
  conv=>whnf
  refine⟨by kernel_rfl,?_⟩
  conv=>whnf
  refine .inr (.inl ⟨9,[],?_⟩)
  conv=>whnf
  refine⟨encF (yQ t o 0),⟨by omega,vK o5 (by omega),by simp[encF]⟩,?_⟩
  conv=>whnf
  refine⟨by kernel_rfl,?_⟩
  conv=>whnf
  refine⟨⟨by omega,by omega⟩,?_⟩
  conv=>whnf
  have hd:doL s k o ⟨eth,1,eobj,-1,epc⟩=({ s with cells:=s.cells.set o.a.toNat (yQ t o 0) }.put k (zF t o),⟨eth,3,o.a,(-1),epc⟩):=by unfold doL;rw[hgd];simp[hc]
  rw[hd] at hK
  dsimp only at hK
  refine hK _ (.inl ⟨zF t o,s.ths,stk t,hk,rfl,hgj,xX t o,by simp[StL.put],⟨rfl,rfl,trivial⟩,⟨?_,?_,rfl,?_,?_,?_,?_,trivial⟩,⟨fun j=>?_,trivial⟩⟩)
  ·rw[show stRef _=stRef s by simp[stRef,StL.put]]
   conv=>lhs;whnf
   all_goals (
    refine congrArg some ?_
    repeat (refine yM ?_ (wB s rfl))
    all_goals rfl)
  ·rfl
  ·rfl
  ·conv=>lhs;whnf
   all_goals (
    refine congrArg (fun x=>some (Ob.rs 158 6 x)) ?_
    apply uP
    ·repeat (first|exact rfl|apply wG hk|apply wF (fun _=>rfl))
    ·rfl)
  ·conv=>lhs;whnf
   show some (Ob.ds 74 1 ((s.cells.map encF).set (0+o.a.toNat) (encF (yQ t o 0))))=some (Ob.ds 74 1 ((s.cells.set o.a.toNat (yQ t o 0)).map encF))
   rw[Nat.zero_add,List.map_set]
  ·rfl
  ·repeat (first|exact rfl|refine hscrO ?_ (hg _ _)|conv=>lhs;whnf)
 have n3:¬ o.code=3:=by simpa using hc
 clear hc
 conv=>whnf
 refine kbi (fun hc=>?_) (fun hc=>?_)
 ·have hc:o.code=10:=by simpa using hc
  conv=>whnf
  have hd:doL s k o ⟨eth,1,eobj,-1,epc⟩=(s.put k ({ zF t o with pc:=o.a }),⟨eth,1,eobj,-1,epc⟩):=by unfold doL;rw[hgd];simp[hc]
  rw[hd] at hK
  dsimp only at hK
  refine hK _ (.inl ⟨({ zF t o with pc:=o.a }),s.ths,stk t,hk,rfl,hgj,xX t o,by simp[StL.put],⟨rfl,rfl,trivial⟩,⟨?_,?_,rfl,?_,?_,?_,?_,trivial⟩,⟨fun j=>?_,trivial⟩⟩)
  ·rw[show stRef _=stRef s by simp[stRef,StL.put]]
   conv=>lhs;whnf
   all_goals (
    refine congrArg some ?_
    repeat (refine yM ?_ (wB s rfl))
    all_goals rfl)
  ·rfl
  ·rfl
  ·conv=>lhs;whnf
   all_goals (
    refine congrArg (fun x=>some (Ob.rs 158 6 x)) ?_
    apply uP
    ·repeat (first|exact rfl|apply wG hk|apply wF (fun _=>rfl))
    ·rfl)
  ·rfl
  ·rfl
  ·repeat (first|exact rfl|refine hscrO ?_ (hg _ _)|conv=>lhs;whnf)
 have n10:¬ o.code=10:=by simpa using hc
 clear hc
 conv=>whnf
 refine kbi (fun hc=>?_) (fun hc=>?_)
 ·have hc:o.code=11:=by simpa using hc
  have htk:xZ o=1:=by simp[xZ,zB,hc]
  conv=>whnf
  refine⟨encF (yQ t o 0),⟨by omega,vK o5 (by omega),by simp[encF]⟩,?_⟩
  conv=>whnf
  refine ocase (isNo_ok _) (fun hn=>?_) (fun hn=>?_)
  ·conv=>whnf
   have hd:doL s k o ⟨eth,1,eobj,-1,epc⟩=(s.put k ({ zF t o with pc:=o.a }),⟨eth,1,eobj,-1,epc⟩):=by unfold doL;rw[hgd];simp[hc];rw[if_pos hn]
   rw[hd] at hK
   dsimp only at hK
   refine hK _ (.inl ⟨({ zF t o with pc:=o.a }),s.ths,stk t,hk,rfl,hgj,xX t o,by simp[StL.put],⟨rfl,rfl,trivial⟩,⟨?_,?_,rfl,?_,?_,?_,?_,trivial⟩,⟨fun j=>?_,trivial⟩⟩)
   ·rw[show stRef _=stRef s by simp[stRef,StL.put]]
    conv=>lhs;whnf
    all_goals (
     refine congrArg some ?_
     repeat (refine yM ?_ (wB s rfl))
     all_goals rfl)
   ·rfl
   ·rfl
   ·conv=>lhs;whnf
    all_goals (
     refine congrArg (fun x=>some (Ob.rs 158 6 x)) ?_
     apply uP
     ·repeat (first|exact rfl|apply wG hk|apply wF (fun _=>rfl))
     ·rfl)
   ·rfl
   ·rfl
   ·repeat (first|exact rfl|refine hscrO ?_ (hg _ _)|conv=>lhs;whnf)
  ·conv=>whnf
   have hd:doL s k o ⟨eth,1,eobj,-1,epc⟩=(s.put k (zF t o),⟨eth,1,eobj,-1,epc⟩):=by unfold doL;rw[hgd];simp[hc];rw[if_neg hn]
   rw[hd] at hK
   dsimp only at hK
   refine hK _ (.inl ⟨zF t o,s.ths,stk t,hk,rfl,hgj,xX t o,by simp[StL.put],⟨rfl,rfl,trivial⟩,⟨?_,?_,rfl,?_,?_,?_,?_,trivial⟩,⟨fun j=>?_,trivial⟩⟩)
   ·rw[show stRef _=stRef s by simp[stRef,StL.put]]
    conv=>lhs;whnf
    all_goals (
     refine congrArg some ?_
     repeat (refine yM ?_ (wB s rfl))
     all_goals rfl)
   ·rfl
   ·rfl
   ·conv=>lhs;whnf
    all_goals (
     refine congrArg (fun x=>some (Ob.rs 158 6 x)) ?_
     apply uP
     ·repeat (first|exact rfl|apply wG hk|apply wF (fun _=>rfl))
     ·rfl)
   ·rfl
   ·rfl
   ·repeat (first|exact rfl|refine hscrO ?_ (hg _ _)|conv=>lhs;whnf)
 have n11:¬ o.code=11:=by simpa using hc
 clear hc
 conv=>whnf
 refine kbi (fun hc=>?_) (fun hc=>?_)
 ·have hc:o.code=12:=by simpa using hc
  have hr:=o3 (.inl hc)
  conv=>whnf
  refine .inr (.inl ⟨4,[],?_⟩)
  conv=>whnf
  refine⟨by kernel_rfl,?_⟩
  conv=>whnf
  refine .inr (.inl ⟨7,[],?_⟩)
  conv=>whnf
  refine⟨by kernel_rfl,?_⟩
  conv=>whnf
  refine⟨⟨by omega,by omega⟩,?_⟩
  conv=>whnf
  have hd:doL s k o ⟨eth,1,eobj,-1,epc⟩=({ s with owner:=s.owner.set o.a.toNat ((k:Nat):Int) }.put k (zF t o),⟨eth,4,o.a,(-1),epc⟩):=by unfold doL;rw[hgd];simp[hc]
  rw[hd] at hK
  dsimp only at hK
  refine hK _ (.inl ⟨zF t o,s.ths,stk t,hk,rfl,hgj,xX t o,by simp[StL.put],⟨rfl,rfl,trivial⟩,⟨?_,?_,rfl,?_,?_,?_,?_,trivial⟩,⟨fun j=>?_,trivial⟩⟩)
  ·rw[show stRef _=stRef s by simp[stRef,StL.put]]
   conv=>lhs;whnf
   all_goals (
    refine congrArg some ?_
    repeat (refine yM ?_ (wB s rfl))
    all_goals rfl)
  ·rfl
  ·rfl
  ·conv=>lhs;whnf
   all_goals (
    refine congrArg (fun x=>some (Ob.rs 158 6 x)) ?_
    apply uP
    ·repeat (first|exact rfl|apply wG hk|apply wF (fun _=>rfl))
    ·rfl)
  ·rfl
  ·conv=>lhs;whnf
   show some (Ob.ds 3 1 ((s.owner.map encInt).set (0+o.a.toNat) (encInt ((k:Nat):Int))))=some (Ob.ds 3 1 ((s.owner.set o.a.toNat ((k:Nat):Int)).map encInt))
   rw[Nat.zero_add,List.map_set]
  ·repeat (first|exact rfl|refine hscrO ?_ (hg _ _)|conv=>lhs;whnf)
 have n12:¬ o.code=12:=by simpa using hc
 clear hc
 conv=>whnf
 refine kbi (fun hc=>?_) (fun hc=>?_)
 ·have hc:o.code=13:=by simpa using hc
  have hr:=o3 (.inr hc)
  conv=>whnf
  refine .inr (.inl ⟨4,[],?_⟩)
  conv=>whnf
  refine⟨by kernel_rfl,?_⟩
  conv=>whnf
  refine .inr (.inl ⟨6,[],?_⟩)
  conv=>whnf
  refine⟨by kernel_rfl,?_⟩
  conv=>whnf
  refine⟨⟨by omega,by omega⟩,?_⟩
  conv=>whnf
  have hd:doL s k o ⟨eth,1,eobj,-1,epc⟩=({ s with owner:=s.owner.set o.a.toNat (-1) }.put k (zF t o),⟨eth,5,o.a,(-1),epc⟩):=by unfold doL;rw[hgd];simp[hc]
  rw[hd] at hK
  dsimp only at hK
  refine hK _ (.inl ⟨zF t o,s.ths,stk t,hk,rfl,hgj,xX t o,by simp[StL.put],⟨rfl,rfl,trivial⟩,⟨?_,?_,rfl,?_,?_,?_,?_,trivial⟩,⟨fun j=>?_,trivial⟩⟩)
  ·rw[show stRef _=stRef s by simp[stRef,StL.put]]
   conv=>lhs;whnf
   all_goals (
    refine congrArg some ?_
    repeat (refine yM ?_ (wB s rfl))
    all_goals rfl)
  ·rfl
  ·rfl
  ·conv=>lhs;whnf
   all_goals (
    refine congrArg (fun x=>some (Ob.rs 158 6 x)) ?_
    apply uP
    ·repeat (first|exact rfl|apply wG hk|apply wF (fun _=>rfl))
    ·rfl)
  ·rfl
  ·conv=>lhs;whnf
   show some (Ob.ds 3 1 ((s.owner.map encInt).set (0+o.a.toNat) (encInt (-1))))=some (Ob.ds 3 1 ((s.owner.set o.a.toNat (-1)).map encInt))
   rw[Nat.zero_add,List.map_set]
  ·repeat (first|exact rfl|refine hscrO ?_ (hg _ _)|conv=>lhs;whnf)
 have n13:¬ o.code=13:=by simpa using hc
 clear hc
 conv=>whnf
 refine kbi (fun hc=>?_) (fun hc=>?_)
 ·have hc:o.code=14:=by simpa using hc
  conv=>whnf
  refine .inr (.inl ⟨7,[],?_⟩)
  conv=>whnf
  refine⟨by kernel_rfl,?_⟩
  conv=>whnf
  refine .inr (.inr (.inr ⟨[0],by kernel_rfl,12,[],?_⟩))
  conv=>whnf
  refine⟨yO (zF t o),⟨by repeat (first|exact yC hk|refine xL ?_ (yI rfl _)),by simp[yO]⟩,?_⟩
  conv=>whnf
  refine⟨by kernel_rfl,?_⟩
  conv=>whnf
  refine⟨⟨rfl,by rw[hpl];simp;omega,by rw[hpl];simp;omega⟩,?_⟩
  conv=>whnf
  refine .inr (.inr (.inr ⟨[0],by kernel_rfl,9,[2715],?_⟩))
  conv=>whnf
  refine⟨_,gZ o.a,?_⟩
  conv=>whnf
  refine⟨by kernel_rfl,?_⟩
  conv=>whnf
  refine⟨⟨fun c hc'=>?_,?_,?_⟩,?_⟩
  ·have hc':c∈[[i64 o.a,i64 0,i64 1,i64 (-1),i64 (-1),AV.ref (.n 905) 0 0]]:=hc'
   simp only[List.mem_singleton] at hc'
   subst hc';rfl
  ·show(s.ths.length+1)*64≤_
   omega
  ·show s.ths.length+1≤_
   omega
  conv=>whnf
  have hd:doL s k o ⟨eth,1,eobj,-1,epc⟩=({ s with ths:=s.ths++[jH o.a] }.put k (zS (zF t o) (FloatKind.f64.nearest (s.ths.length:Int))),⟨eth,6,s.ths.length,(-1),epc⟩):=by unfold doL;rw[hgd];simp[hc]
  rw[hd] at hK
  dsimp only at hK
  refine hK _ (.inr ⟨s.ths,zS (zF t o) (FloatKind.f64.nearest (s.ths.length:Int)),o.a,hk,?_,hgj,⟨rfl,rfl,trivial⟩,⟨?_,rfl,rfl,?_,?_,rfl,rfl,rfl,trivial⟩,⟨fun j=>?_,trivial⟩⟩)
  ·simp[StL.put,List.set_append_left _ _ hk]
  ·conv=>lhs;whnf
   refine congrArg (fun x=>some (Ob.vs E x)) ?_
   refine spawn_vs0 (s:=s) ?_ ?_ rfl rfl rfl
   ·conv=>lhs;whnf
    all_goals simp[StL.put]
   all_goals (
    repeat (refine hscrL ?_ (vs_scrL0 s rfl))
    all_goals rfl)
  ·conv=>lhs;whnf
   show some (Ob.ds 74 1 _)=some (Ob.ds 74 1 _)
   simp[stk,zS,zF,encF]
  ·conv=>lhs;whnf
   refine congrArg (fun x=>some (Ob.rs 158 6 x)) ?_
   refine eG rfl ?_ rfl rfl
   apply uP
   ·repeat (first|exact rfl|apply wG hk|apply wF (fun _=>rfl))
   ·show[_,_,_,_,_,AV.ref (.n 899) 0 ((zF t o).stack.length+1)]=_
    simp[yO,zS]
    exact⟨rfl,rfl,rfl,rfl,rfl⟩
  ·repeat (first|exact rfl|refine hscrO ?_ (hg _ _)|conv=>lhs;whnf)
 have n14:¬ o.code=14:=by simpa using hc
 clear hc
 conv=>whnf
 refine kbi (fun hc=>?_) (fun hc=>?_)
 ·have hc:o.code=15:=by simpa using hc
  have htk:xZ o=1:=by simp[xZ,zB,hc]
  obtain⟨jj,hj1,hj2⟩:=hjo hc
  conv=>whnf
  refine .inr (.inl ⟨14,[],?_⟩)
  conv=>whnf
  refine⟨encF (yQ t o 0),⟨by omega,vK o5 (by omega),by simp[encF]⟩,?_⟩
  conv=>whnf
  refine⟨_,hI _ _,?_⟩
  conv=>whnf
  refine⟨by kernel_rfl,?_⟩
  conv=>whnf
  have hd:doL s k o ⟨eth,1,eobj,-1,epc⟩=(s.put k (zF t o),⟨eth,7,(yA s t).getD (-1),(-1),epc⟩):=by unfold doL;rw[hgd];simp[hc]
  rw[hd] at hK
  dsimp only at hK
  refine hK _ (.inl ⟨zF t o,s.ths,stk t,hk,rfl,hgj,xX t o,by simp[StL.put],⟨rfl,rfl,trivial⟩,⟨?_,?_,rfl,?_,?_,?_,?_,trivial⟩,⟨fun j=>?_,trivial⟩⟩)
  ·rw[show stRef _=stRef s by simp[stRef,StL.put]]
   conv=>lhs;whnf
   all_goals (
    refine congrArg some ?_
    repeat (refine yM ?_ (wB s rfl))
    all_goals rfl)
  ·conv=>lhs;whnf
   show some (Ob.vs 105 [i64 eth,i64 7,i64 ((yX (yQ t o 0) s.ths.length).getD 0),i64 (-1),i64 epc])=some (Ob.vs 105 [i64 eth,i64 7,i64 ((yA s t).getD (-1)),i64 (-1),i64 epc])
   rw[hj1,hj2]
   rfl
  ·rfl
  ·conv=>lhs;whnf
   all_goals (
    refine congrArg (fun x=>some (Ob.rs 158 6 x)) ?_
    apply uP
    ·repeat (first|exact rfl|apply wG hk|apply wF (fun _=>rfl))
    ·rfl)
  ·rfl
  ·rfl
  ·repeat (first|exact rfl|refine hscrO ?_ (hg _ _)|conv=>lhs;whnf)
 have n15:¬ o.code=15:=by simpa using hc
 clear hc
 conv=>whnf
 refine kbi (fun hc=>?_) (fun hc=>?_)
 ·have hc:o.code=16:=by simpa using hc
  have hr:=o4 hc
  conv=>whnf
  refine .inr (.inl ⟨8,[],?_⟩)
  conv=>whnf
  refine⟨by kernel_rfl,?_⟩
  conv=>whnf
  refine .inr (.inl ⟨6,[],?_⟩)
  conv=>whnf
  refine⟨by kernel_rfl,?_⟩
  conv=>whnf
  refine⟨⟨by omega,by omega⟩,?_⟩
  conv=>whnf
  refine⟨yO (zF t o),⟨by repeat (first|exact yC hk|refine xL ?_ (yI rfl _)),by simp[yO]⟩,?_⟩
  conv=>whnf
  refine .inr (.inr (.inr ⟨[0,1,2],by kernel_rfl,by kernel_rfl,by kernel_rfl,13,[],?_⟩))
  conv=>whnf
  refine⟨by kernel_rfl,?_⟩
  conv=>whnf
  have hd:doL s k o ⟨eth,1,eobj,-1,epc⟩=({ s with owner:=s.owner.set o.b.toNat (-1) }.put k ({ zF t o with st:=3,cond:=o.a,lock:=o.b,pc:=(zF t o).pc - 1 }),⟨eth,8,o.a,o.b,epc⟩):=by unfold doL;rw[hgd];simp[hc]
  rw[hd] at hK
  dsimp only at hK
  refine hK _ (.inl ⟨({ zF t o with st:=3,cond:=o.a,lock:=o.b,pc:=(zF t o).pc - 1 }),s.ths,stk t,hk,rfl,hgj,xX t o,by simp[StL.put],⟨rfl,rfl,trivial⟩,⟨?_,?_,rfl,?_,?_,?_,?_,trivial⟩,⟨fun j=>?_,trivial⟩⟩)
  ·rw[show stRef _=stRef s by simp[stRef,StL.put]]
   conv=>lhs;whnf
   all_goals (
    refine congrArg some ?_
    repeat (refine yM ?_ (wB s rfl))
    all_goals rfl)
  ·rfl
  ·rfl
  ·conv=>lhs;whnf
   all_goals (
    refine congrArg (fun x=>some (Ob.rs 158 6 x)) ?_
    apply uP
    ·repeat (first|exact rfl|apply wG hk|apply wF (fun _=>rfl))
    ·have ew:IntKind.i64.wrap (t.pc+1 - 1)=t.pc+1 - 1:=zK (by have:=hpc.1;omega) (by have:=hpc.2;omega)
     show[_,AV.d (.int .i64 (IntKind.i64.wrap (t.pc+1 - 1))),_,_,_,_]=_
     rw[ew]
     rfl)
  ·rfl
  ·conv=>lhs;whnf
   show some (Ob.ds 3 1 ((s.owner.map encInt).set (0+o.b.toNat) (encInt (-1))))=some (Ob.ds 3 1 ((s.owner.set o.b.toNat (-1)).map encInt))
   rw[Nat.zero_add,List.map_set]
  ·repeat (first|exact rfl|refine hscrO ?_ (hg _ _)|conv=>lhs;whnf)
 have n16:¬ o.code=16:=by simpa using hc
 clear hc
 conv=>whnf
 refine kbi (fun hc=>?_) (fun hc=>?_)
 ·have hc:o.code=17:=by simpa using hc
  have hcall:CallsTo EE 225 [sl ((s.ths.set k (zF t o)).map zD),.fn 226 [.fp (encOp o)]] (·=i64 (y8 (yY s.ths o.a))):=by
   rw[← aY hk (t':=zF t o) o.a hst3 (by rw[ht0];exact hst3)]
   exact fE _ (by simp;omega) 226 _ (.inr ⟨_,rfl⟩) (fun t=>t.st==3&&t.cond==o.a) (fun u _=>tW u o)
  conv=>whnf
  refine .inr (.inl ⟨4,[],?_⟩)
  conv=>whnf
  refine⟨by kernel_rfl,?_⟩
  conv=>whnf
  refine .inl ⟨[sl ((s.ths.set k (zF t o)).map zD),.fn 226 [.fp (encOp o)]],[],_,⟨_,_,rfl,⟨_,rfl,nF (l:=s.ths) (k:=k) (t:=zF t o) (els:=stk t) hk ?_ ?_ ?_ (xX t o)⟩,_,_,rfl,rfl,rfl⟩,rfl,hcall,?_⟩
  ·conv=>lhs;whnf
   refine congrArg (fun x=>some (Ob.rs 158 6 x)) ?_
   repeat (first|exact rfl|refine jL ?_ rfl (fun _=>rfl))
  ·intro j hj hjl
   refine Eq.trans (b:=g j) ?_ ((hgj j hj).trans (by simp[zE,hjl]))
   repeat (first|exact rfl|refine hscrO ?_ (hg _ _)|conv=>lhs;whnf)
  ·rfl
  rintro r rfl
  refine⟨rfl,?_⟩
  cases hwk:yY s.ths o.a with
  |none =>
   conv=>whnf
   refine kbi (fun hw=>?_) (fun hw=>?_)
   ·simp[y8] at hw
   conv=>whnf
   have hd:doL s k o ⟨eth,1,eobj,-1,epc⟩=(s.put k (zF t o),⟨eth,10,o.a,(-1),epc⟩):=by unfold doL;rw[hgd];simp[hc,hwk]
   rw[hd] at hK
   dsimp only at hK
   refine hK _ (.inl ⟨zF t o,s.ths,stk t,hk,rfl,hgj,xX t o,by simp[StL.put],⟨rfl,rfl,trivial⟩,⟨?_,?_,rfl,?_,?_,?_,?_,trivial⟩,⟨fun j=>?_,trivial⟩⟩)
   ·rw[show stRef _=stRef s by simp[stRef,StL.put]]
    conv=>lhs;whnf
    all_goals (
     refine congrArg some ?_
     repeat (refine yM ?_ (wB s rfl))
     all_goals rfl)
   ·rfl
   ·rfl
   ·conv=>lhs;whnf
    all_goals (
     refine congrArg (fun x=>some (Ob.rs 158 6 x)) ?_
     apply uP
     ·repeat (first|exact rfl|apply wG hk|apply wF (fun _=>rfl))
     ·rfl)
   ·rfl
   ·rfl
   ·repeat (first|exact rfl|refine hscrO ?_ (hg _ _)|conv=>lhs;whnf)
  |some j =>
   obtain⟨hjl,hj3,hjc⟩:=dO hwk
   have hjk:j≠k:=by
    rintro rfl
    rw[ht0] at hj3;exact hst3 hj3
   conv=>whnf
   refine kbi (fun hw=>?_) (fun hw=>?_)
   rotate_left 1
   ·simp[y8] at hw
   conv=>whnf
   refine .inr (.inl ⟨6,[],?_⟩)
   conv=>whnf
   have hd:doL s k o ⟨eth,1,eobj,-1,epc⟩=({ s with ths:=s.ths.modify j fun u=>{ u with st:=4 } }.put k (zF t o),⟨eth,10,o.a,j,epc⟩):=by unfold doL;rw[hgd];simp[hc,hwk]
   rw[hd] at hK
   dsimp only at hK
   refine⟨by kernel_rfl,?_⟩
   conv=>whnf
   refine⟨⟨by show(0:Int)≤(j:Int);omega,by show(j:Int)<s.ths.length;omega⟩,?_⟩
   conv=>whnf
   refine hK _ (.inl ⟨zF t o,s.ths.modify j fun u=>{ u with st:=4 },stk t,by simpa using hk,rfl,fun i hi=>(hgj i hi).trans (eC i).symm,xX t o,by simp[StL.put],⟨rfl,rfl,trivial⟩,⟨?_,?_,rfl,?_,?_,?_,?_,trivial⟩,⟨fun j=>?_,trivial⟩⟩)
   ·rw[show stRef _=stRef s by simp[stRef,StL.put]]
    conv=>lhs;whnf
    all_goals (
     refine congrArg some ?_
     repeat (refine yM ?_ (wB s rfl))
     all_goals rfl)
   ·rfl
   ·rfl
   ·conv=>lhs;whnf
    all_goals (
     refine congrArg (fun x=>some (Ob.rs 158 6 x)) ?_
     refine eM hjl hjk ?_
     repeat (first|exact rfl|refine jL ?_ rfl (fun _=>rfl)))
   ·rfl
   ·rfl
   ·repeat (first|exact rfl|refine hscrO ?_ (hg _ _)|conv=>lhs;whnf)
 have n17:¬ o.code=17:=by simpa using hc
 clear hc
 conv=>whnf
 have hcode:4≤o.code∧o.code≤9:=by have:=o1.1;have:=o1.2;omega
 have htk:xZ o=2:=by simp only[xZ,zB];rw[if_neg (by omega),if_neg (by omega),if_pos hcode];rfl
 refine .inr (.inr (.inr ⟨[0],by kernel_rfl,15,[],?_⟩))
 conv=>whnf
 refine⟨yO (zF t o),⟨by repeat (first|exact yC hk|refine xL ?_ (yI rfl _)),by simp[yO]⟩,?_⟩
 conv=>whnf
 refine⟨encF (yQ t o 0),⟨by omega,vK o5 (by omega),by simp[encF]⟩,?_⟩
 conv=>whnf
 refine⟨encF (yQ t o 1),⟨by omega,vK o5 (by omega),by simp[encF]⟩,?_⟩
 conv=>whnf
 refine⟨_,w9 _ _ _ hcode (pA hfl) (pA hfl),?_⟩
 conv=>whnf
 refine⟨by kernel_rfl,?_⟩
 conv=>whnf
 refine⟨⟨rfl,by rw[hpl];simp;omega,by rw[hpl];simp;omega⟩,?_⟩
 conv=>whnf
 have hd:doL s k o ⟨eth,1,eobj,-1,epc⟩=(s.put k (zS (zF t o) (yS o.code (yQ t o 0) (yQ t o 1))),⟨eth,1,eobj,-1,epc⟩):=by unfold doL;rw[hgd];simp[n1,n2,n3,n10,n11,n12,n13,n14,n15,n16,n17]
 rw[hd] at hK
 dsimp only at hK
 refine hK _ (.inl ⟨zS (zF t o) (yS o.code (yQ t o 0) (yQ t o 1)),s.ths,stk (zS (zF t o) (yS o.code (yQ t o 0) (yQ t o 1))),hk,rfl,hgj,kC _,by simp[StL.put],⟨rfl,rfl,trivial⟩,⟨?_,?_,rfl,?_,?_,?_,?_,trivial⟩,⟨fun j=>?_,trivial⟩⟩)
 ·rw[show stRef _=stRef s by simp[stRef,StL.put]]
  conv=>lhs;whnf
  all_goals (
   refine congrArg some ?_
   repeat (refine yM ?_ (wB s rfl))
   all_goals rfl)
 ·rfl
 ·conv=>lhs;whnf
  show some (Ob.ds 74 1 _)=some (Ob.ds 74 1 _)
  simp[stk,zS,zF,encF]
 ·conv=>lhs;whnf
  all_goals (
   refine congrArg (fun x=>some (Ob.rs 158 6 x)) ?_
   apply uP
   ·repeat (first|exact rfl|apply wG hk|apply wF (fun _=>rfl))
   ·show[_,_,_,_,_,AV.ref (.n 899) 0 ((zF t o).stack.length+1)]=_
    simp[yO,zS]
    exact⟨rfl,rfl,rfl,rfl,rfl⟩)
 ·rfl
 ·rfl
 ·repeat (first|exact rfl|refine hscrO ?_ (hg _ _)|conv=>lhs;whnf)
theorem doI_okA0 (hI:yV) (E:TypeId) (s:StL) (k:Nat) (o:OpL) (e:Ev) (hk:k<s.ths.length) (h5:s.ths.length≤5)
  (hs:s.small) (ho:o.fits s s.ths[k]) (hpc:InR s.ths[k].pc 0 1048576) (hst3:s.ths[k].st≠3) (he:e.kind=1) (hel:e.lock=-1) (hfl:∀ x∈s.ths[k].stack,x<18446744073709551616) (hjo:o.code=15→∃ j,yX (yQ s.ths[k] o 0) s.ths.length=some j∧yA s s.ths[k]=some j)
  (H0:Key→Option Ob) (h0:H0 (.l 0)=some (.vs E ([]++stRef s))) (h1:H0 (.n 899)=some (.ds 74 1 (stk s.ths[k]))) (h2:H0 (.n 900)=some (.rs 158 6 (rowsA s.ths k s.ths[k]))) (h3:∀ j,H0 (.s 900 j)=fam0 s.ths k j)
  (h4:H0 (.n 901)=some (.ds 74 1 (s.cells.map encF))) (h6:H0 (.n 902)=some (.ds 3 1 (s.owner.map encInt))) :
  IOCall EE 181 [.ptr (.l 0) 0,i64 k,agg (encOp o),agg (encEv e)] H0 (doIPost E [] k (doL s k o e).1 (doL s k o e).2):=by
 refine xN (fn:=Tryz.f181) (c:=Tryz.f181.body.getD .skip) Tryz.func181 rfl (by kernel_rfl) rfl ?_
 have hat:At [(0,.ptr (.l 0) 0),(1,i64 k),(2,agg (encOp o)),(3,agg (encEv e))] [(.l 0,.vs E ([]++stRef s)),(.n 899,.ds 74 1 (stk s.ths[k])),(.n 900,.rs 158 6 (rowsA s.ths k s.ths[k])),(.n 901,.ds 74 1 (s.cells.map encF)),(.n 902,.ds 3 1 (s.owner.map encInt))] [(900,fam0 s.ths k)]
   ⟨fun i=>[AV.ptr (.l 0) 0,i64 k,agg (encOp o),agg (encEv e)].getD i .junk,H0⟩ :=
  ⟨⟨rfl,rfl,rfl,rfl,trivial⟩,⟨h0,h1,h2,h4,h6,trivial⟩,⟨h3,trivial⟩⟩
 obtain⟨τ,H,hf⟩:=hat.form
 rw[hf]
 have hst:=hs.2.1 _ (List.getElem_mem hk)
 have hgk:fam0 s.ths k k=none:=by unfold fam0;rw[nbeq_self];rfl
 refine fF 7 (At (doI1 0 k o s.ths[k]) (doIO E [] s k o e s.ths[k] (zF s.ths[k] o)) [(900,fam0 s.ths k)]) (fun K hK=>doI_preB0 E (fam0 s.ths k) (xJ _ _) s k o e hk s.ths[k] ho.2.2.2.2 hst hpc τ H _ K hK) (fun S hS=>?_)
 refine fF 1 (DoI2 E [] (fam0 s.ths k) k (doL s k o e).1 (doL s k o e).2) (fun K hK=>doI_swB0 hI E (fam0 s.ths k) (xJ _ _) s k o e hk h5 (fun j hj=>by unfold fam0;rw[nbeq_ne hj];rfl) hs ho hpc hst3 he hel hfl hjo _ K S hS hK) (fun S' hS'=>?_)
 have hp:InertL []:=fun x hx=>by cases hx
 rcases hS' with ⟨t',h⟩|⟨l',t',r,h⟩
 ·exact doI_fin E _ hp _ k (xJ _ _) (fam0_cut _ _ _) hgk _ _ S' t' h
 ·exact doI_finF E _ hp _ k (xJ _ _) (bB _ _) hgk _ _ S' l' t' r h
theorem stepI_A0 (hI:yV) (E:TypeId) (p:ProgL) (s:StL) (k:Nat) (hp:p.wf) (hk:k<s.ths.length) (h5:s.ths.length≤5)
  (hs:s.small) (hr:s.ths[k].ready p s k) (hst3:s.ths[k].st≠3) (hfl:∀ x∈s.ths[k].stack,x<18446744073709551616) (hjo:∀ o,yE p s.ths[k]=some o→yB s k o=0→o.code=15→∃ j,yX (yQ s.ths[k] o 0) s.ths.length=some j∧yA s s.ths[k]=some j)
  (H0:Key→Option Ob) (h0:H0 (.l 0)=some (.vs E ([]++stRef s))) (h1:H0 (.n 899)=some (.ds 74 1 (stk s.ths[k]))) (h2:H0 (.n 900)=some (.rs 158 6 (rowsA s.ths k s.ths[k]))) (h3:∀ j,H0 (.s 900 j)=fam0 s.ths k j)
  (h4:H0 (.n 901)=some (.ds 74 1 (s.cells.map encF))) (h6:H0 (.n 902)=some (.ds 3 1 (s.owner.map encInt))) :
  IOCall EE 117 [.ptr (.l 0) 0,agg (encProg p),i64 k] H0 (doIPost E [] k (zG p s k).1 (zG p s k).2):=by
 refine xN (fn:=Tryz.f117) (c:=Tryz.f117.body.getD .skip) Tryz.func117 rfl (by kernel_rfl) rfl ?_
 have hat:At [(0,.ptr (.l 0) 0),(1,agg (encProg p)),(2,i64 k)] [(.l 0,.vs E ([]++stRef s)),(.n 899,.ds 74 1 (stk s.ths[k])),(.n 900,.rs 158 6 (rowsA s.ths k s.ths[k])),(.n 901,.ds 74 1 (s.cells.map encF)),(.n 902,.ds 3 1 (s.owner.map encInt))] [(900,fam0 s.ths k)]
   ⟨fun i=>[AV.ptr (.l 0) 0,agg (encProg p),i64 k].getD i .junk,H0⟩ :=
  ⟨⟨rfl,rfl,rfl,trivial⟩,⟨h0,h1,h2,h4,h6,trivial⟩,⟨h3,trivial⟩⟩
 obtain⟨τ,H,hf⟩:=hat.form
 rw[hf]
 have hst:=hs.2.1 _ (List.getElem_mem hk)
 have hgd:s.ths.getD k th0=s.ths[k]:=by simp[List.getD_eq_getElem?_getD,hk]
 have hp3:InertL []:=fun x hx=>by cases hx
 have hpc:=hr.pc
 clear hat hf h0 h1 h2 h3 h4 h6
 generalize ht0:s.ths[k]=t at *
 conv=>whnf
 refine⟨⟨by omega,by omega⟩,?_⟩
 conv=>whnf
 refine⟨yO t,⟨by repeat (first|exact yC hk|refine xL ?_ (yI rfl t)),by simp[yO]⟩,?_⟩
 conv=>whnf
 refine .inr (.inl ⟨10,[],?_⟩)
 conv=>whnf
 refine⟨yO t,⟨by repeat (first|exact yC hk|refine xL ?_ (yI rfl t)),by simp[yO]⟩,?_⟩
 conv=>whnf
 refine⟨_,Eq.mp (congrArg (fun x=>CallsTo EE 178 [agg (encProg p),.agg [i64 t.rt,i64 t.pc,i64 t.st,i64 t.cond,i64 t.lock,sl x]] _) (kC t).symm) (eY p t hp hr.inP),?_,?_⟩
 ·intro c hc
  simp only[List.mem_cons,List.not_mem_nil,or_false] at hc
  rcases hc with rfl|rfl
  ·exact .inr ⟨encOp _,rfl,rfl⟩
  ·exact .inl ⟨_,rfl,rfl⟩
 conv=>whnf
 refine⟨by kernel_rfl,?_⟩
 conv=>whnf
 refine⟨yO t,⟨by repeat (first|exact yC hk|refine xL ?_ (yI rfl t)),by simp[yO]⟩,?_⟩
 conv=>whnf
 have hp3:InertL []:=fun x hx=>by cases hx
 refine kbi (fun h4=>?_) (fun h4=>?_)
 ·have h4:t.st=4:=by simpa using h4
  have hlk:=hr.lock h4
  have hd:zG p s k=({ s with owner:=s.owner.set t.lock.toNat ((k:Nat):Int) }.put k { t with st:=1,cond:=-1,lock:=-1,pc:=if (yE p t).isSome=true then t.pc+1 else t.pc },{ ev0 k t with kind:=9,obj:=t.cond,lock:=t.lock }):=by
   unfold zG;rw[hgd,if_pos h4]
  conv=>whnf
  refine .inr (.inl ⟨12,[],?_⟩)
  conv=>whnf
  refine⟨yO t,⟨by repeat (first|exact yC hk|refine xL ?_ (yI rfl _)),by simp[yO]⟩,?_⟩
  conv=>whnf
  refine⟨yO t,⟨by repeat (first|exact yC hk|refine xL ?_ (yI rfl _)),by simp[yO]⟩,?_⟩
  conv=>whnf
  refine⟨by kernel_rfl,?_⟩
  conv=>whnf
  refine .inr (.inl ⟨9,[],?_⟩)
  conv=>whnf
  refine⟨yO t,⟨by repeat (first|exact yC hk|refine xL ?_ (yI rfl _)),by simp[yO]⟩,?_⟩
  conv=>whnf
  refine⟨by kernel_rfl,?_⟩
  conv=>whnf
  refine⟨⟨by omega,by omega⟩,?_⟩
  conv=>whnf
  refine .inr (.inl ⟨7,[],?_⟩)
  conv=>whnf
  refine⟨yO { t with st:=1,cond:=-1,lock:=-1 },⟨xL (eN hk ?_) (yI rfl _),by simp[yO]⟩,?_⟩
  ·apply uP
   ·repeat (first|exact rfl|apply wG hk|apply wF (fun _=>rfl))
   ·rfl
  conv=>whnf
  refine⟨_,jT _,?_⟩
  conv=>whnf
  refine⟨by kernel_rfl,?_⟩
  conv=>whnf
  refine⟨_,Weak.refl,?_⟩
  conv=>whnf
  rw[hd]
  refine⟨wO,by rfl,?_⟩
  refine qN hp3 (l:=s.ths) (t':={ t with st:=1,cond:=-1,lock:=-1,pc:=if (yE p t).isSome=true then t.pc+1 else t.pc }) hk rfl ?_ ?_ ?_ (fun j=>?_) ?_ ?_
  ·refine Eq.trans ?_ (congrArg (fun x=>some (Ob.vs E ([]++x))) (show stRef s=stRef _ by simp[stRef,StL.put]))
   conv=>lhs;whnf
   all_goals (
    refine congrArg some ?_
    repeat (refine yM ?_ (wB s rfl))
    all_goals rfl)
  ·rfl
  ·conv=>lhs;whnf
   all_goals (
    refine congrArg (fun x=>some (Ob.rs 158 6 x)) ?_
    apply uP
    ·repeat (first|exact rfl|apply wG hk|apply wF (fun _=>rfl))
    ·have ew:IntKind.i64.wrap (t.pc+(if (yE p t).isSome=true then 1 else 0))=(if (yE p t).isSome=true then t.pc+1 else t.pc):=by have a:=hpc.1;have b:=hpc.2;split <;> rw[zK (by omega) (by omega)];omega
     show[_,AV.d (.int .i64 (IntKind.i64.wrap (t.pc+(if (yE p t).isSome=true then 1 else 0)))),_,_,_,_]=_
     rw[ew]
     rfl)
  ·repeat (first|exact rfl|refine hscrO ?_ (xJ _ _ _ _)|conv=>lhs;whnf)
  ·rfl
  ·conv=>lhs;whnf
   show some (Ob.ds 3 1 ((s.owner.map encInt).set (0+t.lock.toNat) (encInt ((k:Nat):Int))))=some (Ob.ds 3 1 ((s.owner.set t.lock.toNat ((k:Nat):Int)).map encInt))
   rw[Nat.zero_add,List.map_set]
 have h4:¬ t.st=4:=by simpa using h4
 cases hn:yE p t with
 |none =>
  conv=>whnf
  have hd:zG p s k=(s.put k { t with st:=2 },{ ev0 k t with kind:=11 }):=by
   unfold zG;rw[hgd];simp[h4,hn]
  refine⟨_,Weak.refl,?_⟩
  conv=>whnf
  rw[hd]
  refine⟨wO,by rfl,?_⟩
  refine qN hp3 (l:=s.ths) (t':={ t with st:=2 }) hk rfl ?_ ?_ ?_ (fun j=>?_) ?_ ?_
  ·refine Eq.trans ?_ (congrArg (fun x=>some (Ob.vs E ([]++x))) (show stRef s=stRef _ by simp[stRef,StL.put]))
   conv=>lhs;whnf
   all_goals (
    refine congrArg some ?_
    repeat (refine yM ?_ (wB s rfl))
    all_goals rfl)
  ·rfl
  ·conv=>lhs;whnf
   all_goals (
    refine congrArg (fun x=>some (Ob.rs 158 6 x)) ?_
    apply uP
    ·repeat (first|exact rfl|apply wG hk|apply wF (fun _=>rfl))
    ·rfl)
  ·repeat (first|exact rfl|refine hscrO ?_ (xJ _ _ _ _)|conv=>lhs;whnf)
  ·rfl
  ·rfl
 |some o =>
  obtain⟨hoS,hoF⟩:=hr.op o hn
  conv=>whnf
  refine .inl ⟨[.fp (zX s),i64 k,agg (encOp o)],[],_,⟨_,_,rfl,FzA_ptr (E:=E) (cs:=[]++stRef s) ?_ (fz_stA (k:=k) (t:=t) (els:=stk t) hk ht0 ?_ (fun j hj hjl=>?_) rfl (by simp[stk,List.take_of_length_le]) ?_ ?_),_,_,rfl,rfl,_,_,rfl,⟨encOp o,rfl,_,_,rfl,rfl,_,_,rfl,rfl,_,_,rfl,rfl,_,_,rfl,rfl,rfl⟩,rfl⟩,rfl,l8 hI s k o hk hs hoS,?_⟩
  ·conv=>lhs;whnf
   all_goals (
    refine congrArg some ?_
    repeat (refine yM ?_ (wB s rfl))
    all_goals rfl)
  ·conv=>lhs;whnf
   all_goals (
    refine congrArg (fun x=>some (Ob.rs 158 6 x)) ?_
    repeat (first|exact rfl|refine jL ?_ rfl (fun _=>rfl)))
  ·refine Eq.trans (b:=fam0 s.ths k j) ?_ (by simp[fam0,nbeq_ne hj,zE,hjl])
   repeat (first|exact rfl|refine hscrO ?_ (xJ _ _ _ _)|conv=>lhs;whnf)
  ·rfl
  ·rfl
  rintro r rfl
  refine⟨rfl,?_⟩
  conv=>whnf
  refine kbi (fun h6=>?_) (fun h6=>?_)
  ·have h6:¬ yB s k o=0:=by simpa using h6
   have hd:zG p s k=({ s with fault:=yB s k o },{ ev0 k t with kind:=12,obj:=yB s k o }):=by
    unfold zG;rw[hgd];simp[h4,hn,h6]
   conv=>whnf
   refine⟨_,Weak.refl,?_⟩
   conv=>whnf
   rw[hd]
   refine⟨wO,by rfl,?_⟩
   refine qN hp3 (l:=s.ths) (t':=t) hk (by show s.ths=s.ths.set k t;rw[← ht0,List.set_getElem_self]) ?_ ?_ ?_ (fun j=>?_) ?_ ?_
   ·conv=>lhs;whnf
    refine congrArg some ?_
    repeat (refine yM ?_ (wB { s with fault:=yB s k o } rfl))
    refine congrArg (Ob.vs E) (fault_vs (pre:=[]) ?_)
    repeat (refine hscrL ?_ (vs_scrL0 s rfl))
    all_goals rfl
   ·rfl
   ·conv=>lhs;whnf
    all_goals (
     refine congrArg (fun x=>some (Ob.rs 158 6 x)) ?_
     apply uP
     ·repeat (first|exact rfl|apply wG hk|apply wF (fun _=>rfl))
     ·rfl)
   ·repeat (first|exact rfl|refine hscrO ?_ (xJ _ _ _ _)|conv=>lhs;whnf)
   ·rfl
   ·rfl
  ·have h6:yB s k o=0:=by simpa using h6
   have hd:zG p s k=doL s k o (ev0 k t):=by
    unfold zG;rw[hgd];simp[h4,hn,h6]
   conv=>whnf
   refine .inr (.inl ⟨999,99,wO,_,doI_okA0 hI E s k o { ev0 k t with kind:=1 } hk h5 hs (by rw[ht0];exact hoF h6) (by rw[ht0];exact hpc) (by rw[ht0];exact hst3) rfl rfl (by rw[ht0];exact hfl) (by rw[ht0];exact hjo o hn h6) _ ?_ ?_ ?_ (fun j=>?_) ?_ ?_,rfl,?_⟩)
   ·conv=>lhs;whnf
    refine congrArg some ?_
    repeat (first|exact rfl|refine yM ?_ (wB s rfl)|refine cM ?_ (n8 hp3 s))
   ·rw[ht0]
    rfl
   ·rw[ht0]
    conv=>lhs;whnf
    refine congrArg some ?_
    repeat (first|exact rfl|refine yM ?_ (bK rfl (fun _=>rfl) _ _ _)|refine cM ?_ (bL _ _ _))
   ·repeat (first|exact rfl|refine hscrO ?_ (xJ _ _ _ _)|refine d9 ?_ (bB _ _ _ _)|conv=>lhs;whnf)
   ·rfl
   ·rfl
   rintro r H1 ⟨rfl,hk2,rfl⟩
   refine⟨u4,?_,?_⟩
   ·intro n hn
    have:n=0:=by simpa[wO] using hn
    subst this
    exact⟨E,_,_,rfl,rfl⟩
   conv=>whnf
   refine⟨_,Weak.refl,?_⟩
   conv=>whnf
   rw[hd]
   refine⟨wO,by rfl,?_⟩
   refine qN hp3 (l:=(doL s k o (ev0 k t)).1.ths) (t':=(doL s k o (ev0 k t)).1.ths[k]) hk2 (List.set_getElem_self _).symm ?_ ?_ ?_ (fun j=>?_) ?_ ?_
   ·conv=>lhs;whnf
    refine congrArg some ?_
    repeat (first|exact rfl|refine yM ?_ (wB _ rfl)|refine cM ?_ (n8 hp3 _))
   ·rfl
   ·conv=>lhs;whnf
    refine congrArg some ?_
    repeat (first|exact rfl|refine yM ?_ (bK rfl (fun _=>rfl) _ _ _)|refine cM ?_ (bL _ _ _))
   ·refine Eq.trans (b:=fam0 (doL s k o (ev0 k t)).1.ths k j) ?_ rfl
    repeat (first|exact rfl|refine hscrO ?_ (xJ _ _ _ _)|refine d9 ?_ (bB _ _ _ _)|conv=>lhs;whnf)
   ·rfl
   ·rfl
theorem stepI_ok0 (hI:yV) (E:TypeId) (p:ProgL) (s:StL) (k:Nat) (hp:p.wf) (hk:k<s.ths.length) (h5:s.ths.length≤5)
  (hs:s.small) (hr:s.ths[k].ready p s k) (hst3:s.ths[k].st≠3) (hfl:∀ x∈s.ths[k].stack,x<18446744073709551616) (hjo:∀ o,yE p s.ths[k]=some o→yB s k o=0→o.code=15→∃ j,yX (yQ s.ths[k] o 0) s.ths.length=some j∧yA s s.ths[k]=some j)
  (H0:Key→Option Ob) (hH:AtC E [] s H0) :
  IOCall EE 117 [.ptr (.l 0) 0,agg (encProg p),i64 k] H0 (fun r H1=>r=agg (encEv (zG p s k).2)∧H1=stHC E [] (zG p s k).1):=by
 have hp3:InertL []:=fun x hx=>by cases hx
 refine io_canon hp3 hk ?_ hH fun H0 a b c d e f=>stepI_A0 hI E p s k hp hk h5 hs hr hst3 hfl hjo H0 a b c d e f
 simp only[List.map_cons,List.map_nil,agg_ren]
 rfl
end Ai
namespace Ai
set_option maxRecDepth 100000
open Go Go.Proofs Cyc
def lT (e:Ev):Prop:=((e.kind=4∨e.kind=5)→0≤e.obj)∧((e.kind=8∨e.kind=9)→0≤e.lock)
theorem f7 {e:Ev} (h:lT e):(xS e=-2∧gR e=-1)∨(0≤xS e∧gR e=xS e):=by
 obtain⟨h1,h2⟩:=h
 unfold xS gR eE iS
 by_cases k4:e.kind=4
 ·have:=h1 (.inl k4);simp[k4];omega
 by_cases k5:e.kind=5
 ·have:=h1 (.inr k5);simp[k5];omega
 by_cases k8:e.kind=8
 ·have:=h2 (.inl k8);simp[k8];omega
 by_cases k9:e.kind=9
 ·have:=h2 (.inr k9);simp[k9];omega
 simp[k4,k5,k8,k9]
theorem hang_same {a b:Ev} (ha:lT a) (hb:lT b):fY a b↔rG a b:=by
 unfold fY rG
 have h1:=f7 ha
 have h2:=f7 hb
 have:(xS a=xS b∧xS a≠-2)↔(0≤gR a∧gR a=gR b):=by omega
 rw[this]
theorem do_lock {s:StL} {k:Nat} {o:OpL} {e:Ev} {t:Th} (hf:o.fits s t):lT (doL s k o e).2:=by
 have ok:∀ e':Ev,e'.kind≠4→e'.kind≠5→e'.kind≠8→e'.kind≠9→lT e':=fun e' a b c d=>⟨fun h=>(h.elim a b).elim,fun h=>(h.elim c d).elim⟩
 unfold doL
 simp only
 by_cases h1:o.code=1
 ·rw[if_pos h1];exact ok _ (by simp) (by simp) (by simp) (by simp)
 rw[if_neg h1]
 by_cases h2:o.code=2
 ·rw[if_pos h2];exact ok _ (by simp) (by simp) (by simp) (by simp)
 rw[if_neg h2]
 by_cases h3:o.code=3
 ·rw[if_pos h3];exact ok _ (by simp) (by simp) (by simp) (by simp)
 rw[if_neg h3]
 by_cases h4:o.code=10
 ·rw[if_pos h4];exact ok _ (by simp) (by simp) (by simp) (by simp)
 rw[if_neg h4]
 by_cases h5:o.code=11
 ·rw[if_pos h5];exact ok _ (by simp) (by simp) (by simp) (by simp)
 rw[if_neg h5]
 by_cases h6:o.code=12
 ·rw[if_pos h6]
  exact⟨fun _=>(hf.2.2.1 (.inl h6)).1,fun h=>by simp at h⟩
 rw[if_neg h6]
 by_cases h7:o.code=13
 ·rw[if_pos h7]
  exact⟨fun _=>(hf.2.2.1 (.inr h7)).1,fun h=>by simp at h⟩
 rw[if_neg h7]
 by_cases h8:o.code=14
 ·rw[if_pos h8];exact ok _ (by simp) (by simp) (by simp) (by simp)
 rw[if_neg h8]
 by_cases h9:o.code=15
 ·rw[if_pos h9];exact ok _ (by simp) (by simp) (by simp) (by simp)
 rw[if_neg h9]
 by_cases h10:o.code=16
 ·rw[if_pos h10]
  exact⟨fun h=>by simp at h,fun _=>(hf.2.2.2.1 h10).1⟩
 rw[if_neg h10]
 by_cases h11:o.code=17
 ·rw[if_pos h11]
  split <;> exact ok _ (by simp) (by simp) (by simp) (by simp)
 rw[if_neg h11]
 exact ok _ (by simp) (by simp) (by simp) (by simp)
theorem step_lock {p:ProgL} {s:StL} {k:Nat} (hk:k<s.ths.length) (hr:s.ths[k].ready p s k):lT (zG p s k).2:=by
 have hg:s.ths.getD k th0=s.ths[k]:=by simp[List.getD_eq_getElem?_getD,hk]
 unfold zG
 simp only[hg]
 split
 ·rename_i h4
  exact⟨fun h=>by simp at h,fun _=>(hr.lock h4).1⟩
 ·split
  ·exact⟨fun h=>by simp at h,fun h=>by simp at h⟩
  ·rename_i o ho
   split
   ·rename_i hf
    exact do_lock ((hr.op o ho).2 hf)
   ·exact⟨fun h=>by simp at h,fun h=>by simp at h⟩
end Ai
namespace Ai
set_option maxRecDepth 100000
open Go Go.Proofs Ieee
theorem scl_bw {m b k:Nat} {i:Int} (o2:m*2 ^ i.toNat<b*2 ^ (-i).toNat):m*2 ^ (i - min i (-(k:Int))).toNat<b*2 ^ k*2 ^ (-(k:Int) - min i (-(k:Int))).toNat:=by
 by_cases hi:0≤i
 ·rw[Int.min_eq_right (by omega)]
  have e1:(i - -(k:Int)).toNat=i.toNat+k:=by omega
  have e2:(-(k:Int) - -(k:Int)).toNat=0:=by omega
  rw[e1,e2,Nat.pow_add,Nat.pow_zero,Nat.mul_one,← Nat.mul_assoc]
  have e3:(-i).toNat=0:=by omega
  rw[e3,Nat.pow_zero,Nat.mul_one] at o2
  exact Nat.mul_lt_mul_of_pos_right o2 (Nat.pow_pos (by decide))
 ·have e3:i.toNat=0:=by omega
  rw[e3,Nat.pow_zero,Nat.mul_one] at o2
  by_cases hik:i≤-(k:Int)
  ·rw[Int.min_eq_left hik]
   have e1:(i - i).toNat=0:=by omega
   have e2:(-i).toNat=k+(-(k:Int) - i).toNat:=by omega
   rw[e1,Nat.pow_zero,Nat.mul_one,Nat.mul_assoc,← Nat.pow_add]
   rw[e2] at o2;exact o2
  ·rw[Int.min_eq_right (by omega)]
   have e1:k=(-i).toNat+(i - -(k:Int)).toNat:=by omega
   have e2:(-(k:Int) - -(k:Int)).toNat=0:=by omega
   rw[e2,Nat.pow_zero,Nat.mul_one]
   generalize hq:(i - -(k:Int)).toNat=q at *
   rw[e1,Nat.pow_add,← Nat.mul_assoc]
   exact Nat.mul_lt_mul_of_pos_right o2 (Nat.pow_pos (by decide))
end Ai
namespace Ai
set_option maxRecDepth 100000
open Go Go.Proofs Cyc
structure Eff where
 t:Th
 cw:Option (Nat × Nat)
 ow:Option (Nat × Int)
 sp:Option Th
 wk:Option Nat
 ev:Ev
def uQ (l:List Th):Option Nat→List Th
 |some j=>l.modify j fun u=>{ u with st:=4 }
 |none=>l
def qT {α:Type} (l:List α):Option (Nat × α)→List α
 |some (a,v)=>l.set a v
 |none=>l
def Eff.app (f:Eff) (s:StL) (k:Nat):StL :=
 { ths:=(uQ s.ths f.wk++f.sp.toList).set k f.t,cells:=qT s.cells f.cw,owner:=qT s.owner f.ow,fault:=s.fault }
noncomputable def jR (s:StL) (k:Nat) (o:OpL) (e:Ev):Eff :=
 let t0:=s.ths.getD k th0
 let t:=zF t0 o
 let e:={ e with kind:=1 }
 if o.code=1 then ⟨zS t o.v,none,none,none,none,e⟩
 else if o.code=2 then ⟨zS t (s.cells.getD o.a.toNat 0),none,none,none,none,{ e with kind:=2,obj:=o.a }⟩
 else if o.code=3 then ⟨t,some (o.a.toNat,yQ t0 o 0),none,none,none,{ e with kind:=3,obj:=o.a }⟩
 else if o.code=10 then ⟨{ t with pc:=o.a },none,none,none,none,e⟩
 else if o.code=11 then ⟨if zY (yQ t0 o 0)=true∨fcmp .eql (yQ t0 o 0) 0=true then { t with pc:=o.a } else t,none,none,none,none,e⟩
 else if o.code=12 then ⟨t,none,some (o.a.toNat,k),none,none,{ e with kind:=4,obj:=o.a }⟩
 else if o.code=13 then ⟨t,none,some (o.a.toNat,-1),none,none,{ e with kind:=5,obj:=o.a }⟩
 else if o.code=14 then ⟨zS t (FloatKind.f64.nearest (s.ths.length:Int)),none,none,some (jH o.a),none,{ e with kind:=6,obj:=s.ths.length }⟩
 else if o.code=15 then ⟨t,none,none,none,none,{ e with kind:=7,obj:=(yA s t0).getD (-1) }⟩
 else if o.code=16 then ⟨{ t with st:=3,cond:=o.a,lock:=o.b,pc:=t.pc - 1 },none,some (o.b.toNat,-1),none,none,{ e with kind:=8,obj:=o.a,lock:=o.b }⟩
 else if o.code=17 then ⟨t,none,none,none,yY s.ths o.a,match yY s.ths o.a with|some j=>{ e with kind:=10,obj:=o.a,lock:=j }|none=>{ e with kind:=10,obj:=o.a }⟩
 else ⟨zS t (yS o.code (yQ t0 o 0) (yQ t0 o 1)),none,none,none,none,e⟩
noncomputable def gF (p:ProgL) (s:StL) (k:Nat):Eff :=
 let t:=s.ths.getD k th0
 if t.st=4 then ⟨{ t with st:=1,cond:=-1,lock:=-1,pc:=if (yE p t).isSome then t.pc+1 else t.pc },none,some (t.lock.toNat,k),none,none,{ ev0 k t with kind:=9,obj:=t.cond,lock:=t.lock }⟩
 else match yE p t with
  |none=>⟨{ t with st:=2 },none,none,none,none,{ ev0 k t with kind:=11 }⟩
  |some o=>jR s k o (ev0 k t)
theorem do_app (s:StL) (k:Nat) (o:OpL) (e:Ev):doL s k o e=((jR s k o e).app s k,(jR s k o e).ev):=by
 unfold doL jR
 simp only
 by_cases h1:o.code=1
 ·simp only[if_pos h1];simp[Eff.app,StL.put,uQ,qT]
 simp only[if_neg h1]
 by_cases h2:o.code=2
 ·simp only[if_pos h2];simp[Eff.app,StL.put,uQ,qT]
 simp only[if_neg h2]
 by_cases h3:o.code=3
 ·simp only[if_pos h3];simp[Eff.app,StL.put,uQ,qT]
 simp only[if_neg h3]
 by_cases h4:o.code=10
 ·simp only[if_pos h4];simp[Eff.app,StL.put,uQ,qT]
 simp only[if_neg h4]
 by_cases h5:o.code=11
 ·simp only[if_pos h5];simp[Eff.app,StL.put,uQ,qT]
 simp only[if_neg h5]
 by_cases h6:o.code=12
 ·simp only[if_pos h6];simp[Eff.app,StL.put,uQ,qT]
 simp only[if_neg h6]
 by_cases h7:o.code=13
 ·simp only[if_pos h7];simp[Eff.app,StL.put,uQ,qT]
 simp only[if_neg h7]
 by_cases h8:o.code=14
 ·simp only[if_pos h8];simp[Eff.app,StL.put,uQ,qT]
 simp only[if_neg h8]
 by_cases h9:o.code=15
 ·simp only[if_pos h9];simp[Eff.app,StL.put,uQ,qT]
 simp only[if_neg h9]
 by_cases h10:o.code=16
 ·simp only[if_pos h10];simp[Eff.app,StL.put,uQ,qT]
 simp only[if_neg h10]
 by_cases h11:o.code=17
 ·simp only[if_pos h11]
  cases yY s.ths o.a with
  |some j=>simp[Eff.app,StL.put,uQ,qT]
  |none=>simp[Eff.app,StL.put,uQ,qT]
 simp only[if_neg h11]
 simp[Eff.app,StL.put,uQ,qT]
theorem a9 {p:ProgL} {s:StL} {k:Nat} (h4:(s.ths.getD k th0).st≠4) {o:OpL} (hn:yE p (s.ths.getD k th0)=some o) (h:(zG p s k).2.kind≠12):yB s k o=0:=by
 apply Classical.byContradiction
 intro hf
 apply h
 unfold zG
 simp only[if_neg h4,hn,if_neg hf]
theorem pB {p:ProgL} {s:StL} {k:Nat} (h:(zG p s k).2.kind≠12):zG p s k=((gF p s k).app s k,(gF p s k).ev):=by
 by_cases h4:(s.ths.getD k th0).st=4
 ·unfold zG gF
  simp only[if_pos h4]
  simp[Eff.app,StL.put,uQ,qT]
 cases hn:yE p (s.ths.getD k th0) with
 |none =>
  unfold zG gF
  simp only[if_neg h4,hn]
  simp[Eff.app,StL.put,uQ,qT]
 |some o =>
  have hf:=a9 h4 hn h
  unfold zG gF
  simp only[if_neg h4,hn,if_pos hf]
  exact do_app _ _ _ _
structure EffOK (f:Eff) (s:StL) (k:Nat):Prop where
 th:f.ev.th=k
 cw:∀ a v,f.cw=some (a,v)→f.ev.kind=3∧f.ev.obj=a
 ow:∀ a x,f.ow=some (a,x)→xS f.ev=a
 sp:∀ t,f.sp=some t→f.ev.kind=6∧f.ev.obj=s.ths.length∧t.st=1
 wk:∀ j,f.wk=some j→f.ev.kind=10∧f.ev.lock=j∧j≠k∧j<s.ths.length∧(s.ths.getD j th0).st=3∧(s.ths.getD j th0).cond=f.ev.obj
 st3:f.t.st=3→f.ev.kind=8∧f.ev.obj=f.t.cond
 st2:f.t.st=2→f.ev.kind=11
theorem effD_ok {s:StL} {k:Nat} {o:OpL} {t:Th} (h1:(s.ths.getD k th0).st=1) (hf:o.fits s t) (pc:Int):EffOK (jR s k o ⟨k,0,-1,-1,pc⟩) s k:=by
 have hp:(zF (s.ths.getD k th0) o).st=1:=h1
 have hp3:(zF (s.ths.getD k th0) o).st≠3:=by rw[hp];decide
 have hp2:(zF (s.ths.getD k th0) o).st≠2:=by rw[hp];decide
 have nn:∀ {α:Type} {x:α} {P:Prop},(none:Option α)=some x→P:=fun h=>by cases h
 unfold jR
 simp only
 by_cases h1:o.code=1
 ·simp only[if_pos h1];exact⟨rfl,fun _ _ h=>nn h,fun _ _ h=>nn h,fun _ h=>nn h,fun _ h=>nn h,fun h=>absurd h hp3,fun h=>absurd h hp2⟩
 simp only[if_neg h1]
 by_cases h2:o.code=2
 ·simp only[if_pos h2];exact⟨rfl,fun _ _ h=>nn h,fun _ _ h=>nn h,fun _ h=>nn h,fun _ h=>nn h,fun h=>absurd h hp3,fun h=>absurd h hp2⟩
 simp only[if_neg h2]
 by_cases h3:o.code=3
 ·simp only[if_pos h3]
  have ha:=(hf.2.1 (.inr h3)).1
  refine⟨rfl,fun a v h=>?_,fun _ _ h=>nn h,fun _ h=>nn h,fun _ h=>nn h,fun h=>absurd h hp3,fun h=>absurd h hp2⟩
  injection h with h;injection h with h h';subst h
  exact⟨rfl,by show o.a=_;omega⟩
 simp only[if_neg h3]
 by_cases h4:o.code=10
 ·simp only[if_pos h4];exact⟨rfl,fun _ _ h=>nn h,fun _ _ h=>nn h,fun _ h=>nn h,fun _ h=>nn h,fun h=>absurd h hp3,fun h=>absurd h hp2⟩
 simp only[if_neg h4]
 by_cases h5:o.code=11
 ·simp only[if_pos h5]
  refine⟨rfl,fun _ _ h=>nn h,fun _ _ h=>nn h,fun _ h=>nn h,fun _ h=>nn h,fun h=>?_,fun h=>?_⟩
  ·simp only at h;split at h <;> exact absurd h hp3
  ·simp only at h;split at h <;> exact absurd h hp2
 simp only[if_neg h5]
 by_cases h6:o.code=12
 ·simp only[if_pos h6]
  have ha:=(hf.2.2.1 (.inl h6)).1
  refine⟨rfl,fun _ _ h=>nn h,fun a x h=>?_,fun _ h=>nn h,fun _ h=>nn h,fun h=>absurd h hp3,fun h=>absurd h hp2⟩
  injection h with h;injection h with h h';subst h
  show xS _=_
  simp[xS];omega
 simp only[if_neg h6]
 by_cases h7:o.code=13
 ·simp only[if_pos h7]
  have ha:=(hf.2.2.1 (.inr h7)).1
  refine⟨rfl,fun _ _ h=>nn h,fun a x h=>?_,fun _ h=>nn h,fun _ h=>nn h,fun h=>absurd h hp3,fun h=>absurd h hp2⟩
  injection h with h;injection h with h h';subst h
  show xS _=_
  simp[xS];omega
 simp only[if_neg h7]
 by_cases h8:o.code=14
 ·simp only[if_pos h8]
  refine⟨rfl,fun _ _ h=>nn h,fun _ _ h=>nn h,fun t h=>?_,fun _ h=>nn h,fun h=>absurd h hp3,fun h=>absurd h hp2⟩
  injection h with h;subst h
  exact⟨rfl,rfl,rfl⟩
 simp only[if_neg h8]
 by_cases h9:o.code=15
 ·simp only[if_pos h9];exact⟨rfl,fun _ _ h=>nn h,fun _ _ h=>nn h,fun _ h=>nn h,fun _ h=>nn h,fun h=>absurd h hp3,fun h=>absurd h hp2⟩
 simp only[if_neg h9]
 by_cases h10:o.code=16
 ·simp only[if_pos h10]
  have ha:=(hf.2.2.2.1 h10).1
  refine⟨rfl,fun _ _ h=>nn h,fun a x h=>?_,fun _ h=>nn h,fun _ h=>nn h,fun _=>⟨rfl,rfl⟩,fun h=>?_⟩
  ·injection h with h;injection h with h h';subst h
   show xS _=_
   simp[xS];omega
  ·have h:(3:Int)=2:=h
   exact absurd h (by decide)
 simp only[if_neg h10]
 by_cases h11:o.code=17
 ·simp only[if_pos h11]
  refine⟨?_,fun _ _ h=>nn h,fun _ _ h=>nn h,fun _ h=>nn h,fun j h=>?_,fun h=>absurd h hp3,fun h=>absurd h hp2⟩
  ·show(match yY s.ths o.a with|some j=>_|none=>_:Ev).th=_
   cases yY s.ths o.a <;> rfl
  ·have h:yY s.ths o.a=some j:=h
   obtain⟨g1,g2,g3⟩:=dO h
   have e:s.ths.getD j th0=s.ths[j]:=by simp[List.getD_eq_getElem?_getD,g1]
   show(match yY s.ths o.a with|some j=>_|none=>_:Ev).kind=10∧(match yY s.ths o.a with|some j=>_|none=>_:Ev).lock=_∧j≠k∧j<s.ths.length∧_∧_=(match yY s.ths o.a with|some j=>_|none=>_:Ev).obj
   rw[h]
   refine⟨rfl,rfl,?_,g1,by rw[e];exact g2,by rw[e];exact g3⟩
   rintro rfl
   rw[e] at hp
   have:s.ths[j].st=1:=hp
   rw[g2] at this;cases this
 simp only[if_neg h11]
 exact⟨rfl,fun _ _ h=>nn h,fun _ _ h=>nn h,fun _ h=>nn h,fun _ h=>nn h,fun h=>absurd h hp3,fun h=>absurd h hp2⟩
theorem eff_ok {p:ProgL} {s:StL} {k:Nat} (hk:k<s.ths.length) (hr:s.ths[k].ready p s k) (hst:(s.ths.getD k th0).st=1∨(s.ths.getD k th0).st=4) (h:(zG p s k).2.kind≠12):EffOK (gF p s k) s k:=by
 have nn:∀ {α:Type} {x:α} {P:Prop},(none:Option α)=some x→P:=fun h=>by cases h
 have hg:s.ths.getD k th0=s.ths[k]:=by simp[List.getD_eq_getElem?_getD,hk]
 unfold gF
 simp only
 by_cases h4:(s.ths.getD k th0).st=4
 ·simp only[if_pos h4]
  have hl:=(hr.lock (by rw[← hg];exact h4)).1
  refine⟨rfl,fun _ _ h=>nn h,fun a x h=>?_,fun _ h=>nn h,fun _ h=>nn h,fun h=>?_,fun h=>?_⟩
  ·injection h with h;injection h with h h';subst h
   show xS _=_
   rw[hg]
   simp[xS];omega
  ·have h:(1:Int)=3:=h
   exact absurd h (by decide)
  ·have h:(1:Int)=2:=h
   exact absurd h (by decide)
 ·simp only[if_neg h4]
  have h1:=hst.resolve_right h4
  cases hn:yE p (s.ths.getD k th0) with
  |none =>
   refine⟨rfl,fun _ _ h=>nn h,fun _ _ h=>nn h,fun _ h=>nn h,fun _ h=>nn h,fun h=>?_,fun _=>rfl⟩
   have h:(2:Int)=3:=h
   exact absurd h (by decide)
  |some o =>
   have hf:=a9 h4 hn h
   exact effD_ok h1 ((hr.op o (by rw[← hg];exact hn)).2 hf) _
section
variable {f:Eff} {s:StL} {k:Nat}
theorem dN (l:List Th) (o:Option Nat):(uQ l o).length=l.length:=by cases o <;> simp[uQ]
theorem qA:(f.app s k).ths.length=s.ths.length+f.sp.toList.length:=by simp[Eff.app,dN]
theorem cU (hk:k<s.ths.length):(f.app s k).ths.getD k th0=f.t:=by
 rw[List.getD_eq_getElem?_getD]
 simp only[Eff.app]
 rw[List.getElem?_set_self (by rw[List.length_append,dN];omega)]
 rfl
theorem app_pre {u:Nat} (hu:u≠k):(f.app s k).ths.getD u th0=(uQ s.ths f.wk++f.sp.toList).getD u th0:=by
 rw[List.getD_eq_getElem?_getD,List.getD_eq_getElem?_getD]
 simp only[Eff.app]
 rw[List.getElem?_set_ne (Ne.symm hu)]
theorem app_old {u:Nat} (hu:u≠k) (hl:u<s.ths.length):(f.app s k).ths.getD u th0=(uQ s.ths f.wk).getD u th0:=by
 rw[app_pre hu,List.getD_eq_getElem?_getD,List.getD_eq_getElem?_getD,List.getElem?_append_left (by rw[dN];exact hl)]
theorem app_o {u:Nat} (hu:u≠k) (hl:u<s.ths.length) (hw:f.wk≠some u):(f.app s k).ths.getD u th0=s.ths.getD u th0:=by
 rw[app_old hu hl]
 cases hq:f.wk with
 |none=>rfl
 |some j =>
  have hj:j≠u:=fun e=>hw (by rw[hq,e])
  simp only[uQ]
  rw[List.getD_eq_getElem?_getD,List.getD_eq_getElem?_getD,List.getElem?_modify]
  cases s.ths[u]? <;> simp[hj]
theorem oS {u:Nat} (hu:u≠k) (hl:u<s.ths.length) (hw:f.wk=some u):(f.app s k).ths.getD u th0={ s.ths.getD u th0 with st:=4 }:=by
 rw[app_old hu hl,hw]
 simp only[uQ]
 rw[List.getD_eq_getElem?_getD,List.getD_eq_getElem?_getD,List.getElem?_modify,List.getElem?_eq_getElem hl]
 simp
theorem oT {t:Th} (hk:k<s.ths.length) (hs:f.sp=some t):(f.app s k).ths.getD s.ths.length th0=t:=by
 rw[app_pre (by omega),hs,List.getD_eq_getElem?_getD,List.getElem?_append_right (by rw[dN];exact Nat.le_refl _),dN]
 simp
theorem app_out {u:Nat} (h:s.ths.length+f.sp.toList.length≤u):(f.app s k).ths.getD u th0=th0:=by
 rw[List.getD_eq_getElem?_getD,List.getElem?_eq_none (by rw[qA];exact h)];rfl
theorem iU {s:StL} {u:Nat} (h:s.ths.length≤u):s.ths.getD u th0=th0:=by
 rw[List.getD_eq_getElem?_getD,List.getElem?_eq_none h];rfl
theorem setO_ne {α:Type} {l:List α} {o:Option (Nat × α)} {a:Nat} {d:α} (h:∀ b v,o=some (b,v)→b≠a):(qT l o).getD a d=l.getD a d:=by
 cases o with
 |none=>rfl
 |some x =>
  obtain⟨b,v⟩:=x
  simp only[qT]
  rw[List.getD_eq_getElem?_getD,List.getD_eq_getElem?_getD,List.getElem?_set_ne (h b v rfl)]
theorem setO_two {α:Type} {l l':List α} {o:Option (Nat × α)} {a:Nat} {d:α} (hl:l.length=l'.length) (h:l.getD a d=l'.getD a d):(qT l o).getD a d=(qT l' o).getD a d:=by
 cases o with
 |none=>exact h
 |some x =>
  obtain⟨b,v⟩:=x
  simp only[qT]
  rw[List.getD_eq_getElem?_getD,List.getD_eq_getElem?_getD] at h ⊢
  rw[List.getElem?_set,List.getElem?_set,hl]
  split
  ·rfl
  ·exact h
end
end Ai
namespace Ai
set_option maxRecDepth 100000
open Go Go.Proofs Cyc
theorem mQ {f:Eff} {s:StL} {k u:Nat} (hk:k<s.ths.length) (hu:u≠k) (hw:f.wk≠some u) (hs:∀ t,f.sp=some t→u≠s.ths.length):(f.app s k).ths.getD u th0=s.ths.getD u th0:=by
 by_cases hl:u<s.ths.length
 ·exact app_o hu hl hw
 ·rw[iU (s:=s) (by omega)]
  cases hq:f.sp with
  |none=>exact app_out (by rw[hq];simp;omega)
  |some t =>
   have:=hs t hq
   exact app_out (by rw[hq];simp;omega)
def touchT (d:Ev) (u:Nat):Prop:=d.th=u∨(d.kind=6∧d.obj=u)∨(d.kind=10∧d.lock=u)
def eI (s:StL) (u:Nat) (a:Int):Prop:=(s.ths.getD u th0).st=3∧(s.ths.getD u th0).cond=a
structure Sim (D:List Ev) (s c:StL):Prop where
 len:c.ths.length≤s.ths.length
 cl:c.cells.length=s.cells.length
 ol:c.owner.length=s.owner.length
 th:∀ u:Nat,u<s.ths.length→(∀ d∈D,¬ touchT d u)→u<c.ths.length∧c.ths.getD u th0=s.ths.getD u th0
 cell:∀ a:Nat,(∀ d∈D,¬ (d.kind=3∧d.obj=a))→c.cells.getD a 0=s.cells.getD a 0
 own:∀ a:Nat,(∀ d∈D,xS d≠a)→c.owner.getD a 0=s.owner.getD a 0
 num:(∀ d∈D,d.kind≠6)→c.ths.length=s.ths.length
 slp:∀ a:Int,(∀ d∈D,¬ (rQ d∧d.obj=a))→∀ u:Nat,eI c u a↔eI s u a
 don:∀ u:Nat,(s.ths.getD u th0).st=2→(∀ d∈D,¬ (d.kind=11∧d.th=u))→(c.ths.getD u th0).st=2
 flt:s.fault=0→c.fault=0
theorem Sim.refl (s:StL):Sim [] s s:=⟨Nat.le_refl _,rfl,rfl,fun u h _=>⟨h,rfl⟩,fun _ _=>rfl,fun _ _=>rfl,fun _=>rfl,fun _ _ _=>Iff.rfl,fun _ h _=>h,id⟩
theorem oG {α:Type} {l l':List α} {d:α} (hl:l.length=l'.length) (h:∀ i,i<l'.length→l.getD i d=l'.getD i d):l=l':=by
 apply List.ext_getElem hl
 intro i h1 h2
 have:=h i h2
 rw[List.getD_eq_getElem?_getD,List.getD_eq_getElem?_getD,List.getElem?_eq_getElem h1,List.getElem?_eq_getElem h2] at this
 exact this
theorem Sim.eq {s c:StL} (h:Sim [] s c) (hf:s.fault=0):c=s:=by
 have h1:c.ths=s.ths:=oG (h.num (by simp)) fun i hi=>(h.th i hi (by simp)).2
 have h2:c.cells=s.cells:=oG h.cl fun i _=>h.cell i (by simp)
 have h3:c.owner=s.owner:=oG h.ol fun i _=>h.own i (by simp)
 have h4:c.fault=s.fault:=by rw[h.flt hf,hf]
 cases c;cases s
 simp only at h1 h2 h3 h4
 subst h1 h2 h3 h4
 rfl
theorem fM {α:Type} (l:List α) (o:Option (Nat × α)):(qT l o).length=l.length:=by cases o <;> simp[qT]
theorem Sim.drop {D:List Ev} {s c:StL} {f:Eff} {k:Nat} (h:Sim D s c) (hf:EffOK f s k) (hk:k<s.ths.length) (h3:(s.ths.getD k th0).st≠3):Sim (f.ev::D) (f.app s k) c:=by
 have hmem:∀ {P:Ev→Prop},(∀ d∈f.ev::D,P d)→P f.ev∧∀ d∈D,P d:=fun h=>⟨h _ (List.mem_cons_self ..),fun d hd=>h d (List.mem_cons_of_mem _ hd)⟩
 have hsp:f.ev.kind≠6→f.sp=none:=fun hn=>by
  cases hq:f.sp with
  |none=>rfl
  |some t=>exact absurd (hf.sp t hq).1 hn
 refine⟨by rw[qA];have:=h.len;omega,by show _=(qT s.cells f.cw).length;rw[fM];exact h.cl,by show _=(qT s.owner f.ow).length;rw[fM];exact h.ol,fun u hu hD=>?_,fun a hD=>?_,fun a hD=>?_,fun hD=>?_,fun a hD u=>?_,fun u h2 hD=>?_,fun h0=>h.flt h0⟩
 ·obtain⟨h1,h2⟩:=hmem hD
  have huk:u≠k:=fun e=>h1 (.inl (by rw[hf.th,e]))
  have hul:u<s.ths.length:=by
   rw[qA] at hu
   cases hq:f.sp with
   |none=>rw[hq] at hu;simpa using hu
   |some t =>
    rw[hq] at hu
    have hu:u<s.ths.length+1:=by simpa using hu
    by_cases e:u=s.ths.length
    ·exact absurd (.inr (.inl ⟨(hf.sp t hq).1,by rw[(hf.sp t hq).2.1,e]⟩)) h1
    ·omega
  have hw:f.wk≠some u:=fun e=>h1 (.inr (.inr ⟨(hf.wk u e).1,(hf.wk u e).2.1⟩))
  rw[app_o huk hul hw]
  exact h.th u hul h2
 ·obtain⟨h1,h2⟩:=hmem hD
  rw[h.cell a h2]
  exact(setO_ne fun b v e eb=>h1 (by rw[← eb];exact hf.cw b v e)).symm
 ·obtain⟨h1,h2⟩:=hmem hD
  rw[h.own a h2]
  exact(setO_ne fun b v e eb=>h1 (by rw[← eb];exact hf.ow b v e)).symm
 ·obtain⟨h1,h2⟩:=hmem hD
  rw[qA,hsp h1,h.num h2];rfl
 ·obtain⟨h1,h2⟩:=hmem hD
  rw[h.slp a h2 u]
  unfold eI
  by_cases huk:u=k
  ·subst huk
   rw[cU hk]
   constructor
   ·rintro⟨e,_⟩;exact absurd e h3
   ·rintro⟨e1,e2⟩
    obtain⟨g1,g2⟩:=hf.st3 e1
    exact absurd ⟨.inl g1,g2.trans e2⟩ h1
  by_cases hw:f.wk=some u
  ·obtain⟨g1,g2,g3,g4,g5,g6⟩:=hf.wk u hw
   rw[oS huk g4 hw]
   constructor
   ·rintro⟨_,e⟩;exact absurd ⟨.inr (.inr g1),by rw[← g6];exact e⟩ h1
   ·rintro⟨e,_⟩
    have e:(4:Int)=3:=e
    exact absurd e (by decide)
  by_cases hs:∀ t,f.sp=some t→u≠s.ths.length
  ·rw[mQ hk huk hw hs]
  ·obtain⟨t,hx⟩:=Classical.not_forall.1 hs
   have hy:f.sp=some t∧u=s.ths.length:=by
    by_cases e:f.sp=some t
    ·exact⟨e,Classical.byContradiction fun e2=>hx fun _=>e2⟩
    ·exact absurd (fun e2=>absurd e2 e) hx
   obtain⟨ht,hu⟩:=hy
   clear hx
   subst hu
   rw[oT hk ht,iU (Nat.le_refl _),(hf.sp t ht).2.2]
   constructor
   ·rintro⟨e,_⟩
    have e:(0:Int)=3:=e
    exact absurd e (by decide)
   ·rintro⟨e,_⟩
    exact absurd e (by decide)
 ·obtain⟨h1,h5⟩:=hmem hD
  refine h.don u ?_ h5
  by_cases huk:u=k
  ·subst huk
   rw[cU hk] at h2
   exact absurd ⟨hf.st2 h2,hf.th⟩ h1
  by_cases hw:f.wk=some u
  ·rw[oS huk (hf.wk u hw).2.2.2.1 hw] at h2
   have e:(4:Int)=2:=h2
   exact absurd e (by decide)
  by_cases hs:∀ t,f.sp=some t→u≠s.ths.length
  ·rw[mQ hk huk hw hs] at h2;exact h2
  ·obtain⟨t,hx⟩:=Classical.not_forall.1 hs
   have hy:f.sp=some t∧u=s.ths.length:=by
    by_cases e:f.sp=some t
    ·exact⟨e,Classical.byContradiction fun e2=>hx fun _=>e2⟩
    ·exact absurd (fun e2=>absurd e2 e) hx
   obtain⟨ht,hu⟩:=hy
   clear hx
   subst hu
   rw[oT hk ht,(hf.sp t ht).2.2] at h2
   exact absurd h2 (by decide)
theorem Sim.dropF {D:List Ev} {s c:StL} {e:Ev} {x:Int} (h:Sim D s c) (hx:x≠0):Sim (e::D) { s with fault:=x } c:=by
 have hmem:∀ {P:Ev→Prop},(∀ d∈e::D,P d)→∀ d∈D,P d:=fun h d hd=>h d (List.mem_cons_of_mem _ hd)
 exact⟨h.len,h.cl,h.ol,fun u hu hD=>h.th u hu (hmem hD),fun a hD=>h.cell a (hmem hD),fun a hD=>h.own a (hmem hD),fun hD=>h.num (hmem hD),fun a hD u=>h.slp a (hmem hD) u,fun u h2 hD=>h.don u h2 (hmem hD),fun h0=>absurd h0 hx⟩
theorem Sim.keep {D:List Ev} {s c:StL} {f:Eff} {k:Nat} (h:Sim D s c) (hf:EffOK f s k) (hg:EffOK f c k) (hk:k<s.ths.length) (hkc:k<c.ths.length):Sim D (f.app s k) (f.app c k):=by
 have hle:f.sp≠none→c.ths.length=s.ths.length:=fun hn=>by
  cases hq:f.sp with
  |none=>exact absurd hq hn
  |some t =>
   have h1:=(hf.sp t hq).2.1
   have h2:=(hg.sp t hq).2.1
   omega
 refine⟨by rw[qA,qA];have:=h.len;omega,by show(qT c.cells f.cw).length=(qT s.cells f.cw).length;rw[fM,fM];exact h.cl,by show(qT c.owner f.ow).length=(qT s.owner f.ow).length;rw[fM,fM];exact h.ol,fun u hu hD=>?_,fun a hD=>?_,fun a hD=>?_,fun hD=>?_,fun a hD u=>?_,fun u h2 hD=>?_,fun h0=>h.flt h0⟩
 ·by_cases huk:u=k
  ·subst huk
   exact⟨by rw[qA];omega,by rw[cU hk,cU hkc]⟩
  by_cases hul:u<s.ths.length
  ·obtain⟨g1,g2⟩:=h.th u hul hD
   refine⟨by rw[qA];omega,?_⟩
   by_cases hw:f.wk=some u
   ·rw[oS huk hul hw,oS huk g1 hw,g2]
   ·rw[app_o huk hul hw,app_o huk g1 hw,g2]
  ·rw[qA] at hu
   cases hq:f.sp with
   |none=>rw[hq] at hu;simp at hu;omega
   |some t =>
    rw[hq] at hu
    have hu:u<s.ths.length+1:=by simpa using hu
    have e:u=s.ths.length:=by omega
    subst e
    have hl:=hle (by rw[hq];simp)
    refine⟨by rw[qA,hq];simp;omega,?_⟩
    rw[oT hk hq]
    have:=oT hkc hq
    rw[hl] at this
    exact this
 ·exact setO_two h.cl (h.cell a hD)
 ·exact setO_two h.ol (h.own a hD)
 ·rw[qA,qA,h.num hD]
 ·by_cases huk:u=k
  ·subst huk
   unfold eI
   rw[cU hk,cU hkc]
  by_cases hw:f.wk=some u
  ·unfold eI
   rw[oS huk (hf.wk u hw).2.2.2.1 hw,oS huk (hg.wk u hw).2.2.2.1 hw]
   constructor
   all_goals
    rintro⟨e,_⟩
    have e:(4:Int)=3:=e
    exact absurd e (by decide)
  by_cases hs:∀ t,f.sp=some t→u≠s.ths.length
  ·have hsc:∀ t,f.sp=some t→u≠c.ths.length:=fun t ht=>by rw[hle (by rw[ht];simp)];exact hs t ht
   have:=h.slp a hD u
   unfold eI at this ⊢
   rw[mQ hk huk hw hs,mQ hkc huk hw hsc]
   exact this
  ·obtain⟨t,hx⟩:=Classical.not_forall.1 hs
   have hy:f.sp=some t∧u=s.ths.length:=by
    by_cases e:f.sp=some t
    ·exact⟨e,Classical.byContradiction fun e2=>hx fun _=>e2⟩
    ·exact absurd (fun e2=>absurd e2 e) hx
   obtain⟨ht,hu⟩:=hy
   clear hx
   subst hu
   have hl:=hle (by rw[ht];simp)
   have h1:=oT hk ht
   have h2:=oT hkc ht
   rw[hl] at h2
   unfold eI
   rw[h1,h2]
 ·by_cases huk:u=k
  ·subst huk
   rw[cU hk] at h2
   rw[cU hkc];exact h2
  by_cases hw:f.wk=some u
  ·rw[oS huk (hf.wk u hw).2.2.2.1 hw] at h2
   have e:(4:Int)=2:=h2
   exact absurd e (by decide)
  by_cases hs:∀ t,f.sp=some t→u≠s.ths.length
  ·have hsc:∀ t,f.sp=some t→u≠c.ths.length:=fun t ht=>by rw[hle (by rw[ht];simp)];exact hs t ht
   rw[mQ hk huk hw hs] at h2
   rw[mQ hkc huk hw hsc]
   exact h.don u h2 hD
  ·obtain⟨t,hx⟩:=Classical.not_forall.1 hs
   have hy:f.sp=some t∧u=s.ths.length:=by
    by_cases e:f.sp=some t
    ·exact⟨e,Classical.byContradiction fun e2=>hx fun _=>e2⟩
    ·exact absurd (fun e2=>absurd e2 e) hx
   obtain⟨ht,hu⟩:=hy
   clear hx
   subst hu
   rw[oT hk ht,(hf.sp t ht).2.2] at h2
   exact absurd h2 (by decide)
theorem wake_same {l l':List Th} {a:Int} (h:∀ u:Nat,((l.getD u th0).st=3∧(l.getD u th0).cond=a)↔((l'.getD u th0).st=3∧(l'.getD u th0).cond=a)):yY l a=yY l' a:=by
 have at1:∀ (l:List Th) (u:Nat),((l.getD u th0).st=3∧(l.getD u th0).cond=a)↔∃ h:u<l.length,(l[u].st==3&&l[u].cond==a)=true:=by
  intro l u
  by_cases hu:u<l.length
  ·rw[List.getD_eq_getElem?_getD,List.getElem?_eq_getElem hu]
   simp[hu]
  ·rw[List.getD_eq_getElem?_getD,List.getElem?_eq_none (by omega)]
   constructor
   ·rintro⟨e,_⟩
    have e:(0:Int)=3:=e
    exact absurd e (by decide)
   ·rintro⟨e,_⟩;exact absurd e hu
 cases hq:yY l' a with
 |none =>
  refine List.findIdx?_eq_none_iff.2 fun t ht=>?_
  obtain⟨u,hu,rfl⟩:=List.mem_iff_getElem.1 ht
  cases hb:(l[u].st==3&&l[u].cond==a) with
  |false=>rfl
  |true =>
   obtain⟨g1,g2⟩:=(at1 l' u).1 ((h u).1 ((at1 l u).2 ⟨hu,hb⟩))
   have:=List.findIdx?_eq_none_iff.1 hq _ (List.getElem_mem g1)
   rw[g2] at this;cases this
 |some j =>
  obtain⟨g1,g2,g3⟩:=List.findIdx?_eq_some_iff_getElem.1 hq
  obtain⟨k1,k2⟩:=(at1 l j).1 ((h j).2 ((at1 l' j).2 ⟨g1,g2⟩))
  refine List.findIdx?_eq_some_iff_getElem.2 ⟨k1,k2,fun i hi=>?_⟩
  have hil:i<l'.length:=by omega
  intro hb
  obtain⟨m1,m2⟩:=(at1 l' i).1 ((h i).1 ((at1 l i).2 ⟨by omega,hb⟩))
  exact g3 i hi m2
end Ai
namespace Ai
set_option maxRecDepth 100000
open Go Go.Proofs Cyc
def IdxDown:Prop:=∀ (x:Nat) (n m j:Int),1≤n→n≤m→m≤5→j<n→yX x m=some j→yX x n=some j
theorem effD_lock {s:StL} {k:Nat} {o:OpL} {e:Ev} (h:o.code=12∨o.code=13):xS (jR s k o e).ev=o.a:=by
 unfold jR
 rcases h with h|h <;> simp[h,xS]
theorem effD_wait {s:StL} {k:Nat} {o:OpL} {e:Ev} (h:o.code=16):xS (jR s k o e).ev=o.b:=by
 unfold jR
 simp[h,xS]
theorem effD_load {s:StL} {k:Nat} {o:OpL} {e:Ev} (h:o.code=2):(jR s k o e).ev.kind=2∧(jR s k o e).ev.obj=o.a:=by
 unfold jR
 simp[h]
theorem effD_spawn {s:StL} {k:Nat} {o:OpL} {e:Ev} (h:o.code=14):(jR s k o e).ev.kind=6:=by
 unfold jR
 simp[h]
theorem effD_join {s:StL} {k:Nat} {o:OpL} {e:Ev} (h:o.code=15):(jR s k o e).ev.kind=7∧(jR s k o e).ev.obj=(yA s (s.ths.getD k th0)).getD (-1):=by
 unfold jR
 simp[h]
theorem effD_sig {s:StL} {k:Nat} {o:OpL} {e:Ev} (h:o.code=17):(jR s k o e).ev.kind=10∧(jR s k o e).ev.obj=o.a:=by
 unfold jR
 simp[h]
 cases yY s.ths o.a <;> simp
theorem eff_same (hM:IdxDown) {p:ProgL} (hg:p.goodS) {D:List Ev} {s c:StL} {k:Nat} (h:Sim D s c) (hi:AInv p s) (hk:k∈zA p s) (hn:(zG p s k).2.kind≠12) (hh:∀ d∈D,¬ fY d (zG p s k).2) :
  k∈zA p c∧(zG p c k).2.kind≠12∧gF p c k=gF p s k:=by
 obtain⟨kl,k0,ks,kb⟩:=fZ.1 hk
 have hr:=jQ hg hi.si kl
 have hgk:s.ths.getD k th0=s.ths[k]:=by simp[List.getD_eq_getElem?_getD,kl]
 have hev:(zG p s k).2=(gF p s k).ev:=by rw[pB hn]
 have hth:(zG p s k).2.th=k:=(mA p s k).1
 have hun:∀ d∈D,¬ touchT d k:=by
  rintro d hd (e|⟨e1,e2⟩|⟨e1,e2⟩)
  ·exact hh d hd (.inl (by rw[hth,e]))
  ·exact hh d hd (.inr (.inl (by unfold qS;rw[if_neg (by rw[e1];decide),if_pos e1];exact .inr (by rw[hth,e2]))))
  ·exact hh d hd (.inr (.inl (by unfold qS;rw[if_neg (by rw[e1];decide),if_neg (by rw[e1];decide),if_neg (by rw[e1];decide),if_pos e1];exact .inl (by rw[hth,e2]))))
 have hlk:∀ a:Nat,xS (zG p s k).2=a→∀ d∈D,xS d≠a:=fun a ha d hd e=>hh d hd (.inr (.inr (.inr ⟨by rw[e,ha],by rw[e];omega⟩)))
 obtain⟨kc,ht⟩:=h.th k kl hun
 have hth':c.ths.getD k th0=s.ths.getD k th0:=ht
 have hf0:=h.flt k0
 by_cases h4:(s.ths.getD k th0).st=4
 ·have hl:=hr.lock (by rw[← hgk];exact h4)
  have he:xS (zG p s k).2=(s.ths.getD k th0).lock:=by
   rw[hev];unfold gF;simp only[if_pos h4];simp[xS]
  have ho:c.owner.getD (s.ths.getD k th0).lock.toNat 0=s.owner.getD (s.ths.getD k th0).lock.toNat 0 :=
   h.own _ (hlk _ (by rw[he,hgk];omega))
  refine⟨fZ.2 ⟨kc,hf0,by rw[hth'];exact ks,?_⟩,?_,?_⟩
  ·rw[hth']
   unfold zZ at kb ⊢
   rw[if_pos h4] at kb ⊢
   rw[ho];exact kb
  ·unfold zG
   simp only[hth',if_pos h4]
   decide
  ·unfold gF
   simp only[hth',if_pos h4]
 have h1:=ks.resolve_right h4
 cases hno:yE p (s.ths.getD k th0) with
 |none =>
  refine⟨fZ.2 ⟨kc,hf0,by rw[hth'];exact ks,?_⟩,?_,?_⟩
  ·rw[hth']
   unfold zZ
   rw[if_neg h4,hno]
   show(-1:Int)<0
   decide
  ·unfold zG
   simp only[hth',if_neg h4,hno]
   decide
  ·unfold gF
   simp only[hth',if_neg h4,hno]
 |some o =>
  have hf:=a9 h4 hno hn
  have hfit:=(hr.op o (by rw[← hgk];exact hno)).2 hf
  have hev2:(zG p s k).2=(jR s k o (ev0 k (s.ths.getD k th0))).ev:=by
   rw[hev];unfold gF;simp only[if_neg h4,hno]
  have hA:o.code=12∨o.code=13→c.owner.getD o.a.toNat 0=s.owner.getD o.a.toNat 0:=fun hc =>
   h.own _ (hlk _ (by rw[hev2,effD_lock hc];have:=(hfit.2.2.1 hc).1;omega))
  have hB:o.code=16→c.owner.getD o.b.toNat 0=s.owner.getD o.b.toNat 0:=fun hc =>
   h.own _ (hlk _ (by rw[hev2,effD_wait hc];have:=(hfit.2.2.2.1 hc).1;omega))
  have hC:o.code=2→c.cells.getD o.a.toNat 0=s.cells.getD o.a.toNat 0:=fun hc =>
   h.cell _ fun d hd e=>hh d hd (.inr (.inl (by
    have h2:=effD_load (s:=s) (k:=k) (e:=ev0 k (s.ths.getD k th0)) hc
    unfold qS
    rw[if_pos e.1,hev2]
    exact⟨.inl h2.1,by rw[h2.2,e.2];have:=(hfit.2.1 (.inl hc)).1;omega⟩)))
  have hS:o.code=14→c.ths.length=s.ths.length:=fun hc =>
   h.num fun d hd e=>hh d hd (.inr (.inl (by
    unfold qS
    rw[if_neg (by rw[e];decide),if_pos e,hev2]
    exact .inl (effD_spawn hc))))
  have hW:o.code=17→yY c.ths o.a=yY s.ths o.a:=fun hc=>by
   refine wake_same (h.slp o.a fun d hd e=>hh d hd (.inr (.inr (.inl ?_))))
   have h2:=effD_sig (s:=s) (k:=k) (e:=ev0 k (s.ths.getD k th0)) hc
   unfold qS
   rw[hev2,if_neg (by rw[h2.1];decide),if_neg (by rw[h2.1];decide),if_neg (by rw[h2.1];decide),if_pos h2.1]
   exact .inr ⟨e.1,by rw[h2.2,e.2]⟩
  have hJ:o.code=15→yA c (s.ths.getD k th0)=yA s (s.ths.getD k th0)∧∀ j,yA s (s.ths.getD k th0)=some j→(c.ths.getD j.toNat th0).st=2:=fun hc=>by
   unfold zZ at kb
   rw[if_neg h4,hno] at kb
   simp only[if_pos h1] at kb
   rw[if_neg (by rw[hc];decide),if_pos hc] at kb
   cases hj:yA s (s.ths.getD k th0) with
   |none =>
    exfalso
    have hf:=hf
    unfold yB at hf
    simp only[hj] at hf
    split at hf
    ·cases hf
    ·split at hf
     ·cases hf
     ·rw[if_pos ⟨hc,by decide⟩] at hf;cases hf
   |some j =>
    rw[hj] at kb
    simp only at kb
    have hjr:=gT lE hj
    have hd:(s.ths.getD j.toNat th0).st=2:=by
     apply Classical.byContradiction
     intro e
     rw[if_neg e] at kb
     omega
    have h2:=effD_join (s:=s) (k:=k) (e:=ev0 k (s.ths.getD k th0)) hc
    have hdc:=h.don j.toNat hd fun d hd' e=>hh d hd' (.inr (.inr (.inl (by
     unfold qS
     rw[hev2,if_neg (by rw[h2.1];decide),if_neg (by rw[h2.1];decide),if_pos h2.1]
     exact⟨e.1,by rw[h2.2,hj];show d.th=j;rw[e.2];omega⟩))))
    have hjc:j.toNat<c.ths.length:=by
     apply Classical.byContradiction
     intro e
     rw[iU (by omega)] at hdc
     have hdc:(0:Int)=2:=hdc
     exact absurd hdc (by decide)
    refine⟨?_,fun j' hj'=>by injection hj' with hj';subst hj';exact hdc⟩
    unfold yA at hj ⊢
    cases hl:(s.ths.getD k th0).stack.getLast? with
    |none=>rw[hl] at hj;cases hj
    |some x =>
     rw[hl] at hj
     have hs5:=hi.si.len
     exact hM x _ _ j (by omega) (by have:=h.len;omega) (by omega) (by omega) hj
  have hfc:yB c k o=0:=by
   have e:yB c k o=yB s k o:=by
    unfold yB
    simp only[hth']
    by_cases c13:o.code=13
    ·rw[hA (.inr c13)];simp[c13]
    by_cases c16:o.code=16
    ·rw[hB c16];simp[c16]
    by_cases c15:o.code=15
    ·rw[(hJ c15).1];simp[c15]
    by_cases c14:o.code=14
    ·rw[hS c14];simp[c14]
    simp[c13,c16,c15,c14]
   rw[e];exact hf
  have hD2:jR c k o (ev0 k (s.ths.getD k th0))=jR s k o (ev0 k (s.ths.getD k th0)):=by
   unfold jR
   simp only[hth']
   by_cases c2:o.code=2
   ·rw[hC c2];simp[c2]
   by_cases c14:o.code=14
   ·rw[hS c14];simp[c14]
   by_cases c15:o.code=15
   ·rw[(hJ c15).1];simp[c15]
   by_cases c17:o.code=17
   ·rw[hW c17];simp[c17]
   simp[c2,c14,c15,c17]
  refine⟨fZ.2 ⟨kc,hf0,by rw[hth'];exact ks,?_⟩,?_,?_⟩
  ·rw[hth']
   unfold zZ at kb ⊢
   rw[if_neg h4,hno] at kb ⊢
   simp only[if_pos h1] at kb ⊢
   by_cases c12:o.code=12
   ·rw[if_pos c12] at kb ⊢
    rw[hA (.inl c12)];exact kb
   rw[if_neg c12] at kb ⊢
   by_cases c15:o.code=15
   ·rw[if_pos c15]
    obtain⟨e1,e2⟩:=hJ c15
    rw[e1]
    cases hj:yA s (s.ths.getD k th0) with
    |none=>show(-1:Int)<0;decide
    |some j=>simp only;rw[if_pos (e2 j hj)];decide
   ·rw[if_neg c15];decide
  ·unfold zG
   simp only[hth',if_neg h4,hno,if_pos hfc]
   rw[do_app,hD2,← hev2]
   exact hn
  ·unfold gF
   simp only[hth',if_neg h4,hno]
   exact hD2
end Ai
namespace Ai
set_option maxRecDepth 100000
open Go Go.Proofs Cyc
theorem effD_kind {s:StL} {k:Nat} {o:OpL} {e:Ev}:(jR s k o e).ev.kind≠12:=by
 unfold jR
 by_cases h1:o.code=1
 ·simp[h1]
 by_cases h2:o.code=2
 ·simp[h2]
 by_cases h3:o.code=3
 ·simp[h3]
 by_cases h4:o.code=10
 ·simp[h4]
 by_cases h5:o.code=11
 ·simp[h5]
 by_cases h6:o.code=12
 ·simp[h6]
 by_cases h7:o.code=13
 ·simp[h7]
 by_cases h8:o.code=14
 ·simp[h8]
 by_cases h9:o.code=15
 ·simp[h9]
 by_cases h10:o.code=16
 ·simp[h10]
 by_cases h11:o.code=17
 ·simp[h11]
  cases yY s.ths o.a <;> simp
 simp[h1,h2,h3,h4,h5,h6,h7,h8,h9,h10,h11]
theorem step_flt {p:ProgL} {s:StL} {k:Nat} (h:(zG p s k).2.kind=12):∃ x,x≠0∧(zG p s k).1={ s with fault:=x }:=by
 unfold zG at h ⊢
 simp only at h ⊢
 split at h
 ·have h:(9:Int)=12:=h
  exact absurd h (by decide)
 rename_i h4
 rw[if_neg h4]
 cases hn:yE p (s.ths.getD k th0) with
 |none =>
  rw[hn] at h
  have h:(11:Int)=12:=h
  exact absurd h (by decide)
 |some o =>
  rw[hn] at h
  simp only at h ⊢
  by_cases hf:yB s k o=0
  ·rw[if_pos hf,do_app] at h
   exact absurd h effD_kind
  ·rw[if_neg hf]
   exact⟨_,hf,rfl⟩
def Evs (p:ProgL):StL→List Ev→Prop
 | _,[]=>True
 |s,e::es=>∃ k,k∈zA p s∧e=(zG p s k).2∧Evs p (zG p s k).1 es
def CutOK:List Ev→List Ev→List Bool→Prop
 | D,e::es,w::ws=>(w=true→∀ d∈D,¬ fY d e)∧CutOK (bif w then D else e::D) es ws
 | _,_,_=>True
def dK (p:ProgL):StL→List Ev→List Bool→Prop
 |c,e::es,w::ws=>bif w then (e.th.toNat∈zA p c∧dK p (zG p c e.th.toNat).1 es ws) else dK p c es ws
 | _,_,_=>True
theorem aM (hM:IdxDown) {p:ProgL} (hg:p.goodS) (hv:p.flt):∀ (es:List Ev) (ws:List Bool) (D:List Ev) (s c:StL),Sim D s c→AInv p s→AInv p c→Evs p s es→CutOK D es ws→dK p c es ws
 | [],ws,D,s,c,_,_,_,_,_=>by unfold dK;trivial
 |e::es,[],D,s,c,_,_,_,_,_=>by unfold dK;trivial
 |e::es,w::ws,D,s,c,hS,hs,hc,hE,hC=>by
  obtain⟨k,hk,rfl,hE⟩:=hE
  obtain⟨hC1,hC2⟩:=hC
  have hth:(zG p s k).2.th.toNat=k:=by rw[(mA p s k).1];omega
  obtain⟨kl,k0,ks,kb⟩:=fZ.1 hk
  have hs':=uN hg hv hk hs
  have h3:(s.ths.getD k th0).st≠3:=by rcases ks with e|e <;> rw[e] <;> decide
  cases w with
  |false =>
   show dK p c es ws
   refine aM hM hg hv es ws ((zG p s k).2::D) (zG p s k).1 c ?_ hs' hc hE hC2
   by_cases h12:(zG p s k).2.kind=12
   ·obtain⟨x,hx,e⟩:=step_flt h12
    rw[e]
    exact hS.dropF hx
   ·rw[pB h12]
    exact hS.drop (eff_ok kl (jQ hg hs.si kl) ks h12) kl h3
  |true =>
   have hC1:=hC1 rfl
   show(zG p s k).2.th.toNat∈zA p c∧dK p (zG p c (zG p s k).2.th.toNat).1 es ws
   rw[hth]
   by_cases h12:(zG p s k).2.kind=12
   ·have hD:D=[]:=by
     cases D with
     |nil=>rfl
     |cons d ds=>exact absurd (.inr (.inr (.inl (bind12 h12)))) (hC1 d (List.mem_cons_self ..))
    subst hD
    have:=hS.eq k0
    subst this
    exact⟨hk,aM hM hg hv es ws [] _ _ (Sim.refl _) hs' hs' hE hC2⟩
   ·obtain⟨g1,g2,g3⟩:=eff_same hM hg hS hs hk h12 hC1
    refine⟨g1,?_⟩
    obtain⟨cl,c0,cs,cb⟩:=fZ.1 g1
    have hc':=uN hg hv g1 hc
    refine aM hM hg hv es ws D (zG p s k).1 (zG p c k).1 ?_ hs' hc' hE hC2
    have o1:=eff_ok kl (jQ hg hs.si kl) ks h12
    have o2:=eff_ok cl (jQ hg hc.si cl) cs g2
    rw[pB h12,pB g2,g3]
    rw[g3] at o2
    exact hS.keep o1 o2 kl cl
theorem run_evs (p:ProgL) (picks:List Int) (budget:Int) (hpk:∀ i∈picks,0≤i):∀ n s tr tk,budget.toNat+1 - tr.length≤n→(tr.length:Int)≤budget→∃ es,(nL p picks budget n s tr tk).tr=tr++es∧Evs p s es
 | 0,s,tr,tk,h1,h2=>⟨[],by simp[nL],trivial⟩
 |n+1,s,tr,tk,h1,h2=>by
  unfold nL
  by_cases hc:0<xF p s tr.length budget
  ·rw[if_pos hc];exact⟨[],by simp,trivial⟩
  rw[if_neg hc]
  simp only
  obtain⟨he,hne⟩:=en_ne hc
  obtain⟨q1,q2⟩:=r9 p s picks tk hpk he
  generalize hq:vB picks tk (zA p s).length=q at *
  have hql:q.toNat<(zA p s).length:=by omega
  have hm:(zA p s).getD q.toNat 0∈zA p s:=by rw[List.getD_eq_getElem?_getD,List.getElem?_eq_getElem hql];exact List.getElem_mem hql
  obtain⟨es,h3,h4⟩:=run_evs p picks budget hpk n (zG p s ((zA p s).getD q.toNat 0)).1 (tr++[(zG p s ((zA p s).getD q.toNat 0)).2]) (tk++[q]) (by simp;omega) (by simp;omega)
  exact⟨_::es,by rw[h3];simp,_,hm,rfl,h4⟩
def Closed (t:List Ev) (ws:List Bool):Prop:=∀ j (hj:j<t.length),ws[j]?=some true→∀ i (hi:i<j),ws[i]?=some false→¬ fY (t[i]'(by omega)) t[j]
theorem oJ:∀ (t:List Ev) (ws:List Bool) (D:List Ev),(∀ d∈D,∀ j (hj:j<t.length),ws[j]?=some true→¬ fY d t[j])→Closed t ws→CutOK D t ws
 | [],ws,D,_,_=>by unfold CutOK;trivial
 |e::es,[],D,_,_=>by unfold CutOK;trivial
 |e::es,w::ws,D,h1,h2=>by
  refine⟨fun hw d hd=>h1 d hd 0 (by simp) (by rw[hw];rfl),?_⟩
  refine oJ es ws _ (fun d hd j hj hw=>?_) (fun j hj hw i hi hf=>h2 (j+1) (by simp;omega) (by simpa using hw) (i+1) (by omega) (by simpa using hf))
  cases w with
  |true=>exact h1 d hd (j+1) (by simp;omega) (by simpa using hw)
  |false =>
   rcases List.mem_cons.1 hd with rfl|hd
   ·exact h2 (j+1) (by simp;omega) (by simpa using hw) 0 (by omega) rfl
   ·exact h1 d hd (j+1) (by simp;omega) (by simpa using hw)
end Ai
namespace Ai
set_option maxRecDepth 100000
open Go Go.Proofs Ieee
theorem scl_eq {m b k:Nat} {i:Int} (o2:m*2 ^ (i - min i (-(k:Int))).toNat=b*2 ^ k*2 ^ (-(k:Int) - min i (-(k:Int))).toNat):m*2 ^ i.toNat=b*2 ^ (-i).toNat:=by
 by_cases hi:0≤i
 ·rw[Int.min_eq_right (by omega)] at o2
  have e1:(i - -(k:Int)).toNat=i.toNat+k:=by omega
  have e2:(-(k:Int) - -(k:Int)).toNat=0:=by omega
  rw[e1,e2,Nat.pow_add,Nat.pow_zero,Nat.mul_one,← Nat.mul_assoc] at o2
  have e3:(-i).toNat=0:=by omega
  rw[e3,Nat.pow_zero,Nat.mul_one]
  exact Nat.eq_of_mul_eq_mul_right (Nat.pow_pos (by decide)) o2
 ·have e3:i.toNat=0:=by omega
  rw[e3,Nat.pow_zero,Nat.mul_one]
  by_cases hik:i≤-(k:Int)
  ·rw[Int.min_eq_left hik] at o2
   have e1:(i - i).toNat=0:=by omega
   have e2:(-i).toNat=k+(-(k:Int) - i).toNat:=by omega
   rw[e1,Nat.pow_zero,Nat.mul_one,Nat.mul_assoc,← Nat.pow_add] at o2
   rw[e2];exact o2
  ·rw[Int.min_eq_right (by omega)] at o2
   have e1:k=(-i).toNat+(i - -(k:Int)).toNat:=by omega
   have e2:(-(k:Int) - -(k:Int)).toNat=0:=by omega
   rw[e2,Nat.pow_zero,Nat.mul_one] at o2
   generalize hq:(i - -(k:Int)).toNat=q at *
   rw[e1,Nat.pow_add,← Nat.mul_assoc] at o2
   exact Nat.eq_of_mul_eq_mul_right (Nat.pow_pos (by decide)) o2
theorem cmp_eq0 (a b:Int):compare a b=.eq↔a=b:=by
 simp[Int.compare_eq_eq] <;> omega
theorem lss_down {x j c:Nat} (hjc:j<c) (hc:c≤1000) (he:fcmp .eql (FloatKind.f64.nearest (j:Int)) x=true):fcmp .lss x (FloatKind.f64.nearest (c:Int))=true:=by
 obtain⟨k2,hk2⟩:=mI (m:=c) (by omega) (by omega)
 have o2:double.order (FloatKind.f64.nearest (j:Int)) x=some .eq:=by simpa[fcmp] using he
 suffices o3:double.order x (FloatKind.f64.nearest (c:Int))=some .lt by simpa[fcmp] using o3
 unfold Format.order at o2 ⊢
 rw[hk2]
 have hrj:∃ b k:Nat,(b=0→j=0)∧(∃ q:Int,double.read (FloatKind.f64.nearest (j:Int))=.number false b q∧((j=0∧b=0)∨(b=j <<< k∧q=-(k:Int)))):=by
  by_cases h0:j=0
  ·subst h0
   refine⟨0,0,fun _=>rfl,double.leastPlace,?_,.inl ⟨rfl,rfl⟩⟩
   decide +kernel
  ·obtain⟨k,hk⟩:=mI (m:=j) (by omega) (by omega)
   refine⟨j <<< k,k,fun e=>?_,_,hk,.inr ⟨rfl,rfl⟩⟩
   rw[Nat.shiftLeft_eq] at e
   rcases Nat.mul_eq_zero.1 e with e|e
   ·exact e
   ·have:0<2 ^ k:=Nat.pow_pos (by decide)
    omega
 obtain⟨b,k,hb0,q,hq,hcase⟩:=hrj
 rw[hq] at o2
 cases hd:double.read x with
 |nan s f=>rw[hd] at o2;cases o2
 |infinity s =>
  rw[hd] at o2
  cases s <;> simp[Datum.order] at o2
 |number s m i =>
  rw[hd] at o2
  simp only[Datum.order,Option.some.injEq] at o2 ⊢
  rw[cmp_eq0] at o2
  rw[cmp_lt]
  rcases hcase with ⟨hj,hb⟩|⟨hb,hq2⟩
  ·subst hj;subst hb
   have hm:m=0:=by
    by_cases hm:m=0
    ·exact hm
    ·exfalso
     have hp:0<m*2 ^ (i - min q i).toNat:=Nat.mul_pos (by omega) (Nat.pow_pos (by decide))
     simp only[signed,Nat.shiftLeft_eq,Nat.zero_mul] at o2
     generalize m*2 ^ (i - min q i).toNat=z at o2 hp
     cases s
     ·simp only[Bool.false_eq_true,if_false] at o2
      omega
     ·simp only[Bool.false_eq_true,if_false,if_true] at o2
      omega
   subst hm
   have hp:0<c*2 ^ k2*2 ^ (-(k2:Int) - min i (-(k2:Int))).toNat:=Nat.mul_pos (Nat.mul_pos (by omega) (Nat.pow_pos (by decide))) (Nat.pow_pos (by decide))
   cases s <;> simp only[signed,Bool.false_eq_true,if_false,if_true,Nat.shiftLeft_eq,Nat.zero_mul,Int.ofNat_lt]
   ·exact_mod_cast hp
   ·simp only[Int.natCast_zero,Int.neg_zero]
    exact_mod_cast hp
  ·subst hb;subst hq2
   have hs:s=false∨m=0:=by
    cases s with
    |false=>exact .inl rfl
    |true =>
     right
     by_cases hm:m=0
     ·exact hm
     ·exfalso
      have hp:0<m*2 ^ (i - min (-(k:Int)) i).toNat:=Nat.mul_pos (by omega) (Nat.pow_pos (by decide))
      simp only[signed,Nat.shiftLeft_eq,Bool.false_eq_true,if_false,if_true] at o2
      generalize m*2 ^ (i - min (-(k:Int)) i).toNat=z at o2 hp
      generalize j*2 ^ k*2 ^ (-(k:Int) - min (-(k:Int)) i).toNat=y at o2
      omega
   rcases hs with rfl|rfl
   ·simp only[signed,Bool.false_eq_true,if_false,Nat.shiftLeft_eq,Int.ofNat_lt] at o2 ⊢
    have o2:j*2 ^ k*2 ^ (-(k:Int) - min (-(k:Int)) i).toNat=m*2 ^ (i - min (-(k:Int)) i).toNat:=by exact_mod_cast o2
    rw[Int.min_comm] at o2
    have o3:=scl_eq o2.symm
    have o4:m*2 ^ i.toNat<c*2 ^ (-i).toNat:=by
     rw[o3]
     exact Nat.mul_lt_mul_of_pos_right hjc (Nat.pow_pos (by decide))
    have o5:=scl_bw (k:=k2) o4
    exact_mod_cast o5
   ·have hp:0<c*2 ^ k2*2 ^ (-(k2:Int) - min i (-(k2:Int))).toNat:=Nat.mul_pos (Nat.mul_pos (by omega) (Nat.pow_pos (by decide))) (Nat.pow_pos (by decide))
    cases s <;> simp only[signed,Bool.false_eq_true,if_false,if_true,Nat.shiftLeft_eq,Nat.zero_mul,Int.ofNat_lt]
    ·exact_mod_cast hp
    ·simp only[Int.natCast_zero,Int.neg_zero]
     exact_mod_cast hp
theorem idxDown:IdxDown:=by
 intro x n m j h1 hnm h5 hjn h
 have hjr:=lE x m j h
 obtain⟨b,rfl⟩:∃ b:Nat,n=(b:Int):=⟨n.toNat,by omega⟩
 obtain⟨j,rfl⟩:∃ c:Nat,j=(c:Int):=⟨j.toNat,by omega⟩
 unfold yX at h ⊢
 split at h
 ·rename_i hc
  split at h
  ·rename_i n' hn'
   split at h
   ·rename_i he
    injection h with h
    subst h
    rw[if_pos ⟨⟨by omega,by omega⟩,hc.2.1,lss_down (by omega) (by omega) he⟩]
    first|rw[if_pos he]|(rw[hn'];simp only;rw[if_pos he])
   ·cases h
  ·cases h
 ·cases h
end Ai
namespace Ai
set_option maxRecDepth 100000
open Go Go.Proofs Ieee
def Cn (x:Nat):Prop:=canon x=x
theorem aT:Cn 0:=canon_num (by decide +kernel)
theorem nearN_cn (n:Int):Cn (FloatKind.f64.nearest n):=canon_num (jW (.number (n<0) n.natAbs 0) rfl)
theorem fop_cn (op:BinOp) (x y:Nat):Cn (fop op x y):=by
 unfold fop
 cases h:floatBits op .f64 x y with
 |none=>exact canon_nan sS
 |some r=>exact canon_num (floatBits_num h)
theorem reckon_cn (c:Int) (x y:Nat):Cn (yS c x y):=by
 unfold yS
 repeat' split
 all_goals first|exact fop_cn _ _ _|exact aT|(unfold Cn oneF;decide +kernel)|(unfold Cn;decide +kernel)
theorem topN_cn0 {t:Th} {o:OpL} {i:Nat} (h:∀ x∈t.stack,Cn x):Cn (yQ t o i):=by
 unfold yQ
 rw[List.getD_eq_getElem?_getD]
 cases hg:(t.stack.drop (yD t o))[i]? with
 |none=>exact aT
 |some x=>exact h x (List.mem_of_mem_drop (List.mem_of_getElem? hg))
def ProgL.cn (p:ProgL):Prop:=∀ r∈p.rs,∀ o∈r,Cn o.v
def StL.cn (s:StL):Prop:=(∀ c∈s.cells,Cn c)∧∀ t∈s.ths,∀ x∈t.stack,Cn x
theorem qF {s:StL} {k:Nat} {t:Th} (h:s.cn) (ht:∀ x∈t.stack,Cn x):(s.put k t).cn:=by
 refine⟨h.1,fun u hu=>?_⟩
 rcases List.mem_or_eq_of_mem_set hu with e|e
 ·exact h.2 u e
 ·subst e;exact ht
theorem topN_cn {t:Th} {o:OpL} {i:Nat} (h:∀ x∈t.stack,Cn x):Cn (yQ t o i):=topN_cn0 h
theorem cn_do {s:StL} {k:Nat} {o:OpL} {e:Ev} (hk:k<s.ths.length) (h:s.cn) (ho:Cn o.v):(doL s k o e).1.cn:=by
 have hgd:s.ths.getD k th0=s.ths[k]:=by simp[List.getD_eq_getElem?_getD,hk]
 have ht:=h.2 _ (List.getElem_mem hk)
 generalize s.ths[k]=t at *
 unfold doL
 simp only[hgd]
 have hpop:∀ x∈(zF t o).stack,Cn x:=fun x hx=>ht x (List.mem_of_mem_take hx)
 have hpush:∀ v,Cn v→∀ x∈(zS (zF t o) v).stack,Cn x:=by
  intro v hv x hx
  rcases List.mem_append.1 hx with e|e
  ·exact hpop x e
  ·simp only[List.mem_cons,List.not_mem_nil,or_false] at e
   subst e;exact hv
 by_cases n1:o.code=1
 ·rw[if_pos n1];exact qF h (hpush _ ho)
 rw[if_neg n1]
 by_cases n2:o.code=2
 ·rw[if_pos n2]
  refine qF h (hpush _ ?_)
  rw[List.getD_eq_getElem?_getD]
  cases hg:s.cells[o.a.toNat]? with
  |none=>exact aT
  |some c=>exact h.1 c (List.mem_of_getElem? hg)
 rw[if_neg n2]
 by_cases n3:o.code=3
 ·rw[if_pos n3]
  refine qF ⟨fun c hc=>?_,h.2⟩ hpop
  rcases List.mem_or_eq_of_mem_set hc with e|e
  ·exact h.1 c e
  ·subst e;exact topN_cn ht
 rw[if_neg n3]
 by_cases n10:o.code=10
 ·rw[if_pos n10];exact qF h hpop
 rw[if_neg n10]
 by_cases n11:o.code=11
 ·rw[if_pos n11]
  refine qF h ?_
  split
  ·exact hpop
  ·exact hpop
 rw[if_neg n11]
 by_cases n12:o.code=12
 ·rw[if_pos n12];exact qF (s:={ s with owner:=_ }) h hpop
 rw[if_neg n12]
 by_cases n13:o.code=13
 ·rw[if_pos n13];exact qF (s:={ s with owner:=_ }) h hpop
 rw[if_neg n13]
 by_cases n14:o.code=14
 ·rw[if_pos n14]
  refine qF (s:={ s with ths:=_ }) ⟨h.1,fun u hu=>?_⟩ (hpush _ (nearN_cn _))
  rcases List.mem_append.1 hu with e|e
  ·exact h.2 u e
  ·simp only[List.mem_cons,List.not_mem_nil,or_false] at e
   subst e;intro x hx;cases hx
 rw[if_neg n14]
 by_cases n15:o.code=15
 ·rw[if_pos n15];exact qF h hpop
 rw[if_neg n15]
 by_cases n16:o.code=16
 ·rw[if_pos n16];exact qF (s:={ s with owner:=_ }) h hpop
 rw[if_neg n16]
 by_cases n17:o.code=17
 ·rw[if_pos n17]
  cases yY s.ths o.a with
  |none=>exact qF h hpop
  |some j =>
   refine qF (s:={ s with ths:=_ }) ⟨h.1,fun u hu=>?_⟩ hpop
   obtain⟨i,hi,rfl⟩:=List.mem_iff_getElem.1 hu
   have hil:i<s.ths.length:=by simpa using hi
   have:=h.2 _ (List.getElem_mem hil)
   rw[List.getElem_modify]
   split
   ·exact this
   ·exact this
 rw[if_neg n17]
 exact qF h (hpush _ (reckon_cn _ _ _))
theorem cn_step {p:ProgL} (hv:p.cn) {s:StL} {k:Nat} (hk:k<s.ths.length) (h:s.cn):(zG p s k).1.cn:=by
 have hgd:s.ths.getD k th0=s.ths[k]:=by simp[List.getD_eq_getElem?_getD,hk]
 have ht:=h.2 _ (List.getElem_mem hk)
 unfold zG
 simp only[hgd]
 split
 ·exact qF (s:={ s with owner:=_ }) h ht
 ·split
  ·exact qF h ht
  ·rename_i o hn
   split
   ·refine cn_do hk h ?_
    unfold yE at hn
    by_cases hr:s.ths[k].rt.toNat<p.rs.length
    ·have e:p.rs.getD s.ths[k].rt.toNat []=p.rs[s.ths[k].rt.toNat]:=by rw[List.getD_eq_getElem?_getD,List.getElem?_eq_getElem hr];rfl
     rw[e] at hn
     exact hv _ (List.getElem_mem hr) o (List.mem_of_getElem? hn)
    ·have e:p.rs.getD s.ths[k].rt.toNat []=[]:=by rw[List.getD_eq_getElem?_getD,List.getElem?_eq_none (by omega)];rfl
     rw[e] at hn
     simp at hn
   ·exact h
theorem cn_new (p:ProgL):(xC p).cn:=by
 refine⟨fun c hc=>?_,fun t ht=>?_⟩
 ·obtain⟨_,rfl⟩:=List.mem_replicate.1 hc
  exact aT
 ·have:t=jH 0:=by simpa[xC] using ht
  subst this
  intro x hx;cases hx
theorem runT_cn {p:ProgL} (hg:p.goodS) (hv:p.flt) (hc:p.cn) (picks:List Int) (budget:Int) (hpk:∀ i∈picks,0≤i):∀ n s tr tk,AInv p s→s.cn→(nL p picks budget n s tr tk).s.cn
 | 0,s,tr,tk,hi,h=>h
 |n+1,s,tr,tk,hi,h=>by
  unfold nL
  split
  ·exact h
  ·rename_i hcd
   obtain⟨h1,h2⟩:=en_ne hcd
   have h3:=r9 p s picks tk hpk h1
   have hkl:(vB picks tk (zA p s).length).toNat<(zA p s).length:=by omega
   have hmem:(zA p s).getD (vB picks tk (zA p s).length).toNat 0∈zA p s:=by rw[List.getD_eq_getElem?_getD,List.getElem?_eq_getElem hkl];exact List.getElem_mem hkl
   exact runT_cn hg hv hc picks budget hpk n _ _ _ (uN hg hv hmem hi) (cn_step hc (rO hmem) h)
theorem runOf_cn {p:ProgL} (hg:p.goodS) (hv:p.flt) (hc:p.cn) (picks:List Int) (budget:Int) (hpk:∀ i∈picks,0≤i):(dW p picks budget).s.cn :=
 runT_cn hg hv hc picks budget hpk _ _ _ _ (jE hg) (cn_new p)
theorem pG {x y:Nat} (hx:Cn x) (hy:Cn y) (hx2:F64 x) (hy2:F64 y):bF x y↔x=y:=by
 by_cases h:zY x=true∨zY y=true
 ·constructor
  ·rintro(e|e)
   ·unfold Cn at hx hy
    rw[← hx,← hy,canon_nan e.2.1,canon_nan e.2.2]
   ·exact absurd h e.1
  ·rintro rfl
   have h':zY x=true:=h.elim id id
   exact .inl ⟨h,h',h'⟩
 ·have nx:zY x=false:=by simpa using fun e=>h (.inl e)
  have ny:zY y=false:=by simpa using fun e=>h (.inr e)
  constructor
  ·rintro(e|e)
   ·exact absurd e.1 h
   ·exact(pH hx2 hy2 nx ny).1 e.2
  ·intro e
   exact .inr ⟨h,(pH hx2 hy2 nx ny).2 e⟩
end Ai
namespace Ai
set_option maxRecDepth 100000
open Go Go.Proofs
theorem szEventS_ok (xs:List (List D)) (left:Int) (h0:0≤left) (h1:left≤1048576) (hx:xs.length≤9223372036854775807) :
  CallsTo EE 44 [sl xs,i64 left] (szR left xs.length):=by
 refine callsTo_of_AW (fn:=Tryz.f44) Tryz.func44 rfl (by kernel_rfl) rfl ?_
 conv=>whnf
 rw[zK (by omega) (by omega)]
 refine⟨fun h=>?_,fun h=>?_⟩
 ·conv=>whnf
  exact⟨-1,rfl,by omega,by omega,by omega⟩
 ·conv=>whnf
  simp at h
  exact⟨_,rfl,by omega,by omega,by omega⟩
theorem tV (xs:List (List D)) (left:Int) (h0:0≤left) (h1:left≤1048576) (hx:xs.length≤9223372036854775807) :
  CallsTo EE 100 [sl xs,i64 left] (szR left xs.length):=by
 refine callsTo_of_AW (fn:=Tryz.f100) Tryz.func100 rfl (by kernel_rfl) rfl ?_
 conv=>whnf
 rw[zK (by omega) (by omega)]
 refine⟨fun h=>?_,fun h=>?_⟩
 ·conv=>whnf
  exact⟨-1,rfl,by omega,by omega,by omega⟩
 ·conv=>whnf
  simp at h
  exact⟨_,rfl,by omega,by omega,by omega⟩
theorem szThread_ok (t:Th) (left:Int) (h0:0≤left) (h1:left≤1048576) (hx:t.stack.length≤9223372036854775807) :
  CallsTo EE 161 [agg (zD t),i64 left] (szR left t.stack.length):=by
 refine callsTo_of_AW (fn:=Tryz.f161) Tryz.func161 rfl (by kernel_rfl) rfl ?_
 have hz:=tV (t.stack.map encF) left h0 h1 (by simpa using hx)
 rw[List.length_map] at hz
 conv=>whnf
 refine⟨_,hz,?_⟩
 rintro r ⟨n,rfl,hn1,hn2,hn3⟩
 conv=>whnf
 refine⟨fun h=>?_,fun h=>?_⟩
 ·conv=>whnf
  exact⟨-1,rfl,by omega,by omega,by omega⟩
 ·simp at h
  conv=>whnf
  exact⟨_,rfl,by omega,by omega,hn3⟩
def Th.stl (t:Th):Nat:=t.stack.length
theorem p6 (xs:List Th) (left:Int) (h0:0≤left) (h1:left≤1048576) (hx:xs.length≤9223372036854775807) (hx2:∀ x∈xs,x.stack.length≤9223372036854775807) :
  CallsTo EE 99 [sl (xs.map zD),i64 left] (szR left (kJ Th.stl xs)):=by
 refine callsTo_of_AW (fn:=Tryz.f99) Tryz.func99 rfl (by kernel_rfl) rfl ?_
 conv=>whnf
 rw[zK (by simp;omega) (by simp;omega),List.length_map]
 refine⟨fun h=>?_,fun h=>?_⟩
 ·conv=>whnf
  exact⟨-1,rfl,by omega,by omega,by omega⟩
 ·simp at h
  conv=>whnf
  refine yN (fun x:Nat × Int=>[(0,sl (xs.map zD)),(5,i64 x.1),(1,i64 x.2)]) (fun _=>[]) (fun x=>xs.length - x.1)
   (fun x=>x.1≤xs.length∧0≤x.2∧(xs.length:Int)+((xs.map Th.stl).take x.1).sum+x.2≤left) (0,left - xs.length) .refl ⟨rfl,rfl,rfl,trivial⟩ trivial ⟨by omega,by omega,by simp;omega⟩ ?_
  rintro⟨k,l⟩ τ H ⟨hk,hl,hs⟩
  dsimp only at hk hl hs
  conv=>whnf
  refine⟨fun h=>?_,fun h=>?_⟩
  ·have hlt:=yK h
   conv=>whnf
   refine⟨zD xs[k],zQ zD hlt rfl,?_⟩
   conv=>whnf
   refine⟨_,szThread_ok xs[k] l hl (by omega) (hx2 _ (List.getElem_mem hlt)),?_⟩
   rintro r ⟨n,rfl,hn1,hn2,hn3⟩
   conv=>whnf
   refine⟨fun h=>?_,fun h=>?_⟩
   ·conv=>whnf
    exact⟨-1,rfl,by omega,by omega,by omega⟩
   ·simp at h
    conv=>whnf
    refine⟨(k+1,n),⟨by omega,by omega,?_⟩,by show xs.length - (k+1)<xs.length - k;omega,⟨rfl,zJ hlt hx,rfl,trivial⟩,trivial⟩
    have hm:k<(xs.map Th.stl).length:=by simpa using hlt
    rw[mV _ _ hm]
    have:=hn3 h
    simp[Th.stl] at this ⊢
    omega
  ·have hge:=lF h
   conv=>whnf
   have hkk:k=xs.length:=by omega
   subst hkk
   refine⟨_,rfl,by omega,?_,?_⟩
   ·omega
   ·intro _
    simp only[kJ]
    rw[List.take_of_length_le (by simp)] at hs
    simp at hs ⊢
    omega
structure StL.wf (s:StL):Prop where
 ths:s.ths.length≤9223372036854775807
 st:∀ t∈s.ths,t.stack.length≤9223372036854775807
 cells:s.cells.length≤9223372036854775807
 owner:s.owner.length≤9223372036854775807
def StL.size (s:StL):Nat:=kJ Th.stl s.ths+(s.cells.length+s.owner.length)
theorem szState_ok (s:StL) (left:Int) (h0:0≤left) (h1:left≤1048576) (hs:s.wf):CallsTo EE 46 [agg (zX s),i64 left] (szR left s.size):=by
 refine callsTo_of_AW (fn:=Tryz.f46) Tryz.func46 rfl (by kernel_rfl) rfl ?_
 conv=>whnf
 refine⟨_,p6 _ left h0 h1 hs.ths hs.st,?_⟩
 rintro r ⟨n,rfl,hn1,hn2,hn3⟩
 conv=>whnf
 refine⟨fun h=>?_,fun h=>?_⟩
 ·conv=>whnf
  exact⟨-1,rfl,by omega,by omega,by omega⟩
 ·simp at h
  have h3:=hn3 (by omega)
  conv=>whnf
  refine⟨_,tV _ n (by omega) (by omega) (by simpa using hs.cells),?_⟩
  rintro r ⟨n2,rfl,hm1,hm2,hm3⟩
  conv=>whnf
  refine⟨fun h=>?_,fun h=>?_⟩
  ·conv=>whnf
   exact⟨-1,rfl,by omega,by omega,by omega⟩
  ·simp at h
   have h4:=hm3 (by omega)
   simp at h4
   conv=>whnf
   refine⟨_,v8 _ n2 (by omega) (by omega) (by simpa using hs.owner),?_⟩
   rintro r ⟨n3,rfl,hk1,hk2,hk3⟩
   conv=>whnf
   refine⟨fun h=>?_,fun h=>?_⟩
   ·conv=>whnf
    exact⟨-1,rfl,by omega,by omega,by omega⟩
   ·simp at h
    have h5:=hk3 (by omega)
    simp at h5
    conv=>whnf
    exact⟨_,rfl,by omega,by omega,fun _=>by unfold StL.size;omega⟩
structure RunT.wf (x:RunT):Prop where
 tr:x.tr.length≤9223372036854775807
 tk:x.tk.length≤9223372036854775807
 s:x.s.wf
def RunT.size (x:RunT):Nat:=x.tr.length+(x.tk.length+x.s.size)
theorem szRun_ok (x:RunT) (left:Int) (h0:0≤left) (h1:left≤1048576) (hx:x.wf):CallsTo EE 10 [agg (encRT x),i64 left] (szR left x.size):=by
 refine callsTo_of_AW (fn:=Tryz.f10) Tryz.func10 rfl (by kernel_rfl) rfl ?_
 conv=>whnf
 refine⟨_,szEventS_ok _ left h0 h1 (by simpa using hx.tr),?_⟩
 rintro r ⟨n,rfl,hn1,hn2,hn3⟩
 conv=>whnf
 refine⟨fun h=>?_,fun h=>?_⟩
 ·conv=>whnf
  exact⟨-1,rfl,by omega,by omega,by omega⟩
 ·simp at h
  have h3:=hn3 (by omega)
  simp at h3
  conv=>whnf
  refine⟨_,v8 _ n (by omega) (by omega) (by simpa using hx.tk),?_⟩
  rintro r ⟨n2,rfl,hm1,hm2,hm3⟩
  conv=>whnf
  refine⟨fun h=>?_,fun h=>?_⟩
  ·conv=>whnf
   exact⟨-1,rfl,by omega,by omega,by omega⟩
  ·simp at h
   have h4:=hm3 (by omega)
   simp at h4
   conv=>whnf
   refine⟨_,szState_ok x.s n2 (by omega) (by omega) hx.s,?_⟩
   rintro r ⟨n3,rfl,hk1,hk2,hk3⟩
   conv=>whnf
   refine⟨fun h=>?_,fun h=>?_⟩
   ·conv=>whnf
    exact⟨-1,rfl,by omega,by omega,by omega⟩
   ·simp at h
    have h5:=hk3 (by omega)
    conv=>whnf
    exact⟨_,rfl,by omega,by omega,fun _=>by unfold RunT.size;omega⟩
end Ai
namespace Ai
set_option maxRecDepth 100000
open Go Go.Proofs
def lC:Key→Bool
 | .n k=>Nat.beq k 903
 | .s o _=>Nat.beq o 903
 | .l _=>false
theorem jK {p:Key→Bool} (subs:List (List (List D))) (hp:∀ j,p (.s 903 j)=false):(vC subs 0).map (scrPL p)=vC subs 0 :=
 sP _ fun j=>by
  unfold mR
  rw[if_neg (by omega)]
  simp[scrPL,scrP,hp j]
theorem nM {f:Key→Key} (subs:List (List (List D))) (hf:∀ j,f (.s 903 j)=.s 903 j):(vC subs 0).map (renL f)=vC subs 0 :=
 sP _ fun j=>by
  unfold mR
  rw[if_neg (by omega)]
  simp[renL,ren,hf j]
theorem cC (c l d:Int) (subs:List (List (List D))) (k:Int) (hx:subs.length≤1048576) (hs:∀ q∈subs,∀ c∈q,c.length=4) (ht:tot subs subs.length≤1048576) (h0:0≤k) (h1:k≤1048576) (H0:Key→Option Ob)
  (hH:H0 (.n 903)=some (.rs 133 1 (vC subs 0))) (hF:∀ j,H0 (.s 903 j)=vR subs 0 j) :
  IOCall EE 20 [.agg [i64 c,i64 l,i64 d,.dref (.n 903) subs.length],i64 k] H0 (fun r H1=>r=i64 (k+4*tot subs subs.length)∧∀ κ,H1 κ=none):=by
 refine xN (fn:=Tryz.f20) (c:=Tryz.f20.body.getD .skip) Tryz.func20 rfl (by kernel_rfl) rfl ?_
 have hat:At [(0,.agg [i64 c,i64 l,i64 d,.dref (.n 903) subs.length]),(1,i64 k)] [(.n 903,.rs 133 1 (vC subs 0))] [(903,vR subs 0)] ⟨fun i=>[AV.agg [i64 c,i64 l,i64 d,.dref (.n 903) subs.length],i64 k].getD i .junk,H0⟩:=⟨⟨rfl,rfl,trivial⟩,⟨hH,trivial⟩,⟨hF,trivial⟩⟩
 obtain⟨τ,H,hf⟩:=hat.form
 rw[hf]
 conv=>whnf
 refine .inr (.inl ⟨999,0,lC,(fun r H1=>r=i64 (k+4*tot subs subs.length)∧∀ κ,H1 κ=none),?_,rfl,?_⟩)
 ·refine xO (markOpSS_ok subs k hx hs ht h0 h1 _ ?_ fun j=>?_) rfl
  ·show some (Ob.rs 133 1 ((((vC subs 0).map (scrPL (isK (.n 2)))).map (renL (swp (.n 999) (.l 0)))).map (scrPL (fun o=>!lC o))))=_
   rw[jK subs (fun j=>rfl),nM subs (fun j=>rfl),jK subs (fun j=>rfl)]
  ·show Option.map _ (Option.map _ (Option.map _ (vR subs 0 j)))=_
   rw[vG,wZ,vG]
 ·rintro r H1 ⟨rfl,q⟩
  refine⟨fun κ _=>q κ,fun n hn=>(by cases hn),?_⟩
  conv=>whnf
  refine⟨_,Weak.refl,?_⟩
  conv=>whnf
  exact⟨fun _=>false,rfl,fun κ=>rfl⟩
def gY (r:List OpL):List (List D):=r.map encOp
def zN (p:ProgL):List (List (List D)):=p.rs.map gY
def y3 (subs:List (List (List D))) (i j:Nat):List AV:=if j<i then [.ref (.s 900 j) 0 (subs.getD j []).length] else [.d .nil]
def uT (subs:List (List (List D))) (i:Nat):List (List AV):=(List.range subs.length).map (y3 subs i)
def tK (subs:List (List (List D))) (i j:Nat):Option Ob:=if j<i then (subs[j]?).map (.ds 135 4) else none
theorem rowsT_zero (subs:List (List (List D))):uT subs 0=List.replicate subs.length [.d .nil]:=by
 apply List.ext_getElem?
 intro j
 simp only[uT,List.getElem?_map,List.getElem?_replicate,List.getElem?_range']
 by_cases h:j<subs.length
 ·rw[if_pos h,List.getElem?_eq_getElem (by simpa using h)]
  simp[y3]
 ·rw[if_neg h,List.getElem?_eq_none (by simpa using h)]
  rfl
theorem rowsT_map {subs:List (List (List D))} {i i':Nat} (f:List AV→List AV) (h:∀ j,f (y3 subs i j)=y3 subs i' j):(uT subs i).map f=uT subs i':=by
 unfold uT
 rw[List.map_map]
 exact List.map_congr_left fun j _=>h j
theorem q7 {p:Key→Bool} (subs:List (List (List D))) (i:Nat) (hp:∀ j,p (.s 900 j)=false):(uT subs i).map (scrPL p)=uT subs i :=
 rowsT_map _ fun j=>by
  unfold y3
  split
  ·simp[scrPL,scrP,hp j]
  ·rfl
theorem famT_ren (f:Key→Key) (subs:List (List (List D))) (i j:Nat):(tK subs i j).map (renO f)=tK subs i j:=by
 unfold tK
 split
 ·cases subs[j]? <;> rfl
 ·rfl
theorem famT_scr (p:Key→Bool) (subs:List (List (List D))) (i j:Nat):(tK subs i j).map (scrPO p)=tK subs i j:=by
 unfold tK
 split
 ·cases subs[j]? <;> rfl
 ·rfl
theorem rowsT_put {subs:List (List (List D))} {k:Nat} (h:k<subs.length):((yW (uT subs k) 1 k 0 [.ref (.n 20) 0 subs[k].length]).map (renL (swp (.n 20) (.s 900 k))))=uT subs (k+1):=by
 have hlen:(uT subs k).length=subs.length:=by simp[uT]
 apply List.ext_getElem?
 intro j
 by_cases hj:j=k
 ·subst hj
  rw[List.getElem?_map,wD (c:=y3 subs j j) (c':=[.ref (.n 20) 0 subs[j].length]) (by simp[uT,h]) rfl]
  simp only[uT,List.getElem?_map,List.getElem?_range h,Option.map_some,Option.some.injEq]
  unfold y3
  rw[if_pos (by omega)]
  have e:swp (.n 20) (.s 900 j) (.n 20)=.s 900 j:=by simp[swp,Key.beq]
  simp[renL,ren,e,List.getD_eq_getElem?_getD,h]
 ·by_cases hl:j<subs.length
  ·rw[List.getElem?_map,jY hj (c:=y3 subs k j) (by simp[uT,hl])]
   simp only[uT,List.getElem?_map,List.getElem?_range hl,Option.map_some,Option.some.injEq]
   have e:swp (.n 20) (.s 900 k) (.s 900 j)=.s 900 j:=by simp[swp,Key.beq,nbeq_ne hj]
   unfold y3
   by_cases hjk:j<k
   ·rw[if_pos hjk,if_pos (by omega)]
    simp[renL,ren,e]
   ·rw[if_neg hjk,if_neg (by omega)]
    simp[renL,ren]
  ·rw[List.getElem?_eq_none (by simp[yW];simp[hlen];omega),List.getElem?_eq_none (by simp[uT];omega)]
def lend9:Key→Bool
 | .n k=>Nat.beq k 900
 | .s o _=>Nat.beq o 900
 | .l _=>false
theorem own1_n {x:AV} {q:Nat} (h:q≠900):ownH [x] (.n q)=none:=by
 unfold ownH
 cases hb:Nat.blt q 900 with
 |true=>simp only[hb,cond_true]
 |false =>
  have:¬ q<900:=by
   intro e
   have:Nat.blt q 900=true:=by simpa[Nat.blt_eq] using e
   rw[this] at hb;cases hb
  have:([x]:List AV)[q - 900]?=none:=List.getElem?_eq_none (by simp;omega)
  simp only[hb,cond_false,this]
theorem own1_s {x:AV} {q j:Nat} (h:q≠900):ownH [x] (.s q j)=none:=by
 unfold ownH
 cases hb:Nat.blt q 900 with
 |true=>simp only[hb,cond_true]
 |false =>
  have:¬ q<900:=by
   intro e
   have:Nat.blt q 900=true:=by simpa[Nat.blt_eq] using e
   rw[this] at hb;cases hb
  have:([x]:List AV)[q - 900]?=none:=List.getElem?_eq_none (by simp;omega)
  simp only[hb,cond_false,this]
theorem rowsT_own (xs:List (List OpL)):uT (xs.map gY) xs.length=ownRows 900 0 (xs.map fun _=>[.nil]) (xs.map gY):=by
 unfold ownRows uT
 apply List.ext_getElem?
 intro j
 by_cases h:j<xs.length
 ·have h2:j<(xs.map gY).length:=by simpa using h
  simp only[List.getElem?_map,List.getElem?_range h2,Option.map_some,List.getElem?_mapIdx,List.getElem?_eq_getElem h]
  unfold y3
  rw[if_pos h]
  rfl
 ·rw[List.getElem?_eq_none (by simp;omega),List.getElem?_eq_none (by simp;omega)]
theorem toOpSS_own (xs:List (List OpL)) (hx:xs.length≤1048576) (hx2:∀ x∈xs,x.length≤1048576):CallsTo EE 53 [sl (xs.map yF)] (·=.ownF 1 [.uqd 133 1 0 135 4 (xs.map fun _=>[.nil]) (xs.map gY)]):=by
 refine cQ (fun v hv=>?_) ?_
 ·simp only[List.mem_cons,List.not_mem_nil,or_false] at hv
  subst hv
  show(xs.map _).length=(xs.map gY).length
  simp
 refine xN (fn:=Tryz.f53) (c:=Tryz.f53.body.getD .skip) Tryz.func53 rfl (by kernel_rfl) rfl ?_
 conv=>whnf
 refine⟨by simp;omega,?_⟩
 conv=>whnf
 refine fD (fun k:Nat=>[(0,sl (xs.map yF)),(3,.dref (.n 900) xs.length),(4,i64 k)]) (fun k=>[(.n 900,.rs 133 1 (uT (xs.map gY) k))]) (fun k=>[(900,tK (xs.map gY) k)]) (fun k=>xs.length - k) (fun k=>k≤xs.length) 0
  ((aX (.n 7) rfl).trans (wV 7 900)) ?_ ?_ ?_ (Nat.zero_le _) ?_
 ·exact⟨rfl,by show AV.dref (.n 900) (((xs.map yF).length:Nat):Int).toNat=_;simp,rfl,trivial⟩
 ·refine⟨?_,trivial⟩
  show some (Ob.rs 133 1 (((List.replicate (((xs.map yF).length:Nat):Int).toNat [D.nil]).map (List.map AV.d)).map (renL (swp (.n 7) (.n 900)))))=_
  rw[rowsT_zero]
  simp[renL,ren]
 ·refine⟨fun j=>?_,trivial⟩
  unfold tK
  rw[if_neg (by omega)]
  rfl
 intro k τ H hk
 have hk:k≤xs.length:=hk
 conv=>whnf
 refine kbi (fun h=>?_) (fun h=>?_)
 ·have hlt:=yK h
  have hlt2:k<(xs.map gY).length:=by simpa using hlt
  have hgk:(xs.map gY)[k]=xs[k].map encOp:=by simp[gY]
  conv=>whnf
  refine⟨yF xs[k],zQ yF hlt rfl,?_⟩
  conv=>whnf
  refine⟨_,toOpS_ok xs[k] (hx2 _ (List.getElem_mem hlt)),?_⟩
  rintro r rfl
  refine .inr ⟨_,rfl,?_⟩
  conv=>whnf
  refine⟨⟨by omega,by omega⟩,?_⟩
  conv=>whnf
  refine⟨k+1,_,uS 20 900 k,by show k+1≤xs.length;omega,by show xs.length - (k+1)<xs.length - k;omega,⟨rfl,rfl,zJ hlt (by omega),trivial⟩,⟨?_,trivial⟩,⟨fun j=>?_,trivial⟩⟩
  ·show some (Ob.rs 133 1 ((yW ((uT (xs.map gY) k).map (scrPL (isK (.n 20)))) 1 ((k:Int)).toNat 0 [.ref (.n 20) 0 (xs[k].map encOp).length]).map (renL (swp (.n 20) (.s 900 k)))))=_
   rw[q7 _ _ (fun j=>rfl),Int.toNat_natCast,← hgk,rowsT_put hlt2]
  ·show(St.H _ (swp (.n 20) (.s 900 k) (.s 900 j))).map _=_
   by_cases hj:j=k
   ·subst hj
    have e:swp (.n 20) (.s 900 j) (.s 900 j)=.n 20:=by simp[swp,Key.beq]
    rw[e]
    unfold tK
    rw[if_pos (by omega),List.getElem?_eq_getElem hlt2,hgk]
    rfl
   ·have e:swp (.n 20) (.s 900 k) (.s 900 j)=.s 900 j:=by simp[swp,Key.beq,nbeq_ne hj]
    rw[e]
    show Option.map _ (Option.map _ (tK (xs.map gY) k j))=_
    rw[famT_scr,famT_ren]
    unfold tK
    by_cases hjk:j<k
    ·rw[if_pos hjk,if_pos (by omega)]
    ·rw[if_neg hjk,if_neg (by omega)]
 ·have hkk:k=xs.length:=by
   have:¬ k<xs.length:=by simpa using h
   omega
  subst hkk
  conv=>whnf
  refine⟨_,Weak.refl,?_⟩
  conv=>whnf
  refine⟨lend9,?_,fun κ hκ=>?_⟩
  ·show AV.dref (.n 900) xs.length=AV.dref (.n 900) (xs.map _).length
   rw[List.length_map]
  ·cases κ with
   |l n=>exact absurd rfl hκ
   |n q =>
    by_cases hq:q=900
    ·subst hq
     show some (Ob.rs 133 1 ((uT (xs.map gY) xs.length).map (scrPL (fun o=>!lend9 o))))=some (Ob.rs 133 1 (ownRows 900 0 (xs.map fun _=>[.nil]) (xs.map gY)))
     rw[q7 _ _ (fun j=>rfl),rowsT_own]
    ·exact absurd (own1_n hq) hκ
   |s o j =>
    by_cases hq:o=900
    ·subst hq
     show Option.map _ (tK (xs.map gY) xs.length j)=((xs.map gY)[j]?).map (Ob.ds 135 4)
     rw[famT_scr]
     unfold tK
     by_cases hj:j<xs.length
     ·rw[if_pos hj]
     ·rw[if_neg hj,List.getElem?_eq_none (by simp;omega)]
      rfl
    ·exact absurd (own1_s hq) hκ
end Ai
namespace Ai
set_option maxRecDepth 100000
open Go Go.Proofs
structure StL.fit (s:StL):Prop where
 ths:s.ths.length≤1048576
 st:∀ t∈s.ths,t.stack.length≤1048576
 cells:s.cells.length≤1048576
 owner:s.owner.length≤1048576
structure RunT.fit (x:RunT):Prop where
 tr:x.tr.length≤1048576
 tk:x.tk.length≤1048576
 s:x.s.fit
theorem fit_of {x:RunT} (h:x.size≤1048576):x.fit:=by
 unfold RunT.size StL.size at h
 have:=size_le Th.stl x.s.ths 1048576 (by omega)
 exact⟨by omega,by omega,⟨this.1,this.2,by omega,by omega⟩⟩
theorem toEvent_ok (e:Ev):CallsTo EE 109 [agg (encEv e)] (·=agg (encEv e)):=by
 refine callsTo_of_AW (fn:=Tryz.f109) Tryz.func109 rfl (by kernel_rfl) rfl ?_
 conv=>whnf
 rfl
theorem tS (xs:List Ev) (hx:xs.length≤1048576):CallsTo EE 54 [sl (xs.map encEv)] (·=.uq 105 5 (xs.map encEv)):=by
 refine callsTo_of_AW (fn:=Tryz.f54) Tryz.func54 rfl (by kernel_rfl) rfl ?_
 conv=>whnf
 refine⟨by simp;omega,?_⟩
 conv=>whnf
 refine yN (fun k:Nat=>[(0,sl (xs.map encEv)),(3,.ref 7 0 (xs.map encEv).length),(4,i64 k)]) (fun k=>[(7,.ds 105 5 ((xs.take k).map encEv++List.replicate (xs.length - k) [di 0,di 0,di 0,di 0,di 0]))]) (fun k=>xs.length - k) (fun k=>k≤xs.length) 0 .refl ⟨rfl,by simp[put,St.new,St.setH,St.kill];rfl,rfl,trivial⟩ ⟨?_,trivial⟩ (Nat.zero_le _) ?_
 ·simp[put,St.new,St.setH,St.kill,sN];rfl
 intro k τ H hk
 conv=>whnf
 refine⟨fun h=>?_,fun h=>?_⟩
 ·have hlt:=yK h
  conv=>whnf
  refine⟨encEv xs[k],zQ encEv hlt rfl,?_⟩
  conv=>whnf
  refine⟨_,toEvent_ok xs[k],?_⟩
  rintro r rfl
  conv=>whnf
  refine⟨⟨by omega,by simp;omega⟩,?_⟩
  conv=>whnf
  refine⟨k+1,by omega,by show xs.length - (k+1)<xs.length - k;omega,⟨rfl,rfl,zJ hlt (by omega),trivial⟩,⟨?_,trivial⟩⟩
  exact congrArg (fun l=>some (Ob.ds 105 5 l)) (fL xs encEv [di 0,di 0,di 0,di 0,di 0] k 5 hlt rfl)
 ·have hge:=lF h
  conv=>whnf
  exact congrArg (AV.uq 105 5) (mB xs encEv [di 0,di 0,di 0,di 0,di 0] k _ hge hk (by simp))
theorem gN (xs:List Nat) (hx:xs.length≤1048576):CallsTo EE 111 [sl (xs.map encF)] (·=.uq 74 1 (xs.map encF)):=by
 refine callsTo_of_AW (fn:=Tryz.f111) Tryz.func111 rfl (by kernel_rfl) rfl ?_
 conv=>whnf
 refine⟨by simp;omega,?_⟩
 conv=>whnf
 refine yN (fun k:Nat=>[(0,sl (xs.map encF)),(3,.ref 7 0 (xs.map encF).length),(4,i64 k)]) (fun k=>[(7,.ds 74 1 ((xs.take k).map encF++List.replicate (xs.length - k) [.flt 0]))]) (fun k=>xs.length - k) (fun k=>k≤xs.length) 0 .refl ⟨rfl,by simp[put,St.new,St.setH,St.kill];rfl,rfl,trivial⟩ ⟨?_,trivial⟩ (Nat.zero_le _) ?_
 ·simp[put,St.new,St.setH,St.kill,sN];rfl
 intro k τ H hk
 conv=>whnf
 refine⟨fun h=>?_,fun h=>?_⟩
 ·have hlt:=yK h
  conv=>whnf
  refine⟨encF xs[k],zQ encF hlt rfl,?_⟩
  conv=>whnf
  refine⟨⟨by omega,by simp;omega⟩,?_⟩
  conv=>whnf
  refine⟨k+1,by omega,by show xs.length - (k+1)<xs.length - k;omega,⟨rfl,rfl,zJ hlt (by omega),trivial⟩,⟨?_,trivial⟩⟩
  exact congrArg (fun l=>some (Ob.ds 74 1 l)) (fL xs encF [.flt 0] k 1 hlt rfl)
 ·have hge:=lF h
  conv=>whnf
  exact congrArg (AV.uq 74 1) (mB xs encF [.flt 0] k _ hge hk (by simp))
theorem toThread_ok (t:Th) (h:t.stack.length≤1048576):CallsTo EE 172 [agg (zD t)] (·=agg (zD t)):=by
 refine callsTo_of_AW (fn:=Tryz.f172) Tryz.func172 rfl (by kernel_rfl) rfl ?_
 conv=>whnf
 refine⟨_,gN t.stack h,?_⟩
 rintro r rfl
 refine .inl ?_
 conv=>whnf
 try rfl
theorem p5 (xs:List Th) (hx:xs.length≤1048576) (hx2:∀ x∈xs,x.stack.length≤1048576):CallsTo EE 110 [sl (xs.map zD)] (·=.uq 158 6 (xs.map zD)):=by
 refine callsTo_of_AW (fn:=Tryz.f110) Tryz.func110 rfl (by kernel_rfl) rfl ?_
 conv=>whnf
 refine⟨by simp;omega,?_⟩
 conv=>whnf
 refine yN (fun k:Nat=>[(0,sl (xs.map zD)),(3,.ref 7 0 (xs.map zD).length),(4,i64 k)]) (fun k=>[(7,.ds 158 6 ((xs.take k).map zD++List.replicate (xs.length - k) [di 0,di 0,di 0,di 0,di 0,.nil]))]) (fun k=>xs.length - k) (fun k=>k≤xs.length) 0 .refl ⟨rfl,by simp[put,St.new,St.setH,St.kill];rfl,rfl,trivial⟩ ⟨?_,trivial⟩ (Nat.zero_le _) ?_
 ·simp[put,St.new,St.setH,St.kill,sN];rfl
 intro k τ H hk
 conv=>whnf
 refine⟨fun h=>?_,fun h=>?_⟩
 ·have hlt:=yK h
  conv=>whnf
  refine⟨zD xs[k],zQ zD hlt rfl,?_⟩
  conv=>whnf
  refine⟨_,toThread_ok xs[k] (hx2 _ (List.getElem_mem hlt)),?_⟩
  rintro r rfl
  conv=>whnf
  refine⟨⟨by omega,by simp;omega⟩,?_⟩
  conv=>whnf
  refine⟨k+1,by omega,by show xs.length - (k+1)<xs.length - k;omega,⟨rfl,rfl,zJ hlt (by omega),trivial⟩,⟨?_,trivial⟩⟩
  exact congrArg (fun l=>some (Ob.ds 158 6 l)) (fL xs zD [di 0,di 0,di 0,di 0,di 0,.nil] k 6 hlt rfl)
 ·have hge:=lF h
  conv=>whnf
  exact congrArg (AV.uq 158 6) (mB xs zD [di 0,di 0,di 0,di 0,di 0,.nil] k _ hge hk (by simp))
theorem toState_ok (s:StL) (h:s.fit):CallsTo EE 55 [agg (zX s)] (·=agg (zX s)):=by
 refine callsTo_of_AW (fn:=Tryz.f55) Tryz.func55 rfl (by kernel_rfl) rfl ?_
 conv=>whnf
 refine⟨_,p5 s.ths h.ths h.st,?_⟩
 rintro r rfl
 refine .inl ?_
 conv=>whnf
 refine⟨_,gN s.cells h.cells,?_⟩
 rintro r rfl
 refine .inl ?_
 conv=>whnf
 refine⟨_,vW s.owner h.owner,?_⟩
 rintro r rfl
 refine .inl ?_
 conv=>whnf
 try rfl
theorem dQ (x:RunT) (h:x.fit):CallsTo EE 13 [agg (encRT x)] (·=agg (encRT x)):=by
 refine callsTo_of_AW (fn:=Tryz.f13) Tryz.func13 rfl (by kernel_rfl) rfl ?_
 conv=>whnf
 refine⟨_,tS x.tr h.tr,?_⟩
 rintro r rfl
 refine .inl ?_
 conv=>whnf
 refine⟨_,vW x.tk h.tk,?_⟩
 rintro r rfl
 refine .inl ?_
 conv=>whnf
 refine⟨_,toState_ok x.s h.s,?_⟩
 rintro r rfl
 conv=>whnf
 try rfl
theorem n9 (t:Th) (h:t.stack.length≤1048576):CallsTo EE 172 [agg (zD t)] (·=.own [i64 t.rt,i64 t.pc,i64 t.st,i64 t.cond,i64 t.lock,.uq 74 1 (stk t)]):=by
 refine callsTo_of_AW (fn:=Tryz.f172) Tryz.func172 rfl (by kernel_rfl) rfl ?_
 conv=>whnf
 refine⟨_,gN t.stack h,?_⟩
 rintro r rfl
 refine .inr ⟨_,rfl,?_⟩
 conv=>whnf
 refine .inr (.inr ⟨[i64 t.rt,i64 t.pc,i64 t.st,i64 t.cond,i64 t.lock,.uq 74 1 (stk t)],_,wV 21 905,rfl,?_,gA ⟨trivial,trivial,trivial,trivial,trivial,rfl,trivial⟩,rfl⟩)
 intro v hv
 simp only[List.mem_cons,List.not_mem_nil,or_false] at hv
 rcases hv with rfl|rfl|rfl|rfl|rfl|rfl <;> trivial
end Ai
namespace Ai
set_option maxRecDepth 100000
open Go Go.Proofs
theorem wW {α:Type} {a b:List α} {k:Nat} (ha:k<a.length) (hb:k<b.length) (h:a.take k=b.take k) (e:a[k]=b[k]):a.take (k+1)=b.take (k+1):=by
 rw[List.take_succ_eq_append_getElem ha,List.take_succ_eq_append_getElem hb,h,e]
theorem vJ {α:Type} {a b:List α} {k:Nat} (ha:a.length≤k) (hb:b.length≤k) (h:a.take k=b.take k):a=b:=by
 rwa [List.take_of_length_le ha,List.take_of_length_le hb] at h
theorem iB {α:Type} {a b:List α} {k:Nat} (ha:k<a.length) (hb:k<b.length) (e:¬ a[k]=b[k]):¬ a=b:=by
 rintro rfl;exact e rfl
theorem ev_eq {x y:Ev}:x=y↔[x.th,x.kind,x.obj,x.lock,x.pc]=[y.th,y.kind,y.obj,y.lock,y.pc]:=by
 constructor
 ·rintro rfl;rfl
 ·intro h
  cases x;cases y
  simp only[List.cons.injEq,and_true] at h
  obtain⟨rfl,rfl,rfl,rfl,rfl⟩:=h
  rfl
theorem EqualEv_ok (a b:List Ev) (hx:a.length≤1048576):CallsTo EE 93 [sl (a.map encEv),sl (b.map encEv)] (·=bp (a=b)):=by
 refine callsTo_of_AW (fn:=Tryz.f93) Tryz.func93 rfl (by kernel_rfl) rfl ?_
 conv=>whnf
 refine kbi (fun h=>?_) (fun h=>?_)
 ·have h:¬ a.length=b.length:=by simp at h;omega
  conv=>whnf
  exact bpf fun e=>h (by rw[e])
 have h:a.length=b.length:=by simp at h;omega
 conv=>whnf
 refine yN (fun k:Nat=>[(0,sl (a.map encEv)),(1,sl (b.map encEv)),(12,i64 (a.map encEv).length),(13,i64 k)]) (fun k=>[]) (fun k=>a.length - k) (fun k=>k≤a.length∧a.take k=b.take k) 0
  Weak.refl ⟨rfl,rfl,rfl,rfl,trivial⟩ trivial ⟨Nat.zero_le _,by simp⟩ ?_
 rintro k τ H ⟨hk,he⟩
 have hk:k≤a.length:=hk
 conv=>whnf
 refine kbi (fun h2=>?_) (fun h2=>?_)
 ·have hlt:=yK h2
  have hltb:k<b.length:=by omega
  conv=>whnf
  refine⟨by kernel_rfl,?_⟩
  conv=>whnf
  refine⟨encEv a[k],zQ encEv hlt rfl,?_⟩
  conv=>whnf
  refine⟨encEv b[k],zQ encEv hltb rfl,?_⟩
  conv=>whnf
  refine kbi (fun h3=>?_) (fun h3=>?_)
  ·have h3:¬ a[k]=b[k]:=fun e=>by
    rw[e] at h3
    simp at h3
   conv=>whnf
   exact bpf (iB hlt hltb h3)
  ·have h3:a[k]=b[k]:=ev_eq.2 (by simpa using h3)
   conv=>whnf
   exact⟨k+1,⟨hlt,wW hlt hltb he h3⟩,by show a.length - (k+1)<a.length - k;omega,⟨rfl,rfl,rfl,zJ hlt (by omega),trivial⟩,trivial⟩
 ·have hge:a.length≤k:=by simpa using h2
  conv=>whnf
  exact bpt (vJ (by omega) (by omega) he)
theorem cX (a b:List Int) (hx:a.length≤1048576):CallsTo EE 145 [sl (a.map encInt),sl (b.map encInt)] (·=bp (a=b)):=by
 refine callsTo_of_AW (fn:=Tryz.f145) Tryz.func145 rfl (by kernel_rfl) rfl ?_
 conv=>whnf
 refine kbi (fun h=>?_) (fun h=>?_)
 ·have h:¬ a.length=b.length:=by simp at h;omega
  conv=>whnf
  exact bpf fun e=>h (by rw[e])
 have h:a.length=b.length:=by simp at h;omega
 conv=>whnf
 refine yN (fun k:Nat=>[(0,sl (a.map encInt)),(1,sl (b.map encInt)),(12,i64 (a.map encInt).length),(13,i64 k)]) (fun k=>[]) (fun k=>a.length - k) (fun k=>k≤a.length∧a.take k=b.take k) 0
  Weak.refl ⟨rfl,rfl,rfl,rfl,trivial⟩ trivial ⟨Nat.zero_le _,by simp⟩ ?_
 rintro k τ H ⟨hk,he⟩
 have hk:k≤a.length:=hk
 conv=>whnf
 refine kbi (fun h2=>?_) (fun h2=>?_)
 ·have hlt:=yK h2
  have hltb:k<b.length:=by omega
  conv=>whnf
  refine⟨by kernel_rfl,?_⟩
  conv=>whnf
  refine⟨encInt a[k],zQ encInt hlt rfl,?_⟩
  conv=>whnf
  refine⟨encInt b[k],zQ encInt hltb rfl,?_⟩
  conv=>whnf
  refine kbi (fun h3=>?_) (fun h3=>?_)
  ·have h3:¬ a[k]=b[k]:=by simpa using h3
   conv=>whnf
   exact bpf (iB hlt hltb h3)
  ·have h3:a[k]=b[k]:=by simpa using h3
   conv=>whnf
   exact⟨k+1,⟨hlt,wW hlt hltb he h3⟩,by show a.length - (k+1)<a.length - k;omega,⟨rfl,rfl,rfl,zJ hlt (by omega),trivial⟩,trivial⟩
 ·have hge:a.length≤k:=by simpa using h2
  conv=>whnf
  exact bpt (vJ (by omega) (by omega) he)
def CF (x:Nat):Prop:=Cn x∧F64 x
theorem cY (a b:List Nat) (hx:a.length≤1048576) (ha:∀ x∈a,CF x) (hb:∀ x∈b,CF x):CallsTo EE 251 [sl (a.map encF),sl (b.map encF),.fn 97 []] (·=bp (a=b)):=by
 refine callsTo_of_AW (fn:=Tryz.f251) Tryz.func251 rfl (by kernel_rfl) rfl ?_
 conv=>whnf
 refine kbi (fun h=>?_) (fun h=>?_)
 ·have h:¬ a.length=b.length:=by simp at h;omega
  conv=>whnf
  exact bpf fun e=>h (by rw[e])
 have h:a.length=b.length:=by simp at h;omega
 conv=>whnf
 refine yN (fun k:Nat=>[(0,sl (a.map encF)),(1,sl (b.map encF)),(2,.fn 97 []),(15,sl (a.map encF)),(16,i64 (a.map encF).length),(17,i64 k)]) (fun k=>[]) (fun k=>a.length - k) (fun k=>k≤a.length∧a.take k=b.take k) 0
  Weak.refl ⟨rfl,rfl,rfl,rfl,rfl,rfl,trivial⟩ trivial ⟨Nat.zero_le _,by simp⟩ ?_
 rintro k τ H ⟨hk,he⟩
 have hk:k≤a.length:=hk
 conv=>whnf
 refine kbi (fun h2=>?_) (fun h2=>?_)
 ·have hlt:=yK h2
  have hltb:k<b.length:=by omega
  have c1:=ha _ (List.getElem_mem hlt)
  have c2:=hb _ (List.getElem_mem hltb)
  conv=>whnf
  refine⟨encF a[k],zQ encF hlt rfl,?_⟩
  conv=>whnf
  refine⟨encF b[k],zQ encF hltb rfl,?_⟩
  conv=>whnf
  refine ocase (cW a[k] b[k] c1.2 c2.2) (fun h3=>?_) (fun h3=>?_)
  ·have h3:a[k]=b[k]:=(pG c1.1 c2.1 c1.2 c2.2).1 h3
   conv=>whnf
   exact⟨k+1,⟨hlt,wW hlt hltb he h3⟩,by show a.length - (k+1)<a.length - k;omega,⟨rfl,rfl,rfl,rfl,rfl,zJ hlt (by omega),trivial⟩,trivial⟩
  ·have h3:¬ a[k]=b[k]:=fun e=>h3 ((pG c1.1 c2.1 c1.2 c2.2).2 e)
   conv=>whnf
   exact bpf (iB hlt hltb h3)
 ·have hge:a.length≤k:=by simpa using h2
  conv=>whnf
  exact bpt (vJ (by omega) (by omega) he)
end Ai
namespace Ai
set_option maxRecDepth 100000
open Go Go.Proofs
def Th.cf (t:Th):Prop:=∀ x∈t.stack,CF x
def StL.cf (s:StL):Prop:=(∀ x∈s.cells,CF x)∧∀ t∈s.ths,t.cf
theorem Same1_ok (x y:Th) (hx:x.stack.length≤1048576) (h1:x.cf) (h2:y.cf):CallsTo EE 253 [agg (zD x),agg (zD y)] (·=bp (x=y)):=by
 refine callsTo_of_AW (fn:=Tryz.f253) Tryz.func253 rfl (by kernel_rfl) rfl ?_
 conv=>whnf
 refine kbi (fun h=>?_) (fun h=>?_)
 rotate_left 1
 ·have h:¬ x.rt=y.rt:=by simpa using h
  conv=>whnf
  exact bpf fun e=>h (by rw[e])
 have e1:x.rt=y.rt:=by simpa using h
 conv=>whnf
 refine kbi (fun h=>?_) (fun h=>?_)
 rotate_left 1
 ·have h:¬ x.pc=y.pc:=by simpa using h
  conv=>whnf
  exact bpf fun e=>h (by rw[e])
 have e2:x.pc=y.pc:=by simpa using h
 conv=>whnf
 refine kbi (fun h=>?_) (fun h=>?_)
 rotate_left 1
 ·have h:¬ x.st=y.st:=by simpa using h
  conv=>whnf
  exact bpf fun e=>h (by rw[e])
 have e3:x.st=y.st:=by simpa using h
 conv=>whnf
 refine kbi (fun h=>?_) (fun h=>?_)
 rotate_left 1
 ·have h:¬ x.cond=y.cond:=by simpa using h
  conv=>whnf
  exact bpf fun e=>h (by rw[e])
 have e4:x.cond=y.cond:=by simpa using h
 conv=>whnf
 refine kbi (fun h=>?_) (fun h=>?_)
 rotate_left 1
 ·have h:¬ x.lock=y.lock:=by simpa using h
  conv=>whnf
  exact bpf fun e=>h (by rw[e])
 have e5:x.lock=y.lock:=by simpa using h
 conv=>whnf
 refine ocase (cY x.stack y.stack hx h1 h2) (fun e6=>?_) (fun h=>?_)
 ·conv=>whnf
  refine bpt ?_
  clear h hx h1 h2
  cases x;cases y
  simp only at e1 e2 e3 e4 e5 e6
  subst e1 e2 e3 e4 e5 e6
  rfl
 ·conv=>whnf
  exact bpf fun e=>h (by rw[e])
theorem EqualTh_ok (a b:List Th) (hx:a.length≤1048576) (hx2:∀ t∈a,t.stack.length≤1048576) (ha:∀ x∈a,x.cf) (hb:∀ x∈b,x.cf):CallsTo EE 252 [sl (a.map zD),sl (b.map zD),.fn 253 []] (·=bp (a=b)):=by
 refine callsTo_of_AW (fn:=Tryz.f252) Tryz.func252 rfl (by kernel_rfl) rfl ?_
 conv=>whnf
 refine kbi (fun h=>?_) (fun h=>?_)
 ·have h:¬ a.length=b.length:=by simp at h;omega
  conv=>whnf
  exact bpf fun e=>h (by rw[e])
 have h:a.length=b.length:=by simp at h;omega
 conv=>whnf
 refine yN (fun k:Nat=>[(0,sl (a.map zD)),(1,sl (b.map zD)),(2,.fn 253 []),(15,sl (a.map zD)),(16,i64 (a.map zD).length),(17,i64 k)]) (fun k=>[]) (fun k=>a.length - k) (fun k=>k≤a.length∧a.take k=b.take k) 0
  Weak.refl ⟨rfl,rfl,rfl,rfl,rfl,rfl,trivial⟩ trivial ⟨Nat.zero_le _,by simp⟩ ?_
 rintro k τ H ⟨hk,he⟩
 have hk:k≤a.length:=hk
 conv=>whnf
 refine kbi (fun h2=>?_) (fun h2=>?_)
 ·have hlt:=yK h2
  have hltb:k<b.length:=by omega
  conv=>whnf
  refine⟨zD a[k],zQ zD hlt rfl,?_⟩
  conv=>whnf
  refine⟨zD b[k],zQ zD hltb rfl,?_⟩
  conv=>whnf
  refine ocase (Same1_ok a[k] b[k] (hx2 _ (List.getElem_mem hlt)) (ha _ (List.getElem_mem hlt)) (hb _ (List.getElem_mem hltb))) (fun h3=>?_) (fun h3=>?_)
  ·conv=>whnf
   exact⟨k+1,⟨hlt,wW hlt hltb he h3⟩,by show a.length - (k+1)<a.length - k;omega,⟨rfl,rfl,rfl,rfl,rfl,zJ hlt (by omega),trivial⟩,trivial⟩
  ·conv=>whnf
   exact bpf (iB hlt hltb h3)
 ·have hge:a.length≤k:=by simpa using h2
  conv=>whnf
  exact bpt (vJ (by omega) (by omega) he)
theorem x8 (x y:StL) (hx:x.fit) (h1:x.cf) (h2:y.cf):CallsTo EE 219 [agg (zX x),agg (zX y)] (·=bp (x=y)):=by
 refine callsTo_of_AW (fn:=Tryz.f219) Tryz.func219 rfl (by kernel_rfl) rfl ?_
 conv=>whnf
 refine kbi (fun h=>?_) (fun h=>?_)
 rotate_left 1
 ·have h:¬ x.fault=y.fault:=by simpa using h
  conv=>whnf
  exact bpf fun e=>h (by rw[e])
 have e1:x.fault=y.fault:=by simpa using h
 conv=>whnf
 refine ocase (cX x.owner y.owner hx.owner) (fun e2=>?_) (fun h=>?_)
 rotate_left 1
 ·conv=>whnf
  exact bpf fun e=>h (by rw[e])
 conv=>whnf
 refine ocase (cY x.cells y.cells hx.cells h1.1 h2.1) (fun e3=>?_) (fun h=>?_)
 rotate_left 1
 ·conv=>whnf
  exact bpf fun e=>h (by rw[e])
 conv=>whnf
 refine ocase (EqualTh_ok x.ths y.ths hx.ths hx.st h1.2 h2.2) (fun e4=>?_) (fun h=>?_)
 rotate_left 1
 ·conv=>whnf
  exact bpf fun e=>h (by rw[e])
 conv=>whnf
 refine bpt ?_
 cases x;cases y
 simp only at e1 e2 e3 e4
 subst e1 e2 e3 e4
 rfl
theorem sameRun_ok (x y:RunT) (hx:x.fit) (h1:x.s.cf) (h2:y.s.cf):CallsTo EE 174 [agg (encRT x),agg (encRT y)] (·=bp (x=y)):=by
 refine callsTo_of_AW (fn:=Tryz.f174) Tryz.func174 rfl (by kernel_rfl) rfl ?_
 conv=>whnf
 refine kbi (fun h=>?_) (fun h=>?_)
 rotate_left 1
 ·have h:¬ x.c=y.c:=by simpa using h
  conv=>whnf
  exact bpf fun e=>h (by rw[e])
 have e1:x.c=y.c:=by simpa using h
 conv=>whnf
 refine ocase (EqualEv_ok x.tr y.tr hx.tr) (fun e2=>?_) (fun h=>?_)
 rotate_left 1
 ·conv=>whnf
  exact bpf fun e=>h (by rw[e])
 conv=>whnf
 refine ocase (cX x.tk y.tk hx.tk) (fun e3=>?_) (fun h=>?_)
 rotate_left 1
 ·conv=>whnf
  exact bpf fun e=>h (by rw[e])
 conv=>whnf
 refine ocase (x8 x.s y.s hx.s h1 h2) (fun e4=>?_) (fun h=>?_)
 rotate_left 1
 ·conv=>whnf
  exact bpf fun e=>h (by rw[e])
 conv=>whnf
 refine bpt ?_
 cases x;cases y
 simp only at e1 e2 e3 e4
 subst e1 e2 e3 e4
 rfl
end Ai
namespace Ai
set_option maxRecDepth 100000
open Go Go.Proofs
def PkRn (x:RunT):Prop:=x.tk.length≤200∧z5 x.tk 0 999
def aJ (p:ProgL) (x:RunT):Prop:=p.goodS∧x.tr.length≤200∧PkRn x∧dW p x.tk x.tk.length=x
theorem cf_run {p:ProgL} (hg:p.goodS) (hv:p.flt) (hc:p.cn) (x:RunT) (h:PkRn x):(dW p x.tk x.tk.length).s.cf∧(dW p x.tk x.tk.length).fit:=by
 have hpk:∀ i∈x.tk,0≤i:=fun i hi=>(h.2 i hi).1
 have he:=runOf_end hg hv x.tk x.tk.length hpk (by omega)
 have hcn:=runOf_cn hg hv hc x.tk x.tk.length hpk
 have hs:=((pJ hg).small _ he.inv.si).1
 have hle:=he.le
 have hln:=he.len
 have h200:=h.1
 refine⟨⟨fun c hc=>⟨hcn.1 c hc,he.inv.fl.1 c hc⟩,fun t ht c hc=>⟨hcn.2 t ht c hc,he.inv.fl.2 t ht c hc⟩⟩,by omega,by omega,⟨hs.1,hs.2.1,hs.2.2.1,hs.2.2.2⟩⟩
theorem IsRunI_ok (p:ProgL) (hp:p.wf) (hs:p.rs.length≤1048576∧∀ x∈p.rs,x.length≤1048576) (hv:p.flt) (hc:p.cn) (x:RunT) (hx:x.fit) (hf:x.s.cf) :
  CallsTo EE 112 [agg (encProg p),agg (encRT x)] (fun r=>(aJ p x∧r=.tup [bv true,bv true])∨(¬ aJ p x∧(r=.tup [bv false,bv true]∨r=.tup [bv false,bv false]))):=by
 refine callsTo_of_AW (fn:=Tryz.f112) Tryz.func112 rfl (by kernel_rfl) rfl ?_
 conv=>whnf
 refine ocase (GoodProgI_ok p hs) (fun hg=>?_) (fun hg=>?_)
 rotate_left 1
 ·conv=>whnf
  exact .inr ⟨fun e=>hg ((j4 p).1 e.1),.inr rfl⟩
 have hg:p.goodS:=(j4 p).2 hg
 conv=>whnf
 refine kbi (fun h=>?_) (fun h=>?_)
 ·have h:¬ x.tr.length≤200:=by simp at h;omega
  conv=>whnf
  exact .inr ⟨fun e=>h e.2.1,.inr rfl⟩
 have htr:x.tr.length≤200:=by simp at h;omega
 conv=>whnf
 refine ocase (arePicks_ok x.tk 200 hx.tk) (fun hpk=>?_) (fun hpk=>?_)
 rotate_left 1
 ·conv=>whnf
  exact .inr ⟨fun e=>hpk e.2.2.1,.inr rfl⟩
 have hpk:PkRn x:=hpk
 obtain⟨c1,c2⟩:=cf_run hg hv hc x hpk
 have hrun:=runPicks_of p hp hg hv x.tk x.tk.length (fun i hi=>(hpk.2 i hi).1) hx.tk ⟨by omega,by have:=hpk.1;omega⟩
 have e0:((x.tk.map encInt).length:Int)=(x.tk.length:Int):=by simp
 rw[← e0] at hrun
 have hsame:=sameRun_ok _ x c2 c1 hf
 rw[← e0] at hsame
 conv=>whnf
 refine⟨by kernel_rfl,?_⟩
 conv=>whnf
 refine⟨_,hrun,?_⟩
 conv=>whnf
 refine eR hsame (fun h=>?_) (fun h=>?_)
 all_goals rw[e0] at h
 ·conv=>whnf
  exact .inl ⟨⟨hg,htr,hpk,h⟩,rfl⟩
 ·conv=>whnf
  exact .inr ⟨fun e=>h e.2.2.2,.inl rfl⟩
theorem isRunI_ok (p:ProgL) (hp:p.wf) (hs:p.rs.length≤1048576∧∀ x∈p.rs,x.length≤1048576) (hv:p.flt) (hc:p.cn) (x:RunT) (hx:x.fit) (hf:x.s.cf) :
  CallsTo EE 56 [agg (encProg p),agg (encRT x)] (·=bp (aJ p x)):=by
 refine callsTo_of_AW (fn:=Tryz.f56) Tryz.func56 rfl (by kernel_rfl) rfl ?_
 conv=>whnf
 refine⟨_,IsRunI_ok p hp hs hv hc x hx hf,?_⟩
 rintro r (⟨h,rfl⟩|⟨h,rfl|rfl⟩)
 ·conv=>whnf
  exact bpt h
 ·conv=>whnf
  exact bpf h
 ·conv=>whnf
  exact bpf h
end Ai
namespace Ai
set_option maxRecDepth 100000
open Go Go.Proofs Cyc
theorem evs_ok {p:ProgL} (hg:p.goodS) (hv:p.flt):∀ (es:List Ev) (s:StL),AInv p s→Evs p s es→∀ e∈es,lT e∧0≤e.th∧e.th<5
 | [],s,_,_,e,he=>by cases he
 |a::es,s,hs,hE,e,he=>by
  obtain⟨k,hk,rfl,hE⟩:=hE
  have hl:=rO hk
  rcases List.mem_cons.1 he with rfl|he
  ·refine⟨step_lock hl (jQ hg hs.si hl),?_,?_⟩
   ·rw[(mA p s k).1];omega
   ·rw[(mA p s k).1];have:=hs.si.len;omega
  ·exact evs_ok hg hv es _ (uN hg hv hk hs) hE e he
theorem isRn_evs {p:ProgL} {x:RunT} (h:aJ p x):Evs p (xC p) x.tr:=by
 obtain⟨es,h1,h2⟩:=run_evs p x.tk x.tk.length (fun i hi=>(h.2.2.1.2 i hi).1) (((x.tk.length:Nat):Int).toNat+1) (xC p) [] [] (by simp) (by simp)
 have e:x.tr=es:=by
  have:(dW p x.tk x.tk.length).tr=[]++es:=h1
  rw[h.2.2.2] at this
  simpa using this
 rw[e];exact h2
theorem o0 {p:ProgL} (hv:p.flt) {x:RunT} (h:aJ p x):∀ e∈x.tr,lT e∧0≤e.th∧e.th<5 :=
 evs_ok h.1 hv x.tr (xC p) (jE h.1) (isRn_evs h)
theorem d5 {p:ProgL} (hv:p.flt) {x:RunT} (h:aJ p x) {a b:Ev} (ha:a∈x.tr) (hb:b∈x.tr):fY a b↔rG a b :=
 hang_same (o0 hv h a ha).1 (o0 hv h b hb).1
end Ai
namespace Ai
set_option maxRecDepth 100000
open Go Go.Proofs
theorem aF (a b:List Ev) (hx:a.length≤1048576):CallsTo EE 163 [sl (a.map encEv),sl (b.map encEv)] (·=bp (a=b)):=by
 refine callsTo_of_AW (fn:=Tryz.f163) Tryz.func163 rfl (by kernel_rfl) rfl ?_
 conv=>whnf
 refine kbi (fun h=>?_) (fun h=>?_)
 ·have h:¬ a.length=b.length:=by simp at h;omega
  conv=>whnf
  exact bpf fun e=>h (by rw[e])
 have h:a.length=b.length:=by simp at h;omega
 conv=>whnf
 refine yN (fun k:Nat=>[(0,sl (a.map encEv)),(1,sl (b.map encEv)),(12,i64 (a.map encEv).length),(13,i64 k)]) (fun k=>[]) (fun k=>a.length - k) (fun k=>k≤a.length∧a.take k=b.take k) 0
  Weak.refl ⟨rfl,rfl,rfl,rfl,trivial⟩ trivial ⟨Nat.zero_le _,by simp⟩ ?_
 rintro k τ H ⟨hk,he⟩
 have hk:k≤a.length:=hk
 conv=>whnf
 refine kbi (fun h2=>?_) (fun h2=>?_)
 ·have hlt:=yK h2
  have hltb:k<b.length:=by omega
  conv=>whnf
  refine⟨by kernel_rfl,?_⟩
  conv=>whnf
  refine⟨encEv a[k],zQ encEv hlt rfl,?_⟩
  conv=>whnf
  refine⟨encEv b[k],zQ encEv hltb rfl,?_⟩
  conv=>whnf
  refine kbi (fun h3=>?_) (fun h3=>?_)
  ·have h3:¬ a[k]=b[k]:=fun e=>by
    rw[e] at h3
    simp at h3
   conv=>whnf
   exact bpf (iB hlt hltb h3)
  ·have h3:a[k]=b[k]:=ev_eq.2 (by simpa using h3)
   conv=>whnf
   exact⟨k+1,⟨hlt,wW hlt hltb he h3⟩,by show a.length - (k+1)<a.length - k;omega,⟨rfl,rfl,rfl,zJ hlt (by omega),trivial⟩,trivial⟩
 ·have hge:a.length≤k:=by simpa using h2
  conv=>whnf
  exact bpt (vJ (by omega) (by omega) he)
theorem b9 (a b:List Int) (hx:a.length≤1048576):CallsTo EE 136 [sl (a.map encInt),sl (b.map encInt)] (·=bp (a=b)):=by
 refine callsTo_of_AW (fn:=Tryz.f136) Tryz.func136 rfl (by kernel_rfl) rfl ?_
 conv=>whnf
 refine kbi (fun h=>?_) (fun h=>?_)
 ·have h:¬ a.length=b.length:=by simp at h;omega
  conv=>whnf
  exact bpf fun e=>h (by rw[e])
 have h:a.length=b.length:=by simp at h;omega
 conv=>whnf
 refine yN (fun k:Nat=>[(0,sl (a.map encInt)),(1,sl (b.map encInt)),(12,i64 (a.map encInt).length),(13,i64 k)]) (fun k=>[]) (fun k=>a.length - k) (fun k=>k≤a.length∧a.take k=b.take k) 0
  Weak.refl ⟨rfl,rfl,rfl,rfl,trivial⟩ trivial ⟨Nat.zero_le _,by simp⟩ ?_
 rintro k τ H ⟨hk,he⟩
 have hk:k≤a.length:=hk
 conv=>whnf
 refine kbi (fun h2=>?_) (fun h2=>?_)
 ·have hlt:=yK h2
  have hltb:k<b.length:=by omega
  conv=>whnf
  refine⟨by kernel_rfl,?_⟩
  conv=>whnf
  refine⟨encInt a[k],zQ encInt hlt rfl,?_⟩
  conv=>whnf
  refine⟨encInt b[k],zQ encInt hltb rfl,?_⟩
  conv=>whnf
  refine kbi (fun h3=>?_) (fun h3=>?_)
  ·have h3:¬ a[k]=b[k]:=by simpa using h3
   conv=>whnf
   exact bpf (iB hlt hltb h3)
  ·have h3:a[k]=b[k]:=by simpa using h3
   conv=>whnf
   exact⟨k+1,⟨hlt,wW hlt hltb he h3⟩,by show a.length - (k+1)<a.length - k;omega,⟨rfl,rfl,rfl,zJ hlt (by omega),trivial⟩,trivial⟩
 ·have hge:a.length≤k:=by simpa using h2
  conv=>whnf
  exact bpt (vJ (by omega) (by omega) he)
theorem nC (a b:List Nat) (hx:a.length≤1048576) (ha:∀ x∈a,CF x) (hb:∀ x∈b,CF x):CallsTo EE 214 [sl (a.map encF),sl (b.map encF)] (·=bp (a=b)):=by
 refine callsTo_of_AW (fn:=Tryz.f214) Tryz.func214 rfl (by kernel_rfl) rfl ?_
 conv=>whnf
 refine kbi (fun h=>?_) (fun h=>?_)
 ·have h:¬ a.length=b.length:=by simp at h;omega
  conv=>whnf
  exact bpf fun e=>h (by rw[e])
 have h:a.length=b.length:=by simp at h;omega
 conv=>whnf
 refine yN (fun k:Nat=>[(0,sl (a.map encF)),(1,sl (b.map encF)),(12,i64 (a.map encF).length),(13,i64 k)]) (fun k=>[]) (fun k=>a.length - k) (fun k=>k≤a.length∧a.take k=b.take k) 0
  Weak.refl ⟨rfl,rfl,rfl,rfl,trivial⟩ trivial ⟨Nat.zero_le _,by simp⟩ ?_
 rintro k τ H ⟨hk,he⟩
 have hk:k≤a.length:=hk
 conv=>whnf
 refine kbi (fun h2=>?_) (fun h2=>?_)
 ·have hlt:=yK h2
  have hltb:k<b.length:=by omega
  have c1:=ha _ (List.getElem_mem hlt)
  have c2:=hb _ (List.getElem_mem hltb)
  conv=>whnf
  refine⟨by kernel_rfl,?_⟩
  conv=>whnf
  refine⟨encF a[k],zQ encF hlt rfl,?_⟩
  conv=>whnf
  refine⟨encF b[k],zQ encF hltb rfl,?_⟩
  conv=>whnf
  refine eR (rF a[k] b[k]) (fun h3=>?_) (fun h3=>?_)
  ·have h3:a[k]=b[k]:=(pG c1.1 c2.1 c1.2 c2.2).1 h3
   conv=>whnf
   exact⟨k+1,⟨hlt,wW hlt hltb he h3⟩,by show a.length - (k+1)<a.length - k;omega,⟨rfl,rfl,rfl,zJ hlt (by omega),trivial⟩,trivial⟩
  ·have h3:¬ a[k]=b[k]:=fun e=>h3 ((pG c1.1 c2.1 c1.2 c2.2).2 e)
   conv=>whnf
   exact bpf (iB hlt hltb h3)
 ·have hge:a.length≤k:=by simpa using h2
  conv=>whnf
  exact bpt (vJ (by omega) (by omega) he)
end Ai
namespace Ai
set_option maxRecDepth 100000
open Go Go.Proofs
theorem th_eq {x y:Th} (a1:x.rt=y.rt) (a2:x.pc=y.pc) (a3:x.st=y.st) (a4:x.cond=y.cond) (a5:x.lock=y.lock) (a6:x.stack=y.stack):x=y:=by
 cases x;cases y
 simp only at a1 a2 a3 a4 a5 a6
 subst a1 a2 a3 a4 a5 a6
 rfl
theorem x7 (x y:StL) (hx:x.fit) (h1:x.cf) (h9:y.cf):CallsTo EE 164 [agg (zX x),agg (zX y)] (·=bp (x=y)):=by
 refine callsTo_of_AW (fn:=Tryz.f164) Tryz.func164 rfl (by kernel_rfl) rfl ?_
 conv=>whnf
 refine kbi (fun h=>?_) (fun h=>?_)
 ·have h:¬ x.ths.length=y.ths.length:=by simp at h;omega
  conv=>whnf
  exact bpf fun e=>h (by rw[e])
 have h:x.ths.length=y.ths.length:=by simp at h;omega
 conv=>whnf
 refine ocase (nC x.cells y.cells hx.cells h1.1 h9.1) (fun e3=>?_) (fun h=>?_)
 rotate_left 1
 ·conv=>whnf
  exact bpf fun e=>h (by rw[e])
 conv=>whnf
 refine ocase (b9 x.owner y.owner hx.owner) (fun e2=>?_) (fun h=>?_)
 rotate_left 1
 ·conv=>whnf
  exact bpf fun e=>h (by rw[e])
 conv=>whnf
 refine kbi (fun h=>?_) (fun h=>?_)
 ·have h:¬ x.fault=y.fault:=by simpa using h
  conv=>whnf
  exact bpf fun e=>h (by rw[e])
 have e1:x.fault=y.fault:=by simpa using h
 conv=>whnf
 refine yN (fun k:Nat=>[(2,.ptr (.n 2) 0),(3,.ptr (.n 3) 0),(39,sl (x.ths.map zD)),(40,i64 (x.ths.map zD).length),(41,i64 k)]) (fun k=>[(.n 2,.vs 37 ((zX x).map .d)),(.n 3,.vs 37 ((zX y).map .d))]) (fun k=>x.ths.length - k) (fun k=>k≤x.ths.length∧x.ths.take k=y.ths.take k) 0
  Weak.refl ⟨rfl,rfl,rfl,rfl,rfl,trivial⟩ ⟨rfl,rfl,trivial⟩ ⟨Nat.zero_le _,by simp⟩ ?_
 rintro k τ H ⟨hk,he⟩
 have hk:k≤x.ths.length:=hk
 conv=>whnf
 refine kbi (fun h2=>?_) (fun h2=>?_)
 ·have hlt:=yK h2
  have hltb:k<y.ths.length:=by omega
  have c1:=h1.2 _ (List.getElem_mem hlt)
  have c2:=h9.2 _ (List.getElem_mem hltb)
  conv=>whnf
  refine⟨zD x.ths[k],zQ zD hlt rfl,?_⟩
  conv=>whnf
  refine⟨zD y.ths[k],zQ zD hltb rfl,?_⟩
  conv=>whnf
  refine kbi (fun h=>?_) (fun h=>?_)
  ·have h:¬ x.ths[k].rt=y.ths[k].rt:=by simpa using h
   conv=>whnf
   exact bpf fun e=>h (by subst e;rfl)
  have a1:x.ths[k].rt=y.ths[k].rt:=by simpa using h
  conv=>whnf
  refine kbi (fun h=>?_) (fun h=>?_)
  ·have h:¬ x.ths[k].pc=y.ths[k].pc:=by simpa using h
   conv=>whnf
   exact bpf fun e=>h (by subst e;rfl)
  have a2:x.ths[k].pc=y.ths[k].pc:=by simpa using h
  conv=>whnf
  refine kbi (fun h=>?_) (fun h=>?_)
  ·have h:¬ x.ths[k].st=y.ths[k].st:=by simpa using h
   conv=>whnf
   exact bpf fun e=>h (by subst e;rfl)
  have a3:x.ths[k].st=y.ths[k].st:=by simpa using h
  conv=>whnf
  refine kbi (fun h=>?_) (fun h=>?_)
  ·have h:¬ x.ths[k].cond=y.ths[k].cond:=by simpa using h
   conv=>whnf
   exact bpf fun e=>h (by subst e;rfl)
  have a4:x.ths[k].cond=y.ths[k].cond:=by simpa using h
  conv=>whnf
  refine kbi (fun h=>?_) (fun h=>?_)
  ·have h:¬ x.ths[k].lock=y.ths[k].lock:=by simpa using h
   conv=>whnf
   exact bpf fun e=>h (by subst e;rfl)
  have a5:x.ths[k].lock=y.ths[k].lock:=by simpa using h
  conv=>whnf
  refine ocase (nC x.ths[k].stack y.ths[k].stack (hx.st _ (List.getElem_mem hlt)) c1 c2) (fun a6=>?_) (fun h=>?_)
  rotate_left 1
  ·conv=>whnf
   exact bpf fun e=>h (by subst e;rfl)
  have a7:x.ths[k]=y.ths[k]:=th_eq a1 a2 a3 a4 a5 a6
  conv=>whnf
  exact⟨k+1,⟨hlt,wW hlt hltb he a7⟩,by show x.ths.length - (k+1)<x.ths.length - k;have:=hlt;omega,⟨rfl,rfl,rfl,rfl,zJ hlt (Nat.le_trans hx.ths (by omega)),trivial⟩,⟨rfl,rfl,trivial⟩⟩
 ·have hge:x.ths.length≤k:=by simpa using h2
  have e4:=vJ (by omega) (by omega) he
  conv=>whnf
  refine bpt ?_
  clear h1 h9 hx
  cases x;cases y
  simp only at e1 e2 e3 e4
  subst e1 e2 e3 e4
  rfl
theorem i7 (x y:RunT) (hx:x.fit) (h1:x.s.cf) (h2:y.s.cf):CallsTo EE 103 [agg (encRT x),agg (encRT y)] (·=bp (x=y)):=by
 refine callsTo_of_AW (fn:=Tryz.f103) Tryz.func103 rfl (by kernel_rfl) rfl ?_
 conv=>whnf
 refine kbi (fun h=>?_) (fun h=>?_)
 rotate_left 1
 ·have h:¬ x.c=y.c:=by simpa using h
  conv=>whnf
  exact bpf fun e=>h (by rw[e])
 have e1:x.c=y.c:=by simpa using h
 conv=>whnf
 refine ocase (aF x.tr y.tr hx.tr) (fun e2=>?_) (fun h=>?_)
 rotate_left 1
 ·conv=>whnf
  exact bpf fun e=>h (by rw[e])
 conv=>whnf
 refine ocase (b9 x.tk y.tk hx.tk) (fun e3=>?_) (fun h=>?_)
 rotate_left 1
 ·conv=>whnf
  exact bpf fun e=>h (by rw[e])
 conv=>whnf
 refine ocase (x7 x.s y.s hx.s h1 h2) (fun e4=>?_) (fun h=>?_)
 rotate_left 1
 ·conv=>whnf
  exact bpf fun e=>h (by rw[e])
 conv=>whnf
 refine bpt ?_
 cases x;cases y
 simp only at e1 e2 e3 e4
 subst e1 e2 e3 e4
 rfl
end Ai
namespace Ai
set_option maxRecDepth 100000
open Go Go.Proofs
theorem l4Is_ok (p:ProgL) (hp:p.wf) (hg:p.goodS) (hv:p.flt) (hc:p.cn) (x:RunT) (hx:x.fit) (hf:x.s.cf) :
  CallsTo EE 48 [agg (encProg p),agg (encRT x)] (·=bp (aJ p x)):=by
 refine callsTo_of_AW (fn:=Tryz.f48) Tryz.func48 rfl (by kernel_rfl) rfl ?_
 conv=>whnf
 refine⟨by kernel_rfl,?_⟩
 conv=>whnf
 refine kbi (fun h=>?_) (fun h=>?_)
 rotate_left 1
 ·have h:¬ x.tr.length≤200:=by simp at h;omega
  conv=>whnf
  exact bpf fun e=>h e.2.1
 have htr:x.tr.length≤200:=by simp at h;omega
 conv=>whnf
 refine eR (l4Picks_ok x.tk hx.tk) (fun hpk=>?_) (fun hpk=>?_)
 rotate_left 1
 ·conv=>whnf
  exact bpf fun e=>hpk e.2.2.1
 have hpk:PkRn x:=hpk
 obtain⟨c1,c2⟩:=cf_run hg hv hc x hpk
 have hrun:=l4Run_of p hp hg x.tk x.tk.length (fun i hi=>(hpk.2 i hi).1) hx.tk ⟨by omega,by have:=hpk.1;omega⟩
 have e0:((x.tk.map encInt).length:Int)=(x.tk.length:Int):=by simp
 rw[← e0] at hrun
 have hsame:=i7 _ x c2 c1 hf
 rw[← e0] at hsame
 conv=>whnf
 refine⟨_,hrun,?_⟩
 conv=>whnf
 refine eR hsame (fun h=>?_) (fun h=>?_)
 all_goals rw[e0] at h
 ·conv=>whnf
  exact bpt ⟨hg,htr,hpk,h⟩
 ·conv=>whnf
  exact bpf fun e=>h e.2.2.2
end Ai
namespace Ai
set_option maxRecDepth 100000
open Go Go.Proofs Cyc
def sA (cut:List Int):Prop:=cut.length=5∧z5 cut 0 200
theorem i9 (cut:List Int) (hx:cut.length≤1048576):CallsTo EE 49 [sl (cut.map encInt)] (·=bp (sA cut)):=by
 refine callsTo_of_AW (fn:=Tryz.f49) Tryz.func49 rfl (by kernel_rfl) rfl ?_
 conv=>whnf
 refine kbi (fun h=>?_) (fun h=>?_)
 ·have h5:cut.length=5:=by
   have:=of_decide_eq_true h
   simp at this
   omega
  conv=>whnf
  refine ocase (l1All_ok cut 0 200 hx) (fun h2=>?_) (fun h2=>?_)
  ·conv=>whnf
   exact bpt ⟨h5,h2⟩
  ·conv=>whnf
   exact bpf fun e=>h2 e.2
 ·conv=>whnf
  refine bpf fun e=>h (decide_eq_true ?_)
  simp[e.1]
theorem x4 (n:Int):CallsTo EE 114 ([i64 n]++[]) (·=bp (¬ InR n 0 200)):=by
 refine callsTo_of_AW (fn:=Tryz.f114) Tryz.func114 rfl (by kernel_rfl) rfl ?_
 conv=>whnf
 refine ocase (in_ok n 0 200) (fun h=>?_) (fun h=>?_)
 ·conv=>whnf
  exact bpf fun e=>e h
 ·conv=>whnf
  exact bpt h
theorem areCounts_ok (cut:List Int) (hx:cut.length≤1048576):CallsTo EE 57 [sl (cut.map encInt)] (·=bp (sA cut)):=by
 refine callsTo_of_AW (fn:=Tryz.f57) Tryz.func57 rfl (by kernel_rfl) rfl ?_
 conv=>whnf
 refine kbi (fun h=>?_) (fun h=>?_)
 ·have h5:cut.length=5:=by
   have:=of_decide_eq_true h
   simp at this
   omega
  conv=>whnf
  refine ocase (lN cut hx 114 (fun n=>¬ InR n 0 200) (fun n _=>x4 n)) (fun h2=>?_) (fun h2=>?_)
  ·conv=>whnf
   refine bpf fun hm=>?_
   obtain⟨x,hx1,hx2⟩:=h2
   exact hx2 (hm.2 x hx1)
  ·conv=>whnf
   refine bpt ⟨h5,fun x hx1=>?_⟩
   exact Classical.byContradiction fun hb=>h2 ⟨x,hx1,hb⟩
 ·conv=>whnf
  refine bpf fun e=>h (decide_eq_true ?_)
  simp[e.1]
def wQ (t:List Ev) (k:Int):Nat→Nat
 | 0=>0
 |j+1=>wQ t k j+if (t.getD j vE).th=k then 1 else 0
theorem rR (t:List Ev) (k:Int):∀ j,wQ t k j≤j
 | 0=>Nat.le_refl _
 |j+1=>by
  have:=rR t k j
  unfold wQ
  split <;> omega
def Ths5 (t:List Ev):Prop:=∀ e∈t,0≤e.th∧e.th<5
def dnL (t:List Ev) (j:Nat):List Int:=[(wQ t 0 j:Int),(wQ t 1 j:Int),(wQ t 2 j:Int),(wQ t 3 j:Int),(wQ t 4 j:Int)]
theorem dnL_at {t:List Ev} {j:Nat} {k:Int} (h0:0≤k) (h5:k<5):(dnL t j).getD k.toNat 0=(wQ t k j:Int):=by
 have:k=0∨k=1∨k=2∨k=3∨k=4:=by omega
 rcases this with rfl|rfl|rfl|rfl|rfl <;> rfl
theorem dnL_succ {t:List Ev} {j:Nat} (h0:0≤(t.getD j vE).th) (h5:(t.getD j vE).th<5):dnL t (j+1)=(dnL t j).set (t.getD j vE).th.toNat ((wQ t (t.getD j vE).th j:Int)+1):=by
 unfold dnL
 simp only[wQ]
 generalize (t.getD j vE).th=k at *
 have:k=0∨k=1∨k=2∨k=3∨k=4:=by omega
 rcases this with rfl|rfl|rfl|rfl|rfl <;> simp
def inC (t:List Ev) (cut:List Int) (j:Nat):Bool:=decide ((wQ t (t.getD j vE).th j:Int)<cut.getD (t.getD j vE).th.toNat 0)
def wsL (t:List Ev) (cut:List Int):List Bool:=(List.range t.length).map (inC t cut)
def bW (b:Bool):List D:=[.bool b]
def rZ (t:List Ev) (cut:List Int):Prop:=∀ k,k<cut.length→cut.getD k 0≤(wQ t (k:Nat) t.length:Int)
theorem i8 (t:List Ev) (cut:List Int) (hl:t.length≤1048576) (hT:Ths5 t) (hc:cut.length=5) :
  CallsTo EE 50 [sl (t.map encEv),sl (cut.map encInt)] (fun r=>(rZ t cut∧r=.tup [sl ((wsL t cut).map bW),bv true])∨(¬ rZ t cut∧r=.tup [sl [],bv false])):=by
 refine callsTo_of_AW (fn:=Tryz.f50) Tryz.func50 rfl (by kernel_rfl) rfl ?_
 conv=>whnf
 refine⟨⟨by omega,by omega,by show(8:Int)*5≤_;omega,by omega⟩,?_⟩
 conv=>whnf
 refine yN (fun k:Nat=>[(1,sl (cut.map encInt)),(6,.ref (.n 12) 0 5),(13,sl (t.map encEv)),(14,i64 (t.map encEv).length),(15,i64 k),(7,.ref (.n 7) 0 k)])
  (fun k=>[(.n 12,.ds 3 1 ((dnL t k).map encInt)),(.n 7,.ds 4 1 (((List.range k).map (inC t cut)).map bW))]) (fun k=>t.length - k) (fun k=>k≤t.length) 0
  (weak_nil 7 (.n 7) 4 1 rfl) ⟨rfl,rfl,rfl,rfl,rfl,rfl,trivial⟩ ⟨rfl,rfl,trivial⟩ (Nat.zero_le _) ?_
 rintro k τ H hk
 have hk:k≤t.length:=hk
 conv=>whnf
 refine kbi (fun h=>?_) (fun h=>?_)
 ·have hlt:=yK h
  have hth:=hT _ (List.getElem_mem hlt)
  have hgd:t.getD k vE=t[k]:=by rw[List.getD_eq_getElem?_getD,List.getElem?_eq_getElem hlt];rfl
  have hdn:=dnL_at (t:=t) (j:=k) hth.1 hth.2
  have hsu:=dnL_succ (t:=t) (j:=k) (by rw[hgd];exact hth.1) (by rw[hgd];exact hth.2)
  rw[hgd] at hsu
  have hcl:=rR t t[k].th k
  conv=>whnf
  refine⟨encEv t[k],zQ encEv hlt rfl,?_⟩
  conv=>whnf
  refine⟨⟨hth.1,by omega⟩,?_⟩
  conv=>whnf
  have hget:(dnL t k)[t[k].th.toNat]?=some (wQ t t[k].th k:Int):=by
   have hl5:t[k].th.toNat<(dnL t k).length:=by simp[dnL];omega
   rw[List.getD_eq_getElem?_getD,List.getElem?_eq_getElem hl5] at hdn
   rw[List.getElem?_eq_getElem hl5]
   exact congrArg some hdn
  have hcg:cut[t[k].th.toNat]?=some (cut.getD t[k].th.toNat 0):=by
   have hl5:t[k].th.toNat<cut.length:=by omega
   rw[List.getD_eq_getElem?_getD,List.getElem?_eq_getElem hl5];rfl
  refine⟨encInt (wQ t t[k].th k:Int),⟨?_,Nat.le_refl _⟩,?_⟩
  ·show((dnL t k).map encInt)[0+t[k].th.toNat]?=_
   rw[Nat.zero_add,List.getElem?_map,hget];rfl
  conv=>whnf
  refine⟨⟨hth.1,by omega⟩,?_⟩
  have hsuc:(((dnL t k).map encInt).set (0+t[k].th.toNat) (encInt ((wQ t t[k].th k:Int)+1)))=(dnL t (k+1)).map encInt:=by
   rw[hsu,List.map_set,Nat.zero_add]
  have hw1:IntKind.i64.wrap ((wQ t t[k].th k:Int)+1)=(wQ t t[k].th k:Int)+1:=zK (by omega) (by omega)
  conv=>whnf
  refine .inr (.inl ⟨13,[],?_⟩)
  conv=>whnf
  refine⟨⟨hth.1,by omega⟩,?_⟩
  conv=>whnf
  refine⟨encInt ((wQ t t[k].th k:Int)+1),⟨?_,Nat.le_refl _⟩,?_⟩
  ·show(((dnL t k).map encInt).set (0+t[k].th.toNat) (encInt (IntKind.i64.wrap ((wQ t t[k].th k:Int)+1))))[0+t[k].th.toNat]?=_
   rw[hw1,List.getElem?_set_self (by simp[dnL];omega)]
  conv=>whnf
  refine⟨encInt (cut.getD t[k].th.toNat 0),⟨hth.1,?_,rfl⟩,?_⟩
  ·rw[List.getElem?_map,hcg];rfl
  conv=>whnf
  refine kbi (fun hb=>?_) (fun hb=>?_)
  ·have hb:inC t cut k=true:=by
    unfold inC
    rw[hgd]
    exact decide_eq_true (by have:=of_decide_eq_true hb;omega)
   conv=>whnf
   refine⟨by kernel_rfl,?_⟩
   conv=>whnf
   refine⟨⟨rfl,by show(k+1)*1≤_;omega,by show k+1≤_;omega⟩,?_⟩
   conv=>whnf
   refine⟨k+1,hlt,by show t.length - (k+1)<t.length - k;omega,⟨rfl,rfl,rfl,rfl,zJ hlt (by omega),rfl,trivial⟩,⟨?_,?_,trivial⟩⟩
   ·show some (Ob.ds 3 1 (((dnL t k).map encInt).set (0+t[k].th.toNat) (encInt (IntKind.i64.wrap ((wQ t t[k].th k:Int)+1)))))=_
    rw[hw1,hsuc]
   ·show some (Ob.ds 4 1 ((((List.range k).map (inC t cut)).map bW).take k++[bW true]))=_
    rw[List.take_of_length_le (by simp),List.range_succ,List.map_append,List.map_append,← hb]
    rfl
  ·have hb:inC t cut k=false:=by
    unfold inC
    rw[hgd]
    exact decide_eq_false (fun e=>hb (decide_eq_true (by omega)))
   conv=>whnf
   refine⟨by kernel_rfl,?_⟩
   conv=>whnf
   refine⟨⟨rfl,by show(k+1)*1≤_;omega,by show k+1≤_;omega⟩,?_⟩
   conv=>whnf
   refine⟨k+1,hlt,by show t.length - (k+1)<t.length - k;omega,⟨rfl,rfl,rfl,rfl,zJ hlt (by omega),rfl,trivial⟩,⟨?_,?_,trivial⟩⟩
   ·show some (Ob.ds 3 1 (((dnL t k).map encInt).set (0+t[k].th.toNat) (encInt (IntKind.i64.wrap ((wQ t t[k].th k:Int)+1)))))=_
    rw[hw1,hsuc]
   ·show some (Ob.ds 4 1 ((((List.range k).map (inC t cut)).map bW).take k++[bW false]))=_
    rw[List.take_of_length_le (by simp),List.range_succ,List.map_append,List.map_append,← hb]
    rfl
 ·have hge:k=t.length:=by
   have:¬ k<t.length:=fun e=>h (decide_eq_true (by simp;omega))
   omega
  subst hge
  conv=>whnf
  refine yN (fun j:Nat=>[(1,sl (cut.map encInt)),(6,.ref (.n 12) 0 5),(7,.ref (.n 7) 0 t.length),(41,sl (cut.map encInt)),(42,i64 (cut.map encInt).length),(43,i64 j)])
   (fun j=>[(.n 12,.ds 3 1 ((dnL t t.length).map encInt)),(.n 7,.ds 4 1 (((List.range t.length).map (inC t cut)).map bW))]) (fun j=>cut.length - j) (fun j=>j≤cut.length∧∀ i,i<j→cut.getD i 0≤(wQ t (i:Nat) t.length:Int)) 0
   .refl ⟨rfl,rfl,rfl,rfl,rfl,rfl,trivial⟩ ⟨rfl,rfl,trivial⟩ ⟨Nat.zero_le _,fun i hi=>absurd hi (Nat.not_lt_zero _)⟩ ?_
  rintro j τ H ⟨hj,ih⟩
  have hj:j≤cut.length:=hj
  conv=>whnf
  refine kbi (fun h2=>?_) (fun h2=>?_)
  ·have hlt:=yK h2
   have hdn:=dnL_at (t:=t) (j:=t.length) (k:=(j:Int)) (by omega) (by omega)
   conv=>whnf
   refine⟨encInt cut[j],zQ encInt hlt rfl,?_⟩
   conv=>whnf
   refine⟨⟨by omega,by omega⟩,?_⟩
   conv=>whnf
   refine⟨encInt (wQ t (j:Nat) t.length:Int),⟨?_,Nat.le_refl _⟩,?_⟩
   ·have hl5:j<(dnL t t.length).length:=by simp[dnL];omega
    show((dnL t t.length).map encInt)[0+((j:Nat):Int).toNat]?=_
    rw[Int.toNat_natCast,List.getD_eq_getElem?_getD,List.getElem?_eq_getElem hl5] at hdn
    rw[Nat.zero_add,Int.toNat_natCast,List.getElem?_map,List.getElem?_eq_getElem hl5]
    exact congrArg some (congrArg encInt hdn)
   conv=>whnf
   have hcg:cut.getD j 0=cut[j]:=by rw[List.getD_eq_getElem?_getD,List.getElem?_eq_getElem hlt];rfl
   refine kbi (fun h3=>?_) (fun h3=>?_)
   ·have h3:(wQ t (j:Nat) t.length:Int)<cut[j]:=by simpa using h3
    conv=>whnf
    refine .inl ?_
    conv=>whnf
    exact .inr ⟨fun e=>absurd (e j hlt) (by rw[hcg];omega),rfl⟩
   ·have h3:¬ (wQ t (j:Nat) t.length:Int)<cut[j]:=by simpa using h3
    conv=>whnf
    refine⟨j+1,⟨hlt,fun i hi=>?_⟩,by show cut.length - (j+1)<cut.length - j;omega,⟨rfl,rfl,rfl,rfl,rfl,zJ hlt (by omega),trivial⟩,⟨rfl,rfl,trivial⟩⟩
    by_cases e:i=j
    ·subst e;rw[hcg];omega
    ·exact ih i (by omega)
  ·have hge:j=cut.length:=by
    have:¬ j<cut.length:=fun e=>h2 (decide_eq_true (by simp;omega))
    omega
   subst hge
   conv=>whnf
   refine .inl ?_
   conv=>whnf
   refine .inl ⟨ih,?_⟩
   show AV.tup [sl (List.take t.length (List.drop 0 (List.map bW (List.map (inC t cut) (List.range t.length))))),bv true]=_
   rw[List.drop_zero,List.take_of_length_le (by simp)]
   rfl
def CloT (t:List Ev) (cut:List Int):Prop:=∀ j,j<t.length→∀ i,i<j→¬ (inC t cut j=true∧inC t cut i=false∧fY (t.getD i vE) (t.getD j vE))
theorem l18Is_ok (t:List Ev) (cut:List Int) (hl:t.length≤1048576):CallsTo EE 51 [sl (t.map encEv),sl ((wsL t cut).map bW)] (·=bp (CloT t cut)):=by
 refine callsTo_of_AW (fn:=Tryz.f51) Tryz.func51 rfl (by kernel_rfl) rfl ?_
 conv=>whnf
 have hwl:(wsL t cut).length=t.length:=by simp[wsL]
 have hwg:∀ j (h:j<t.length),(wsL t cut)[j]'(by omega)=inC t cut j:=fun j h=>by simp[wsL]
 refine yN (fun j:Nat=>[(0,sl (t.map encEv)),(1,sl ((wsL t cut).map bW)),(9,sl (t.map encEv)),(10,i64 (t.map encEv).length),(11,i64 j)])
  (fun j=>[]) (fun j=>t.length - j) (fun j=>j≤t.length∧∀ j',j'<j→∀ i,i<j'→¬ (inC t cut j'=true∧inC t cut i=false∧fY (t.getD i vE) (t.getD j' vE))) 0
  .refl ⟨rfl,rfl,rfl,rfl,rfl,trivial⟩ trivial ⟨Nat.zero_le _,fun i hi=>absurd hi (Nat.not_lt_zero _)⟩ ?_
 rintro j τ H ⟨hj,ih⟩
 have hj:j≤t.length:=hj
 conv=>whnf
 refine kbi (fun h=>?_) (fun h=>?_)
 ·have hlt:=yK h
  have hgj:t.getD j vE=t[j]:=by rw[List.getD_eq_getElem?_getD,List.getElem?_eq_getElem hlt];rfl
  conv=>whnf
  refine⟨encEv t[j],zQ encEv hlt rfl,?_⟩
  conv=>whnf
  refine⟨⟨by omega,by omega,by simp;omega,fun c hc=>?_⟩,?_⟩
  ·obtain⟨e,_,rfl⟩:=List.mem_map.1 hc;rfl
  conv=>whnf
  have htk:List.drop (0:Int).toNat (List.take ((j:Nat):Int).toNat (t.map encEv))=(t.take j).map encEv:=by simp
  refine yN (fun i:Nat=>[(0,sl (t.map encEv)),(1,sl ((wsL t cut).map bW)),(9,sl (t.map encEv)),(10,i64 (t.map encEv).length),(11,i64 j),(5,i64 j),(6,.ptr (.n 6) 0),(18,sl ((t.take j).map encEv)),(19,i64 j),(20,i64 i)])
   (fun i=>[(.n 6,.vs 105 ((encEv t[j]).map .d))]) (fun i=>j - i) (fun i=>i≤j∧∀ i',i'<i→¬ (inC t cut j=true∧inC t cut i'=false∧fY (t.getD i' vE) (t.getD j vE))) 0
   .refl ⟨rfl,rfl,rfl,rfl,rfl,rfl,rfl,?_,?_,rfl,trivial⟩ ⟨rfl,trivial⟩ ⟨Nat.zero_le _,fun i hi=>absurd hi (Nat.not_lt_zero _)⟩ ?_
  ·show AV.d (D.sl (List.take (((j:Nat):Int).toNat - Int.toNat 0) (List.drop (Int.toNat 0) (t.map encEv))))=_
   simp[List.map_take]
  ·show AV.d (D.int IntKind.i64 ((List.take (((j:Nat):Int).toNat - Int.toNat 0) (List.drop (Int.toNat 0) (t.map encEv))).length:Int))=_
   simp;omega
  rintro i τ H ⟨hi,ih2⟩
  have hi:i≤j:=hi
  conv=>whnf
  refine kbi (fun h2=>?_) (fun h2=>?_)
  ·have hlt2:i<j:=by
    have:=of_decide_eq_true h2
    omega
   have hil:i<t.length:=by omega
   have hgi:t.getD i vE=t[i]:=by rw[List.getD_eq_getElem?_getD,List.getElem?_eq_getElem hil];rfl
   conv=>whnf
   refine⟨encEv t[i],⟨by omega,by simp[hlt2,hil],rfl⟩,?_⟩
   conv=>whnf
   rcases Bool.eq_false_or_eq_true (inC t cut j) with hwj|hwj
   rotate_left 1
   ·
    refine⟨bW false,⟨by omega,by simp[wsL,hlt,hwj],rfl⟩,?_⟩
    conv=>whnf
    refine⟨i+1,⟨hlt2,fun i' hi'=>?_⟩,by show j - (i+1)<j - i;omega,⟨rfl,rfl,rfl,rfl,rfl,rfl,rfl,rfl,rfl,zJ hlt2 (by omega),trivial⟩,⟨rfl,trivial⟩⟩
    by_cases e:i'=i
    ·subst e;exact fun x=>by have:=x.1;rw[hwj] at this;cases this
    ·exact ih2 i' (by omega)
   ·
    refine⟨bW true,⟨by omega,by simp[wsL,hlt,hwj],rfl⟩,?_⟩
    conv=>whnf
    rcases Bool.eq_false_or_eq_true (inC t cut i) with hwi|hwi
    ·
     refine⟨bW true,⟨by omega,by simp[wsL,hil,hwi],rfl⟩,?_⟩
     conv=>whnf
     refine⟨i+1,⟨hlt2,fun i' hi'=>?_⟩,by show j - (i+1)<j - i;omega,⟨rfl,rfl,rfl,rfl,rfl,rfl,rfl,rfl,rfl,zJ hlt2 (by omega),trivial⟩,⟨rfl,trivial⟩⟩
     by_cases e:i'=i
     ·subst e;exact fun x=>by have:=x.2.1;rw[hwi] at this;cases this
     ·exact ih2 i' (by omega)
    ·
     refine⟨bW false,⟨by omega,by simp[wsL,hil,hwi],rfl⟩,?_⟩
     conv=>whnf
     refine ocase (hangS_ok t[i] t[j]) (fun h3=>?_) (fun h3=>?_)
     ·conv=>whnf
      exact bpf fun e=>e j hlt i hlt2 ⟨hwj,hwi,by rw[hgi,hgj];exact h3⟩
     ·conv=>whnf
      refine⟨i+1,⟨hlt2,fun i' hi'=>?_⟩,by show j - (i+1)<j - i;omega,⟨rfl,rfl,rfl,rfl,rfl,rfl,rfl,rfl,rfl,zJ hlt2 (by omega),trivial⟩,⟨rfl,trivial⟩⟩
      by_cases e:i'=i
      ·subst e;exact fun x=>h3 (by have:=x.2.2;rw[hgi,hgj] at this;exact this)
      ·exact ih2 i' (by omega)
  ·have hie:i=j:=by
    have:¬ i<j:=fun e=>h2 (decide_eq_true (by omega))
    omega
   subst hie
   conv=>whnf
   refine⟨i+1,⟨hlt,fun j' hj'=>?_⟩,by show t.length - (i+1)<t.length - i;omega,⟨rfl,rfl,rfl,rfl,zJ hlt (by omega),trivial⟩,trivial⟩
   by_cases e:j'=i
   ·subst e;exact ih2
   ·exact ih j' (by omega)
 ·have hge:j=t.length:=by
   have:¬ j<t.length:=fun e=>h (decide_eq_true (by simp;omega))
   omega
  subst hge
  conv=>whnf
  exact bpt ih
end Ai
namespace Ai
set_option maxRecDepth 100000
open Go Go.Proofs Cyc
noncomputable def fC (p:ProgL):StL→List Ev→List Bool→StL
 |c,e::es,w::ws=>bif w then fC p (zG p c e.th.toNat).1 es ws else fC p c es ws
 |c,_,_=>c
theorem l18After_ok (p:ProgL) (hp:p.wf) (hg:p.goodS) (hv:p.flt) (x:RunT) (ws:List Bool) (hl:x.tr.length≤1048576) (hw:ws.length=x.tr.length) (hT:Ths5 x.tr) (hR:dK p (xC p) x.tr ws) :
  CallsTo EE 52 [agg (encProg p),agg (encRT x),sl (ws.map bW)] (·=agg (zX (fC p (xC p) x.tr ws))):=by
 have hok:=pJ hg
 obtain⟨b1,b2,b3,b4⟩:=hg.1
 refine callsTo_of_AW (fn:=Tryz.f52) Tryz.func52 rfl (by kernel_rfl) rfl ?_
 conv=>whnf
 refine⟨_,l3New_ok p ⟨b1.1,by have:=b1.2;omega⟩ ⟨b2.1,by have:=b2.2;omega⟩,?_⟩
 rintro r rfl
 conv=>whnf
 refine yN (fun y:Nat × StL=>[(2,sl (ws.map bW)),(3,.ptr (.n 3) 0),(6,.ptr (.n 6) 0),(7,.ptr (.n 7) 0),(15,sl (x.tr.map encEv)),(16,i64 (x.tr.map encEv).length),(17,i64 y.1)])
  (fun y=>[(.n 3,.vs 42 ((encProg p).map .d)),(.n 6,.vs 37 [.d .nil,.d .nil,.d .nil,i64 0]),(.n 7,.vs 37 ((zX y.2).map .d))]) (fun y=>x.tr.length - y.1)
  (fun y=>y.1≤x.tr.length∧AInv p y.2∧dK p y.2 (x.tr.drop y.1) (ws.drop y.1)∧fC p y.2 (x.tr.drop y.1) (ws.drop y.1)=fC p (xC p) x.tr ws) (0,xC p)
  .refl ⟨rfl,rfl,rfl,rfl,rfl,rfl,rfl,trivial⟩ ⟨rfl,rfl,rfl,trivial⟩ ⟨Nat.zero_le _,jE hg,hR,rfl⟩ ?_
 rintro⟨j,c⟩ τ H ⟨hj,hc,hr,he⟩
 have hj:j≤x.tr.length:=hj
 have hr:dK p c (x.tr.drop j) (ws.drop j):=hr
 have he:fC p c (x.tr.drop j) (ws.drop j)=_:=he
 have hc:AInv p c:=hc
 conv=>whnf
 refine kbi (fun h=>?_) (fun h=>?_)
 ·have hlt:j<x.tr.length:=yK h
  have hwl:j<ws.length:=by omega
  rw[List.drop_eq_getElem_cons hlt,List.drop_eq_getElem_cons hwl] at hr he
  have hth:0≤x.tr[j].th∧x.tr[j].th<5:=hT _ (List.getElem_mem hlt)
  conv=>whnf
  refine⟨encEv x.tr[j],zQ encEv hlt rfl,?_⟩
  conv=>whnf
  rcases Bool.eq_false_or_eq_true ws[j] with hw1|hw1
  ·refine⟨bW true,⟨by omega,by simp[hwl,hw1],rfl⟩,?_⟩
   rw[hw1] at hr he
   have hr:x.tr[j].th.toNat∈zA p c∧dK p (zG p c x.tr[j].th.toNat).1 (x.tr.drop (j+1)) (ws.drop (j+1)):=hr
   have he:fC p (zG p c x.tr[j].th.toNat).1 (x.tr.drop (j+1)) (ws.drop (j+1))=_:=he
   have hkl:=rO hr.1
   have hs:=hok.small c hc.si
   conv=>whnf
   have hst:=tB toIndexS p c x.tr[j].th.toNat hp hkl hs.2 hs.1 (hok.ready c hc.si _ hr.1 hkl)
   rw[show(((x.tr[j].th.toNat:Nat):Int))=x.tr[j].th by have:=hth.1;omega] at hst
   refine⟨_,hst,?_⟩
   rintro r rfl
   conv=>whnf
   refine⟨(j+1,(zG p c x.tr[j].th.toNat).1),⟨hlt,uN hg hv hr.1 hc,hr.2,he⟩,by show x.tr.length - (j+1)<x.tr.length - j;omega,⟨rfl,rfl,rfl,rfl,rfl,rfl,zJ hlt (by omega),trivial⟩,⟨rfl,rfl,rfl,trivial⟩⟩
  ·refine⟨bW false,⟨by omega,by simp[hwl,hw1],rfl⟩,?_⟩
   rw[hw1] at hr he
   conv=>whnf
   refine⟨(j+1,c),⟨hlt,hc,hr,he⟩,by show x.tr.length - (j+1)<x.tr.length - j;omega,⟨rfl,rfl,rfl,rfl,rfl,rfl,zJ hlt (by omega),trivial⟩,⟨rfl,rfl,rfl,trivial⟩⟩
 ·have hge:j=x.tr.length:=by
   have:¬ j<x.tr.length:=fun e=>h (decide_eq_true (by simp;omega))
   omega
  subst hge
  rw[List.drop_length,List.drop_of_length_le (by omega)] at he
  have he:c=_:=he
  conv=>whnf
  rw[← he]
  rfl
def pX (t:List Ev) (j:Nat):List D:=encInt (wQ t (t.getD j vE).th j:Int)
theorem nR (t:List Ev) (hl:t.length≤1048576) (hT:Ths5 t) :
  CallsTo EE 115 [sl (t.map encEv)] (·=.tup [sl ((List.range t.length).map (pX t)),agg ((dnL t t.length).map di)]):=by
 refine callsTo_of_AW (fn:=Tryz.f115) Tryz.func115 rfl (by kernel_rfl) rfl ?_
 conv=>whnf
 refine yN (fun k:Nat=>[(3,.ptr (.n 3) 0),(4,.ref (.n 8) 0 k),(5,.ptr (.n 5) 0),(10,sl (t.map encEv)),(11,i64 (t.map encEv).length),(12,i64 k)])
  (fun k=>[(.n 3,.vs 151 [i64 0,i64 0,i64 0,i64 0,i64 0]),(.n 8,.ds 3 1 ((List.range k).map (pX t))),(.n 5,.vs 151 ((dnL t k).map i64))]) (fun k=>t.length - k) (fun k=>k≤t.length) 0
  .refl ⟨rfl,rfl,rfl,rfl,rfl,rfl,trivial⟩ ⟨rfl,rfl,rfl,trivial⟩ (Nat.zero_le _) ?_
 rintro k τ H hk
 have hk:k≤t.length:=hk
 conv=>whnf
 refine kbi (fun h=>?_) (fun h=>?_)
 ·have hlt:=yK h
  have hth:=hT _ (List.getElem_mem hlt)
  have hgd:t.getD k vE=t[k]:=by rw[List.getD_eq_getElem?_getD,List.getElem?_eq_getElem hlt];rfl
  have hsu:=dnL_succ (t:=t) (j:=k) (by rw[hgd];exact hth.1) (by rw[hgd];exact hth.2)
  rw[hgd] at hsu
  rw[← (zK (by have:=rR t t[k].th k;omega) (by have:=rR t t[k].th k;omega):IntKind.i64.wrap ((wQ t t[k].th k:Int)+1)=_)] at hsu
  have hcl:=fun a=>rR t a k
  have hw1:∀ a,IntKind.i64.wrap ((wQ t a k:Int)+1)=(wQ t a k:Int)+1:=fun a=>by have:=hcl a;exact zK (by omega) (by omega)
  conv=>whnf
  have hlast:encInt (wQ t t[k].th k:Int)=pX t k:=by unfold pX;simp only[hgd]
  refine⟨encEv t[k],zQ encEv hlt rfl,?_⟩
  generalize t[k]=e at *
  obtain⟨a,b1,b2,b3,b4⟩:=e
  have hth:0≤a∧a<5:=hth
  have h5:a=0∨a=1∨a=2∨a=3∨a=4:=by omega
  rcases h5 with rfl|rfl|rfl|rfl|rfl
  all_goals
   conv=>whnf
   refine⟨⟨by omega,by omega⟩,?_⟩
   conv=>whnf
  all_goals
   refine⟨⟨rfl,by show(k+1)*8≤_;omega,by show k+1≤_;omega⟩,?_⟩
   conv=>whnf
   refine⟨⟨by omega,by omega⟩,?_⟩
   conv=>whnf
   refine⟨⟨by omega,by omega⟩,?_⟩
   conv=>whnf
   refine⟨k+1,hlt,by show t.length - (k+1)<t.length - k;omega,⟨rfl,rfl,rfl,rfl,rfl,zJ hlt (by omega),trivial⟩,⟨rfl,?_,?_,trivial⟩⟩
   ·rw[List.range_succ,List.map_append]
    show some (Ob.ds 3 1 (List.take k ((List.range k).map (pX t))++[encInt (wQ t _ k:Int)]))=some (Ob.ds 3 1 ((List.range k).map (pX t)++[pX t k]))
    rw[List.take_of_length_le (by simp)]
    exact congrArg (fun c=>some (Ob.ds 3 1 (_++[c]))) hlast
   ·rw[hsu]
    rfl
 ·have hge:k=t.length:=by
   have:¬ k<t.length:=fun e=>h (decide_eq_true (by simp;omega))
   omega
  subst hge
  conv=>whnf
  refine .inr (.inl ⟨4,[],?_⟩)
  conv=>whnf
  refine⟨by kernel_rfl,?_⟩
  conv=>whnf
  refine .inl ?_
  conv=>whnf
  rw[List.drop_zero,List.take_of_length_le (by simp)]
  rfl
end Ai
namespace Ai
set_option maxRecDepth 100000
open Go Go.Proofs Cyc
theorem areOf_ok (t:List Ev) (cut:List Int) (hl:t.length≤1048576) (hT:Ths5 t) (hc:cut.length=5) :
  CallsTo EE 58 [sl (t.map encEv),sl (cut.map encInt)] (·=bp (rZ t cut)):=by
 refine callsTo_of_AW (fn:=Tryz.f58) Tryz.func58 rfl (by kernel_rfl) rfl ?_
 conv=>whnf
 refine⟨_,nR t hl hT,?_⟩
 rintro r rfl
 conv=>whnf
 refine yN (fun j:Nat=>[(6,.ptr (.n 6) 0),(14,sl (cut.map encInt)),(15,i64 (cut.map encInt).length),(16,i64 j)])
  (fun j=>[(.n 6,.vs 151 ((dnL t t.length).map i64))]) (fun j=>cut.length - j) (fun j=>j≤cut.length∧∀ i,i<j→cut.getD i 0≤(wQ t (i:Nat) t.length:Int)) 0
  .refl ⟨rfl,rfl,rfl,rfl,trivial⟩ ⟨rfl,trivial⟩ ⟨Nat.zero_le _,fun i hi=>absurd hi (Nat.not_lt_zero _)⟩ ?_
 rintro j τ H ⟨hj,ih⟩
 have hj:j≤cut.length:=hj
 conv=>whnf
 refine kbi (fun h2=>?_) (fun h2=>?_)
 ·have hlt:j<cut.length:=yK h2
  have hcg:cut.getD j 0=cut[j]:=by rw[List.getD_eq_getElem?_getD,List.getElem?_eq_getElem hlt];rfl
  conv=>whnf
  refine⟨encInt cut[j],zQ encInt hlt rfl,?_⟩
  have fin:∀ (hb:Prop) (hnx:cut[j]≤(wQ t (j:Nat) t.length:Int)),∀ i,i<j+1→cut.getD i 0≤(wQ t (i:Nat) t.length:Int):=fun _ hnx i hi=>by
   by_cases e:i=j
   ·subst e;rw[hcg];exact hnx
   ·exact ih i (by omega)
  generalize cut[j]=cj at *
  have h5:j=0∨j=1∨j=2∨j=3∨j=4:=by omega
  rcases h5 with rfl|rfl|rfl|rfl|rfl
  all_goals
   conv=>whnf
   refine⟨⟨by omega,by omega⟩,?_⟩
   conv=>whnf
   refine kbi (fun h3=>?_) (fun h3=>?_)
   ·have h3:=of_decide_eq_true h3
    conv=>whnf
    exact bpf fun e=>absurd (e _ hlt) (by rw[hcg];exact Int.not_le.2 h3)
   ·have h3:¬ _:=fun e=>h3 (decide_eq_true e)
    conv=>whnf
    refine⟨_,⟨hlt,fin True (Int.not_lt.1 h3)⟩,by show cut.length - (_+1)<cut.length - _;omega,⟨rfl,rfl,rfl,zJ hlt (by omega),trivial⟩,⟨rfl,trivial⟩⟩
 ·have hge:j=cut.length:=by
   have:¬ j<cut.length:=fun e=>h2 (decide_eq_true (by simp;omega))
   omega
  subst hge
  conv=>whnf
  exact bpt ih
def CloI (t:List Ev) (cut:List Int):Prop:=∀ j,j<t.length→∀ i,i<j→¬ (inC t cut j=true∧inC t cut i=false∧rG (t.getD i vE) (t.getD j vE))
theorem isCut_ok (t:List Ev) (cut:List Int) (hl:t.length≤1048576) (hT:Ths5 t) (hc:cut.length=5) :
  CallsTo EE 59 [sl (t.map encEv),sl (cut.map encInt)] (·=bp (CloI t cut)):=by
 refine callsTo_of_AW (fn:=Tryz.f59) Tryz.func59 rfl (by kernel_rfl) rfl ?_
 have hgt:∀ j (h:j<t.length),t.getD j vE=t[j]:=fun j h=>by rw[List.getD_eq_getElem?_getD,List.getElem?_eq_getElem h];rfl
 have hcg:∀ j (h:j<t.length),cut[t[j].th.toNat]?=some (cut.getD t[j].th.toNat 0):=fun j h=>by
  have:=hT _ (List.getElem_mem h)
  have hl5:t[j].th.toNat<cut.length:=by omega
  rw[List.getD_eq_getElem?_getD,List.getElem?_eq_getElem hl5];rfl
 have hin:∀ j (h:j<t.length),inC t cut j=decide ((wQ t t[j].th j:Int)<cut.getD t[j].th.toNat 0):=fun j h=>by unfold inC;rw[hgt j h]
 have hng:∀ j (h:j<t.length),((List.range t.length).map (pX t))[j]?=some (encInt (wQ t t[j].th j:Int)):=fun j h=>by simp[h,pX,hgt j h]
 conv=>whnf
 refine⟨_,nR t hl hT,?_⟩
 rintro r rfl
 conv=>whnf
 refine yN (fun j:Nat=>[(0,sl (t.map encEv)),(1,sl (cut.map encInt)),(5,sl ((List.range t.length).map (pX t))),(16,sl (t.map encEv)),(17,i64 (t.map encEv).length),(18,i64 j)])
  (fun j=>[]) (fun j=>t.length - j) (fun j=>j≤t.length∧∀ j',j'<j→∀ i,i<j'→¬ (inC t cut j'=true∧inC t cut i=false∧rG (t.getD i vE) (t.getD j' vE))) 0
  .refl ⟨rfl,rfl,rfl,rfl,rfl,rfl,trivial⟩ trivial ⟨Nat.zero_le _,fun i hi=>absurd hi (Nat.not_lt_zero _)⟩ ?_
 rintro j τ H ⟨hj,ih⟩
 have hj:j≤t.length:=hj
 conv=>whnf
 refine kbi (fun h=>?_) (fun h=>?_)
 ·have hlt:j<t.length:=yK h
  have hth:0≤t[j].th∧t[j].th<5:=hT _ (List.getElem_mem hlt)
  conv=>whnf
  refine⟨encEv t[j],zQ encEv hlt rfl,?_⟩
  conv=>whnf
  refine⟨by kernel_rfl,?_⟩
  conv=>whnf
  refine⟨encInt (wQ t t[j].th j:Int),⟨by omega,by rw[Int.toNat_natCast];exact hng j hlt,rfl⟩,?_⟩
  conv=>whnf
  refine⟨encInt (cut.getD t[j].th.toNat 0),⟨hth.1,by rw[List.getElem?_map,hcg j hlt];rfl,rfl⟩,?_⟩
  conv=>whnf
  refine kbi (fun h2=>?_) (fun h2=>?_)
  ·have h2:cut.getD t[j].th.toNat 0≤(wQ t t[j].th j:Int):=of_decide_eq_true h2
   have hwj:inC t cut j=false:=by rw[hin j hlt];exact decide_eq_false (by omega)
   conv=>whnf
   refine⟨j+1,⟨hlt,fun j' hj'=>?_⟩,by show t.length - (j+1)<t.length - j;omega,⟨rfl,rfl,rfl,rfl,rfl,zJ hlt (by omega),trivial⟩,trivial⟩
   by_cases e:j'=j
   ·subst e
    intro i hi x
    rw[hwj] at x;cases x.1
   ·exact ih j' (by omega)
  have hwj:inC t cut j=true:=by
   rw[hin j hlt]
   exact decide_eq_true (Int.not_le.1 fun e=>h2 (decide_eq_true e))
  conv=>whnf
  refine⟨⟨by omega,by omega,by simp;omega,fun c hc=>?_⟩,?_⟩
  ·obtain⟨e,_,rfl⟩:=List.mem_map.1 hc;rfl
  conv=>whnf
  refine yN (fun i:Nat=>[(0,sl (t.map encEv)),(1,sl (cut.map encInt)),(5,sl ((List.range t.length).map (pX t))),(16,sl (t.map encEv)),(17,i64 (t.map encEv).length),(18,i64 j),(8,.ptr (.n 8) 0),(35,sl ((t.take j).map encEv)),(36,i64 j),(37,i64 i)])
   (fun i=>[(.n 8,.vs 105 ((encEv t[j]).map .d))]) (fun i=>j - i) (fun i=>i≤j∧∀ i',i'<i→¬ (inC t cut j=true∧inC t cut i'=false∧rG (t.getD i' vE) (t.getD j vE))) 0
   .refl ⟨rfl,rfl,rfl,rfl,rfl,rfl,rfl,?_,?_,rfl,trivial⟩ ⟨rfl,trivial⟩ ⟨Nat.zero_le _,fun i hi=>absurd hi (Nat.not_lt_zero _)⟩ ?_
  ·show AV.d (D.sl (List.take (((j:Nat):Int).toNat - Int.toNat 0) (List.drop (Int.toNat 0) (t.map encEv))))=_
   simp[List.map_take]
  ·show AV.d (D.int IntKind.i64 ((List.take (((j:Nat):Int).toNat - Int.toNat 0) (List.drop (Int.toNat 0) (t.map encEv))).length:Int))=_
   simp;omega
  rintro i τ H ⟨hi,ih2⟩
  have hi:i≤j:=hi
  conv=>whnf
  refine kbi (fun h3=>?_) (fun h3=>?_)
  ·have hlt2:i<j:=by
    have:=of_decide_eq_true h3
    omega
   have hil:i<t.length:=by omega
   have hti:0≤t[i].th∧t[i].th<5:=hT _ (List.getElem_mem hil)
   conv=>whnf
   refine⟨encEv t[i],⟨by omega,by simp[hlt2,hil],rfl⟩,?_⟩
   conv=>whnf
   refine⟨by kernel_rfl,?_⟩
   conv=>whnf
   refine eR (hangI_ok t[i] t[j]) (fun h4=>?_) (fun h4=>?_)
   ·conv=>whnf
    refine⟨encInt (wQ t t[i].th i:Int),⟨by omega,by rw[Int.toNat_natCast];exact hng i hil,rfl⟩,?_⟩
    conv=>whnf
    refine⟨encInt (cut.getD t[i].th.toNat 0),⟨hti.1,by rw[List.getElem?_map,hcg i hil];rfl,rfl⟩,?_⟩
    conv=>whnf
    refine kbi (fun h5=>?_) (fun h5=>?_)
    ·have h5:cut.getD t[i].th.toNat 0≤(wQ t t[i].th i:Int):=of_decide_eq_true h5
     conv=>whnf
     refine bpf fun e=>e j hlt i hlt2 ⟨hwj,?_,by rw[hgt i hil,hgt j hlt];exact h4⟩
     rw[hin i hil];exact decide_eq_false (by omega)
    ·have h5:¬ cut.getD t[i].th.toNat 0≤(wQ t t[i].th i:Int):=fun e=>h5 (decide_eq_true e)
     conv=>whnf
     refine⟨i+1,⟨hlt2,fun i' hi'=>?_⟩,by show j - (i+1)<j - i;omega,⟨rfl,rfl,rfl,rfl,rfl,rfl,rfl,rfl,rfl,zJ hlt2 (by omega),trivial⟩,⟨rfl,trivial⟩⟩
     by_cases e:i'=i
     ·subst e;exact fun x=>by have:=x.2.1;rw[hin i' hil] at this;exact h5 (by have:=of_decide_eq_false this;omega)
     ·exact ih2 i' (by omega)
   ·conv=>whnf
    refine⟨i+1,⟨hlt2,fun i' hi'=>?_⟩,by show j - (i+1)<j - i;omega,⟨rfl,rfl,rfl,rfl,rfl,rfl,rfl,rfl,rfl,zJ hlt2 (by omega),trivial⟩,⟨rfl,trivial⟩⟩
    by_cases e:i'=i
    ·subst e;exact fun x=>h4 (by have:=x.2.2;rw[hgt i' hil,hgt j hlt] at this;exact this)
    ·exact ih2 i' (by omega)
  ·have hie:i=j:=by
    have:¬ i<j:=fun e=>h3 (decide_eq_true (by omega))
    omega
   subst hie
   conv=>whnf
   refine⟨i+1,⟨hlt,fun j' hj'=>?_⟩,by show t.length - (i+1)<t.length - i;omega,⟨rfl,rfl,rfl,rfl,rfl,zJ hlt (by omega),trivial⟩,trivial⟩
   by_cases e:j'=i
   ·subst e;exact ih2
   ·exact ih j' (by omega)
 ·have hge:j=t.length:=by
   have:¬ j<t.length:=fun e=>h (decide_eq_true (by simp;omega))
   omega
  subst hge
  conv=>whnf
  exact bpt ih
end Ai
namespace Ai
set_option maxRecDepth 100000
open Go Go.Proofs Cyc
def oAft (p:ProgL) (x:RunT) (s:StL):List (Key × Ob):=[(.n 3,.vs 42 ((encProg p).map .d)),(.n 4,.vs 46 ((encRT x).map .d)),(.n 6,.vs 37 [.d .nil,.d .nil,.d .nil,i64 0]),(.n 7,.vs 37 (stRef s)),(.n 900,.rs 158 6 (thRows 900 s.ths)),(.n 901,.ds 74 1 (s.cells.map encF)),(.n 902,.ds 3 1 (s.owner.map encInt))]
theorem after_ok (p:ProgL) (hp:p.wf) (hg:p.goodS) (hv:p.flt) (x:RunT) (cut:List Int) (hl:x.tr.length≤1048576) (hT:Ths5 x.tr) (hc:cut.length=5) (hR:dK p (xC p) x.tr (wsL x.tr cut)) :
  CallsTo EE 60 [agg (encProg p),agg (encRT x),sl (cut.map encInt)] (·=.own (xH (fC p (xC p) x.tr (wsL x.tr cut)))):=by
 obtain⟨b1,b2,b3,b4⟩:=hg.1
 have hok:=pJ hg
 have hri:=runI hg hv
 have hgt:∀ j (h:j<x.tr.length),x.tr.getD j vE=x.tr[j]:=fun j h=>by rw[List.getD_eq_getElem?_getD,List.getElem?_eq_getElem h];rfl
 have hcg:∀ j (h:j<x.tr.length),cut[x.tr[j].th.toNat]?=some (cut.getD x.tr[j].th.toNat 0):=fun j h=>by
  have:=hT _ (List.getElem_mem h)
  have hl5:x.tr[j].th.toNat<cut.length:=by omega
  rw[List.getD_eq_getElem?_getD,List.getElem?_eq_getElem hl5];rfl
 have hin:∀ j (h:j<x.tr.length),(wsL x.tr cut)[j]?=some (decide ((wQ x.tr x.tr[j].th j:Int)<cut.getD x.tr[j].th.toNat 0)):=fun j h=>by simp[wsL,inC,h]
 have hng:∀ j (h:j<x.tr.length),((List.range x.tr.length).map (pX x.tr))[j]?=some (encInt (wQ x.tr x.tr[j].th j:Int)):=fun j h=>by simp[h,pX,hgt j h]
 have hwsl:(wsL x.tr cut).length=x.tr.length:=by simp[wsL]
 generalize wsL x.tr cut=ws at *
 refine callsTo_of_AW (fn:=Tryz.f60) Tryz.func60 rfl (by kernel_rfl) rfl ?_
 conv=>whnf
 refine⟨_,start_ok p ⟨b1.1,by have:=b1.2;omega⟩ ⟨b2.1,by have:=b2.2;omega⟩,?_⟩
 rintro r rfl
 conv=>whnf
 refine⟨_,nR x.tr hl hT,?_⟩
 rintro r rfl
 conv=>whnf
 refine fD (fun y:Nat × StL=>[(2,sl (cut.map encInt)),(3,.ptr (.n 3) 0),(4,.ptr (.n 4) 0),(6,.ptr (.n 6) 0),(7,.ptr (.n 7) 0),(8,sl ((List.range x.tr.length).map (pX x.tr))),(21,sl (x.tr.map encEv)),(22,i64 (x.tr.map encEv).length),(23,i64 y.1)])
  (fun y=>oAft p x y.2) (fun y=>[(900,zE y.2.ths)]) (fun y=>x.tr.length - y.1)
  (fun y=>y.1≤x.tr.length∧AInv p y.2∧dK p y.2 (x.tr.drop y.1) (ws.drop y.1)∧fC p y.2 (x.tr.drop y.1) (ws.drop y.1)=fC p (xC p) x.tr ws) (0,xC p) .refl
  ⟨rfl,rfl,rfl,rfl,rfl,rfl,rfl,rfl,rfl,trivial⟩ ⟨rfl,rfl,rfl,?_,?_,?_,?_,trivial⟩ ⟨fun j=>?_,trivial⟩ ⟨Nat.zero_le _,jE hg,hR,rfl⟩ ?_
 ·show some (Ob.vs 37 [.dref (.n 900) ((xC p).ths.map wI).length,.ref (.n 901) 0 ((xC p).cells.map encF).length,.ref (.n 902) 0 ((xC p).owner.map encInt).length,i64 0])=some (Ob.vs 37 [.dref (.n 900) (xC p).ths.length,.ref (.n 901) 0 (xC p).cells.length,.ref (.n 902) 0 (xC p).owner.length,i64 0])
  rw[List.length_map,List.length_map,List.length_map]
 ·conv=>lhs;whnf
  refine congrArg some ?_
  repeat (first|exact rfl|refine yM ?_ (congrArg (Ob.rs 158 6) (zR fun _ _=>rfl)))
 ·rfl
 ·rfl
 ·conv=>lhs;whnf
  repeat (first|exact s5 (xC p) j|(refine hscrO ?_ (zH _ _ _);conv=>lhs;whnf))
 rintro⟨j,s⟩ τ H ⟨hj,hai,hr,he⟩
 have hj:j≤x.tr.length:=hj
 have hr:dK p s (x.tr.drop j) (ws.drop j):=hr
 have he:fC p s (x.tr.drop j) (ws.drop j)=_:=he
 have hai:AInv p s:=hai
 have hsm:=hok.small _ hai.si
 have hin2:SInv p s∧s.flt:=⟨hai.si,hai.fl⟩
 conv=>whnf
 refine kbi (fun h=>?_) (fun h=>?_)
 ·have hlt:j<x.tr.length:=yK h
  have hwl:j<ws.length:=by omega
  rw[List.drop_eq_getElem_cons hlt,List.drop_eq_getElem_cons hwl] at hr he
  have hth:0≤x.tr[j].th∧x.tr[j].th<5:=hT _ (List.getElem_mem hlt)
  have hwj:=hin j hlt
  rw[List.getElem?_eq_getElem hwl] at hwj
  have hwj:ws[j]=decide ((wQ x.tr x.tr[j].th j:Int)<cut.getD x.tr[j].th.toNat 0):=Option.some.inj hwj
  rw[hwj] at hr he
  conv=>whnf
  refine⟨encEv x.tr[j],zQ encEv hlt rfl,?_⟩
  conv=>whnf
  refine⟨by kernel_rfl,?_⟩
  conv=>whnf
  refine⟨encInt (wQ x.tr x.tr[j].th j:Int),⟨by omega,by rw[Int.toNat_natCast];exact hng j hlt,rfl⟩,?_⟩
  conv=>whnf
  refine⟨encInt (cut.getD x.tr[j].th.toNat 0),⟨hth.1,by rw[List.getElem?_map,hcg j hlt];rfl,rfl⟩,?_⟩
  conv=>whnf
  refine kbi (fun h2=>?_) (fun h2=>?_)
  ·rw[h2] at hr he
   have hr:x.tr[j].th.toNat∈zA p s∧dK p (zG p s x.tr[j].th.toNat).1 (x.tr.drop (j+1)) (ws.drop (j+1)):=hr
   have he:fC p (zG p s x.tr[j].th.toNat).1 (x.tr.drop (j+1)) (ws.drop (j+1))=_:=he
   have hkl:=rO hr.1
   have hst:=fun H0 hH=>stepI_ok0 toIndexI 37 p s x.tr[j].th.toNat hp hkl hsm.2 hsm.1 (hri.ready _ hin2 _ hr.1 hkl) (hri.awake _ hin2 _ hr.1 hkl) (hri.flt _ hin2 _ (List.getElem_mem hkl)) (hri.joins _ hin2 _ hr.1 hkl) H0 hH
   rw[Int.toNat_of_nonneg hth.1] at hst
   conv=>whnf
   refine .inr (.inl ⟨7,0,wE,_,hst _ ⟨rfl,rfl,?_,fun j=>?_,rfl,rfl⟩,rfl,?_⟩)
   ·show some (Ob.rs 158 6 ((((thRows 900 s.ths).map (scrPL (isK (.n 11)))).map (renL (swp (.n 7) (.l 0)))).map (scrPL fun o=>!wE o)))=_
    rw[zR (fun _ _=>rfl),qI]
    exact congrArg (fun x=>some (Ob.rs 158 6 x)) (zR fun _ _=>rfl)
   ·show Option.map (scrPO (fun o=>!wE o)) (Option.map (renO (swp (.n 7) (.l 0))) (Option.map (scrPO (isK (.n 11))) (zE s.ths j)))=zE s.ths j
    rw[zH,thFam_ren,zH]
   rintro q H1 ⟨rfl,rfl⟩
   refine⟨u0,fun n hn=>?_,?_⟩
   ·have:n=0:=by simpa[wE] using hn
    subst this
    exact⟨37,_,_,rfl,rfl⟩
   conv=>whnf
   refine⟨(j+1,(zG p s x.tr[j].th.toNat).1),_,Weak.refl,⟨hlt,uN hg hv hr.1 hai,hr.2,he⟩,by show x.tr.length - (j+1)<x.tr.length - j;omega,⟨rfl,rfl,rfl,rfl,rfl,rfl,rfl,rfl,zJ hlt (by omega),trivial⟩,⟨rfl,rfl,rfl,rfl,?_,rfl,rfl,trivial⟩,⟨fun j=>?_,trivial⟩⟩
   ·exact congrArg (fun x=>some (Ob.rs 158 6 x)) (qI 7 0 900 _)
   ·exact thFam_ren (swp (.n 7) (.l 0)) _ j
  ·have h2:decide ((wQ x.tr x.tr[j].th j:Int)<cut.getD x.tr[j].th.toNat 0)=false:=by simpa using h2
   rw[h2] at hr he
   conv=>whnf
   refine⟨(j+1,s),_,Weak.refl,⟨hlt,hai,hr,he⟩,by show x.tr.length - (j+1)<x.tr.length - j;omega,⟨rfl,rfl,rfl,rfl,rfl,rfl,rfl,rfl,zJ hlt (by omega),trivial⟩,⟨rfl,rfl,rfl,rfl,?_,rfl,rfl,trivial⟩,⟨fun j=>?_,trivial⟩⟩
   ·exact congrArg (fun x=>some (Ob.rs 158 6 x)) (zR fun _ _=>rfl)
   ·exact zH _ _ _
 ·have hge:j=x.tr.length:=by
   have:¬ j<x.tr.length:=fun e=>h (decide_eq_true (by simp;omega))
   omega
  subst hge
  rw[List.drop_length,List.drop_of_length_le (by omega)] at he
  have he:s=_:=he
  rw[← he]
  conv=>whnf
  refine .inl ⟨[agg (zX s)],[],_,⟨_,_,rfl,⟨zX s,rfl,iY ⟨rfl,fun j hj=>thFam_self hj,rfl,rfl⟩ rfl rfl rfl⟩,rfl⟩,rfl,m5 s hsm.1,?_⟩
  rintro r rfl
  refine⟨nP s,?_⟩
  conv=>whnf
  refine .inr (.inr ⟨xH s,_,Weak.refl,?_,?_,gA ⟨⟨?_,fun j q hq=>?_⟩,rfl,rfl,trivial,trivial⟩,rfl⟩)
  ·rfl
  ·intro v hv
   simp only[xH,List.mem_cons,List.not_mem_nil,or_false] at hv
   rcases hv with rfl|rfl|rfl|rfl
   ·show(s.ths.map wI).length=(s.ths.map stk).length
    simp
   ·trivial
   ·trivial
   ·trivial
  ·first|rfl|(conv=>lhs;whnf)
  ·have hq:(s.ths.map stk)[j]?=some q:=hq
   have e:ownH (xH s) (.s 900 j)=some (.ds 74 1 q):=by
    show((s.ths.map stk)[j]?).map (Ob.ds 74 1)=_
    rw[hq];rfl
   show(match ownH (xH s) (.s 900 j) with|some ob=>some ob|none=>_)=_
   rw[e]
end Ai
namespace Ai
set_option maxRecDepth 100000
open Go Go.Proofs Cyc
def st0:StL:=⟨[],[],[],0⟩
theorem eQ {p:ProgL} (hv:p.flt) {x:RunT} (h:aJ p x) {cut:List Int} (hc:CloT x.tr cut):dK p (xC p) x.tr (wsL x.tr cut):=by
 refine aM idxDown h.1 hv x.tr _ [] (xC p) (xC p) (Sim.refl _) (jE h.1) (jE h.1) (isRn_evs h) (oJ x.tr _ [] (fun d hd=>by cases hd) ?_)
 intro j hj hw i hi hf hh
 have hgt:∀ j (h:j<x.tr.length),x.tr.getD j vE=x.tr[j]:=fun j h=>by rw[List.getD_eq_getElem?_getD,List.getElem?_eq_getElem h];rfl
 have hil:i<x.tr.length:=by omega
 refine hc j hj i hi ⟨?_,?_,by rw[hgt i hil,hgt j hj];exact hh⟩
 ·simpa[wsL,hj] using hw
 ·simpa[wsL,hil] using hf
theorem clo_same {p:ProgL} (hv:p.flt) {x:RunT} (h:aJ p x) {cut:List Int}:CloT x.tr cut↔CloI x.tr cut:=by
 have hgt:∀ j (h:j<x.tr.length),x.tr.getD j vE∈x.tr:=fun j h=>by rw[List.getD_eq_getElem?_getD,List.getElem?_eq_getElem h];exact List.getElem_mem h
 constructor
 ·intro hc j hj i hi ⟨a,b,c⟩
  exact hc j hj i hi ⟨a,b,(d5 hv h (hgt i (by omega)) (hgt j hj)).2 c⟩
 ·intro hc j hj i hi ⟨a,b,c⟩
  exact hc j hj i hi ⟨a,b,(d5 hv h (hgt i (by omega)) (hgt j hj)).1 c⟩
theorem isRn_ths {p:ProgL} (hv:p.flt) {x:RunT} (h:aJ p x):Ths5 x.tr:=fun e he=>(o0 hv h e he).2
open Classical in
/-- the answer of CutAfter -/
noncomputable def gH (p:ProgL) (x:RunT) (cut:List Int):StL × Bool :=
 if aJ p x∧sA cut∧rZ x.tr cut∧CloT x.tr cut then (fC p (xC p) x.tr (wsL x.tr cut),true) else (st0,false)
theorem CutAfterS_ok (p:ProgL) (hp:p.wf) (hs:p.rs.length≤1048576∧∀ x∈p.rs,x.length≤1048576) (hv:p.flt) (hc:p.cn) (x:RunT) (hx:x.fit) (hf:x.s.cf) (cut:List Int) (hl:cut.length≤1048576) :
  CallsTo EE 11 [agg (encProg p),agg (encRT x),sl (cut.map encInt)] (·=.tup [agg (zX (gH p x cut).1),bv (gH p x cut).2]):=by
 classical
 unfold gH
 refine callsTo_of_AW (fn:=Tryz.f11) Tryz.func11 rfl (by kernel_rfl) rfl ?_
 conv=>whnf
 refine ocase (GoodProgS_ok p hs hv) (fun hg=>?_) (fun hg=>?_)
 rotate_left 1
 ·rw[if_neg fun e=>hg e.1.1]
  conv=>whnf
  rfl
 conv=>whnf
 refine ocase (l4Is_ok p hp hg hv hc x hx hf) (fun hi=>?_) (fun hi=>?_)
 rotate_left 1
 ·rw[if_neg fun e=>hi e.1]
  conv=>whnf
  rfl
 conv=>whnf
 refine ocase (i9 cut hl) (fun h2=>?_) (fun h2=>?_)
 rotate_left 1
 ·rw[if_neg fun e=>h2 e.2.1]
  conv=>whnf
  rfl
 conv=>whnf
 have htl:x.tr.length≤1048576:=by have:=hi.2.1;omega
 have hT:=isRn_ths hv hi
 refine⟨_,i8 x.tr cut htl hT h2.1,?_⟩
 rintro r (⟨hfit,rfl⟩|⟨hfit,rfl⟩)
 rotate_left 1
 ·rw[if_neg fun e=>hfit e.2.2.1]
  conv=>whnf
  rfl
 conv=>whnf
 refine ocase (l18Is_ok x.tr cut htl) (fun h3=>?_) (fun h3=>?_)
 rotate_left 1
 ·rw[if_neg fun e=>h3 e.2.2.2]
  conv=>whnf
  rfl
 rw[if_pos ⟨hi,h2,hfit,h3⟩]
 conv=>whnf
 refine⟨_,l18After_ok p hp hg hv x _ htl (by simp[wsL]) hT (eQ hv hi h3),?_⟩
 rintro r rfl
 conv=>whnf
 rfl
theorem dD (p:ProgL) (hp:p.wf) (hs:p.rs.length≤1048576∧∀ x∈p.rs,x.length≤1048576) (hv:p.flt) (hc:p.cn) (x:RunT) (hx:x.fit) (hf:x.s.cf) (cut:List Int) (hl:cut.length≤1048576) :
  CallsTo EE 15 [agg (encProg p),agg (encRT x),sl (cut.map encInt)] (fun r=>(∃ s,gH p x cut=(s,true)∧r=.ownF 5 (xH s++[bv true]))∨(gH p x cut=(st0,false)∧r=.tup [agg (zX st0),bv false])):=by
 classical
 have hno:∀ e:¬ (aJ p x∧sA cut∧rZ x.tr cut∧CloT x.tr cut),gH p x cut=(st0,false):=fun e=>if_neg e
 refine callsTo_of_AW (fn:=Tryz.f15) Tryz.func15 rfl (by kernel_rfl) rfl ?_
 conv=>whnf
 refine ocase (isRunI_ok p hp hs hv hc x hx hf) (fun hi=>?_) (fun hi=>?_)
 rotate_left 1
 ·conv=>whnf
  exact .inr ⟨hno fun e=>hi e.1,rfl⟩
 conv=>whnf
 have htl:x.tr.length≤1048576:=by have:=hi.2.1;omega
 have hT:=isRn_ths hv hi
 refine ocase (areCounts_ok cut hl) (fun h2=>?_) (fun h2=>?_)
 rotate_left 1
 ·conv=>whnf
  exact .inr ⟨hno fun e=>h2 e.2.1,rfl⟩
 conv=>whnf
 refine ocase (areOf_ok x.tr cut htl hT h2.1) (fun h3=>?_) (fun h3=>?_)
 rotate_left 1
 ·conv=>whnf
  exact .inr ⟨hno fun e=>h3 e.2.2.1,rfl⟩
 conv=>whnf
 refine ocase (isCut_ok x.tr cut htl hT h2.1) (fun h4=>?_) (fun h4=>?_)
 rotate_left 1
 ·conv=>whnf
  exact .inr ⟨hno fun e=>h4 ((clo_same hv hi).1 e.2.2.2),rfl⟩
 have h5:=(clo_same hv hi).2 h4
 have hyes:gH p x cut=(fC p (xC p) x.tr (wsL x.tr cut),true):=if_pos ⟨hi,h2,h3,h5⟩
 conv=>whnf
 refine⟨_,after_ok p hp hi.1 hv x cut htl hT h2.1 (eQ hv hi h5),?_⟩
 generalize fC p (xC p) x.tr (wsL x.tr cut)=s at hyes
 rintro r rfl
 conv=>whnf
 refine .inr ⟨5,xH s++[bv true],_,[.agg (stRef s),bv true],Weak.refl,?_,by simp,?_,?_,gA ⟨⟨?_,fun j q hq=>?_⟩,?_,?_,trivial,trivial,trivial⟩,.inl ⟨s,hyes,rfl⟩⟩
 ·show some [AV.agg [.dref (.n 900) (s.ths.map wI).length,.ref (.n 901) 0 (s.cells.map encF).length,.ref (.n 902) 0 (s.owner.map encInt).length,i64 s.fault],bv true]=_
  simp only[List.length_map]
  rfl
 ·show AV.tup [AV.agg [.dref (.n 900) (s.ths.map wI).length,.ref (.n 901) 0 (s.cells.map encF).length,.ref (.n 902) 0 (s.owner.map encInt).length,i64 s.fault],bv true]=_
  simp only[List.length_map]
  rfl
 ·intro v hv
  simp only[xH,List.mem_append,List.mem_cons,List.not_mem_nil,or_false] at hv
  rcases hv with (rfl|rfl|rfl|rfl)|rfl
  all_goals first|trivial|(show(s.ths.map wI).length=(s.ths.map stk).length;simp)
 ·first|rfl|(show some (Ob.rs 158 6 (thRows 900 s.ths))=some (Ob.rs 158 6 (thRows 900 s.ths));rfl)
 ·have hq:(s.ths.map stk)[j]?=some q:=hq
  have e:ownH (xH s) (.s 900 j)=some (.ds 74 1 q):=by
   show((s.ths.map stk)[j]?).map (Ob.ds 74 1)=_
   rw[hq];rfl
  show(match ownH (xH s) (.s 900 j) with|some ob=>some ob|none=>_)=_
  rw[e]
 ·rfl
 ·rfl
end Ai
namespace Ai
set_option maxRecDepth 100000
open Go Go.Proofs
def eO (xs:List Th) (k j:Nat):List AV:=if j<k then (match xs[j]? with|some t=>thRow 900 j t|none=>[]) else [i64 0,i64 0,i64 0,i64 0,i64 0,.d .nil]
def uI (xs:List Th) (k:Nat):List (List AV):=(List.range xs.length).map (eO xs k)
def rN (xs:List Th) (k j:Nat):Option Ob:=if j<k then zE xs j else none
theorem rowsH_map {xs:List Th} {i i':Nat} (f:List AV→List AV) (h:∀ j,j<xs.length→f (eO xs i j)=eO xs i' j):(uI xs i).map f=uI xs i':=by
 unfold uI
 rw[List.map_map]
 exact List.map_congr_left fun j hj=>h j (by simpa using hj)
theorem rowsH_zero (xs:List Th):uI xs 0=List.replicate xs.length [i64 0,i64 0,i64 0,i64 0,i64 0,.d .nil]:=by
 apply List.ext_getElem?
 intro j
 by_cases h:j<xs.length
 ·simp[uI,eO,h]
 ·rw[List.getElem?_eq_none (by simp[uI];omega),List.getElem?_eq_none (by simp;omega)]
theorem q9 {p:Key→Bool} (xs:List Th) (i:Nat) (hp:∀ j,p (.s 900 j)=false):(uI xs i).map (scrPL p)=uI xs i :=
 rowsH_map _ fun j hj=>by
  unfold eO
  split
  ·rw[List.getElem?_eq_getElem hj]
   exact yG (hp j)
  ·rfl
theorem famH_ren (f:Key→Key) (xs:List Th) (i j:Nat):(rN xs i j).map (renO f)=rN xs i j:=by
 unfold rN
 split
 ·exact thFam_ren _ _ _
 ·rfl
theorem famH_scr (p:Key→Bool) (xs:List Th) (i j:Nat):(rN xs i j).map (scrPO p)=rN xs i j:=by
 unfold rN
 split
 ·exact zH _ _ _
 ·rfl
theorem rowsH_end (xs:List Th):uI xs xs.length=thRows 900 xs:=by
 apply List.ext_getElem?
 intro j
 by_cases h:j<xs.length
 ·rw[yR h]
  simp[uI,eO,h]
 ·rw[List.getElem?_eq_none (by simp[uI];omega),List.getElem?_eq_none (by rw[zU];omega)]
theorem famH_end (xs:List Th) (j:Nat):rN xs xs.length j=zE xs j:=by
 unfold rN
 split
 ·rfl
 ·rename_i h
  exact(thFam_ge (by omega)).symm
theorem rowsH_put {xs:List Th} {k:Nat} (h:k<xs.length):((yW (uI xs k) 6 k 0 [i64 xs[k].rt,i64 xs[k].pc,i64 xs[k].st,i64 xs[k].cond,i64 xs[k].lock,.ref (.n 905) 0 (stk xs[k]).length]).map (renL (swp (.n 905) (.s 900 k))))=uI xs (k+1):=by
 have hlen:(uI xs k).length=xs.length:=by simp[uI]
 apply List.ext_getElem?
 intro j
 by_cases hj:j=k
 ·subst hj
  rw[List.getElem?_map,wD (c:=eO xs j j) (c':=[i64 xs[j].rt,i64 xs[j].pc,i64 xs[j].st,i64 xs[j].cond,i64 xs[j].lock,.ref (.n 905) 0 (stk xs[j]).length]) (by simp[uI,h]) (by unfold eO;rw[if_neg (by omega)];rfl)]
  have e:swp (.n 905) (.s 900 j) (.n 905)=.s 900 j:=by simp[swp,Key.beq]
  simp[uI,eO,h,renL,ren,e,thRow,stk]
 ·by_cases hl:j<xs.length
  ·rw[List.getElem?_map,jY hj (c:=eO xs k j) (by simp[uI,hl])]
   simp only[uI,List.getElem?_map,List.getElem?_range hl,Option.map_some,Option.some.injEq]
   unfold eO
   by_cases hjk:j<k
   ·rw[if_pos hjk,if_pos (by omega),List.getElem?_eq_getElem hl]
    exact sH (by omega)
   ·rw[if_neg hjk,if_neg (by omega)]
    rfl
  ·rw[List.getElem?_eq_none (by simp[yW];simp[hlen];omega),List.getElem?_eq_none (by simp[uI];omega)]
theorem y1 (xs:List Th) (hx:xs.length≤1048576) (hx2:∀ x∈xs,x.stack.length≤1048576):CallsTo EE 110 [sl (xs.map zD)] (·=.ownF 1 [.uqd 158 6 5 74 1 (xs.map wI) (xs.map stk)]):=by
 refine cQ (fun v hv=>?_) ?_
 ·simp only[List.mem_cons,List.not_mem_nil,or_false] at hv
  subst hv
  show(xs.map _).length=(xs.map _).length
  simp
 refine xN (fn:=Tryz.f110) (c:=Tryz.f110.body.getD .skip) Tryz.func110 rfl (by kernel_rfl) rfl ?_
 conv=>whnf
 refine⟨by simp;omega,?_⟩
 conv=>whnf
 refine fD (fun k:Nat=>[(0,sl (xs.map zD)),(3,.dref (.n 900) xs.length),(4,i64 k)]) (fun k=>[(.n 900,.rs 158 6 (uI xs k))]) (fun k=>[(900,rN xs k)]) (fun k=>xs.length - k) (fun k=>k≤xs.length) 0
  ((aX (.n 7) rfl).trans (wV 7 900)) ?_ ?_ ?_ (Nat.zero_le _) ?_
 ·exact⟨rfl,by show AV.dref (.n 900) (((xs.map zD).length:Nat):Int).toNat=_;simp,rfl,trivial⟩
 ·refine⟨?_,trivial⟩
  show some (Ob.rs 158 6 (((List.replicate (((xs.map zD).length:Nat):Int).toNat [di 0,di 0,di 0,di 0,di 0,D.nil]).map (List.map AV.d)).map (renL (swp (.n 7) (.n 900)))))=_
  rw[rowsH_zero]
  simp[renL,ren]
 ·refine⟨fun j=>?_,trivial⟩
  unfold rN
  rw[if_neg (by omega)]
  rfl
 intro k τ H hk
 have hk:k≤xs.length:=hk
 conv=>whnf
 refine kbi (fun h=>?_) (fun h=>?_)
 ·have hlt:=yK h
  conv=>whnf
  refine⟨zD xs[k],zQ zD hlt rfl,?_⟩
  conv=>whnf
  refine⟨_,n9 xs[k] (hx2 _ (List.getElem_mem hlt)),?_⟩
  rintro r rfl
  conv=>whnf
  refine⟨⟨by omega,by omega⟩,?_⟩
  conv=>whnf
  refine⟨k+1,_,uS 905 900 k,by show k+1≤xs.length;omega,by show xs.length - (k+1)<xs.length - k;omega,⟨rfl,rfl,zJ hlt (by omega),trivial⟩,⟨?_,trivial⟩,⟨fun j=>?_,trivial⟩⟩
  ·show some (Ob.rs 158 6 ((yW ((uI xs k).map (scrPL fun κ=>(ownH [i64 xs[k].rt,i64 xs[k].pc,i64 xs[k].st,i64 xs[k].cond,i64 xs[k].lock,.uq 74 1 (stk xs[k])] κ).isSome)) 6 ((k:Int)).toNat 0 [i64 xs[k].rt,i64 xs[k].pc,i64 xs[k].st,i64 xs[k].cond,i64 xs[k].lock,.ref (.n 905) 0 (stk xs[k]).length]).map (renL (swp (.n 905) (.s 900 k)))))=_
   rw[q9 _ _ (fun j=>rfl),Int.toNat_natCast,rowsH_put hlt]
  ·show(St.H _ (swp (.n 905) (.s 900 k) (.s 900 j))).map _=_
   by_cases hj:j=k
   ·subst hj
    have e:swp (.n 905) (.s 900 j) (.s 900 j)=.n 905:=by simp[swp,Key.beq]
    rw[e]
    unfold rN
    rw[if_pos (by omega),thFam_self hlt]
    rfl
   ·have e:swp (.n 905) (.s 900 k) (.s 900 j)=.s 900 j:=by simp[swp,Key.beq,nbeq_ne hj]
    rw[e]
    show Option.map _ (Option.map _ (rN xs k j))=_
    rw[famH_scr,famH_ren]
    unfold rN
    by_cases hjk:j<k
    ·rw[if_pos hjk,if_pos (by omega)]
    ·rw[if_neg hjk,if_neg (by omega)]
 ·have hkk:k=xs.length:=by
   have:¬ k<xs.length:=by simpa using h
   omega
  subst hkk
  conv=>whnf
  refine⟨_,Weak.refl,?_⟩
  conv=>whnf
  refine⟨lend9,?_,fun κ hκ=>?_⟩
  ·show AV.dref (.n 900) xs.length=AV.dref (.n 900) (xs.map _).length
   rw[List.length_map]
  ·cases κ with
   |l n=>exact absurd rfl hκ
   |n q =>
    by_cases hq:q=900
    ·subst hq
     show some (Ob.rs 158 6 ((uI xs xs.length).map (scrPL (fun o=>!lend9 o))))=some (Ob.rs 158 6 (ownRows 900 5 (xs.map wI) (xs.map stk)))
     rw[q9 _ _ (fun j=>rfl),rowsH_end];rfl
    ·exact absurd (own1_n hq) hκ
   |s o j =>
    by_cases hq:o=900
    ·subst hq
     show Option.map _ (rN xs xs.length j)=((xs.map stk)[j]?).map (Ob.ds 74 1)
     rw[famH_scr,famH_end]
     simp[zE]
     rfl
    ·exact absurd (own1_s hq) hκ
theorem toState_own (s:StL) (h:s.fit):CallsTo EE 55 [agg (zX s)] (·=.own (xH s)):=by
 refine callsTo_of_AW (fn:=Tryz.f55) Tryz.func55 rfl (by kernel_rfl) rfl ?_
 conv=>whnf
 refine⟨_,y1 s.ths h.ths h.st,?_⟩
 rintro r rfl
 conv=>whnf
 refine⟨_,gN s.cells h.cells,?_⟩
 rintro r rfl
 refine .inr ⟨_,rfl,?_⟩
 conv=>whnf
 refine⟨_,vW s.owner h.owner,?_⟩
 rintro r rfl
 refine .inr ⟨_,rfl,?_⟩
 conv=>whnf
 refine .inr (.inr ⟨xH s,_,(wV 10 901).trans (wV 14 902),?_,?_,gA ⟨⟨?_,fun j q hq=>?_⟩,?_,?_,trivial,trivial⟩,rfl⟩)
 ·rfl
 ·intro v hv
  simp only[xH,List.mem_cons,List.not_mem_nil,or_false] at hv
  rcases hv with rfl|rfl|rfl|rfl
  ·show(s.ths.map wI).length=(s.ths.map stk).length
   simp
  ·trivial
  ·trivial
  ·trivial
 ·show some (Ob.rs 158 6 (((((thRows 900 s.ths).map (scrPL (isK (.n 10)))).map (scrPL (isK (.n 14)))).map (renL (swp (.n 10) (.n 901)))).map (renL (swp (.n 14) (.n 902)))))=some (Ob.rs 158 6 (thRows 900 s.ths))
  rw[uH,uH,vI,vI]
 ·have hq:(s.ths.map stk)[j]?=some q:=hq
  have e:ownH [AV.uqd 158 6 5 74 1 (s.ths.map wI) (s.ths.map stk)] (.s 900 j)=some (.ds 74 1 q):=by
   show((s.ths.map stk)[j]?).map (Ob.ds 74 1)=_
   rw[hq];rfl
  show Option.map _ (Option.map _ (Option.map _ (Option.map _ (match ownH [AV.uqd 158 6 5 74 1 (s.ths.map wI) (s.ths.map stk)] (.s 900 j) with|some ob=>some ob|none=>_))))=_
  rw[e];rfl
 ·rfl
 ·rfl
def eW (x:RunT):List AV:=[i64 x.c,.uq 105 5 (x.tr.map encEv),.uq 3 1 (x.tk.map encInt),.uqd 158 6 5 74 1 (x.s.ths.map wI) (x.s.ths.map stk),.uq 74 1 (x.s.cells.map encF),.uq 3 1 (x.s.owner.map encInt),.d (di x.s.fault)]
theorem toRun_own (x:RunT) (h:x.fit):CallsTo EE 13 [agg (encRT x)] (·=.own (eW x)):=by
 refine callsTo_of_AW (fn:=Tryz.f13) Tryz.func13 rfl (by kernel_rfl) rfl ?_
 conv=>whnf
 refine⟨_,tS x.tr h.tr,?_⟩
 rintro r rfl
 refine .inr ⟨_,rfl,?_⟩
 conv=>whnf
 refine⟨_,vW x.tk h.tk,?_⟩
 rintro r rfl
 refine .inr ⟨_,rfl,?_⟩
 conv=>whnf
 refine⟨_,toState_own x.s h.s,?_⟩
 rintro r rfl
 conv=>whnf
 refine .inr (.inr ⟨eW x,_,(uK shA).trans ((wV 9 901).trans (wV 13 902)),?_,?_,gA ⟨trivial,?_,?_,⟨?_,fun j q hq=>?_⟩,?_,?_,trivial,trivial⟩,rfl⟩)
 ·rfl
 ·intro v hv
  simp only[eW,List.mem_cons,List.not_mem_nil,or_false] at hv
  rcases hv with rfl|rfl|rfl|rfl|rfl|rfl|rfl
  ·trivial
  ·trivial
  ·trivial
  ·show(x.s.ths.map wI).length=(x.s.ths.map stk).length
   simp
  ·trivial
  ·trivial
  ·trivial
 ·rfl
 ·rfl
 ·show some (Ob.rs 158 6 ((((thRows 900 x.s.ths).map (renL shA.f)).map (renL (swp (.n 9) (.n 901)))).map (renL (swp (.n 13) (.n 902)))))=some (Ob.rs 158 6 (thRows 903 x.s.ths))
  rw[show(thRows 900 x.s.ths).map (renL shA.f)=thRows 903 x.s.ths from fJ (g:=numA) (hg:=sY) 900 x.s.ths]
  show some (Ob.rs 158 6 (((thRows 903 x.s.ths).map (renL (swp (.n 9) (.n 901)))).map (renL (swp (.n 13) (.n 902)))))=_
  rw[vI,vI]
 ·have hq:(x.s.ths.map stk)[j]?=some q:=hq
  have e:ownH (xH x.s) (.s 900 j)=some (.ds 74 1 q):=by
   show((x.s.ths.map stk)[j]?).map (Ob.ds 74 1)=_
   rw[hq];rfl
  show Option.map _ (Option.map _ (Option.map _ (match ownH (xH x.s) (.s 900 j) with|some ob=>some ob|none=>_)))=_
  rw[e];rfl
 ·rfl
 ·rfl
end Ai
namespace Ai
set_option maxRecDepth 100000
open Go Go.Proofs
theorem mZ (els:List (List D)) (k:Int) (n:Nat) (hn:n=els.length) (hx:n≤1048576) (h0:0≤k) (h1:k≤1073741824) (H0:Key→Option Ob) (hH:H0 (.n 50)=some (.ds 74 1 els)) :
  IOCall EE 68 [.ref (.n 50) 0 n,i64 k] H0 (fun r H1=>r=i64 (k+n)∧∀ κ,H1 κ=none):=by
 refine xN (fn:=Tryz.f68) (c:=Tryz.f68.body.getD .skip) Tryz.func68 rfl (by kernel_rfl) rfl ?_
 have hat:At [(0,.ref (.n 50) 0 n),(1,i64 k)] [(.n 50,.ds 74 1 els)] [] ⟨fun i=>[AV.ref (.n 50) 0 n,i64 k].getD i .junk,H0⟩:=⟨⟨rfl,rfl,trivial⟩,⟨hH,trivial⟩,trivial⟩
 obtain⟨τ,H,hf⟩:=hat.form
 rw[hf]
 conv=>whnf
 refine yN (fun x:Nat × List (List D)=>[(0,.ref (.n 50) 0 n),(1,i64 (k+(x.1:Int))),(5,i64 x.1)]) (fun x=>[(.n 50,.ds 74 1 x.2)]) (fun x=>n - x.1) (fun x=>x.1≤n∧x.2.length=n) (0,els)
  Weak.refl ⟨rfl,?_,rfl,trivial⟩ ⟨rfl,trivial⟩ ⟨Nat.zero_le _,hn.symm⟩ ?_
 ·show i64 k=i64 (k+((0:Nat):Int))
  rw[show k+((0:Nat):Int)=k by omega]
 rintro⟨i,E⟩ τ H ⟨hi,hE⟩
 have hi:i≤n:=hi
 have hE:E.length=n:=hE
 conv=>whnf
 refine kbi (fun h=>?_) (fun h=>?_)
 ·have hlt:i<n:=by simpa using h
  conv=>whnf
  refine⟨⟨by show 0≤(i:Int);omega,by show(i:Int)<n;omega⟩,?_⟩
  conv=>whnf
  refine⟨(i+1,xY E 1 (0+(i:Int).toNat) 0 [.flt (FloatKind.f64.nearest (k+(i:Int)))]),⟨by show i+1≤n;omega,?_⟩,by show n - (i+1)<n - i;omega,⟨rfl,?_,?_,trivial⟩,⟨rfl,trivial⟩⟩
  ·dsimp only
   rw[vX,hE]
  ·show AV.d (.int .i64 (IntKind.i64.wrap (k+(i:Int)+1)))=i64 (k+((i+1:Nat):Int))
   rw[zK (by omega) (by omega)]
   exact congrArg i64 (by omega)
  ·show AV.d (.int .i64 (IntKind.i64.wrap ((i:Int)+1)))=i64 ((i+1:Nat):Int)
   rw[zK (by omega) (by omega)]
   rfl
 ·conv=>whnf
  have hkk:i=n:=by
   have:¬ i<n:=by simpa using h
   omega
  subst hkk
  refine⟨_,Weak.refl,?_⟩
  conv=>whnf
  exact⟨fun _=>false,rfl,fun κ=>rfl⟩
theorem pE {sz:Nat} {els:List (List D)} {k off:Nat} {x:D} (h:∀ c∈els,c.length=sz) (hs:sz≠1) (ho:off<sz):∀ c∈xY els sz k off [x],c.length=sz:=by
 intro c hc
 unfold xY at hc
 rw[show Nat.beq ([x]:List D).length sz=false from by rw[Bool.eq_false_iff];intro e;exact hs (Nat.eq_of_beq_eq_true e).symm,Bool.and_false] at hc
 obtain⟨i,hi,rfl⟩:=List.mem_iff_getElem.1 hc
 have hil:i<els.length:=by simpa using hi
 have h4:=h _ (List.getElem_mem hil)
 simp only[cond_false,List.getElem_modify]
 split
 ·rw[nK _ _ (by omega)];exact h4
 ·exact h4
theorem y6 (els:List (List D)) (k:Int) (n:Nat) (hn:n=els.length) (hx:n≤1048576) (h4:∀ c∈els,c.length=5) (h0:0≤k) (h1:k≤1073741824) (H0:Key→Option Ob) (hH:H0 (.n 901)=some (.ds 105 5 els)) :
  IOCall EE 66 [.ref (.n 901) 0 n,i64 k] H0 (fun r H1=>r=i64 (k+5*n)∧∀ κ,H1 κ=none):=by
 refine xN (fn:=Tryz.f66) (c:=Tryz.f66.body.getD .skip) Tryz.func66 rfl (by kernel_rfl) rfl ?_
 have hat:At [(0,.ref (.n 901) 0 n),(1,i64 k)] [(.n 901,.ds 105 5 els)] [] ⟨fun i=>[AV.ref (.n 901) 0 n,i64 k].getD i .junk,H0⟩:=⟨⟨rfl,rfl,trivial⟩,⟨hH,trivial⟩,trivial⟩
 obtain⟨τ,H,hf⟩:=hat.form
 rw[hf]
 conv=>whnf
 refine yN (fun x:Nat × List (List D)=>[(0,.ref (.n 901) 0 n),(1,i64 (k+5*(x.1:Int))),(5,i64 x.1)]) (fun x=>[(.n 901,.ds 105 5 x.2)]) (fun x=>n - x.1) (fun x=>x.1≤n∧x.2.length=n∧∀ c∈x.2,c.length=5) (0,els)
  Weak.refl ⟨rfl,?_,rfl,trivial⟩ ⟨rfl,trivial⟩ ⟨Nat.zero_le _,hn.symm,h4⟩ ?_
 ·show i64 k=i64 (k+5*((0:Nat):Int))
  rw[show k+5*((0:Nat):Int)=k by omega]
 rintro⟨i,E⟩ τ H ⟨hi,hE,hE4⟩
 have hi:i≤n:=hi
 have hE:E.length=n:=hE
 have hE4:∀ c∈E,c.length=5:=hE4
 conv=>whnf
 refine kbi (fun h=>?_) (fun h=>?_)
 ·have hlt:i<n:=by simpa using h
  conv=>whnf
  iterate 5
   refine⟨⟨by show 0≤(i:Int);omega,by show(i:Int)<n;omega⟩,?_⟩
   conv=>whnf
  refine⟨(i+1,xY (xY (xY (xY (xY E 5 (0+(i:Int).toNat) (0+0) [.int .i64 (k+5*(i:Int))]) 5 (0+(i:Int).toNat) (0+1) [.int .i64 (IntKind.i64.wrap (k+5*(i:Int)+1))]) 5 (0+(i:Int).toNat) (0+2) [.int .i64 (IntKind.i64.wrap (IntKind.i64.wrap (k+5*(i:Int)+1)+1))]) 5 (0+(i:Int).toNat) (0+3) [.int .i64 (IntKind.i64.wrap (IntKind.i64.wrap (IntKind.i64.wrap (k+5*(i:Int)+1)+1)+1))]) 5 (0+(i:Int).toNat) (0+4) [.int .i64 (IntKind.i64.wrap (IntKind.i64.wrap (IntKind.i64.wrap (IntKind.i64.wrap (k+5*(i:Int)+1)+1)+1)+1))]),⟨by show i+1≤n;omega,?_,?_⟩,by show n - (i+1)<n - i;omega,⟨rfl,?_,?_,trivial⟩,⟨rfl,trivial⟩⟩
  ·dsimp only
   rw[vX,vX,vX,vX,vX,hE]
  ·dsimp only
   refine pE (pE (pE (pE (pE hE4 ?_ ?_) ?_ ?_) ?_ ?_) ?_ ?_) ?_ ?_ <;> omega
  ·show AV.d (.int .i64 (IntKind.i64.wrap (IntKind.i64.wrap (IntKind.i64.wrap (IntKind.i64.wrap (IntKind.i64.wrap ((k+5*(i:Int))+1)+1)+1)+1)+1)))=i64 (k+5*((i+1:Nat):Int))
   rw[zK (n:=k+5*(i:Int)+1) (by omega) (by omega),zK (n:=k+5*(i:Int)+1+1) (by omega) (by omega),zK (n:=k+5*(i:Int)+1+1+1) (by omega) (by omega),zK (n:=k+5*(i:Int)+1+1+1+1) (by omega) (by omega),zK (n:=k+5*(i:Int)+1+1+1+1+1) (by omega) (by omega)]
   exact congrArg i64 (by omega)
  ·show AV.d (.int .i64 (IntKind.i64.wrap ((i:Int)+1)))=i64 ((i+1:Nat):Int)
   rw[zK (by omega) (by omega)]
   rfl
 ·conv=>whnf
  have hkk:i=n:=by
   have:¬ i<n:=by simpa using h
   omega
  subst hkk
  refine⟨_,Weak.refl,?_⟩
  conv=>whnf
  exact⟨fun _=>false,rfl,fun κ=>rfl⟩
end Ai
namespace Ai
set_option maxRecDepth 100000
open Go Go.Proofs
def zT (xs:List Th) (i:Nat):Nat:=((xs.take i).map fun t=>5+t.stack.length).sum
theorem lV {xs:List Th} {i:Nat} (h:i<xs.length):zT xs (i+1)=zT xs i+(5+xs[i].stack.length):=by
 unfold zT
 rw[List.take_succ_eq_append_getElem h,List.map_append,List.sum_append]
 simp
theorem lW (xs:List Th) (i:Nat):zT xs i≤zT xs xs.length:=by
 unfold zT
 rw[List.take_length]
 have:∀ (l:List Nat) (i:Nat),(l.take i).sum≤l.sum:=by
  intro l
  induction l with
  |nil=>simp
  |cons x xs ih =>
   intro i
   cases i with
   |zero=>simp
   |succ i=>simp only[List.take_succ_cons,List.sum_cons];have:=ih i;omega
 rw[List.map_take]
 exact this _ i
def rowX (k:Int) (xs:List Th) (i j:Nat):List AV:=if j<i then [i64 (k+(zT xs j:Int)),i64 (k+(zT xs j:Int)+1),i64 (k+(zT xs j:Int)+2),i64 (k+(zT xs j:Int)+3),i64 (k+(zT xs j:Int)+4),.junk] else (match xs[j]? with|some t=>thRow 903 j t|none=>[])
def pK (k:Int) (xs:List Th) (i:Nat):List (List AV):=(List.range xs.length).map (rowX k xs i)
def rM (xs:List Th) (i j:Nat):Option Ob:=if j<i then none else zE xs j
theorem mF {k:Int} {xs:List Th} {i j:Nat} (h:j<xs.length):(pK k xs i)[j]?=some (rowX k xs i j):=by simp[pK,h]
theorem sO {k:Int} {xs:List Th} {i:Nat}:(pK k xs i).length=xs.length:=by simp[pK]
theorem rowsX_zero (k:Int) (xs:List Th):pK k xs 0=thRows 903 xs:=by
 apply List.ext_getElem?
 intro j
 by_cases h:j<xs.length
 ·rw[yR h,mF h]
  simp[rowX,h]
 ·rw[List.getElem?_eq_none (by rw[sO];omega),List.getElem?_eq_none (by rw[zU];omega)]
theorem rL (f:Key→Key) (xs:List Th) (i j:Nat):(rM xs i j).map (renO f)=rM xs i j:=by
 unfold rM
 split
 ·rfl
 ·exact thFam_ren _ _ _
theorem famX_scr (p:Key→Bool) (xs:List Th) (i j:Nat):(rM xs i j).map (scrPO p)=rM xs i j:=by
 unfold rM
 split
 ·rfl
 ·exact zH _ _ _
def eS (R:List (List AV)) (i:Nat) (v0 v1 v2 v3 v4:AV):List (List AV) :=
 yW (yW (yW (yW (yW R 6 (i:Int).toNat (0+0) [v0]) 6 (i:Int).toNat (0+1) [v1]) 6 (i:Int).toNat (0+2) [v2]) 6 (i:Int).toNat (0+3) [v3]) 6 (i:Int).toNat (0+4) [v4]
theorem put5_eq {R:List (List AV)} {i:Nat} {v0 v1 v2 v3 v4 a0 a1 a2 a3 a4 a5:AV} (h:R[i]?=some [a0,a1,a2,a3,a4,a5]):(eS R i v0 v1 v2 v3 v4)[i]?=some [v0,v1,v2,v3,v4,a5]:=by
 unfold eS
 rw[Int.toNat_natCast]
 exact wD (wD (wD (wD (wD h rfl) rfl) rfl) rfl) rfl
theorem put5_ne {R:List (List AV)} {i j:Nat} {v0 v1 v2 v3 v4:AV} {c:List AV} (hj:j≠i) (h:R[j]?=some c):(eS R i v0 v1 v2 v3 v4)[j]?=some c:=by
 unfold eS
 rw[Int.toNat_natCast]
 exact jY hj (jY hj (jY hj (jY hj (jY hj h))))
theorem dU {X:List (List AV)} {sz k off:Nat} {xs:List AV}:(yW X sz k off xs).length=X.length:=by
 unfold yW
 cases (Nat.beq off 0&&Nat.beq xs.length sz) <;> simp
theorem put5_len {R:List (List AV)} {i:Nat} {v0 v1 v2 v3 v4:AV}:(eS R i v0 v1 v2 v3 v4).length=R.length:=by
 unfold eS
 rw[dU,dU,dU,dU,dU]
theorem iE (xs:List Th) (k:Int) (hx:xs.length≤1048576) (hs:∀ t∈xs,t.stack.length≤1048576) (ht:zT xs xs.length≤8388608) (h0:0≤k) (h1:k≤67108864) (H0:Key→Option Ob)
  (hH:H0 (.n 903)=some (.rs 158 6 (thRows 903 xs))) (hF:∀ j,H0 (.s 903 j)=zE xs j) :
  IOCall EE 67 [.dref (.n 903) xs.length,i64 k] H0 (fun r H1=>r=i64 (k+zT xs xs.length)∧∀ κ,H1 κ=none):=by
 refine xN (fn:=Tryz.f67) (c:=Tryz.f67.body.getD .skip) Tryz.func67 rfl (by kernel_rfl) rfl ?_
 have hat:At [(0,.dref (.n 903) xs.length),(1,i64 k)] [(.n 903,.rs 158 6 (thRows 903 xs))] [(903,rM xs 0)] ⟨fun i=>[AV.dref (.n 903) xs.length,i64 k].getD i .junk,H0⟩:=⟨⟨rfl,rfl,trivial⟩,⟨hH,trivial⟩,⟨fun j=>(hF j).trans rfl,trivial⟩⟩
 obtain⟨τ,H,hf⟩:=hat.form
 rw[hf]
 conv=>whnf
 refine fD (fun i:Nat=>[(0,.dref (.n 903) xs.length),(1,i64 (k+(zT xs i:Int))),(5,i64 i)]) (fun i=>[(.n 903,.rs 158 6 (pK k xs i))]) (fun i=>[(903,rM xs i)]) (fun i=>xs.length - i) (fun i=>i≤xs.length) 0
  Weak.refl ⟨rfl,?_,rfl,trivial⟩ ⟨?_,trivial⟩ ⟨fun j=>?_,trivial⟩ (Nat.zero_le _) ?_
 ·show i64 k=i64 (k+((zT xs 0:Nat):Int))
  rw[show k+((zT xs 0:Nat):Int)=k by simp[zT]]
 ·rw[rowsX_zero];rfl
 ·rfl
 intro i τ H hi
 have hi:i≤xs.length:=hi
 have hti:=lW xs i
 conv=>whnf
 refine kbi (fun h=>?_) (fun h=>?_)
 ·have hlt:i<xs.length:=by simpa using h
  conv=>whnf
  have hrow:rowX k xs i i=thRow 903 i xs[i]:=by unfold rowX;rw[if_neg (by omega),List.getElem?_eq_getElem hlt]
  have hfi:rM xs i i=some (.ds 74 1 (stk xs[i])):=by unfold rM;rw[if_neg (by omega),thFam_self hlt]
  iterate 5
   refine⟨⟨by omega,by omega⟩,?_⟩
   conv=>whnf
  have w1:IntKind.i64.wrap (k+(zT xs i:Int)+1)=k+(zT xs i:Int)+1:=zK (by omega) (by omega)
  have w2:IntKind.i64.wrap (k+(zT xs i:Int)+1+1)=k+(zT xs i:Int)+2:=by rw[zK (by omega) (by omega)];omega
  have w3:IntKind.i64.wrap (k+(zT xs i:Int)+2+1)=k+(zT xs i:Int)+3:=by rw[zK (by omega) (by omega)];omega
  have w4:IntKind.i64.wrap (k+(zT xs i:Int)+3+1)=k+(zT xs i:Int)+4:=by rw[zK (by omega) (by omega)];omega
  have w5:IntKind.i64.wrap (k+(zT xs i:Int)+4+1)=k+(zT xs i:Int)+5:=by rw[zK (by omega) (by omega)];omega
  refine⟨⟨by omega,by omega⟩,?_⟩
  conv=>whnf
  have hget:(eS (pK k xs i) i (i64 (k+(zT xs i:Int))) (i64 (k+(zT xs i:Int)+1)) (i64 (k+(zT xs i:Int)+2)) (i64 (k+(zT xs i:Int)+3)) (i64 (k+(zT xs i:Int)+4)))[i]?=some [i64 (k+(zT xs i:Int)),i64 (k+(zT xs i:Int)+1),i64 (k+(zT xs i:Int)+2),i64 (k+(zT xs i:Int)+3),i64 (k+(zT xs i:Int)+4),.ref (.s 903 i) 0 xs[i].stack.length] :=
   put5_eq (by rw[mF hlt,hrow];rfl)
  rw[w1,w2,w3,w4,w5]
  refine⟨[i64 (k+(zT xs i:Int)),i64 (k+(zT xs i:Int)+1),i64 (k+(zT xs i:Int)+2),i64 (k+(zT xs i:Int)+3),i64 (k+(zT xs i:Int)+4),.ref (.s 903 i) 0 xs[i].stack.length],⟨?_,by show 0+5+1≤6;omega⟩,?_⟩
  ·rw[← hget,Int.toNat_natCast];rfl
  conv=>whnf
  have hsw:swp (.n 50) (.s 903 i) (.s 903 i)=.n 50:=by simp[swp,Key.beq]
  have hts:=lV hlt
  have hti2:=lW xs (i+1)
  have hst:=hs _ (List.getElem_mem hlt)
  split
  case' h_1=>conv=>whnf
  case' h_1=>refine .inr (.inr (.inr (.inl ?_)))
  case' h_2=>refine .inr (.inr (.inl ?_))
  all_goals
   refine⟨_,68,[],uS 50 903 i,rfl,999,0,isK (.n 50),(fun r H1=>r=i64 ((k+(zT xs i:Int)+5)+(xs[i].stack.length:Nat))∧∀ κ,H1 κ=none),?_,rfl,?_⟩
   ·refine xO (mZ (stk xs[i]) (k+(zT xs i:Int)+5) xs[i].stack.length (by simp[stk]) hst (by omega) (by omega) _ ?_) ?_
    ·show Option.map _ (Option.map _ (Option.map _ (rM xs i i)))=_
     rw[hfi]
     rfl
    ·show[scrP _ (.ref (swp (.n 999) (.l 0) (swp (.n 50) (.s 903 i) (.s 903 i))) 0 xs[i].stack.length),_]=_
     rw[hsw]
     rfl
   ·rintro r H1 ⟨rfl,q⟩
    refine⟨fun κ _=>q κ,fun n hn=>(by cases hn),?_⟩
    conv=>whnf
    have hne:∀ j,j≠i→swp (.n 50) (.s 903 i) (.s 903 j)=.s 903 j:=fun j hj=>by simp[swp,Key.beq,nbeq_ne hj]
    refine⟨i+1,_,uS 50 903 i,by show i+1≤xs.length;omega,by show xs.length - (i+1)<xs.length - i;omega,⟨rfl,?_,?_,trivial⟩,⟨?_,trivial⟩,⟨fun j=>?_,trivial⟩⟩
    ·show i64 (k+((zT xs i:Nat):Int)+5+((xs[i].stack.length:Nat):Int))=i64 (k+((zT xs (i+1):Nat):Int))
     rw[hts]
     exact congrArg i64 (by omega)
    ·show AV.d (.int .i64 (IntKind.i64.wrap ((i:Int)+1)))=i64 ((i+1:Nat):Int)
     rw[zK (by omega) (by omega)]
     rfl
    ·show some (Ob.rs 158 6 ((((((eS (pK k xs i) i (i64 (k+(zT xs i:Int))) (i64 (k+(zT xs i:Int)+1)) (i64 (k+(zT xs i:Int)+2)) (i64 (k+(zT xs i:Int)+3)) (i64 (k+(zT xs i:Int)+4))).map (renL (swp (.n 50) (.s 903 i)))).map (renL (swp (.n 999) (.l 0)))).map (scrPL (xQ (isK (.n 50))))).map (renL (swp (.n 999) (.l 0)))).map (renL (swp (.n 50) (.s 903 i)))))=some (Ob.rs 158 6 (pK k xs (i+1)))
     rw[List.map_map,List.map_map,List.map_map,List.map_map]
     refine congrArg (fun x=>some (Ob.rs 158 6 x)) (List.ext_getElem? fun j=>?_)
     by_cases hl:j<xs.length
     ·rw[mF hl,List.getElem?_map]
      by_cases hj:j=i
      ·subst hj
       rw[hget]
       unfold rowX
       rw[if_pos (by omega)]
       show some (renL _ (renL _ (scrPL _ (renL _ [_,_,_,_,_,AV.ref (swp (.n 50) (.s 903 j) (.s 903 j)) 0 _]))))=_
       rw[hsw]
       rfl
      ·rw[put5_ne hj (mF hl)]
       unfold rowX
       by_cases hji:j<i
       ·rw[if_pos hji,if_pos (by omega)]
        rfl
       ·rw[if_neg hji,if_neg (by omega),List.getElem?_eq_getElem hl]
        show some (renL _ (renL _ (scrPL _ (renL _ [_,_,_,_,_,AV.ref (swp (.n 50) (.s 903 i) (.s 903 j)) 0 _]))))=_
        rw[hne j hj]
        show some [_,_,_,_,_,AV.ref (swp (.n 50) (.s 903 i) (.s 903 j)) 0 _]=_
        rw[hne j hj]
        rfl
     ·rw[List.getElem?_eq_none (by rw[List.length_map,put5_len,sO];omega),List.getElem?_eq_none (by rw[sO];omega)]
    ·show(St.H _ (swp (.n 50) (.s 903 i) (.s 903 j))).map _=_
     by_cases hj:j=i
     ·subst hj
      rw[hsw]
      show Option.map _ (Option.map _ (H1 (.n 50)))=_
      rw[q]
      unfold rM
      rw[if_pos (by omega)]
      rfl
     ·rw[hne j hj]
      show Option.map _ (Option.map _ (Option.map _ (Option.map _ (Option.map _ (St.H _ (swp (.n 50) (.s 903 i) (.s 903 j)))))))=_
      rw[hne j hj]
      show Option.map _ (Option.map _ (Option.map _ (Option.map _ (Option.map _ (rM xs i j)))))=_
      rw[rL,rL,famX_scr,rL,rL]
      unfold rM
      by_cases hji:j<i
      ·rw[if_pos hji,if_pos (by omega)]
      ·rw[if_neg hji,if_neg (by omega)]
 ·conv=>whnf
  have hkk:i=xs.length:=by
   have:¬ i<xs.length:=by simpa using h
   omega
  subst hkk
  refine⟨_,Weak.refl,?_⟩
  conv=>whnf
  exact⟨fun _=>false,rfl,fun κ=>rfl⟩
end Ai
