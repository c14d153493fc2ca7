import Derived.Test.YtbfdknfodpcdnaaGreatZD
set_option maxHeartbeats 8000000
set_option linter.unusedVariables false
set_option linter.unusedSimpArgs false
namespace Ai
set_option maxRecDepth 100000
open Go Go.Proofs Ieee
def F64 (x:Nat):Prop:=x<18446744073709551616
theorem nearest_f64 (s:Bool) (m:Nat) (i:Int):F64 (double.nearest s m i):=by
 unfold F64 Format.nearest
 have e1:double.signWeight=9223372036854775808:=by decide
 have e2:double.infRung=9218868437227405312:=by decide
 split
 ·unfold Format.word;rw[e1];split <;> omega
 ·unfold Format.word
  rw[e1,e2]
  simp only
  generalize (max (i+↑m.log2 - ↑double.fractionBits) double.leastPlace - double.leastPlace).toNat*double.binade+Toward.even.cut s (m <<< (i - max (i+↑m.log2 - ↑double.fractionBits) double.leastPlace).toNat) (max (i+↑m.log2 - ↑double.fractionBits) double.leastPlace - i).toNat=r
  split <;> omega
theorem y4 (d:Datum):F64 (double.write d):=by
 cases d with
 |number s m i=>exact nearest_f64 s m i
 |infinity s=>unfold F64 Format.write Format.word;cases s <;> decide
 |nan s f =>
  show(if s=true then double.signWeight+(double.infRung+f % double.binade) else double.infRung+f % double.binade)<18446744073709551616
  rw[show double.signWeight=9223372036854775808 by decide,show double.infRung=9218868437227405312 by decide,show double.binade=4503599627370496 by decide]
  split <;> omega
theorem nearN_f64 (n:Int):F64 (FloatKind.f64.nearest n):=y4 (.number (n<0) n.natAbs 0)
theorem fop_f64 (op:BinOp) (x y:Nat):F64 (fop op x y):=by
 have hn:F64 nanC:=by unfold F64;decide
 have key:∀ o:Option Datum,F64 ((o.map double.write).getD nanC):=by
  intro o
  cases o with
  |none=>exact hn
  |some d=>exact y4 d
 unfold fop floatBits
 cases op <;> first|exact hn|exact key _
theorem reckon_f64 (c:Int) (x y:Nat):F64 (yV c x y):=by
 unfold yV
 repeat' split
 all_goals first|exact fop_f64 _ _ _|(unfold F64 oneF;decide)|(unfold F64;decide)
def StL.flt (s:StL):Prop:=(∀ c∈s.cells,F64 c)∧∀ t∈s.ths,∀ x∈t.stack,F64 x
theorem vK {s:StL} {k:Nat} {t:Th} (h:s.flt) (ht:∀ x∈t.stack,F64 x):(s.put k t).flt:=by
 refine⟨h.1,fun u hu=>?_⟩
 rcases List.mem_or_eq_of_mem_set hu with e|e
 ·exact h.2 u e
 ·subst e;exact ht
theorem topN_f64 {t:Th} {o:OpL} {i:Nat} (h:∀ x∈t.stack,F64 x):F64 (xL t o i):=m6 h
theorem flt_do {s:StL} {k:Nat} {o:OpL} {e:Ev} (hk:k<s.ths.length) (h:s.flt) (ho:F64 o.v):(doL s k o e).1.flt:=by
 have hgd:s.ths.getD k th0=s.ths[k]:=by simp[List.getD_eq_getElem?_getD,hk]
 have ht:=h.2 _ (List.getElem_mem hk)
 generalize s.ths[k]=t at *
 unfold doL
 simp only[hgd]
 have hpop:∀ x∈(zJ t o).stack,F64 x:=fun x hx=>ht x (List.mem_of_mem_take hx)
 have hpush:∀ v,F64 v→∀ x∈(zY (zJ t o) v).stack,F64 x:=by
  intro v hv x hx
  rcases List.mem_append.1 hx with e|e
  ·exact hpop x e
  ·simp only[List.mem_cons,List.not_mem_nil,or_false] at e
   subst e;exact hv
 by_cases n1:o.code=1
 ·rw[if_pos n1];exact vK h (hpush _ ho)
 rw[if_neg n1]
 by_cases n2:o.code=2
 ·rw[if_pos n2]
  refine vK h (hpush _ ?_)
  rw[List.getD_eq_getElem?_getD]
  cases hg:s.cells[o.a.toNat]? with
  |none=>unfold F64;decide
  |some c=>exact h.1 c (List.mem_of_getElem? hg)
 rw[if_neg n2]
 by_cases n3:o.code=3
 ·rw[if_pos n3]
  refine vK ⟨fun c hc=>?_,h.2⟩ hpop
  rcases List.mem_or_eq_of_mem_set hc with e|e
  ·exact h.1 c e
  ·subst e;exact topN_f64 ht
 rw[if_neg n3]
 by_cases n10:o.code=10
 ·rw[if_pos n10];exact vK h hpop
 rw[if_neg n10]
 by_cases n11:o.code=11
 ·rw[if_pos n11]
  refine vK h ?_
  split
  ·exact hpop
  ·exact hpop
 rw[if_neg n11]
 by_cases n12:o.code=12
 ·rw[if_pos n12];exact vK (s:={ s with owner:=_ }) h hpop
 rw[if_neg n12]
 by_cases n13:o.code=13
 ·rw[if_pos n13];exact vK (s:={ s with owner:=_ }) h hpop
 rw[if_neg n13]
 by_cases n14:o.code=14
 ·rw[if_pos n14]
  refine vK (s:={ s with ths:=_ }) ⟨h.1,fun u hu=>?_⟩ (hpush _ (nearN_f64 _))
  rcases List.mem_append.1 hu with e|e
  ·exact h.2 u e
  ·simp only[List.mem_cons,List.not_mem_nil,or_false] at e
   subst e;intro x hx;cases hx
 rw[if_neg n14]
 by_cases n15:o.code=15
 ·rw[if_pos n15];exact vK h hpop
 rw[if_neg n15]
 by_cases n16:o.code=16
 ·rw[if_pos n16];exact vK (s:={ s with owner:=_ }) h hpop
 rw[if_neg n16]
 by_cases n17:o.code=17
 ·rw[if_pos n17]
  cases vE s.ths o.a with
  |none=>exact vK h hpop
  |some j =>
   refine vK (s:={ s with ths:=_ }) ⟨h.1,fun u hu=>?_⟩ hpop
   obtain⟨i,hi,rfl⟩:=List.mem_iff_getElem.1 hu
   have hil:i<s.ths.length:=by simpa using hi
   have:=h.2 _ (List.getElem_mem hil)
   rw[List.getElem_modify]
   split
   ·exact this
   ·exact this
 rw[if_neg n17]
 exact vK h (hpush _ (reckon_f64 _ _ _))
theorem flt_step {p:ProgL} (hv:p.flt) {s:StL} {k:Nat} (hk:k<s.ths.length) (h:s.flt):(zP p s k).1.flt:=by
 have hgd:s.ths.getD k th0=s.ths[k]:=by simp[List.getD_eq_getElem?_getD,hk]
 have ht:=h.2 _ (List.getElem_mem hk)
 unfold zP
 simp only[hgd]
 split
 ·exact vK (s:={ s with owner:=_ }) h ht
 ·split
  ·exact vK h ht
  ·rename_i o hn
   split
   ·refine flt_do hk h ?_
    unfold yP at hn
    by_cases hr:s.ths[k].rt.toNat<p.rs.length
    ·have e:p.rs.getD s.ths[k].rt.toNat []=p.rs[s.ths[k].rt.toNat]:=by rw[List.getD_eq_getElem?_getD,List.getElem?_eq_getElem hr];rfl
     rw[e] at hn
     exact hv _ (List.getElem_mem hr) o (List.mem_of_getElem? hn)
    ·have e:p.rs.getD s.ths[k].rt.toNat []=[]:=by rw[List.getD_eq_getElem?_getD,List.getElem?_eq_none (by omega)];rfl
     rw[e] at hn
     simp at hn
   ·exact h
theorem flt_new (p:ProgL):(yQ p).flt:=by
 refine⟨fun c hc=>?_,fun t ht=>?_⟩
 ·obtain⟨_,rfl⟩:=List.mem_replicate.1 hc
  unfold F64;decide
 ·have:t=kA 0:=by simpa[yQ] using ht
  subst this
  intro x hx;cases hx
theorem goes_st {p:ProgL} {s:StL} {k:Nat} (h:k∈zA p s) (hk:k<s.ths.length):s.ths[k].st=1∨s.ths[k].st=4:=by
 have:=(List.mem_filter.1 h).2
 unfold qP at this
 have this:=of_decide_eq_true this
 simp only[List.getD_eq_getElem?_getD,List.getElem?_eq_getElem hk,Option.getD_some] at this
 exact this.2.1
theorem joins_top {s:StL} {k:Nat} {o:OpL} (hk:k<s.ths.length) (hf:yK s k o=0) (h15:o.code=15):∃ j,xC (xL s.ths[k] o 0) s.ths.length=some j∧yI s s.ths[k]=some j:=by
 have hgd:s.ths.getD k th0=s.ths[k]:=by simp[List.getD_eq_getElem?_getD,hk]
 unfold yK at hf
 simp only[hgd] at hf
 generalize s.ths[k]=t at *
 have ht:zC o.code=(1,0):=by rw[h15];decide
 rw[ht] at hf
 simp only at hf
 split at hf
 ·cases hf
 rename_i h1
 have hl:1≤t.stack.length:=by
  have:=fun e=>h1 (.inl e)
  omega
 split at hf
 ·cases hf
 split at hf
 ·cases hf
 rename_i h3
 have hj:¬ (yI s t).getD (-1)<0:=fun e=>h3 ⟨h15,e⟩
 have hkn:yN t o=t.stack.length - 1:=by simp[yN,vC,ht]
 have htop:t.stack.getLast?=some (xL t o 0):=by
  unfold xL
  rw[hkn,List.getLast?_eq_getElem?,List.getD_eq_getElem?_getD,List.getElem?_drop]
  rw[Nat.add_zero,List.getElem?_eq_getElem (by omega)]
  rfl
 unfold yI at hj ⊢
 rw[htop] at hj ⊢
 simp only[Option.bind_some] at hj ⊢
 cases hi:xC (xL t o 0) s.ths.length with
 |none=>rw[hi] at hj;exact absurd (by decide) hj
 |some j=>exact⟨j,rfl,rfl⟩
theorem runI {p:ProgL} (hg:p.goodS) (hv:p.flt):RunI p (fun s=>SInv p s∧s.flt):={
 small:=fun s h=>(tM hg).small s h.1
 seen:=fun s h=>(tM hg).seen s h.1
 ready:=fun s h=>(tM hg).ready s h.1
 awake:=fun s h k hk hl=>by
  have:=goes_st hk hl
  omega
 flt:=fun s h=>h.2.2
 joins:=fun s h k hk hl o hn hf h15=>joins_top hl hf h15
 step:=fun s h k hk=>by
  have:k<s.ths.length:=by have:=(List.mem_filter.1 hk).1;simpa using this
  exact⟨(tM hg).step s h.1 k hk,flt_step hv this h.2⟩ }
theorem oP (p:ProgL) (hp:p.wf) (hg:p.goodS) (hv:p.flt) (picks:List Int) (budget:Int) (hpk:∀ i∈picks,0≤i) (hl:picks.length≤1048576) (hb:InR budget 0 1048576) :
  CallsTo EE 175 [agg (encProg p),sl (picks.map encInt),i64 budget] (·=agg (fS p picks budget (budget.toNat+1) (yQ p) [] [])):=by
 obtain⟨b1,b2,b3,b4⟩:=hg.1
 exact n8 toIndexI p hp ⟨b1.1,by have:=b1.2;omega⟩ ⟨b2.1,by have:=b2.2;omega⟩ _ ⟨pR hg,flt_new p⟩ (runI hg hv) picks budget hpk hl hb
end Ai
namespace Ai.Cyc
structure BS where
 out:List Nat
 queue:List Nat
 far:List (Nat × Nat)
deriving DecidableEq
def setF (l:List (Nat × Nat)) (k v:Nat):List (Nat × Nat):=if l.any (fun p=>p.1==k)=true then l.map (fun p=>if p.1==k then (k,v) else p) else l++[(k,v)]
def getF (l:List (Nat × Nat)) (k:Nat):Nat:=((l.find? fun p=>p.1==k).map (·.2)).getD 0
def bsE (goal cur:Nat) (st:BS) (e:Nat × Nat):BS :=
 if (e.2 != cur || decide (0<st.out.getD e.1 0))=true then st
 else if (e.1 != goal)=true then ⟨st.out.set e.1 (getF st.far cur+1),st.queue++[e.1],setF st.far e.1 (getF st.far cur+1)⟩
 else ⟨st.out.set e.1 (getF st.far cur+1),st.queue,st.far⟩
def bs0 (goal:Nat):BS:=⟨List.replicate 100 0,[goal],[(goal,0)]⟩
def iX (goal:Nat) (edges:List (Nat × Nat)):Nat→Nat→BS→Option BS
 | 0,_,_=>none
 |f+1,i,st=>if i<st.queue.length then iX goal edges f (i+1) (edges.foldl (bsE goal (st.queue.getD i 0)) st) else some st
def nextI (edges:List (Nat × Nat)) (far:List Nat) (n at_ left:Nat):Nat :=
 edges.foldl (fun nx e=>if (e.1==at_&&e.2 != n&&far.getD e.2 0==left)=true then min nx e.2 else nx) 100
def wayI (edges:List (Nat × Nat)) (far:List Nat) (n:Nat):Nat→List Nat→Nat→List Nat
 | 0,out,_=>out
 |left+1,out,at_=>wayI edges far n left (out++[nextI edges far n at_ (left+1)]) (nextI edges far n at_ (left+1))
def cycI (edges:List (Nat × Nat)) (n:Nat):Option (List Nat) :=
 match iX n edges 7 0 (bs0 n) with
 |none=>none
 |some st=>if st.out.getD n 0=0 then some [] else some (wayI edges st.out n (st.out.getD n 0 - 1) [n] n)
def wayS (edges:List (Nat × Nat)) (to:Nat):Nat→Nat→List (List Nat)→List Nat→Option (List Nat)
 | 0,_,_,_=>none
 |f+1,i,ways,seen =>
  if i<ways.length then
   match edges.find? (fun e=>e.1==(ways.getD i []).getLastD 0) with
   |none=>wayS edges to f (i+1) ways seen
   |some e=>if e.2=to then some (ways.getD i []) else if seen.contains e.2=true then wayS edges to f (i+1) ways seen
     else wayS edges to f (i+1) (ways++[ways.getD i []++[e.2]]) (seen++[e.2])
  else some []
def cycS (edges:List (Nat × Nat)) (n:Nat):Option (List Nat):=wayS edges n 8 0 [[n]] []
def opts:List (Option Nat):=[none,some 0,some 1,some 2,some 3,some 4]
def ed (k:Nat) (o:Option Nat):List (Nat × Nat):=match o with|some b=>[(k,b)]|none=>[]
def ok (edges:List (Nat × Nat)):Bool:=(List.range 5).all fun n=>(cycI edges n).isSome&&cycI edges n==cycS edges n
def dJ (a:Option Nat):Bool:=opts.all fun b=>opts.all fun c=>opts.all fun d=>opts.all fun e=>ok (ed 0 a++ed 1 b++ed 2 c++ed 3 d++ed 4 e)
theorem okN:dJ none=true:=by decide +kernel
theorem ok0:dJ (some 0)=true:=by decide +kernel
theorem ok1:dJ (some 1)=true:=by decide +kernel
theorem ok2:dJ (some 2)=true:=by decide +kernel
theorem ok3:dJ (some 3)=true:=by decide +kernel
theorem ok4:dJ (some 4)=true:=by decide +kernel
theorem ok_all (a b c d e:Option Nat) (ha:a∈opts) (hb:b∈opts) (hc:c∈opts) (hd:d∈opts) (he:e∈opts):ok (ed 0 a++ed 1 b++ed 2 c++ed 3 d++ed 4 e)=true:=by
 have h:dJ a=true:=by
  simp only[opts,List.mem_cons,List.not_mem_nil,or_false] at ha
  rcases ha with rfl|rfl|rfl|rfl|rfl|rfl
  ·exact okN
  ·exact ok0
  ·exact ok1
  ·exact ok2
  ·exact ok3
  ·exact ok4
 simp only[dJ,List.all_eq_true] at h
 exact h b hb c hc d hd e he
end Ai.Cyc
namespace Ai.Cyc
theorem f8 {goal cur:Nat}:∀ (es:List (Nat × Nat)) (st:BS),(∀ e∈es,e.2≠cur)→es.foldl (bsE goal cur) st=st
 | [],st,h=>rfl
 |e::es,st,h=>by
  have:bsE goal cur st e=st:=by
   unfold bsE
   rw[if_pos (by rw[Bool.or_eq_true];exact .inl (bne_iff_ne.2 (h e List.mem_cons_self)))]
  rw[List.foldl_cons,this]
  exact f8 es st fun x hx=>h x (List.mem_cons_of_mem _ hx)
theorem run_far {n:Nat} {edges:List (Nat × Nat)} (h:∀ e∈edges,e.2≠n):iX n edges 7 0 (bs0 n)=some (bs0 n):=by
 unfold iX
 rw[if_pos (by simp[bs0])]
 rw[show(bs0 n).queue.getD 0 0=n from rfl,f8 edges _ h]
 unfold iX
 rw[if_neg (by simp[bs0])]
theorem cycI_far {n:Nat} {edges:List (Nat × Nat)} (h:∀ e∈edges,e.2≠n):cycI edges n=some []:=by
 unfold cycI
 rw[run_far h]
 have:(bs0 n).out.getD n 0=0:=by
  simp only[bs0,List.getD_eq_getElem?_getD,List.getElem?_replicate]
  split <;> rfl
 show(if (bs0 n).out.getD n 0=0 then some [] else _)=_
 rw[if_pos this]
theorem cycS_far {n:Nat} {edges:List (Nat × Nat)} (h:∀ e∈edges,e.1≠n):cycS edges n=some []:=by
 have hf:edges.find? (fun e=>e.1==n)=none:=by
  rw[List.find?_eq_none]
  intro e he
  simpa using h e he
 unfold cycS wayS
 rw[if_pos (by simp)]
 have:(([[n]]:List (List Nat)).getD 0 []).getLastD 0=n:=rfl
 rw[this,hf]
 unfold wayS
 rw[if_neg (by simp)]
structure Graph (edges:List (Nat × Nat)):Prop where
 g:∃ a b c d e:Option Nat,(a∈opts∧b∈opts∧c∈opts∧d∈opts∧e∈opts)∧edges=ed 0 a++ed 1 b++ed 2 c++ed 3 d++ed 4 e
theorem ed_in {k:Nat} {o:Option Nat} (ho:o∈opts) (hk:k<5):∀ e∈ed k o,e.1<5∧e.2<5:=by
 intro e he
 simp only[opts,List.mem_cons,List.not_mem_nil,or_false] at ho
 rcases ho with rfl|rfl|rfl|rfl|rfl|rfl <;> simp[ed] at he <;> subst he <;> exact⟨hk,by simp⟩
theorem Graph.small {edges:List (Nat × Nat)} (h:Graph edges):∀ e∈edges,e.1<5∧e.2<5:=by
 obtain⟨a,b,c,d,e,⟨ha,hb,hc,hd,he⟩,rfl⟩:=h.g
 intro x hx
 simp only[List.mem_append] at hx
 rcases hx with (((hx|hx)|hx)|hx)|hx
 ·exact ed_in ha (by decide) x hx
 ·exact ed_in hb (by decide) x hx
 ·exact ed_in hc (by decide) x hx
 ·exact ed_in hd (by decide) x hx
 ·exact ed_in he (by decide) x hx
theorem iS (k:Nat) (o:Option Nat):(ed k o).length≤1:=by cases o <;> simp[ed]
theorem Graph.len {edges:List (Nat × Nat)} (h:Graph edges):edges.length≤5:=by
 obtain⟨a,b,c,d,e,-,rfl⟩:=h.g
 simp only[List.length_append]
 have:=iS 0 a;have:=iS 1 b;have:=iS 2 c;have:=iS 3 d;have:=iS 4 e
 omega
theorem Graph.same {edges:List (Nat × Nat)} (h:Graph edges) (n:Nat):(cycI edges n).isSome=true∧cycI edges n=cycS edges n:=by
 by_cases hn:n<5
 ·obtain⟨a,b,c,d,e,⟨ha,hb,hc,hd,he⟩,rfl⟩:=h.g
  have:=ok_all a b c d e ha hb hc hd he
  simp only[ok,List.all_eq_true,List.mem_range,Bool.and_eq_true,beq_iff_eq] at this
  exact this n hn
 ·have h1:cycI edges n=some []:=cycI_far fun e he=>by have:=h.small e he;omega
  have h2:cycS edges n=some []:=cycS_far fun e he=>by have:=h.small e he;omega
  rw[h1,h2]
  exact⟨rfl,rfl⟩
theorem Graph.run {edges:List (Nat × Nat)} (h:Graph edges) (n:Nat):(iX n edges 7 0 (bs0 n)).isSome=true:=by
 have:=(h.same n).1
 unfold cycI at this
 cases hr:iX n edges 7 0 (bs0 n) with
 |none=>rw[hr] at this;cases this
 |some x=>rfl
end Ai.Cyc
namespace Ai
set_option maxRecDepth 100000
open Go Go.Proofs Cyc
def y2 (s:StL):Prop:=∀ x∈s.owner,-1≤x∧x<s.ths.length
theorem wE {s:StL} {k:Nat} {t:Th} (h:y2 s):y2 (s.put k t):=by
 intro x hx
 have:=h x hx
 simpa[StL.put] using this
theorem pI {s:StL} {i:Nat} {v:Int} (h:y2 s) (hv:-1≤v∧v<s.ths.length):y2 { s with owner:=s.owner.set i v }:=by
 intro x hx
 rcases List.mem_or_eq_of_mem_set hx with e|e
 ·exact h x e
 ·subst e;exact hv
theorem oinv_do {s:StL} {k:Nat} {o:OpL} {e:Ev} (hk:k<s.ths.length) (h:y2 s):y2 (doL s k o e).1:=by
 unfold doL
 simp only
 generalize s.ths.getD k th0=t at *
 by_cases n1:o.code=1
 ·rw[if_pos n1];exact wE h
 rw[if_neg n1]
 by_cases n2:o.code=2
 ·rw[if_pos n2];exact wE h
 rw[if_neg n2]
 by_cases n3:o.code=3
 ·rw[if_pos n3];exact wE (s:={ s with cells:=_ }) h
 rw[if_neg n3]
 by_cases n10:o.code=10
 ·rw[if_pos n10];exact wE h
 rw[if_neg n10]
 by_cases n11:o.code=11
 ·rw[if_pos n11];exact wE h
 rw[if_neg n11]
 by_cases n12:o.code=12
 ·rw[if_pos n12];exact wE (pI h ⟨by omega,by omega⟩)
 rw[if_neg n12]
 by_cases n13:o.code=13
 ·rw[if_pos n13];exact wE (pI h ⟨by omega,by omega⟩)
 rw[if_neg n13]
 by_cases n14:o.code=14
 ·rw[if_pos n14]
  refine wE (s:={ s with ths:=_ }) fun x hx=>?_
  have:=h x hx
  refine⟨this.1,?_⟩
  show x<((s.ths++[kA o.a]).length:Int)
  simp;omega
 rw[if_neg n14]
 by_cases n15:o.code=15
 ·rw[if_pos n15];exact wE h
 rw[if_neg n15]
 by_cases n16:o.code=16
 ·rw[if_pos n16];exact wE (pI h ⟨by omega,by omega⟩)
 rw[if_neg n16]
 by_cases n17:o.code=17
 ·rw[if_pos n17]
  cases vE s.ths o.a with
  |none=>exact wE h
  |some j =>
   refine wE (s:={ s with ths:=_ }) fun x hx=>?_
   have:=h x hx
   refine⟨this.1,?_⟩
   show x<((s.ths.modify j fun u=>{ u with st:=4 }).length:Int)
   simp;omega
 rw[if_neg n17]
 exact wE h
theorem oinv_step {p:ProgL} {s:StL} {k:Nat} (hk:k<s.ths.length) (h:y2 s):y2 (zP p s k).1:=by
 unfold zP
 simp only
 split
 ·exact wE (pI h ⟨by omega,by omega⟩)
 ·split
  ·exact wE h
  ·split
   ·exact oinv_do hk h
   ·exact h
theorem oinv_new (p:ProgL):y2 (yQ p):=by
 intro x hx
 obtain⟨_,rfl⟩:=List.mem_replicate.1 hx
 simp[yQ]
end Ai
namespace Ai
set_option maxRecDepth 100000
open Go Go.Proofs Cyc
def GTh (p:ProgL) (t:Th):Prop:=((t.st=1∨t.st=2)∧t.cond=-1∧t.lock=-1)∨((t.st=3∨t.st=4)∧0≤t.cond∧t.cond<p.conds∧0≤t.lock∧t.lock<p.locks)
structure GInv (p:ProgL) (s:StL):Prop where
 ths:∀ t∈s.ths,GTh p t
 ne:1≤s.ths.length
 fault:InR s.fault 0 4
theorem wF {p:ProgL} {s:StL} {k:Nat} {t:Th} (h:GInv p s) (ht:GTh p t):GInv p (s.put k t):=by
 refine⟨fun u hu=>?_,by simpa[StL.put] using h.ne,h.fault⟩
 rcases List.mem_or_eq_of_mem_set hu with e|e
 ·exact h.ths u e
 ·subst e;exact ht
theorem fault_in (s:StL) (k:Nat) (o:OpL):InR (yK s k o) 0 4:=by
 unfold yK InR
 simp only
 split
 ·omega
 split
 ·omega
 split
 ·omega
 split <;> omega
theorem ginv_do {p:ProgL} (hg:p.goodS) {s:StL} (hi:SInv p s) {k:Nat} (h:k<s.ths.length) {o:OpL} (hn:yP p s.ths[k]=some o) (e:Ev) (hG:GInv p s) (h1:s.ths[k].st=1):GInv p (doL s k o e).1:=by
 have hT:=hi.ths _ (List.getElem_mem h)
 have hgd:s.ths.getD k th0=s.ths[k]:=by simp[List.getD_eq_getElem?_getD,h]
 obtain⟨⟨g1,g2⟩,hlt⟩:=dG hg hT hn
 obtain⟨c1,c2,c3,_⟩:=g1
 obtain⟨a1,a2,a3,a4,a5,a6⟩:=g2
 have ht:=hG.ths _ (List.getElem_mem h)
 generalize s.ths[k]=t at *
 unfold doL
 simp only[hgd]
 have hp:GTh p (zJ t o):=ht
 have hpush:∀ v,GTh p (zY (zJ t o) v):=fun v=>ht
 have hpc:∀ a,GTh p { zJ t o with pc:=a }:=fun a=>ht
 by_cases n1:o.code=1
 ·rw[if_pos n1];exact wF hG (hpush _)
 rw[if_neg n1]
 by_cases n2:o.code=2
 ·rw[if_pos n2];exact wF hG (hpush _)
 rw[if_neg n2]
 by_cases n3:o.code=3
 ·rw[if_pos n3];exact wF (s:={ s with cells:=_ }) ⟨hG.ths,hG.ne,hG.fault⟩ hp
 rw[if_neg n3]
 by_cases n10:o.code=10
 ·rw[if_pos n10];exact wF hG (hpc _)
 rw[if_neg n10]
 by_cases n11:o.code=11
 ·rw[if_pos n11]
  refine wF hG ?_
  split
  ·exact hpc _
  ·exact hp
 rw[if_neg n11]
 by_cases n12:o.code=12
 ·rw[if_pos n12];exact wF (s:={ s with owner:=_ }) ⟨hG.ths,hG.ne,hG.fault⟩ hp
 rw[if_neg n12]
 by_cases n13:o.code=13
 ·rw[if_pos n13];exact wF (s:={ s with owner:=_ }) ⟨hG.ths,hG.ne,hG.fault⟩ hp
 rw[if_neg n13]
 by_cases n14:o.code=14
 ·rw[if_pos n14]
  refine wF (s:={ s with ths:=_ }) ⟨fun u hu=>?_,by show 1≤(s.ths++[kA o.a]).length;simp,hG.fault⟩ (hpush _)
  rcases List.mem_append.1 hu with e|e
  ·exact hG.ths u e
  ·simp only[List.mem_cons,List.not_mem_nil,or_false] at e
   subst e;exact .inl ⟨.inl rfl,rfl,rfl⟩
 rw[if_neg n14]
 by_cases n15:o.code=15
 ·rw[if_pos n15];exact wF hG hp
 rw[if_neg n15]
 by_cases n16:o.code=16
 ·rw[if_pos n16]
  exact wF (s:={ s with owner:=_ }) ⟨hG.ths,hG.ne,hG.fault⟩ (.inr ⟨.inl rfl,c2.1,(a5 n16).1,c3.1,(a5 n16).2⟩)
 rw[if_neg n16]
 by_cases n17:o.code=17
 ·rw[if_pos n17]
  cases hw:vE s.ths o.a with
  |none=>exact wF hG hp
  |some j =>
   refine wF (s:={ s with ths:=_ }) ⟨fun u hu=>?_,by simpa using hG.ne,hG.fault⟩ hp
   obtain⟨i,hi2,rfl⟩:=List.mem_iff_getElem.1 hu
   have hil:i<s.ths.length:=by simpa using hi2
   have hU:=hG.ths _ (List.getElem_mem hil)
   rw[List.getElem_modify]
   split
   ·rename_i hji
    subst hji
    unfold vE at hw
    rw[List.findIdx?_eq_some_iff_getElem] at hw
    obtain⟨_,hpw,_⟩:=hw
    simp only[Bool.and_eq_true,beq_iff_eq] at hpw
    rcases hU with ⟨h9,_⟩|⟨_,h9⟩
    ·have:=hpw.1;omega
    ·exact .inr ⟨.inr rfl,h9⟩
   ·exact hU
 rw[if_neg n17]
 exact wF hG (hpush _)
theorem ginv_step {p:ProgL} (hg:p.goodS) {s:StL} (hi:SInv p s) {k:Nat} (h:k<s.ths.length) (hk:k∈zA p s) (hG:GInv p s):GInv p (zP p s k).1:=by
 have ht:=hG.ths _ (List.getElem_mem h)
 have hgo:=goes_st hk h
 have hgd:s.ths.getD k th0=s.ths[k]:=by simp[List.getD_eq_getElem?_getD,h]
 unfold zP
 simp only[hgd]
 split
 ·exact wF (s:={ s with owner:=_ }) ⟨hG.ths,hG.ne,hG.fault⟩ (.inl ⟨.inl rfl,rfl,rfl⟩)
 ·rename_i h4
  have h1:s.ths[k].st=1:=by omega
  split
  ·refine wF hG (.inl ⟨.inr rfl,?_⟩)
   rcases ht with ⟨_,h9⟩|⟨h9,_⟩
   ·exact h9
   ·omega
  ·rename_i o hn
   split
   ·exact ginv_do hg hi h hn _ hG h1
   ·exact⟨hG.ths,hG.ne,fault_in s k o⟩
theorem ginv_new (p:ProgL):GInv p (yQ p):=by
 refine⟨fun t ht=>?_,by simp[yQ],by simp[yQ,InR]⟩
 have:t=kA 0:=by simpa[yQ] using ht
 subst this
 exact .inl ⟨.inl rfl,rfl,rfl⟩
structure AInv (p:ProgL) (s:StL):Prop where
 si:SInv p s
 fl:s.flt
 ow:y2 s
 gi:GInv p s
theorem cJ {p:ProgL} {s:StL} {k:Nat} (hk:k∈zA p s):k<s.ths.length:=by have:=(List.mem_filter.1 hk).1;simpa using this
theorem fN {p:ProgL} (hg:p.goodS) (hv:p.flt) {s:StL} {k:Nat} (hk:k∈zA p s) (h:AInv p s):AInv p (zP p s k).1 :=
 ⟨inv_step hg h.si (cJ hk),flt_step hv (cJ hk) h.fl,oinv_step (cJ hk) h.ow,ginv_step hg h.si (cJ hk) hk h.gi⟩
theorem dY {p:ProgL} (hg:p.goodS):AInv p (yQ p):=⟨pR hg,flt_new p,oinv_new p,ginv_new p⟩
theorem do_lev (s:StL) (k:Nat) (o:OpL) (e:Ev):s.ths.length≤(doL s k o e).1.ths.length∧(doL s k o e).2.th=e.th∧(doL s k o e).2.pc=e.pc:=by
 have hput:∀ (s:StL) (t:Th),(s.put k t).ths.length=s.ths.length:=fun s t=>by simp[StL.put]
 have hle:∀ (s2:StL) (t:Th),s.ths.length≤s2.ths.length→s.ths.length≤(s2.put k t).ths.length:=fun s2 t h=>by rw[hput];exact h
 unfold doL
 simp only
 by_cases n1:o.code=1
 ·rw[if_pos n1];exact⟨hle _ _ (Nat.le_refl _),rfl,rfl⟩
 rw[if_neg n1]
 by_cases n2:o.code=2
 ·rw[if_pos n2];exact⟨hle _ _ (Nat.le_refl _),rfl,rfl⟩
 rw[if_neg n2]
 by_cases n3:o.code=3
 ·rw[if_pos n3];exact⟨hle _ _ (Nat.le_refl _),rfl,rfl⟩
 rw[if_neg n3]
 by_cases n10:o.code=10
 ·rw[if_pos n10];exact⟨hle _ _ (Nat.le_refl _),rfl,rfl⟩
 rw[if_neg n10]
 by_cases n11:o.code=11
 ·rw[if_pos n11];exact⟨hle _ _ (Nat.le_refl _),rfl,rfl⟩
 rw[if_neg n11]
 by_cases n12:o.code=12
 ·rw[if_pos n12];exact⟨hle _ _ (Nat.le_refl _),rfl,rfl⟩
 rw[if_neg n12]
 by_cases n13:o.code=13
 ·rw[if_pos n13];exact⟨hle _ _ (Nat.le_refl _),rfl,rfl⟩
 rw[if_neg n13]
 by_cases n14:o.code=14
 ·rw[if_pos n14];exact⟨hle _ _ (by show _≤(s.ths++[kA o.a]).length;simp),rfl,rfl⟩
 rw[if_neg n14]
 by_cases n15:o.code=15
 ·rw[if_pos n15];exact⟨hle _ _ (Nat.le_refl _),rfl,rfl⟩
 rw[if_neg n15]
 by_cases n16:o.code=16
 ·rw[if_pos n16];exact⟨hle _ _ (Nat.le_refl _),rfl,rfl⟩
 rw[if_neg n16]
 by_cases n17:o.code=17
 ·rw[if_pos n17]
  cases vE s.ths o.a with
  |none=>exact⟨hle _ _ (Nat.le_refl _),rfl,rfl⟩
  |some j=>exact⟨hle _ _ (by show _≤(s.ths.modify j _).length;simp),rfl,rfl⟩
 rw[if_neg n17]
 exact⟨hle _ _ (Nat.le_refl _),rfl,rfl⟩
theorem step_len (p:ProgL) (s:StL) (k:Nat):s.ths.length≤(zP p s k).1.ths.length:=by
 have hput:∀ (s:StL) (t:Th),(s.put k t).ths.length=s.ths.length:=fun s t=>by simp[StL.put]
 unfold zP
 simp only
 split
 ·rw[hput];exact Nat.le_refl _
 ·split
  ·rw[hput];exact Nat.le_refl _
  ·split
   ·exact(do_lev _ _ _ _).1
   ·exact Nat.le_refl _
theorem aC (p:ProgL) (s:StL) (k:Nat):(zP p s k).2.th=k∧(zP p s k).2.pc=(s.ths.getD k th0).pc:=by
 unfold zP
 simp only
 split
 ·exact⟨rfl,rfl⟩
 ·split
  ·exact⟨rfl,rfl⟩
  ·split
   ·exact(do_lev _ _ _ _).2
   ·exact⟨rfl,rfl⟩
structure TrOK (s:StL) (tr:List Ev):Prop where
 ev:∀ e∈tr,0≤e.th∧e.th<s.ths.length∧0≤e.pc∧e.pc≤24
 ne:s.fault≠0→tr≠[]
theorem tr_step {p:ProgL} (hg:p.goodS) {s:StL} {k:Nat} (hk:k∈zA p s) (h:AInv p s) {tr:List Ev} (ht:TrOK s tr):TrOK (zP p s k).1 (tr++[(zP p s k).2]):=by
 have hl:=cJ hk
 have hgd:s.ths.getD k th0=s.ths[k]:=by simp[List.getD_eq_getElem?_getD,hl]
 have hT:=h.si.ths _ (List.getElem_mem hl)
 have hr:s.ths[k].rt.toNat<p.rs.length:=by have:=hT.rt;omega
 have e24:(p.rs.getD s.ths[k].rt.toNat []).length≤24:=by
  rw[List.getD_eq_getElem?_getD,List.getElem?_eq_getElem hr]
  exact(hg.2 _ (List.getElem_mem hr)).2
 have h2:=step_len p s k
 refine⟨fun e he=>?_,fun _=>by simp⟩
 rcases List.mem_append.1 he with e1|e1
 ·have:=ht.ev e e1
  omega
 ·simp only[List.mem_cons,List.not_mem_nil,or_false] at e1
  subst e1
  obtain⟨e1,e2⟩:=aC p s k
  rw[e1,e2,hgd]
  have:=hT.pc
  omega
structure RunT where
 c:Int
 tr:List Ev
 tk:List Int
 s:StL
noncomputable def mW (p:ProgL) (picks:List Int) (budget:Int):Nat→StL→List Ev→List Int→RunT
 | 0,s,tr,tk=>⟨0,tr,tk,s⟩
 |n+1,s,tr,tk =>
  if 0<yD p s tr.length budget then ⟨yD p s tr.length budget,tr,tk,s⟩
  else
   let k:=wS picks tk (zA p s).length
   let w:=(zA p s).getD k.toNat 0
   mW p picks budget n (zP p s w).1 (tr++[(zP p s w).2]) (tk++[k])
def encRT (x:RunT):List D:=gQ x.c x.tr x.tk x.s
theorem n9 (p:ProgL) (picks:List Int) (budget:Int):∀ n s tr tk,fS p picks budget n s tr tk=encRT (mW p picks budget n s tr tk)
 | 0,s,tr,tk=>rfl
 |n+1,s,tr,tk=>by
  unfold fS mW
  split
  ·rfl
  ·exact n9 p picks budget n _ _ _
structure REnd (p:ProgL) (budget:Int) (x:RunT):Prop where
 inv:AInv p x.s
 tr:TrOK x.s x.tr
 code:x.c=yD p x.s x.tr.length budget
 pos:0<x.c
 len:x.tr.length=x.tk.length
 le:(x.tr.length:Int)≤budget
 tk:∀ i∈x.tk,0≤i∧i<5
theorem p9 (p:ProgL) (s:StL) (picks tk:List Int) (hpk:∀ i∈picks,0≤i) (h:0<(zA p s).length):0≤wS picks tk (zA p s).length∧wS picks tk (zA p s).length<(zA p s).length:=by
 unfold wS
 split
 ·rename_i h1
  have h2:0≤picks.getD tk.length 0:=by
   rw[List.getD_eq_getElem?_getD,List.getElem?_eq_getElem h1]
   exact hpk _ (List.getElem_mem h1)
  exact⟨Int.tmod_nonneg _ h2,Int.tmod_lt_of_pos _ (by omega)⟩
 ·omega
theorem en_ne {p:ProgL} {s:StL} {a b:Int} (h:¬ 0<yD p s a b):0<(zA p s).length∧a≠b:=by
 have hen:zA p s≠[]:=by
  intro he
  apply h
  unfold yD
  by_cases hf:s.fault≠0
  ·rw[if_pos hf];decide
  ·rw[if_neg hf,if_pos he];split <;> decide
 refine⟨List.length_pos_iff.2 hen,fun he=>h ?_⟩
 unfold yD
 by_cases hf:s.fault≠0
 ·rw[if_pos hf];decide
 ·rw[if_neg hf,if_neg hen,if_pos he];decide
theorem run_end {p:ProgL} (hg:p.goodS) (hv:p.flt) (picks:List Int) (budget:Int) (hpk:∀ i∈picks,0≤i):∀ n s tr tk,AInv p s→TrOK s tr→tr.length=tk.length→(tr.length:Int)≤budget→budget.toNat+1 - tr.length≤n→(∀ i∈tk,0≤i∧i<5)→REnd p budget (mW p picks budget n s tr tk)
 | 0,s,tr,tk,hi,ht,hl,hb,hn,hk=>by omega
 |n+1,s,tr,tk,hi,ht,hl,hb,hn,hk=>by
  unfold mW
  split
  ·rename_i h
   exact⟨hi,ht,rfl,h,hl,hb,hk⟩
  ·rename_i h
   obtain⟨h1,h2⟩:=en_ne h
   have h3:=p9 p s picks tk hpk h1
   have hkl:(wS picks tk (zA p s).length).toNat<(zA p s).length:=by omega
   have hmem:(zA p s).getD (wS picks tk (zA p s).length).toNat 0∈zA p s:=by rw[List.getD_eq_getElem?_getD,List.getElem?_eq_getElem hkl];exact List.getElem_mem hkl
   have h5:(zA p s).length≤5:=Nat.le_trans (uD) hi.si.len
   refine run_end hg hv picks budget hpk n _ _ _ (fN hg hv hmem hi) (tr_step hg hmem hi ht) (by simp;exact hl) (by simp;omega) (by simp;omega) fun i hx=>?_
   rcases List.mem_append.1 hx with e|e
   ·exact hk i e
   ·simp only[List.mem_cons,List.not_mem_nil,or_false] at e
    subst e
    omega
noncomputable def dD (p:ProgL) (picks:List Int) (budget:Int):RunT:=mW p picks budget (budget.toNat+1) (yQ p) [] []
theorem runOf_end {p:ProgL} (hg:p.goodS) (hv:p.flt) (picks:List Int) (budget:Int) (hpk:∀ i∈picks,0≤i) (hb:0≤budget):REnd p budget (dD p picks budget) :=
 run_end hg hv picks budget hpk _ _ _ _ (dY hg) ⟨fun e he=>(by cases he),fun h=>absurd rfl h⟩ rfl hb (by simp) fun i hi=>(by cases hi)
theorem l4Run_of (p:ProgL) (hp:p.wf) (hg:p.goodS) (picks:List Int) (budget:Int) (hpk:∀ i∈picks,0≤i) (hl:picks.length≤1048576) (hb:InR budget 0 1048576) :
  CallsTo EE 104 [agg (encProg p),sl (picks.map encInt),i64 budget] (·=agg (encRT (dD p picks budget))):=by
 have:=l4Run_good p hp hg picks budget hpk hl hb
 rwa [n9] at this
theorem runPicks_of (p:ProgL) (hp:p.wf) (hg:p.goodS) (hv:p.flt) (picks:List Int) (budget:Int) (hpk:∀ i∈picks,0≤i) (hl:picks.length≤1048576) (hb:InR budget 0 1048576) :
  CallsTo EE 175 [agg (encProg p),sl (picks.map encInt),i64 budget] (·=agg (encRT (dD p picks budget))):=by
 have:=oP p hp hg hv picks budget hpk hl hb
 rwa [n9] at this
end Ai
namespace Ai
set_option maxRecDepth 100000
open Go Go.Proofs
noncomputable def uJ (p:ProgL) (pk:List Nat→Nat→Int) (budget:Int):Nat→StL→List Ev→List Int→Option (Int × List Ev × List Int × StL)
 | 0,s,tr,tk=>none
 |n+1,s,tr,tk =>
  if yD p s tr.length budget≠0 then some (yD p s tr.length budget,tr,tk,s)
  else if pk (zA p s) tr.length<0 then none
  else uJ p pk budget n (zP p s ((zA p s).getD (pk (zA p s) tr.length).toNat 0)).1 (tr++[(zP p s ((zA p s).getD (pk (zA p s) tr.length).toNat 0)).2]) (tk++[pk (zA p s) tr.length])
def rn0:RunT:=⟨0,[],[],⟨[],[],[],0⟩⟩
def RunZ:Option (Int × List Ev × List Int × StL)→AV→Prop
 |some x,r=>r=.ownF 8 (wT x++[bv true])
 |none,r=>r=.tup [agg (encRT rn0),bv false]
theorem runZ_ok (hI:xE) (p:ProgL) (hp:p.wf) (h1:InR p.cells 0 1048576) (h2:InR p.locks 0 1048576) (Inv:StL→Prop) (hI0:Inv (yQ p)) (hok:RunI p Inv) (budget:Int) (hb:InR budget 0 1048576) (g:FuncId) (c:List D)
  (pk:List Nat→Nat→Int) (hg:∀ (en:List Nat) (n:Nat),en≠[]→(∀ i∈en,i<5)→en.length≤5→(n:Int)<budget→CallsTo EE g [sl (en.map xV),i64 n,.fp c] (·=i64 (pk en n))) (hpk:∀ en:List Nat,∀ n,en≠[]→pk en n<en.length) :
  CallsTo EE 132 [agg (encProg p),i64 budget,.fn g [.fp c]] (RunZ (uJ p pk budget (budget.toNat+1) (yQ p) [] [])):=by
 refine callsTo_of_AW (fn:=Tryz.f132) Tryz.func132 rfl (by kernel_rfl) rfl ?_
 conv=>whnf
 refine⟨_,start_ok p h1 h2,?_⟩
 rintro r rfl
 conv=>whnf
 refine gR (fun x:StL × List Ev × List Int=>[(1,i64 budget),(2,.fn g [.fp c]),(3,.ptr (.n 3) 0),(6,.ptr (.n 6) 0),(7,bv false),(8,.ptr (.n 8) 0),(9,i64 x.2.1.length)]) (fun x=>oRI p x.1 x.2.1 x.2.2) (fun x=>[(900,zD x.1.ths)]) (fun x=>budget.toNat - x.2.1.length)
  (fun x=>Inv x.1∧x.2.1.length=x.2.2.length∧(x.2.1.length:Int)≤budget∧uJ p pk budget (budget.toNat+1 - x.2.1.length) x.1 x.2.1 x.2.2=uJ p pk budget (budget.toNat+1) (yQ p) [] []) (yQ p,[],[])
  Weak.refl ?_ ?_ ?_ ⟨hI0,rfl,hb.1,rfl⟩ ?_
 ·exact⟨rfl,rfl,rfl,rfl,rfl,rfl,rfl,trivial⟩
 ·refine⟨rfl,rfl,?_,rfl,rfl,?_,?_,?_,trivial⟩
  ·show some (Ob.vs 46 [i64 0,.ref (.n 12) 0 0,.ref (.n 13) 0 0,.dref (.n 900) ((yQ p).ths.map xU).length,.ref (.n 901) 0 ((yQ p).cells.map encF).length,.ref (.n 902) 0 ((yQ p).owner.map encInt).length,i64 0])=some (Ob.vs 46 [i64 0,.ref (.n 12) 0 0,.ref (.n 13) 0 0,.dref (.n 900) (yQ p).ths.length,.ref (.n 901) 0 (yQ p).cells.length,.ref (.n 902) 0 (yQ p).owner.length,i64 0])
   rw[List.length_map,List.length_map,List.length_map]
  ·conv=>lhs;whnf
   refine congrArg some ?_
   repeat (first|exact rfl|refine xJ ?_ (congrArg (Ob.rs 158 6) (zU fun _ _=>rfl)))
  ·rfl
  ·rfl
 ·refine⟨fun j=>?_,trivial⟩
  conv=>lhs;whnf
  repeat (first|exact r3 (yQ p) j|(refine hscrO ?_ (zG _ _ _);conv=>lhs;whnf))
 rintro⟨s,tr,tk⟩ τ H ⟨hinv,hlen,hle,hrun⟩
 have hs:=hok.small s hinv
 conv=>whnf
 refine .inl ⟨[.fp (yG s),agg (encProg p)],[],_,⟨_,_,rfl,i9 (x0:=i64 0) (x1:=.ref (.n 12) 0 tr.length) (x2:=.ref (.n 13) 0 tk.length) rfl ⟨rfl,fun j hj=>thFam_self hj,rfl,rfl⟩,_,_,rfl,lT p,rfl⟩,rfl,cH hI p s hp hs.1 (hok.seen s hinv),?_⟩
 rintro r rfl
 refine⟨?_,.inl ?_⟩
 ·intro c hc
  obtain⟨y,_,rfl⟩:=List.mem_map.1 hc
  rfl
 conv=>whnf
 refine .inl ⟨[agg (encProg p),.fp (yG s),sl ((zA p s).map xV),i64 tr.length,i64 budget],[],_,⟨_,_,rfl,lT p,_,_,rfl,i9 (x0:=i64 0) (x1:=.ref (.n 12) 0 tr.length) (x2:=.ref (.n 13) 0 tk.length) rfl ⟨rfl,fun j hj=>thFam_self hj,rfl,rfl⟩,_,_,rfl,rfl,_,_,rfl,rfl,_,_,rfl,rfl,rfl⟩,rfl,d9 p s tr.length budget hs.1,?_⟩
 rintro r rfl
 refine⟨rfl,?_⟩
 conv=>whnf
 have hfuel:budget.toNat+1 - tr.length=(budget.toNat - tr.length)+1:=by
  have:(tr.length:Int)≤budget:=hle
  omega
 have hrun:uJ p pk budget (budget.toNat+1 - tr.length) s tr tk=_:=hrun
 rw[hfuel] at hrun
 refine kbi (fun hc=>?_) (fun hc=>?_)
 ·have hc:yD p s tr.length budget≠0:=by simpa using hc
  conv=>whnf
  refine .inl ⟨[agg (yG s)],[],_,⟨_,_,rfl,⟨yG s,rfl,g9 ⟨rfl,fun j hj=>thFam_self hj,rfl,rfl⟩ rfl rfl rfl⟩,rfl⟩,rfl,d8 s hs.1,?_⟩
  rintro r rfl
  refine⟨nB s,?_⟩
  conv=>whnf
  refine .inr ⟨8,wT (yD p s tr.length budget,tr,tk,s)++[bv true],_,[.agg [i64 (yD p s tr.length budget),.ref (.n 901) 0 tr.length,.ref (.n 902) 0 tk.length,.dref (.n 903) s.ths.length,.ref (.n 904) 0 s.cells.length,.ref (.n 905) 0 s.owner.length,i64 s.fault],bv true],(vD shA).trans (vD shB),?_,(by simp),?_,?_,jT ⟨trivial,?_,?_,⟨?_,fun j q hq=>?_⟩,?_,?_,trivial,trivial,trivial⟩,?_⟩
  ·show some [.agg [i64 (yD p s tr.length budget),.ref (.n 901) 0 tr.length,.ref (.n 902) 0 tk.length,.dref (.n 903) (s.ths.map xU).length,.ref (.n 904) 0 (s.cells.map encF).length,.ref (.n 905) 0 (s.owner.map encInt).length,i64 s.fault],bv true]=_
   rw[List.length_map,List.length_map,List.length_map]
  ·simp[wT,wC,ownR,ownR1,qQ]
  ·intro v hv
   simp only[wT,wC,List.mem_append,List.mem_cons,List.not_mem_nil,or_false] at hv
   rcases hv with ((rfl|rfl|rfl)|(rfl|rfl|rfl|rfl))|rfl
   all_goals first|trivial|(show(s.ths.map xU).length=(s.ths.map stk).length;simp)
  ·rfl
  ·rfl
  ·conv=>lhs;whnf
   show some (Ob.rs 158 6 (((thRows 900 s.ths).map (renL (oU numA lM).f)).map (renL (oU numB sJ).f)))=some (Ob.rs 158 6 (thRows 903 s.ths))
   rw[qU,qU]
   rfl
  ·have hq:(s.ths.map stk)[j]?=some q:=hq
   rw[List.getElem?_map] at hq
   obtain⟨t,ht,rfl⟩:=Option.map_eq_some_iff.1 hq
   have e:∀ X:Option Ob,X=zD s.ths j→(X.map (renO shA.f)).map (renO shB.f)=some (.ds 74 1 (stk t)):=by
    rintro _ rfl
    rw[thFam_ren,thFam_ren,zD,ht];rfl
   refine e _ ?_
   show(match ownH (wC s) (.s 900 j) with|some ob=>some ob|none=>_)=zD s.ths j
   show(match ((s.ths.map stk)[j]?).map (Ob.ds 74 1) with|some ob=>some ob|none=>_)=_
   rw[List.getElem?_map,zD,ht]
   rfl
  ·rfl
  ·rfl
  ·rw[← hrun]
   simp only[uJ,if_pos hc]
   rfl
 have hc:¬ yD p s tr.length budget≠0:=by simpa using hc
 have hc:yD p s tr.length budget=0:=by simpa using hc
 conv=>whnf
 have hen:zA p s≠[]:=by
  intro he
  have:=hc
  unfold yD at this
  by_cases hf:s.fault≠0
  ·rw[if_pos hf] at this;exact absurd this (by decide)
  ·rw[if_neg hf,if_pos he] at this;split at this <;> exact absurd this (by decide)
 have hlb:(tr.length:Int)≠budget:=by
  intro he
  have:=hc
  unfold yD at this
  by_cases hf:s.fault≠0
  ·rw[if_pos hf] at this;exact absurd this (by decide)
  ·rw[if_neg hf,if_neg hen,if_pos he] at this;exact absurd this (by decide)
 have hle5:(tr.length:Int)≤budget:=hle
 have hth5:=(hok.small s hinv).2
 have hlt5:∀ i∈zA p s,i<5:=fun i hi=>by
  have:=(List.mem_filter.1 hi).1
  have:i<s.ths.length:=by simpa using this
  omega
 have hln5:(zA p s).length≤5:=Nat.le_trans uD hth5
 refine⟨_,hg (zA p s) tr.length hen hlt5 hln5 (by omega),?_⟩
 rintro r rfl
 have hk2:=hpk (zA p s) tr.length hen
 have hrunN:pk (zA p s) tr.length<0→uJ p pk budget (budget.toNat+1) (yQ p) [] []=none:=by
  intro hk
  rw[← hrun];simp only[uJ,hc];rw[if_neg (by simp),if_pos hk]
 have hrun2:¬ pk (zA p s) tr.length<0→uJ p pk budget (budget.toNat - tr.length) (zP p s ((zA p s).getD (pk (zA p s) tr.length).toNat 0)).1 (tr++[(zP p s ((zA p s).getD (pk (zA p s) tr.length).toNat 0)).2]) (tk++[pk (zA p s) tr.length])=uJ p pk budget (budget.toNat+1) (yQ p) [] []:=by
  intro hk
  rw[← hrun];simp only[uJ,hc];rw[if_neg (by simp),if_neg hk]
 generalize hkv:pk (zA p s) tr.length=kk at *
 conv=>whnf
 refine kbi (fun hk=>?_) (fun hk=>?_)
 ·have hk:kk<0:=by simpa using hk
  rw[hrunN hk]
  conv=>whnf
  rfl
 have hk1:0≤kk:=by
  have:¬ kk<0:=fun e=>hk (decide_eq_true e)
  omega
 have hrun2:=hrun2 (by omega)
 clear hrunN
 have hkl:kk.toNat<(zA p s).length:=by omega
 have hmem:(zA p s).getD kk.toNat 0∈zA p s:=by rw[List.getD_eq_getElem?_getD,List.getElem?_eq_getElem hkl];exact List.getElem_mem hkl
 have hwl:(zA p s).getD kk.toNat 0<s.ths.length:=by have:=(List.mem_filter.1 hmem).1;simpa using this
 conv=>whnf
 have hlen':tr.length=tk.length:=hlen
 have hle':(tr.length:Int)≤budget:=hle
 have hb2:=hb.2
 refine⟨⟨rfl,by show(tk.length+1)*8≤_;omega,by show tk.length+1≤_;omega⟩,?_⟩
 conv=>whnf
 generalize hwd:(zA p s).getD kk.toNat 0=w at *
 have hen13:((zA p s).map xV)[kk.toNat]?=some (xV w):=by rw[← hwd];exact en_get hkl
 have htr:tr.length≤1048576:=by omega
 refine .inr (.inr (.inl (draw13 (p:=p) (s:=s) (s1:=(zP p s w).1) (ev:=(zP p s w).2) (tr:=tr) (tk:=tk) (kk:=kk) (w:=w) (budget:=budget) (g:=g) (c:=c) hk1 hen13 htr
  (fun v0 v1 H0 hH=>stepI_ok hI 46 (i64 0) (.lit v0) (.lit v1) (inert_d _) (lS _) (lS _) p s w hp hwl hs.2 hs.1 (hok.ready s hinv w hmem hwl) (hok.awake s hinv w hmem hwl) (hok.flt s hinv _ (List.getElem_mem hwl)) (hok.joins s hinv w hmem hwl) H0 hH) _ _ ?_ ?_)))
 ·exact {
   u1:=rfl
   u2:=rfl
   u3:=rfl
   u6:=rfl
   u7:=rfl
   u8:=rfl
   u9:=rfl
   u10:=rfl
   u11:=rfl
   h3:=rfl
   h6:=rfl
   h13:=by
    show some (Ob.ds 3 1 ((tk.map encInt).take tk.length++[encInt kk]))=_
    rw[List.take_of_length_le (by simp)]
    simp
   c0:=fun h=>by cases h
   c1:=fun h=>by cases h
   c2:=fun h=>by cases h
   c3:=fun h=>by cases h
   c4:=fun h=>by cases h
   c5:=fun h=>by cases h
   c6:=fun h=>by cases h
   c7:=fun h=>by cases h
   c8:=fun h=>by cases h
   c9:=fun h=>by cases h
   c10:=fun h=>by cases h
   c11:=fun h=>by cases h
   e9:=fun h=>by cases h
   d12a:=fun _=>rfl
   d12b:=fun h=>by cases h
   d8a:=fun _=>by
    show some (Ob.vs 46 ([i64 (yD p s tr.length budget),.ref (.n 12) 0 tr.length,.ref (.n 13) 0 (tk.length+1)]++stRef s))=_
    rw[hc]
   d8b:=fun h=>by cases h
   d8c:=fun h=>by cases h
   d8d:=fun h=>by cases h
   sa0:=fun _=>by
    conv=>lhs;whnf
    refine congrArg some ?_
    repeat (first|exact rfl|refine xJ ?_ (congrArg (Ob.rs 158 6) (zU fun _ _=>rfl)))
   saF:=fun _ j=>by
    repeat (first|exact rfl|refine hscrO ?_ (zG _ _ _)|conv=>lhs;whnf)
   sa1:=fun _=>rfl
   sa2:=fun _=>rfl
   sb0:=fun h=>by cases h
   sbF:=fun h=>by cases h
   sb1:=fun h=>by cases h
   sb2:=fun h=>by cases h
   o1:=fun h=>by cases h
   o2:=fun h=>by cases h
   o3:=fun h=>by cases h
   o4:=fun h=>by cases h }
 intro L S' hL r
 have hat:At [(1,i64 budget),(2,.fn g [.fp c]),(3,.ptr (.n 3) 0),(6,.ptr (.n 6) 0),(7,bv false),(8,.ptr (.n 8) 0),(9,i64 tr.length)]
  [(.n 3,.vs 42 ((encProg p).map .d)),(.n 6,.vs 46 [i64 0,.d .nil,.d .nil,.d .nil,.d .nil,.d .nil,i64 0]),(.n 8,.vs 46 ([i64 0,.ref (.n 12) 0 (tr.length+1),.ref (.n 13) 0 (tk.length+1)]++stRef (zP p s w).1)),(.n 12,.ds 105 5 ((tr++[(zP p s w).2]).map encEv)),(.n 13,.ds 3 1 ((tk++[kk]).map encInt)),
   (.n 900,.rs 158 6 (thRows 900 (zP p s w).1.ths)),(.n 901,.ds 74 1 ((zP p s w).1.cells.map encF)),(.n 902,.ds 3 1 ((zP p s w).1.owner.map encInt))] [(900,zD (zP p s w).1.ths)] S' :=
  ⟨⟨r.u1,r.u2,r.u3,r.u6,r.u7,r.u8,r.u9,trivial⟩,⟨r.h3,r.h6,r.d8d (hL 12 (by decide)),r.d12b (hL 10 (by decide)),r.h13,r.sb0 (hL 8 (by decide)),r.sb1 (hL 8 (by decide)),r.sb2 (hL 8 (by decide)),trivial⟩,⟨r.sbF (hL 8 (by decide)),trivial⟩⟩
 obtain⟨τ',H',rfl⟩:=hat.form
 clear r hat
 have hrun2:=hrun2
 generalize hst:zP p s w=st at *
 have ew:IntKind.i64.wrap ((tr.length:Int)+1)=(((tr++[st.2]).length:Nat):Int):=by rw[zF (by omega) (by omega)];simp
 conv=>whnf
 refine⟨(st.1,tr++[st.2],tk++[kk]),_,Weak.refl,⟨hst▸hok.step s hinv w hmem,by simp;exact hlen',by simp;omega,?_⟩,?_,⟨rfl,rfl,rfl,rfl,rfl,rfl,?_,trivial⟩,⟨rfl,rfl,?_,rfl,rfl,rfl,rfl,rfl,trivial⟩,⟨fun j=>rfl,trivial⟩⟩
 ·show uJ p pk budget (budget.toNat+1 - (tr++[st.2]).length) st.1 (tr++[st.2]) (tk++[kk])=_
  rw[show budget.toNat+1 - (tr++[st.2]).length=budget.toNat - tr.length by simp]
  exact hrun2
 ·show budget.toNat - (tr++[st.2]).length<budget.toNat - tr.length
  simp;omega
 ·show AV.d (.int .i64 (IntKind.i64.wrap ((tr.length:Int)+1)))=i64 ((tr++[st.2]).length:Nat)
  rw[ew]
 ·show some (Ob.vs 46 ([i64 0,.ref (.n 12) 0 (tr.length+1),.ref (.n 13) 0 (tk.length+1)]++stRef st.1))=some (Ob.vs 46 ([i64 0,.ref (.n 12) 0 (tr++[st.2]).length,.ref (.n 13) 0 (tk++[kk]).length]++stRef st.1))
  rw[List.length_append,List.length_append]
  rfl
end Ai
namespace Ai
set_option maxRecDepth 100000
open Go Go.Proofs
def bB (xs:List Int) (n:Int):Option Nat:=xs.findIdx? (·==n)
theorem idxI_mem (xs:List Int) (n:Int):(0≤gD (bB xs n))↔n∈xs:=by
 unfold bB
 cases h:xs.findIdx? (·==n) with
 |none =>
  rw[List.findIdx?_eq_none_iff] at h
  simp only[gD]
  refine⟨fun e=>absurd e (by decide),fun hm=>?_⟩
  have:=h n hm
  simp at this
 |some k =>
  rw[List.findIdx?_eq_some_iff_getElem] at h
  obtain⟨h1,h2,_⟩:=h
  simp only[gD]
  have h2:xs[k]=n:=by simpa using h2
  exact⟨fun _=>h2▸List.getElem_mem h1,fun _=>by omega⟩
theorem IdxA_ok (xs:List Int) (n:Int) (hx:xs.length≤1048576):CallsTo EE 134 [sl (xs.map encInt),i64 n] (·=i64 (gD (bB xs n))):=by
 refine callsTo_of_AW (fn:=Tryz.f134) Tryz.func134 rfl (by kernel_rfl) rfl ?_
 conv=>whnf
 refine yJ (fun k:Nat=>[(0,sl (xs.map encInt)),(1,i64 n),(7,i64 (xs.map encInt).length),(8,i64 k)]) (fun k=>[]) (fun k=>xs.length - k) (fun k=>k≤xs.length∧∀ x∈xs.take k,(x==n)=false) 0 .refl ⟨rfl,rfl,rfl,rfl,trivial⟩ trivial ⟨Nat.zero_le _,fQ⟩ ?_
 rintro k τ H ⟨hk,ih⟩
 conv=>whnf
 refine kbi (fun h=>?_) (fun h=>?_)
 ·have hlt:=yH h
  conv=>whnf
  refine⟨encInt xs[k],zO encInt hlt rfl,?_⟩
  conv=>whnf
  refine kbi (fun h=>?_) (fun h=>?_)
  ·conv=>whnf
   have h:n=xs[k]:=by simpa using h
   have:bB xs n=some k:=nH (f:=(·==n)) hlt ih (by simp[h])
   rw[this]
   rfl
  ·conv=>whnf
   have h:¬ n=xs[k]:=by simpa using h
   exact⟨k+1,⟨by omega,kF ih hlt (by simp;exact fun e=>h e.symm)⟩,by show xs.length - (k+1)<xs.length - k;omega,⟨rfl,rfl,rfl,zK hlt (by omega),trivial⟩,trivial⟩
 ·conv=>whnf
  have:bB xs n=none:=nI (f:=(·==n)) (fR ih (by simp at h;omega))
  rw[this]
  rfl
def mR (e:Ev):Prop:=e.kind=2∨e.kind=3
def rD (e:Ev):Prop:=e.kind=8∨e.kind=9∨e.kind=10
def vX (e:Ev):Int:=if e.kind=4∨e.kind=5 then e.obj else if e.kind=8∨e.kind=9 then e.lock else -2
def iG (e:Ev):Int:=if e.kind=5 then e.obj else if e.kind=8 then e.lock else -1
def aT (e:Ev):Int:=if e.kind=4 then e.obj else if e.kind=9 then e.lock else -1
def gJ (e:Ev):Int:=if aT e > iG e then aT e else iG e
def bQ (a b:Ev):Prop :=
 if a.kind=3 then mR b∧a.obj=b.obj
 else if a.kind=6 then b.kind=6∨b.th=a.obj
 else if a.kind=7 then b.kind=11∧b.th=a.obj
 else if a.kind=10 then b.th=a.lock∨(rD b∧a.obj=b.obj)
 else if a.kind=8 then rD b∧a.obj=b.obj
 else a.kind=12
def mN (a b:Ev):Prop:=a.th=b.th∨bQ a b∨bQ b a∨(vX a=vX b∧vX a≠-2)
def j8 (a b:Ev):Prop:=a.th=b.th∨bQ a b∨bQ b a∨(0≤gJ a∧gJ a=gJ b)
theorem touchS_ok (e:Ev):CallsTo EE 146 [agg (encEv e)] (·=bp (mR e)):=by
 refine callsTo_of_AW (fn:=Tryz.f146) Tryz.func146 rfl (by kernel_rfl) rfl ?_
 conv=>whnf
 repeat' (refine kbi (fun h=>?_) (fun h=>?_) <;> conv=>whnf)
 all_goals simp only[beq_iff_eq] at *
 all_goals first|exact bpt (by unfold mR;omega)|exact bpf (by unfold mR;omega)
theorem touchI_ok (e:Ev):CallsTo EE 149 [agg (encEv e)] (·=bp (mR e)):=by
 refine callsTo_of_AW (fn:=Tryz.f149) Tryz.func149 rfl (by kernel_rfl) rfl ?_
 conv=>whnf
 repeat' (refine kbi (fun h=>?_) (fun h=>?_) <;> conv=>whnf)
 all_goals simp only[beq_iff_eq] at *
 all_goals first|exact bpt (by unfold mR;omega)|exact bpf (by unfold mR;omega)
theorem condS_ok (e:Ev):CallsTo EE 185 [agg (encEv e)] (·=bp (rD e)):=by
 refine callsTo_of_AW (fn:=Tryz.f185) Tryz.func185 rfl (by kernel_rfl) rfl ?_
 conv=>whnf
 repeat' (refine kbi (fun h=>?_) (fun h=>?_) <;> conv=>whnf)
 all_goals simp only[beq_iff_eq] at *
 all_goals first|exact bpt (by unfold rD;omega)|exact bpf (by unfold rD;omega)
theorem condI_ok (e:Ev):CallsTo EE 187 [agg (encEv e)] (·=bp (rD e)):=by
 refine callsTo_of_AW (fn:=Tryz.f187) Tryz.func187 rfl (by kernel_rfl) rfl ?_
 conv=>whnf
 repeat' (refine kbi (fun h=>?_) (fun h=>?_) <;> conv=>whnf)
 all_goals simp only[beq_iff_eq] at *
 all_goals first|exact bpt (by unfold rD;omega)|exact bpf (by unfold rD;omega)
theorem eU (e:Ev):CallsTo EE 124 [agg (encEv e)] (·=i64 (vX e)):=by
 refine callsTo_of_AW (fn:=Tryz.f124) Tryz.func124 rfl (by kernel_rfl) rfl ?_
 conv=>whnf
 repeat' (refine kbi (fun h=>?_) (fun h=>?_) <;> conv=>whnf)
 all_goals simp only[beq_iff_eq] at *
 all_goals exact congrArg i64 (by unfold vX;simp[*])
theorem givesI_ok (e:Ev):CallsTo EE 188 [agg (encEv e)] (·=i64 (iG e)):=by
 refine callsTo_of_AW (fn:=Tryz.f188) Tryz.func188 rfl (by kernel_rfl) rfl ?_
 conv=>whnf
 repeat' (refine kbi (fun h=>?_) (fun h=>?_) <;> conv=>whnf)
 all_goals simp only[beq_iff_eq] at *
 all_goals exact congrArg i64 (by unfold iG;simp[*])
theorem takesI2_ok (e:Ev):CallsTo EE 189 [agg (encEv e)] (·=i64 (aT e)):=by
 refine callsTo_of_AW (fn:=Tryz.f189) Tryz.func189 rfl (by kernel_rfl) rfl ?_
 conv=>whnf
 repeat' (refine kbi (fun h=>?_) (fun h=>?_) <;> conv=>whnf)
 all_goals simp only[beq_iff_eq] at *
 all_goals exact congrArg i64 (by unfold aT;simp[*])
end Ai
namespace Ai
open Go Go.Proofs
theorem sW (xs:List Int) (n:Int):¬ gD (bB xs n)<0↔n∈xs:=by rw[← idxI_mem];omega
def pkT (ts:List Int) (en:List Nat) (n:Nat):Int:=gD (bB (en.map fun i=>((i:Nat):Int)) (ts.getD n 0))
noncomputable def kK (p:ProgL):List Int→StL→List Ev→List Int→Option (Int × List Ev × List Int × StL)
 | [],s,tr,tk=>some (yD p s tr.length tr.length,tr,tk,s)
 |t::ts,s,tr,tk =>
  if t∈(zA p s).map (fun i=>((i:Nat):Int)) then kK p ts (zP p s t.toNat).1 (tr++[(zP p s t.toNat).2]) (tk++[gD (bB ((zA p s).map fun i=>((i:Nat):Int)) t)])
  else none
def cutK (n:Nat):Option (Int × List Ev × List Int × StL)→Option (Int × List Ev × List Int × StL)
 |some x=>if x.2.1.length<n then none else some x
 |none=>none
theorem pkT_lt (ts:List Int) (en:List Nat) (n:Nat) (h:en≠[]):pkT ts en n<en.length:=by
 have hp:0<en.length:=List.length_pos_iff.2 h
 unfold pkT bB
 cases hq:List.findIdx? (·==ts.getD n 0) (en.map fun i=>((i:Nat):Int)) with
 |none=>show(-1:Int)<_;omega
 |some j =>
  have:=(List.findIdx?_eq_some_iff_getElem.1 hq).1
  show((j:Nat):Int)<_
  simp at this
  omega
theorem en_at {en:List Nat} {t:Int} (h:t∈en.map fun i=>((i:Nat):Int)):en.getD (gD (bB (en.map fun i=>((i:Nat):Int)) t)).toNat 0=t.toNat:=by
 unfold bB
 cases hq:List.findIdx? (·==t) (en.map fun i=>((i:Nat):Int)) with
 |none =>
  have:=List.findIdx?_eq_none_iff.1 hq t h
  simp at this
 |some j =>
  obtain⟨h1,h2,_⟩:=List.findIdx?_eq_some_iff_getElem.1 hq
  have h3:j<en.length:=by simpa using h1
  show en.getD ((j:Nat):Int).toNat 0=_
  rw[Int.toNat_natCast,List.getD_eq_getElem?_getD,List.getElem?_eq_getElem h3]
  have:((en[j]:Nat):Int)=t:=by simpa using h2
  show en[j]=_
  omega
theorem l0 (p:ProgL) (s:StL) (n:Int):yD p s n n≠0:=by
 classical
 unfold yD
 split
 ·decide
 split
 ·split <;> decide
 ·simp
theorem codeL_mid {p:ProgL} {s:StL} {a b:Int} (h:a≠b) (hc:yD p s a b≠0):zA p s=[]:=by
 classical
 unfold yD at hc
 split at hc
 ·rename_i hf
  unfold zA zM
  refine List.filter_eq_nil_iff.2 fun k _=>?_
  unfold qP
  simp[hf]
 split at hc
 ·assumption
 ·first|exact absurd rfl hc|(rw[if_neg h] at hc;exact absurd rfl hc)
theorem runKZ_thr (p:ProgL) (ts:List Int):∀ (m n:Nat) (s:StL) (tr:List Ev) (tk:List Int),tr.length≤ts.length→ts.length - tr.length=m→m<n →
  cutK ts.length (uJ p (pkT ts) ts.length n s tr tk)=kK p (ts.drop tr.length) s tr tk:=by
 intro m
 induction m with
 |zero =>
  intro n s tr tk h1 h2 h3
  have he:tr.length=ts.length:=by omega
  obtain⟨n,rfl⟩:∃ k,n=k+1:=⟨n - 1,by omega⟩
  rw[he,List.drop_length]
  have hc:yD p s (tr.length:Int) (ts.length:Int)≠0:=by rw[he];exact l0 p s _
  simp only[uJ,if_pos hc,cutK]
  rw[if_neg (by show ¬ tr.length<ts.length;omega)]
  simp only[kK,he]
 |succ m ih =>
  intro n s tr tk h1 h2 h3
  have hlt:tr.length<ts.length:=by omega
  obtain⟨n,rfl⟩:∃ k,n=k+1:=⟨n - 1,by omega⟩
  rw[List.drop_eq_getElem_cons hlt]
  have hne:(tr.length:Int)≠ts.length:=by omega
  have hgd:ts.getD tr.length 0=ts[tr.length]:=by rw[List.getD_eq_getElem?_getD,List.getElem?_eq_getElem hlt];rfl
  by_cases hc:yD p s (tr.length:Int) (ts.length:Int)≠0
  ·simp only[uJ,if_pos hc,cutK,kK]
   rw[if_pos hlt,codeL_mid hne hc,if_neg (by simp)]
  ·simp only[uJ,if_neg hc,kK]
   by_cases hm:ts[tr.length]∈(zA p s).map fun i=>((i:Nat):Int)
   ·rw[if_pos hm]
    have hp:¬ pkT ts (zA p s) tr.length<0:=by unfold pkT;rw[hgd];exact(sW _ _).2 hm
    rw[if_neg hp]
    have e:(zA p s).getD (pkT ts (zA p s) tr.length).toNat 0=ts[tr.length].toNat:=by unfold pkT;rw[hgd];exact en_at hm
    have e2:pkT ts (zA p s) tr.length=gD (bB ((zA p s).map fun i=>((i:Nat):Int)) ts[tr.length]):=by unfold pkT;rw[hgd]
    rw[e,e2]
    have:=ih n (zP p s ts[tr.length].toNat).1 (tr++[(zP p s ts[tr.length].toNat).2]) (tk++[gD (bB ((zA p s).map fun i=>((i:Nat):Int)) ts[tr.length])]) (by simp;omega) (by simp;omega) (by omega)
    rw[this]
    simp
   ·rw[if_neg hm]
    have hp:pkT ts (zA p s) tr.length<0:=by
     unfold pkT;rw[hgd]
     by_cases h:gD (bB ((zA p s).map fun i=>((i:Nat):Int)) ts[tr.length])<0
     ·exact h
     ·exact absurd ((sW _ _).1 h) hm
    rw[if_pos hp]
    rfl
theorem m9 (p:ProgL) (ts:List Int):cutK ts.length (uJ p (pkT ts) ts.length (ts.length+1) (yQ p) [] [])=kK p ts (yQ p) [] [] :=
 runKZ_thr p ts ts.length (ts.length+1) (yQ p) [] [] (by simp) (by simp) (by omega)
end Ai
namespace Ai
set_option maxRecDepth 100000
open Go Go.Proofs
def bN (en:List Nat) (t:Int):Nat→Int
 | 0=>-1
 |j+1=>if ((en.getD j 0:Nat):Int)=t then j else bN en t j
theorem eZ {en:List Nat} {t:Int}:∀ j,j≤en.length→(∀ i,i<j→((en.getD i 0:Nat):Int)≠t)→bN en t j=-1
 | 0,_,_=>rfl
 |j+1,h1,h2=>by
  unfold bN
  rw[if_neg (h2 j (by omega))]
  exact eZ j (by omega) fun i hi=>h2 i (by omega)
theorem lastN_at {en:List Nat} {t:Int} {k:Nat} (hk:k<en.length) (h1:((en.getD k 0:Nat):Int)=t) (h2:∀ i,i<en.length→i≠k→((en.getD i 0:Nat):Int)≠t):∀ j,j≤en.length→k<j→bN en t j=k
 | 0,_,h=>by omega
 |j+1,h3,h4=>by
  unfold bN
  by_cases e:j=k
  ·subst e;rw[if_pos h1]
  ·rw[if_neg (h2 j (by omega) e)]
   exact lastN_at hk h1 h2 j (by omega) (by omega)
theorem lastN_eq {en:List Nat} (hn:en.Nodup) (t:Int):bN en t en.length=gD (bB (en.map fun i=>((i:Nat):Int)) t):=by
 unfold bB
 cases hq:List.findIdx? (·==t) (en.map fun i=>((i:Nat):Int)) with
 |none =>
  have h:=List.findIdx?_eq_none_iff.1 hq
  rw[eZ en.length (Nat.le_refl _) fun i hi e=>?_]
  ·rfl
  ·rw[List.getD_eq_getElem?_getD,List.getElem?_eq_getElem hi] at e
   have:=h ((en[i]:Nat):Int) (List.mem_map.2 ⟨en[i],List.getElem_mem hi,rfl⟩)
   simp at this
   exact this e
 |some k =>
  obtain⟨g1,g2,g3⟩:=List.findIdx?_eq_some_iff_getElem.1 hq
  have hk:k<en.length:=by simpa using g1
  have e:((en[k]:Nat):Int)=t:=by simpa using g2
  refine lastN_at hk (by rw[List.getD_eq_getElem?_getD,List.getElem?_eq_getElem hk];exact e) (fun i hi hne e2=>?_) _ (Nat.le_refl _) hk
  rw[List.getD_eq_getElem?_getD,List.getElem?_eq_getElem hi] at e2
  have e2:((en[i]:Nat):Int)=t:=e2
  have:en[i]=en[k]:=by omega
  exact hne ((List.getElem_inj hn).1 this)
theorem en_nodup (p:ProgL) (s:StL):(zA p s).Nodup:=List.Pairwise.filter _ List.nodup_range
def RunS:Option (Int × List Ev × List Int × StL)→AV
 |some x=>.tup [agg (gQ x.1 x.2.1 x.2.2.1 x.2.2.2),bv true]
 |none=>.tup [agg (encRT rn0),bv false]
def oT (p:ProgL) (s:StL) (tr:List Ev) (tk:List Int):List (Key × Ob):=[(.n 2,.vs 42 ((encProg p).map .d)),(.n 4,.vs 46 [i64 0,.d .nil,.d .nil,.d .nil,.d .nil,.d .nil,i64 0]),
 (.n 6,.vs 46 [i64 0,.dref (.n 50) tr.length,.dref (.n 51) tk.length,sl (s.ths.map zE),sl (s.cells.map encF),sl (s.owner.map encInt),i64 s.fault]),(.n 50,.rs 105 5 (uA tr)),(.n 51,.rs 3 1 (vY tk))]
theorem s9 (p:ProgL) (hp:p.wf) (hg:p.goodS) (ts:List Int) (hl:ts.length≤1000) :
  CallsTo EE 73 [agg (encProg p),sl (ts.map encInt)] (·=RunS (kK p ts (yQ p) [] [])):=by
 have hI:=toIndexS
 have hR:=pS
 have hok:=tM hg
 obtain⟨b1,b2,b3,b4⟩:=hg.1
 refine callsTo_of_AW (fn:=Tryz.f73) Tryz.func73 rfl (by kernel_rfl) rfl ?_
 conv=>whnf
 refine⟨_,l3New_ok p ⟨b1.1,by have:=b1.2;omega⟩ ⟨b2.1,by have:=b2.2;omega⟩,?_⟩
 rintro r rfl
 conv=>whnf
 refine yJ (fun x:StL × List Ev × List Int=>[(1,sl (ts.map encInt)),(2,.ptr (.n 2) 0),(4,.ptr (.n 4) 0),(5,bv false),(6,.ptr (.n 6) 0),(18,sl (ts.map encInt)),(19,i64 (ts.map encInt).length),(20,i64 x.2.1.length)]) (fun x=>oT p x.1 x.2.1 x.2.2) (fun x=>ts.length - x.2.1.length)
  (fun x=>SInv p x.1∧x.2.1.length=x.2.2.length∧x.2.1.length≤ts.length∧kK p (ts.drop x.2.1.length) x.1 x.2.1 x.2.2=kK p ts (yQ p) [] []) (yQ p,[],[])
  ((qT (.n 6) (.n 50) 46 105 5 1 _ (by intro n h;cases h) (by intro h;cases h) rfl rfl).trans (qT (.n 6) (.n 51) 46 3 1 2 _ (by intro n h;cases h) (by intro h;cases h) rfl rfl))
  ⟨rfl,rfl,rfl,rfl,rfl,rfl,rfl,rfl,trivial⟩ ⟨rfl,rfl,rfl,rfl,rfl,trivial⟩ ⟨pR hg,rfl,Nat.zero_le _,rfl⟩ ?_
 rintro⟨s,tr,tk⟩ τ H ⟨hinv,hlen,hle,hrun⟩
 have hs:=hok.small s hinv
 have hrun:kK p (ts.drop tr.length) s tr tk=_:=hrun
 have hle:tr.length≤ts.length:=hle
 have hlen:tr.length=tk.length:=hlen
 conv=>whnf
 refine kbi (fun h=>?_) (fun h=>?_)
 rotate_left 1
 ·have he:tr.length=ts.length:=by
   have:¬ tr.length<ts.length:=fun e=>h (by simpa using e)
   omega
  conv=>whnf
  refine⟨_,j3 hI hR p s (ts.map encInt).length (ts.map encInt).length hp hs.1 (hok.seen s hinv),?_⟩
  rintro r rfl
  conv=>whnf
  refine .inl ?_
  conv=>whnf
  refine⟨[agg (gQ (yD p s (ts.map encInt).length (ts.map encInt).length) tr tk s),bv true],⟨_,_,rfl,⟨_,rfl,?_⟩,_,_,rfl,rfl,rfl⟩,?_⟩
  ·refine⟨di _,_,rfl,rfl,.sl (tr.map encEv),_,rfl,⟨_,rfl,tH (rows:=uA tr) (by rfl) (by simp) (by simp[uA]) ?_⟩,.sl (tk.map encInt),_,rfl,⟨_,rfl,tH (rows:=vY tk) (by rfl) (by simp) (by simp[vY]) ?_⟩,_,_,rfl,rfl,_,_,rfl,rfl,_,_,rfl,rfl,_,_,rfl,rfl,rfl⟩
   ·exact cE
   ·exact cB
  ·rw[← hrun,he,List.drop_length]
   simp[kK,RunS,he]
 have hlt:tr.length<ts.length:=by simpa using h
 have hdr:ts.drop tr.length=ts[tr.length]::ts.drop (tr.length+1):=List.drop_eq_getElem_cons hlt
 rw[hdr] at hrun
 have hen:=fZ hI hR p s hp hs.1 (hok.seen s hinv)
 have hnd:=en_nodup p s
 have hll:=hs.1.1
 have hel:(zA p s).length≤5:=Nat.le_trans uD hs.2
 generalize hte:ts[tr.length]=t at *
 conv=>whnf
 refine⟨encInt t,⟨by omega,?_,rfl⟩,?_⟩
 ·show(ts.map encInt)[((tr.length:Nat):Int).toNat]?=_
  simp[hlt,hte]
 conv=>whnf
 refine⟨_,hen,?_⟩
 rintro r rfl
 refine .inl ?_
 conv=>whnf
 refine yJ (fun j:Nat=>[(1,sl (ts.map encInt)),(2,.ptr (.n 2) 0),(4,.ptr (.n 4) 0),(5,bv false),(6,.ptr (.n 6) 0),(18,sl (ts.map encInt)),(19,i64 (ts.map encInt).length),(20,i64 tr.length),(8,i64 t),(9,sl ((zA p s).map xV)),(10,i64 (bN (zA p s) t j)),(28,sl ((zA p s).map xV)),(29,i64 ((zA p s).map xV).length),(30,i64 j)]) (fun j=>oT p s tr tk) (fun j=>(zA p s).length - j) (fun j=>j≤(zA p s).length) 0 .refl
  ⟨rfl,rfl,rfl,rfl,rfl,rfl,rfl,rfl,rfl,rfl,rfl,rfl,rfl,rfl,trivial⟩ ⟨rfl,rfl,rfl,rfl,rfl,trivial⟩ (Nat.zero_le _) ?_
 rintro j τ H hj
 have hj:j≤(zA p s).length:=hj
 conv=>whnf
 refine kbi (fun h2=>?_) (fun h2=>?_)
 ·have hlt2:=yH h2
  conv=>whnf
  refine⟨xV (zA p s)[j],zO xV hlt2 rfl,?_⟩
  conv=>whnf
  refine kbi (fun h3=>?_) (fun h3=>?_)
  ·have h3:(((zA p s)[j]:Nat):Int)=t:=by simpa using h3
   conv=>whnf
   refine⟨j+1,hlt2,by show(zA p s).length - (j+1)<(zA p s).length - j;omega,⟨rfl,rfl,rfl,rfl,rfl,rfl,rfl,rfl,rfl,rfl,?_,rfl,rfl,zK hlt2 (by omega),trivial⟩,⟨rfl,rfl,rfl,rfl,rfl,trivial⟩⟩
   show i64 j=i64 (bN (zA p s) t (j+1))
   unfold bN
   rw[if_pos (by rw[List.getD_eq_getElem?_getD,List.getElem?_eq_getElem hlt2];exact h3)]
  ·have h3:¬ (((zA p s)[j]:Nat):Int)=t:=by simpa using h3
   conv=>whnf
   refine⟨j+1,hlt2,by show(zA p s).length - (j+1)<(zA p s).length - j;omega,⟨rfl,rfl,rfl,rfl,rfl,rfl,rfl,rfl,rfl,rfl,?_,rfl,rfl,zK hlt2 (by omega),trivial⟩,⟨rfl,rfl,rfl,rfl,rfl,trivial⟩⟩
   show i64 (bN (zA p s) t j)=i64 (bN (zA p s) t (j+1))
   conv=>rhs;unfold bN
   rw[if_neg (by rw[List.getD_eq_getElem?_getD,List.getElem?_eq_getElem hlt2];exact h3)]
 have hje:j=(zA p s).length:=by
  have:¬ j<(zA p s).length:=fun e=>h2 (decide_eq_true (by simp;omega))
  omega
 subst hje
 rw[lastN_eq hnd t]
 have hfx:=sW ((zA p s).map fun i=>((i:Nat):Int)) t
 conv=>whnf
 refine kbi (fun h3=>?_) (fun h3=>?_)
 ·have h3:gD (bB ((zA p s).map fun i=>((i:Nat):Int)) t)<0:=by simpa using h3
  conv=>whnf
  rw[← hrun]
  simp only[kK]
  rw[if_neg (fun e=>(hfx.2 e) h3)]
  rfl
 have h3:¬ gD (bB ((zA p s).map fun i=>((i:Nat):Int)) t)<0:=by simpa using h3
 have hm:=hfx.1 h3
 simp only[kK] at hrun
 rw[if_pos hm] at hrun
 obtain⟨w,hw,hwt⟩:=List.mem_map.1 hm
 have hwn:t.toNat=w:=by omega
 rw[hwn] at hrun
 have hwl:=cJ hw
 subst hwt
 conv=>whnf
 refine⟨_,sN hI p s w hp hwl hs.2 hs.1 (hok.ready s hinv w hw hwl),?_⟩
 rintro r rfl
 conv=>whnf
 generalize hst:zP p s w=st at *
 generalize hkk:gD (bB ((zA p s).map fun i=>((i:Nat):Int)) ((w:Nat):Int))=kk at *
 refine⟨⟨fun c hc'=>?_,by show(tr.length+1)*40≤_;omega,by show tr.length+1≤_;omega⟩,?_⟩
 ·have hc':c∈[(encEv st.2).map AV.d]:=hc'
  simp only[List.mem_singleton] at hc'
  subst hc';rfl
 conv=>whnf
 refine⟨⟨fun c hc'=>?_,by show(tk.length+1)*8≤_;omega,by show tk.length+1≤_;omega⟩,?_⟩
 ·have hc':c∈[[i64 kk]]:=hc'
  simp only[List.mem_singleton] at hc'
  subst hc';rfl
 conv=>whnf
 refine⟨(st.1,tr++[st.2],tk++[kk]),⟨hst▸hok.step s hinv w hw,by simp;exact hlen,by simp;omega,?_⟩,?_,⟨rfl,rfl,rfl,rfl,rfl,rfl,rfl,?_,trivial⟩,⟨rfl,rfl,?_,?_,?_,trivial⟩⟩
 ·show kK p (ts.drop (tr++[st.2]).length) st.1 (tr++[st.2]) (tk++[kk])=_
  rw[show(tr++[st.2]).length=tr.length+1 by simp]
  exact hrun
 ·show ts.length - (tr++[st.2]).length<ts.length - tr.length
  simp;omega
 ·show AV.d (.int .i64 (IntKind.i64.wrap ((tr.length:Int)+1)))=i64 ((tr++[st.2]).length:Nat)
  rw[zK hlt (by omega)]
  simp
 ·show some (Ob.vs 46 [i64 0,.dref (.n 50) (tr.length+1),.dref (.n 51) (tk.length+1),_,_,_,_])=some (Ob.vs 46 [i64 0,.dref (.n 50) (tr++[st.2]).length,.dref (.n 51) (tk++[kk]).length,_,_,_,_])
  rw[List.length_append,List.length_append]
  rfl
 ·conv=>lhs;whnf
  refine congrArg some ?_
  repeat (refine xJ ?_ (congrArg (Ob.rs 105 5) (kW _ _)))
  refine congrArg (Ob.rs 105 5) (ev_push (tr:=tr) (e:=st.2) ?_)
  repeat (first|rfl|refine ev_scr' ?_)
 ·conv=>lhs;whnf
  refine congrArg some ?_
  repeat (refine xJ ?_ (congrArg (Ob.rs 3 1) (kR _ _)))
  refine congrArg (Ob.rs 3 1) (e7 (tk:=tk) (i:=kk) ?_)
  repeat (first|rfl|refine a9 ?_)
end Ai
namespace Ai
set_option maxRecDepth 100000
open Go Go.Proofs Cyc
def vF (t:List Ev):List Int:=t.map Ev.th
def kJ (l:List Int) (k:Nat):List Int:=(l.set k (l.getD (k+1) 0)).set (k+1) (l.getD k 0)
theorem s8 (t:List Ev) (hl:t.length≤1048576):CallsTo EE 75 [sl (t.map encEv)] (·=.uq 3 1 ((vF t).map encInt)):=by
 refine callsTo_of_AW (fn:=Tryz.f75) Tryz.func75 rfl (by kernel_rfl) rfl ?_
 conv=>whnf
 refine yJ (fun k:Nat=>[(6,sl (t.map encEv)),(7,i64 (t.map encEv).length),(8,i64 k),(3,.ref (.n 3) 0 k)])
  (fun k=>[(.n 3,.ds 3 1 ((vF (t.take k)).map encInt))]) (fun k=>t.length - k) (fun k=>k≤t.length) 0
  (weak_nil 3 (.n 3) 3 1 rfl) ⟨rfl,rfl,rfl,rfl,trivial⟩ ⟨rfl,trivial⟩ (Nat.zero_le _) ?_
 rintro k τ H hk
 have hk:k≤t.length:=hk
 conv=>whnf
 refine kbi (fun h=>?_) (fun h=>?_)
 ·have hlt:=yH h
  conv=>whnf
  refine⟨encEv t[k],zO encEv hlt rfl,?_⟩
  conv=>whnf
  refine⟨⟨rfl,by show(k+1)*8≤_;omega,by show k+1≤_;omega⟩,?_⟩
  conv=>whnf
  refine⟨k+1,hlt,by show t.length - (k+1)<t.length - k;omega,⟨rfl,rfl,zK hlt (by omega),rfl,trivial⟩,⟨?_,trivial⟩⟩
  show some (Ob.ds 3 1 (((vF (t.take k)).map encInt).take k++[encInt t[k].th]))=_
  rw[List.take_of_length_le (by simp[vF];omega),List.take_succ_eq_append_getElem hlt]
  simp only[vF,List.map_append]
  rfl
 ·have hge:k=t.length:=by
   have:¬ k<t.length:=fun e=>h (decide_eq_true (by simp;omega))
   omega
  subst hge
  conv=>whnf
  rw[List.take_length,List.take_of_length_le (by simp[vF])]
theorem n0 (t:List Ev) (hl:t.length≤1048576):CallsTo EE 78 [sl (t.map encEv)] (·=.uq 3 1 ((vF t).map encInt)):=by
 refine callsTo_of_AW (fn:=Tryz.f78) Tryz.func78 rfl (by kernel_rfl) rfl ?_
 conv=>whnf
 refine yJ (fun k:Nat=>[(7,sl (t.map encEv)),(8,i64 (t.map encEv).length),(9,i64 k),(3,.ref (.n 6) 0 k)])
  (fun k=>[(.n 6,.ds 3 1 ((vF (t.take k)).map encInt))]) (fun k=>t.length - k) (fun k=>k≤t.length) 0
  .refl ⟨rfl,rfl,rfl,rfl,trivial⟩ ⟨rfl,trivial⟩ (Nat.zero_le _) ?_
 rintro k τ H hk
 have hk:k≤t.length:=hk
 conv=>whnf
 refine kbi (fun h=>?_) (fun h=>?_)
 ·have hlt:=yH h
  conv=>whnf
  refine⟨encEv t[k],zO encEv hlt rfl,?_⟩
  conv=>whnf
  refine⟨⟨rfl,by show(k+1)*8≤_;omega,by show k+1≤_;omega⟩,?_⟩
  conv=>whnf
  refine⟨k+1,hlt,by show t.length - (k+1)<t.length - k;omega,⟨rfl,rfl,zK hlt (by omega),rfl,trivial⟩,⟨?_,trivial⟩⟩
  show some (Ob.ds 3 1 (((vF (t.take k)).map encInt).take k++[encInt t[k].th]))=_
  rw[List.take_of_length_le (by simp[vF];omega),List.take_succ_eq_append_getElem hlt]
  simp only[vF,List.map_append]
  rfl
 ·have hge:k=t.length:=by
   have:¬ k<t.length:=fun e=>h (decide_eq_true (by simp;omega))
   omega
  subst hge
  conv=>whnf
  rw[List.take_length,List.take_of_length_le (by simp[vF])]
theorem l9Turn_ok (l:List Int) (k:Nat) (hl:l.length≤1048576) (hk:k+1<l.length):CallsTo EE 74 [sl (l.map encInt),i64 k] (·=.uq 3 1 ((kJ l k).map encInt)):=by
 refine callsTo_of_AW (fn:=Tryz.f74) Tryz.func74 rfl (by kernel_rfl) rfl ?_
 have h1:(k:Nat)<l.length:=by omega
 conv=>whnf
 refine⟨_,l1Own_ok l hl,?_⟩
 rintro r rfl
 refine .inr ⟨_,rfl,?_⟩
 conv=>whnf
 have hw:IntKind.i64.wrap ((k:Int)+1)=((k+1:Nat):Int):=by rw[zF (by omega) (by omega)];simp
 rw[hw]
 refine⟨encInt l[k+1],zO encInt hk rfl,?_⟩
 conv=>whnf
 refine⟨⟨by omega,by simp;omega⟩,?_⟩
 conv=>whnf
 refine⟨encInt l[k],zO encInt h1 rfl,?_⟩
 conv=>whnf
 rw[hw]
 refine⟨⟨by omega,by simp;omega⟩,?_⟩
 conv=>whnf
 show AV.uq 3 1 (List.take (l.map encInt).length (((l.map encInt).set (0+((k:Nat):Int).toNat) (encInt l[k+1])).set (0+((k+1:Nat):Int).toNat) (encInt l[k])))=_
 rw[List.take_of_length_le (by simp),Nat.zero_add,Nat.zero_add,Int.toNat_natCast,Int.toNat_natCast]
 unfold kJ
 rw[List.map_set,List.map_set,List.getD_eq_getElem?_getD,List.getD_eq_getElem?_getD,List.getElem?_eq_getElem hk,List.getElem?_eq_getElem h1]
 rfl
end Ai
namespace Ai
set_option maxRecDepth 100000
open Go Go.Proofs Cyc
def jY:Ev:=⟨0,0,0,0,0⟩
end Ai
namespace Ai
set_option maxRecDepth 100000
open Go Go.Proofs
theorem arePicks_ok (xs:List Int) (most:Nat) (hx:xs.length≤1048576):CallsTo EE 173 [sl (xs.map encInt),i64 most] (·=bp (xs.length≤most∧AllIn xs 0 999)):=by
 refine callsTo_of_AW (fn:=Tryz.f173) Tryz.func173 rfl (by kernel_rfl) rfl ?_
 conv=>whnf
 refine kbi (fun h=>?_) (fun h=>?_)
 ·simp at h
  conv=>whnf
  refine ocase (iU xs hx 218 (fun n=>¬ InR n 0 999) (fun n _=>arePicks1_ok n)) (fun h2=>?_) (fun h2=>?_)
  ·conv=>whnf
   refine bpf fun hm=>?_
   obtain⟨x,hx1,hx2⟩:=h2
   exact hx2 (hm.2 x hx1)
  ·conv=>whnf
   refine bpt ⟨by omega,fun x hx1=>?_⟩
   exact Classical.byContradiction fun hb=>h2 ⟨x,hx1,hb⟩
 ·simp at h
  conv=>whnf
  exact bpf fun hm=>by have:=hm.1;omega
end Ai
namespace Ai
set_option maxRecDepth 100000
open Go Go.Proofs
theorem szOpS_ok (xs:List (List D)) (left:Int) (h0:0≤left) (h1:left≤1048576) (hx:xs.length≤9223372036854775807) :
  CallsTo EE 98 [sl xs,i64 left] (szR left xs.length):=by
 refine callsTo_of_AW (fn:=Tryz.f98) Tryz.func98 rfl (by kernel_rfl) rfl ?_
 conv=>whnf
 rw[zF (by omega) (by omega)]
 refine⟨fun h=>?_,fun h=>?_⟩
 ·conv=>whnf
  exact⟨-1,rfl,by omega,by omega,by omega⟩
 ·conv=>whnf
  simp at h
  exact⟨_,rfl,by omega,by omega,by omega⟩
theorem y9 (xs:List (List D)) (left:Int) (h0:0≤left) (h1:left≤1048576) (hx:xs.length≤9223372036854775807) :
  CallsTo EE 45 [sl xs,i64 left] (szR left xs.length):=by
 refine callsTo_of_AW (fn:=Tryz.f45) Tryz.func45 rfl (by kernel_rfl) rfl ?_
 conv=>whnf
 rw[zF (by omega) (by omega)]
 refine⟨fun h=>?_,fun h=>?_⟩
 ·conv=>whnf
  exact⟨-1,rfl,by omega,by omega,by omega⟩
 ·conv=>whnf
  simp at h
  exact⟨_,rfl,by omega,by omega,by omega⟩
theorem szOpSS_ok (xs:List (List OpL)) (left:Int) (h0:0≤left) (h1:left≤1048576) (hx:xs.length≤9223372036854775807) (hx2:∀ x∈xs,x.length≤9223372036854775807) :
  CallsTo EE 43 [sl (xs.map yA),i64 left] (szR left (jS List.length xs)):=by
 refine callsTo_of_AW (fn:=Tryz.f43) Tryz.func43 rfl (by kernel_rfl) rfl ?_
 conv=>whnf
 rw[zF (by simp;omega) (by simp;omega),List.length_map]
 refine⟨fun h=>?_,fun h=>?_⟩
 ·conv=>whnf
  exact⟨-1,rfl,by omega,by omega,by omega⟩
 ·simp at h
  conv=>whnf
  refine yJ (fun x:Nat × Int=>[(0,sl (xs.map yA)),(5,i64 x.1),(1,i64 x.2)]) (fun _=>[]) (fun x=>xs.length - x.1)
   (fun x=>x.1≤xs.length∧0≤x.2∧(xs.length:Int)+((xs.map List.length).take x.1).sum+x.2≤left) (0,left - xs.length) .refl ⟨rfl,rfl,rfl,trivial⟩ trivial ⟨by omega,by omega,by simp;omega⟩ ?_
  rintro⟨k,l⟩ τ H ⟨hk,hl,hs⟩
  dsimp only at hk hl hs
  conv=>whnf
  refine⟨fun h=>?_,fun h=>?_⟩
  ·have hlt:=yH h
   conv=>whnf
   refine⟨yA xs[k],zO yA hlt rfl,?_⟩
   conv=>whnf
   refine⟨_,szOpS_ok _ l hl (by omega) (by simpa using hx2 _ (List.getElem_mem hlt)),?_⟩
   rintro r ⟨n,rfl,hn1,hn2,hn3⟩
   conv=>whnf
   refine⟨fun h=>?_,fun h=>?_⟩
   ·conv=>whnf
    exact⟨-1,rfl,by omega,by omega,by omega⟩
   ·simp at h
    conv=>whnf
    refine⟨(k+1,n),⟨by omega,by omega,?_⟩,by show xs.length - (k+1)<xs.length - k;omega,⟨rfl,zK hlt hx,rfl,trivial⟩,trivial⟩
    have hm:k<(xs.map List.length).length:=by simpa using hlt
    rw[mC _ _ hm]
    have:=hn3 h
    simp at this ⊢
    omega
  ·have hge:=dO h
   conv=>whnf
   have hkk:k=xs.length:=by omega
   subst hkk
   refine⟨_,rfl,by omega,?_,?_⟩
   ·omega
   ·intro _
    simp only[jS]
    rw[List.take_of_length_le (by simp)] at hs
    simp at hs ⊢
    omega
theorem szProg_ok (p:ProgL) (left:Int) (h0:0≤left) (h1:left≤1048576) (hs:p.wf):CallsTo EE 9 [agg (encProg p),i64 left] (szR left p.size):=by
 refine callsTo_of_AW (fn:=Tryz.f9) Tryz.func9 rfl (by kernel_rfl) rfl ?_
 conv=>whnf
 refine⟨_,szOpSS_ok _ left h0 h1 hs.1 hs.2,?_⟩
 rintro r ⟨n,rfl,hn1,hn2,hn3⟩
 conv=>whnf
 refine⟨fun h=>?_,fun h=>?_⟩
 ·conv=>whnf
  exact⟨-1,rfl,by omega,by omega,by omega⟩
 ·simp at h
  conv=>whnf
  exact⟨_,rfl,by omega,by omega,hn3⟩
end Ai
namespace Ai
set_option maxRecDepth 100000
open Go Go.Proofs
theorem yO (n:Int) (h:(n != n)=true):False:=by simp at h
theorem d6 (xs:List Int) (hx:xs.length≤1048576):CallsTo EE 19 [sl (xs.map encInt),sl (xs.map encInt)] (·=bv true):=by
 refine callsTo_of_AW (fn:=Tryz.f19) Tryz.func19 rfl (by kernel_rfl) rfl ?_
 conv=>whnf
 refine⟨fun h=>(yO _ h).elim,fun _=>?_⟩
 conv=>whnf
 refine yJ (fun k:Nat=>[(0,sl (xs.map encInt)),(1,sl (xs.map encInt)),(5,i64 k)]) (fun k=>[]) (fun k=>xs.length - k) (fun k=>k≤xs.length) 0 .refl ⟨rfl,rfl,rfl,trivial⟩ trivial (Nat.zero_le _) ?_
 intro k τ H hk
 conv=>whnf
 refine⟨fun h=>?_,fun h=>?_⟩
 ·have hlt:=yH h
  conv=>whnf
  refine⟨by kernel_rfl,?_⟩
  conv=>whnf
  refine⟨encInt xs[k],zO encInt hlt rfl,?_⟩
  conv=>whnf
  refine⟨encInt xs[k],zO encInt hlt rfl,?_⟩
  conv=>whnf
  refine⟨fun h=>(yO _ h).elim,fun _=>?_⟩
  conv=>whnf
  refine⟨k+1,by omega,by show xs.length - (k+1)<xs.length - k;omega,⟨rfl,rfl,zK hlt (by omega),trivial⟩,trivial⟩
 ·conv=>whnf
theorem nV (x:Nat):CallsTo EE 120 [.d (.flt x),.d (.flt x)] (·=bv true):=by
 refine callsTo_of_AW (fn:=Tryz.f120) Tryz.func120 rfl (by kernel_rfl) rfl ?_
 conv=>whnf
 repeat' (refine kbi (fun h=>?_) (fun h=>?_) <;> first|contradiction|conv=>whnf)
 all_goals simp[aH] at *
 all_goals simp_all
theorem eqOp_ok (x:OpL):CallsTo EE 184 [agg (encOp x),agg (encOp x)] (·=bv true):=by
 refine callsTo_of_AW (fn:=Tryz.f184) Tryz.func184 rfl (by kernel_rfl) rfl ?_
 conv=>whnf
 refine⟨fun h=>(yO _ h).elim,fun _=>?_⟩
 conv=>whnf
 refine⟨fun h=>(yO _ h).elim,fun _=>?_⟩
 conv=>whnf
 refine⟨fun h=>(yO _ h).elim,fun _=>?_⟩
 conv=>whnf
 refine⟨_,nV x.v,?_⟩
 rintro r rfl
 conv=>whnf
theorem eqOpS_ok (xs:List OpL) (hx:xs.length≤1048576):CallsTo EE 121 [sl (xs.map encOp),sl (xs.map encOp)] (·=bv true):=by
 refine callsTo_of_AW (fn:=Tryz.f121) Tryz.func121 rfl (by kernel_rfl) rfl ?_
 conv=>whnf
 refine⟨fun h=>(yO _ h).elim,fun _=>?_⟩
 conv=>whnf
 refine yJ (fun k:Nat=>[(0,sl (xs.map encOp)),(1,sl (xs.map encOp)),(5,i64 k)]) (fun k=>[]) (fun k=>xs.length - k) (fun k=>k≤xs.length) 0 .refl ⟨rfl,rfl,rfl,trivial⟩ trivial (Nat.zero_le _) ?_
 intro k τ H hk
 conv=>whnf
 refine⟨fun h=>?_,fun h=>?_⟩
 ·have hlt:=yH h
  conv=>whnf
  refine⟨by kernel_rfl,?_⟩
  conv=>whnf
  refine⟨encOp xs[k],zO encOp hlt rfl,?_⟩
  conv=>whnf
  refine⟨encOp xs[k],zO encOp hlt rfl,?_⟩
  conv=>whnf
  refine⟨_,eqOp_ok xs[k],?_⟩
  conv=>whnf
  refine⟨k+1,by omega,by show xs.length - (k+1)<xs.length - k;omega,⟨rfl,rfl,zK hlt (by omega),trivial⟩,trivial⟩
 ·conv=>whnf
theorem eqOpSS_ok (xs:List (List OpL)) (hx:xs.length≤1048576) (hx2:∀ x∈xs,x.length≤1048576):CallsTo EE 63 [sl (xs.map yA),sl (xs.map yA)] (·=bv true):=by
 refine callsTo_of_AW (fn:=Tryz.f63) Tryz.func63 rfl (by kernel_rfl) rfl ?_
 conv=>whnf
 refine⟨fun h=>(yO _ h).elim,fun _=>?_⟩
 conv=>whnf
 refine yJ (fun k:Nat=>[(0,sl (xs.map yA)),(1,sl (xs.map yA)),(5,i64 k)]) (fun k=>[]) (fun k=>xs.length - k) (fun k=>k≤xs.length) 0 .refl ⟨rfl,rfl,rfl,trivial⟩ trivial (Nat.zero_le _) ?_
 intro k τ H hk
 conv=>whnf
 refine⟨fun h=>?_,fun h=>?_⟩
 ·have hlt:=yH h
  conv=>whnf
  refine⟨by kernel_rfl,?_⟩
  conv=>whnf
  refine⟨yA xs[k],zO yA hlt rfl,?_⟩
  conv=>whnf
  refine⟨yA xs[k],zO yA hlt rfl,?_⟩
  conv=>whnf
  refine⟨_,eqOpS_ok xs[k] (hx2 _ (List.getElem_mem hlt)),?_⟩
  conv=>whnf
  refine⟨k+1,by omega,by show xs.length - (k+1)<xs.length - k;omega,⟨rfl,rfl,zK hlt (by omega),trivial⟩,trivial⟩
 ·conv=>whnf
theorem d5 (p:ProgL) (h:p.rs.length≤1048576∧∀ x∈p.rs,x.length≤1048576):CallsTo EE 17 [agg (encProg p),agg (encProg p)] (·=bv true):=by
 refine callsTo_of_AW (fn:=Tryz.f17) Tryz.func17 rfl (by kernel_rfl) rfl ?_
 conv=>whnf
 refine⟨fun h=>(yO _ h).elim,fun _=>?_⟩
 conv=>whnf
 refine⟨fun h=>(yO _ h).elim,fun _=>?_⟩
 conv=>whnf
 refine⟨fun h=>(yO _ h).elim,fun _=>?_⟩
 conv=>whnf
 refine⟨_,eqOpSS_ok _ h.1 h.2,?_⟩
 rintro r rfl
 conv=>whnf
end Ai
namespace Ai
set_option maxRecDepth 100000
open Go Go.Proofs Cyc
theorem x5 (c:List Int) (k:Nat) (x:Int):yZ (c.map encInt) 1 (0+(k:Int).toNat) 0 [di x]=(c.set k x).map encInt:=by
 have e:yZ (c.map encInt) 1 (0+(k:Int).toNat) 0 [di x]=(c.map encInt).set k [di x]:=by
  unfold yZ
  rw[show([di x]:List D).length=1 from rfl,nbeq_self,nbeq_self]
  simp
 rw[e,List.map_set]
 rfl
end Ai
namespace Ai
set_option maxRecDepth 100000
open Go Go.Proofs Cyc
noncomputable def sZ (p:ProgL) (r:RunT) (k:Nat):Nat:=(zA p r.s).getD k 0
noncomputable def runBy (p:ProgL) (r:RunT) (k:Nat):RunT:=⟨0,r.tr++[(zP p r.s (sZ p r k)).2],r.tk++[(k:Int)],(zP p r.s (sZ p r k)).1⟩
def leaf (p:ProgL) (b:Int) (c:Int) (r:RunT):RunT:=⟨c,r.tr,r.tk,r.s⟩
noncomputable def cW (p:ProgL) (tr:List Ev):Nat→StL
 | 0=>yQ p
 |i+1=>(zP p (cW p tr i) (tr.getD i jY).th.toNat).1
theorem aU (p:ProgL) (tr:List Ev) (e:Ev):∀ i,i≤tr.length→cW p (tr++[e]) i=cW p tr i
 | 0,_=>rfl
 |i+1,h=>by
  rw[cW,cW,aU p tr e i (by omega)]
  have:(tr++[e]).getD i jY=tr.getD i jY:=by
   rw[List.getD_eq_getElem?_getD,List.getD_eq_getElem?_getD,List.getElem?_append_left (by omega)]
  rw[this]
structure XR (p:ProgL) (b:Int) (r:RunT):Prop where
 inv:AInv p r.s
 tr:TrOK r.s r.tr
 len:r.tr.length=r.tk.length
 le:(r.tr.length:Int)≤b
 tk:∀ i∈r.tk,0≤i∧i<5
 at_:cW p r.tr r.tr.length=r.s
 en:∀ i,i<r.tr.length→(r.tr.getD i jY).th.toNat∈zA p (cW p r.tr i)∧0≤(r.tr.getD i jY).th
 run:∀ picks,r.tk <+: picks→dD p picks b=mW p picks b (b.toNat+1 - r.tr.length) r.s r.tr r.tk
structure XEnd (p:ProgL) (b:Int) (x:RunT):Prop where
 fin:REnd p b x
 en:∀ i,i<x.tr.length→(x.tr.getD i jY).th.toNat∈zA p (cW p x.tr i)∧0≤(x.tr.getD i jY).th
 run:dD p x.tk b=x
theorem XR.new {p:ProgL} (hg:p.goodS) {b:Int} (hb:0≤b):XR p b ⟨0,[],[],yQ p⟩ :=
 ⟨dY hg,⟨fun e he=>(by cases he),fun h=>absurd rfl h⟩,rfl,hb,fun i hi=>(by cases hi),rfl,fun i hi=>(by cases hi),fun picks h=>rfl⟩
theorem XR.mem {p:ProgL} {b:Int} {r:RunT} {k:Nat} (hk:k<(zA p r.s).length):sZ p r k∈zA p r.s:=by
 unfold sZ
 rw[List.getD_eq_getElem?_getD,List.getElem?_eq_getElem hk];exact List.getElem_mem hk
theorem XR.step {p:ProgL} (hg:p.goodS) (hv:p.flt) {b:Int} {r:RunT} (h:XR p b r) (hc:¬ 0<yD p r.s r.tr.length b) {k:Nat} (hk:k<(zA p r.s).length):XR p b (runBy p r k):=by
 have hm:=XR.mem (b:=b) hk
 have h5:(zA p r.s).length≤5:=Nat.le_trans (uD) h.inv.si.len
 have hlb:=(en_ne hc).2
 have hle:=h.le
 have hth:(zP p r.s (sZ p r k)).2.th=(sZ p r k:Nat):=(aC p r.s _).1
 refine⟨fN hg hv hm h.inv,tr_step hg hm h.inv h.tr,by simp[runBy,h.len],?_,fun i hi=>?_,?_,fun i hi=>?_,fun picks hp=>?_⟩
 ·show((r.tr++[_]).length:Int)≤b
  simp;omega
 ·rcases List.mem_append.1 hi with e|e
  ·exact h.tk i e
  ·simp only[List.mem_cons,List.not_mem_nil,or_false] at e
   subst e;omega
 ·show cW p (r.tr++[_]) (r.tr++[_]).length=(zP p r.s _).1
  rw[List.length_append]
  show cW p (r.tr++[_]) (r.tr.length+1)=_
  rw[cW,aU _ _ _ _ (Nat.le_refl _),h.at_]
  have:(r.tr++[(zP p r.s (sZ p r k)).2]).getD r.tr.length jY=(zP p r.s (sZ p r k)).2:=by simp[List.getD_eq_getElem?_getD]
  rw[this,hth]
  rfl
 ·have hi:i<(r.tr++[(zP p r.s (sZ p r k)).2]).length:=hi
  show((r.tr++[_]).getD i jY).th.toNat∈zA p (cW p (r.tr++[_]) i)∧0≤((r.tr++[_]).getD i jY).th
  simp only[List.length_append,List.length_cons,List.length_nil] at hi
  rw[aU _ _ _ _ (by omega)]
  by_cases he:i=r.tr.length
  ·subst he
   have:(r.tr++[(zP p r.s (sZ p r k)).2]).getD r.tr.length jY=(zP p r.s (sZ p r k)).2:=by simp[List.getD_eq_getElem?_getD]
   rw[this,hth,h.at_]
   exact⟨by simpa using hm,by omega⟩
  ·have:(r.tr++[(zP p r.s (sZ p r k)).2]).getD i jY=r.tr.getD i jY:=by
    rw[List.getD_eq_getElem?_getD,List.getD_eq_getElem?_getD,List.getElem?_append_left (by omega)]
   rw[this]
   exact h.en i (by omega)
 ·have hp:r.tk++[(k:Int)] <+: picks:=hp
  obtain⟨more,rfl⟩:=hp
  rw[h.run _ ⟨[(k:Int)]++more,by simp⟩]
  have hn:b.toNat+1 - r.tr.length=(b.toNat - r.tr.length)+1:=by omega
  rw[hn,mW,if_neg hc]
  have hpk:wS (r.tk++[(k:Int)]++more) r.tk (zA p r.s).length=(k:Int):=by
   unfold wS
   rw[if_pos (by simp)]
   have:(r.tk++[(k:Int)]++more).getD r.tk.length 0=(k:Int):=by simp[List.getD_eq_getElem?_getD]
   rw[this]
   exact Int.tmod_eq_of_lt (by omega) (by omega)
  simp only[hpk]
  show _=mW p _ b (b.toNat+1 - (r.tr++[_]).length) _ _ _
  rw[show b.toNat+1 - (r.tr++[(zP p r.s (sZ p r k)).2]).length=b.toNat - r.tr.length by simp]
  rfl
theorem XR.leaf {p:ProgL} {b:Int} {r:RunT} (h:XR p b r) (hc:0<yD p r.s r.tr.length b):XEnd p b (leaf p b (yD p r.s r.tr.length b) r):=by
 refine⟨⟨h.inv,h.tr,rfl,hc,h.len,h.le,h.tk⟩,h.en,?_⟩
 show dD p r.tk b=_
 rw[h.run _ (List.prefix_rfl)]
 have hle:=h.le
 have hn:b.toNat+1 - r.tr.length=(b.toNat - r.tr.length)+1:=by omega
 rw[hn,mW,if_pos hc]
 rfl
end Ai
namespace Ai
set_option maxRecDepth 100000
open Go Go.Proofs
theorem rE (a b:Ev):CallsTo EE 125 [agg (encEv a),agg (encEv b)] (·=bp (bQ a b)):=by
 refine callsTo_of_AW (fn:=Tryz.f125) Tryz.func125 rfl (by kernel_rfl) rfl ?_
 conv=>whnf
 repeat' (first|refine kbi (fun h=>?_) (fun h=>?_)|refine ocase (touchS_ok b) (fun h=>?_) (fun h=>?_)|refine ocase (condS_ok b) (fun h=>?_) (fun h=>?_)) <;> conv=>whnf
 all_goals simp only[beq_iff_eq] at *
 all_goals first|exact bpt (by unfold bQ;simp[*])|exact bpf (by unfold bQ;simp[*])
theorem bindI_ok (a b:Ev):CallsTo EE 129 [agg (encEv a),agg (encEv b)] (·=bp (bQ a b)):=by
 refine callsTo_of_AW (fn:=Tryz.f129) Tryz.func129 rfl (by kernel_rfl) rfl ?_
 conv=>whnf
 repeat' (first|refine kbi (fun h=>?_) (fun h=>?_)|refine ocase (touchI_ok b) (fun h=>?_) (fun h=>?_)|refine ocase (condI_ok b) (fun h=>?_) (fun h=>?_)) <;> conv=>whnf
 all_goals simp only[beq_iff_eq] at *
 all_goals first|exact bpt (by unfold bQ;simp[*])|exact bpf (by unfold bQ;simp[*])
theorem sL (e:Ev):CallsTo EE 130 [agg (encEv e)] (·=i64 (gJ e)):=by
 refine callsTo_of_AW (fn:=Tryz.f130) Tryz.func130 rfl (by kernel_rfl) rfl ?_
 conv=>whnf
 refine⟨by kernel_rfl,?_⟩
 conv=>whnf
 refine⟨_,givesI_ok e,?_⟩
 conv=>whnf
 refine⟨_,takesI2_ok e,?_⟩
 conv=>whnf
 rfl
theorem hangS_ok (a b:Ev):CallsTo EE 72 [agg (encEv a),agg (encEv b)] (·=bp (mN a b)):=by
 refine callsTo_of_AW (fn:=Tryz.f72) Tryz.func72 rfl (by kernel_rfl) rfl ?_
 conv=>whnf
 refine⟨by kernel_rfl,?_⟩
 conv=>whnf
 refine kbi (fun h1=>?_) (fun h1=>?_)
 ·conv=>whnf
  exact bpt (.inl (by simpa using h1))
 have h1:¬ a.th=b.th:=by simpa using h1
 conv=>whnf
 refine⟨_,eU a,?_⟩
 conv=>whnf
 refine⟨_,eU b,?_⟩
 conv=>whnf
 have rest:¬ (vX a=vX b∧vX a≠-2)→(mN a b↔bQ a b∨bQ b a):=fun h=>by unfold mN;simp[h,h1]
 refine kbi (fun h2=>?_) (fun h2=>?_)
 ·have h2:vX a=vX b:=by simpa using h2
  conv=>whnf
  refine⟨_,eU a,?_⟩
  conv=>whnf
  refine kbi (fun h3=>?_) (fun h3=>?_)
  ·have h3:vX a≠-2:=by simpa using h3
   conv=>whnf
   exact bpt (.inr (.inr (.inr ⟨h2,h3⟩)))
  have h3:vX a=-2:=by simpa using h3
  have rest:=rest fun e=>e.2 h3
  conv=>whnf
  refine ocase (rE a b) (fun h=>?_) (fun h=>?_)
  ·conv=>whnf
   exact bpt (rest.2 (.inl h))
  conv=>whnf
  refine ocase (rE b a) (fun h4=>?_) (fun h4=>?_)
  ·conv=>whnf
   exact bpt (rest.2 (.inr h4))
  conv=>whnf
  exact bpf fun e=>(rest.1 e).elim h h4
 ·have h2:¬ vX a=vX b:=by simpa using h2
  have rest:=rest fun e=>h2 e.1
  conv=>whnf
  refine ocase (rE a b) (fun h=>?_) (fun h=>?_)
  ·conv=>whnf
   exact bpt (rest.2 (.inl h))
  conv=>whnf
  refine ocase (rE b a) (fun h4=>?_) (fun h4=>?_)
  ·conv=>whnf
   exact bpt (rest.2 (.inr h4))
  conv=>whnf
  exact bpf fun e=>(rest.1 e).elim h h4
theorem hangI_ok (a b:Ev):CallsTo EE 77 [agg (encEv a),agg (encEv b)] (·=bp (j8 a b)):=by
 refine callsTo_of_AW (fn:=Tryz.f77) Tryz.func77 rfl (by kernel_rfl) rfl ?_
 conv=>whnf
 refine⟨by kernel_rfl,?_⟩
 conv=>whnf
 refine kbi (fun h1=>?_) (fun h1=>?_)
 ·conv=>whnf
  exact bpt (.inl (by simpa using h1))
 have h1:¬ a.th=b.th:=by simpa using h1
 conv=>whnf
 refine fD (bindI_ok a b) (fun h2=>?_) (fun h2=>?_)
 ·conv=>whnf
  exact bpt (.inr (.inl h2))
 conv=>whnf
 refine fD (bindI_ok b a) (fun h3=>?_) (fun h3=>?_)
 ·conv=>whnf
  exact bpt (.inr (.inr (.inl h3)))
 have rest:j8 a b↔0≤gJ a∧gJ a=gJ b:=by unfold j8;simp[h1,h2,h3]
 conv=>whnf
 refine⟨_,sL a,?_⟩
 conv=>whnf
 refine kbi (fun h4=>?_) (fun h4=>?_)
 ·have h4:0≤gJ a:=by simpa using h4
  conv=>whnf
  refine⟨_,sL a,?_⟩
  conv=>whnf
  refine⟨_,sL b,?_⟩
  conv=>whnf
  refine kbi (fun h5=>?_) (fun h5=>?_)
  ·conv=>whnf
   exact bpt (rest.2 ⟨h4,by simpa using h5⟩)
  ·conv=>whnf
   exact bpf fun e=>h5 (by simpa using (rest.1 e).2)
 ·conv=>whnf
  exact bpf fun e=>h4 (decide_eq_true (rest.1 e).1)
end Ai
namespace Ai
set_option maxRecDepth 100000
open Go Go.Proofs
def qJ (k:Int) (n:Nat):List Int:=(List.range n).map fun (j:Nat)=>k+(j:Int)
theorem wZ (k:Int) (n:Nat):(qJ k n).length=n:=by simp[qJ]
theorem marks_get {k:Int} {n j:Nat} (h:j<n):(qJ k n)[j]?=some (k+(j:Int)):=by simp[qJ,h]
def uS (xs:List Int) (k:Int) (n:Nat):List Int:=qJ k n++xs.drop n
theorem tR {xs:List Int} {k:Int} {n:Nat} (h:n<xs.length):(uS xs k n).set n (k+(n:Int))=uS xs k (n+1):=by
 unfold uS
 rw[List.drop_eq_getElem_cons h,List.set_append_right _ _ (by rw[wZ];omega),wZ,Nat.sub_self,List.set_cons_zero]
 unfold qJ
 rw[List.range_succ,List.map_append]
 simp
theorem eP (xs:List Int) (k:Int):uS xs k xs.length=qJ k xs.length:=by simp[uS]
theorem gI (κ:Key) (hκ:κ=.n 77∨κ=.l 77) (xs:List Int) (k:Int) (hx:xs.length≤1048576) (h0:0≤k) (h1:k≤1073741824) (H0:Key→Option Ob) (hH:H0 κ=some (.ds 3 1 (xs.map encInt))) :
  IOCall EE 22 [.ref κ 0 xs.length,i64 k] H0 (fun r H1=>r=i64 (k+xs.length)∧H1 κ=some (.ds 3 1 ((qJ k xs.length).map encInt))∧∀ κ',isK κ κ'=false→H1 κ'=none):=by
 rcases hκ with rfl|rfl
 ·refine xH (fn:=Tryz.f22) (c:=Tryz.f22.body.getD .skip) Tryz.func22 rfl (by kernel_rfl) rfl ?_
  have hat:At [(0,.ref (.n 77) 0 xs.length),(1,i64 k)] [(.n 77,.ds 3 1 (xs.map encInt))] [] ⟨fun i=>[AV.ref (.n 77) 0 xs.length,i64 k].getD i .junk,H0⟩:=⟨⟨rfl,rfl,trivial⟩,⟨hH,trivial⟩,trivial⟩
  obtain⟨τ,H,hf⟩:=hat.form
  rw[hf]
  conv=>whnf
  refine yJ (fun n:Nat=>[(0,.ref (.n 77) 0 xs.length),(1,i64 (k+(n:Int))),(5,i64 n)]) (fun n=>[(.n 77,.ds 3 1 ((uS xs k n).map encInt))]) (fun n=>xs.length - n) (fun n=>n≤xs.length) 0
   Weak.refl ⟨rfl,?_,rfl,trivial⟩ ⟨?_,trivial⟩ (Nat.zero_le _) ?_
  ·show i64 k=i64 (k+((0:Nat):Int))
   rw[show k+((0:Nat):Int)=k by omega]
  ·show some (Ob.ds 3 1 (xs.map encInt))=some (Ob.ds 3 1 ((uS xs k 0).map encInt))
   simp[uS,qJ]
  intro n τ H hn
  have hn:n≤xs.length:=hn
  conv=>whnf
  refine kbi (fun h=>?_) (fun h=>?_)
  ·have hlt:n<xs.length:=by simpa using h
   conv=>whnf
   refine⟨⟨by omega,by omega⟩,?_⟩
   conv=>whnf
   refine⟨n+1,by show n+1≤xs.length;omega,by show xs.length - (n+1)<xs.length - n;omega,⟨rfl,?_,?_,trivial⟩,⟨?_,trivial⟩⟩
   ·show AV.d (.int .i64 (IntKind.i64.wrap ((k+(n:Int))+1)))=i64 (k+((n+1:Nat):Int))
    rw[zF (by omega) (by omega)]
    exact congrArg i64 (by omega)
   ·show AV.d (.int .i64 (IntKind.i64.wrap ((n:Int)+1)))=i64 ((n+1:Nat):Int)
    rw[zF (by omega) (by omega)]
    rfl
   ·show some (Ob.ds 3 1 (yZ ((uS xs k n).map encInt) 1 (0+(n:Int).toNat) 0 [di (k+(n:Int))]))=_
    rw[x5,tR hlt]
  ·have hkk:n=xs.length:=by
    have:¬ n<xs.length:=by simpa using h
    omega
   subst hkk
   conv=>whnf
   refine⟨_,Weak.refl,?_⟩
   conv=>whnf
   refine⟨isK (.n 77),rfl,?_,fun κ hκ=>?_⟩
   ·show some (Ob.ds 3 1 ((uS xs k xs.length).map encInt))=_
    rw[eP]
   ·unfold yS
    rw[hκ];rfl
 ·refine xH (fn:=Tryz.f22) (c:=Tryz.f22.body.getD .skip) Tryz.func22 rfl (by kernel_rfl) rfl ?_
  have hat:At [(0,.ref (.l 77) 0 xs.length),(1,i64 k)] [(.l 77,.ds 3 1 (xs.map encInt))] [] ⟨fun i=>[AV.ref (.l 77) 0 xs.length,i64 k].getD i .junk,H0⟩:=⟨⟨rfl,rfl,trivial⟩,⟨hH,trivial⟩,trivial⟩
  obtain⟨τ,H,hf⟩:=hat.form
  rw[hf]
  conv=>whnf
  refine yJ (fun n:Nat=>[(0,.ref (.l 77) 0 xs.length),(1,i64 (k+(n:Int))),(5,i64 n)]) (fun n=>[(.l 77,.ds 3 1 ((uS xs k n).map encInt))]) (fun n=>xs.length - n) (fun n=>n≤xs.length) 0
   Weak.refl ⟨rfl,?_,rfl,trivial⟩ ⟨?_,trivial⟩ (Nat.zero_le _) ?_
  ·show i64 k=i64 (k+((0:Nat):Int))
   rw[show k+((0:Nat):Int)=k by omega]
  ·show some (Ob.ds 3 1 (xs.map encInt))=some (Ob.ds 3 1 ((uS xs k 0).map encInt))
   simp[uS,qJ]
  intro n τ H hn
  have hn:n≤xs.length:=hn
  conv=>whnf
  refine kbi (fun h=>?_) (fun h=>?_)
  ·have hlt:n<xs.length:=by simpa using h
   conv=>whnf
   refine⟨⟨by omega,by omega⟩,?_⟩
   conv=>whnf
   refine⟨n+1,by show n+1≤xs.length;omega,by show xs.length - (n+1)<xs.length - n;omega,⟨rfl,?_,?_,trivial⟩,⟨?_,trivial⟩⟩
   ·show AV.d (.int .i64 (IntKind.i64.wrap ((k+(n:Int))+1)))=i64 (k+((n+1:Nat):Int))
    rw[zF (by omega) (by omega)]
    exact congrArg i64 (by omega)
   ·show AV.d (.int .i64 (IntKind.i64.wrap ((n:Int)+1)))=i64 ((n+1:Nat):Int)
    rw[zF (by omega) (by omega)]
    rfl
   ·show some (Ob.ds 3 1 (yZ ((uS xs k n).map encInt) 1 (0+(n:Int).toNat) 0 [di (k+(n:Int))]))=_
    rw[x5,tR hlt]
  ·have hkk:n=xs.length:=by
    have:¬ n<xs.length:=by simpa using h
    omega
   subst hkk
   conv=>whnf
   refine⟨_,Weak.refl,?_⟩
   conv=>whnf
   refine⟨isK (.l 77),rfl,?_,fun κ hκ=>?_⟩
   ·show some (Ob.ds 3 1 ((uS xs k xs.length).map encInt))=_
    rw[eP]
   ·unfold yS
    rw[hκ];rfl
theorem cC (k:Int) (n:Nat) (hx:n≤1048576) (h0:0≤k) (h1:k≤1073741824):CallsTo EE 42 [sl ((qJ k n).map encInt),i64 k] (·=i64 (k+n)):=by
 have hml:=wZ k n
 refine callsTo_of_AW (fn:=Tryz.f42) Tryz.func42 rfl (by kernel_rfl) rfl ?_
 conv=>whnf
 refine yJ (fun j:Nat=>[(0,sl ((qJ k n).map encInt)),(1,i64 (k+(j:Int))),(5,i64 j)]) (fun j=>[]) (fun j=>n - j) (fun j=>j≤n) 0
  Weak.refl ⟨rfl,?_,rfl,trivial⟩ trivial (Nat.zero_le _) ?_
 ·show i64 k=i64 (k+((0:Nat):Int))
  rw[show k+((0:Nat):Int)=k by omega]
 intro j τ H hj
 have hj:j≤n:=hj
 conv=>whnf
 refine kbi (fun h=>?_) (fun h=>?_)
 ·have hlt:=yH h
  rw[hml] at hlt
  conv=>whnf
  refine⟨encInt (k+(j:Int)),⟨by omega,?_,rfl⟩,?_⟩
  ·rw[List.getElem?_map,Int.toNat_natCast,marks_get hlt];rfl
  conv=>whnf
  refine kbi (fun h=>absurd h (by simp)) (fun _=>?_)
  conv=>whnf
  refine⟨j+1,by show j+1≤n;omega,by show n - (j+1)<n - j;omega,⟨rfl,?_,?_,trivial⟩,trivial⟩
  ·show AV.d (.int .i64 (IntKind.i64.wrap ((k+(j:Int))+1)))=i64 (k+((j+1:Nat):Int))
   rw[zF (by omega) (by omega)]
   exact congrArg i64 (by omega)
  ·show AV.d (.int .i64 (IntKind.i64.wrap ((j:Int)+1)))=i64 ((j+1:Nat):Int)
   rw[zF (by omega) (by omega)]
   rfl
 ·have hkk:j=n:=by
   have:¬ j<n:=by simpa[hml] using h
   omega
  subst hkk
  conv=>whnf
  try rfl
end Ai
namespace Ai
set_option maxRecDepth 100000
open Go Go.Proofs
theorem vR (els:List (List D)) (sz k off:Nat) (xs:List D):(yZ els sz k off xs).length=els.length:=by
 unfold yZ
 cases Nat.beq off 0&&Nat.beq xs.length sz <;> simp
theorem mU {x:D}:∀ (c:List D) (off:Nat),off<c.length→(yE c off [x]).length=c.length
 | [],off,h=>by simp at h
 |c::cs,0,h=>by simp[yE]
 |c::cs,off+1,h=>by
  have:=mU (x:=x) cs off (by simpa using h)
  simp[yE,this]
theorem aD {els:List (List D)} {k off:Nat} {x:D} (h:∀ c∈els,c.length=4) (ho:off<4):∀ c∈yZ els 4 k off [x],c.length=4:=by
 intro c hc
 unfold yZ at hc
 rw[show Nat.beq ([x]:List D).length 4=false from rfl,Bool.and_false] at hc
 obtain⟨i,hi,rfl⟩:=List.mem_iff_getElem.1 hc
 have hil:i<els.length:=by simpa using hi
 have h4:=h _ (List.getElem_mem hil)
 simp only[cond_false,List.getElem_modify]
 split
 ·rw[mU _ _ (by omega)];exact h4
 ·exact h4
theorem markOpS_ok (els:List (List D)) (k:Int) (n:Nat) (hn:n=els.length) (hx:n≤1048576) (h4:∀ c∈els,c.length=4) (h0:0≤k) (h1:k≤1073741824) (H0:Key→Option Ob) (hH:H0 (.n 50)=some (.ds 135 4 els)) :
  IOCall EE 123 [.ref (.n 50) 0 n,i64 k] H0 (fun r H1=>r=i64 (k+4*n)∧∀ κ,H1 κ=none):=by
 refine xH (fn:=Tryz.f123) (c:=Tryz.f123.body.getD .skip) Tryz.func123 rfl (by kernel_rfl) rfl ?_
 have hat:At [(0,.ref (.n 50) 0 n),(1,i64 k)] [(.n 50,.ds 135 4 els)] [] ⟨fun i=>[AV.ref (.n 50) 0 n,i64 k].getD i .junk,H0⟩:=⟨⟨rfl,rfl,trivial⟩,⟨hH,trivial⟩,trivial⟩
 obtain⟨τ,H,hf⟩:=hat.form
 rw[hf]
 conv=>whnf
 refine yJ (fun x:Nat × List (List D)=>[(0,.ref (.n 50) 0 n),(1,i64 (k+4*(x.1:Int))),(5,i64 x.1)]) (fun x=>[(.n 50,.ds 135 4 x.2)]) (fun x=>n - x.1) (fun x=>x.1≤n∧x.2.length=n∧∀ c∈x.2,c.length=4) (0,els)
  Weak.refl ⟨rfl,?_,rfl,trivial⟩ ⟨rfl,trivial⟩ ⟨Nat.zero_le _,hn.symm,h4⟩ ?_
 ·show i64 k=i64 (k+4*((0:Nat):Int))
  rw[show k+4*((0:Nat):Int)=k by omega]
 rintro⟨i,E⟩ τ H ⟨hi,hE,hE4⟩
 have hi:i≤n:=hi
 have hE:E.length=n:=hE
 have hE4:∀ c∈E,c.length=4:=hE4
 conv=>whnf
 refine kbi (fun h=>?_) (fun h=>?_)
 ·have hlt:i<n:=by simpa using h
  conv=>whnf
  refine⟨⟨by show 0≤(i:Int);omega,by show(i:Int)<n;omega⟩,?_⟩
  conv=>whnf
  refine⟨⟨by show 0≤(i:Int);omega,by show(i:Int)<n;omega⟩,?_⟩
  conv=>whnf
  refine⟨⟨by show 0≤(i:Int);omega,by show(i:Int)<n;omega⟩,?_⟩
  conv=>whnf
  refine⟨⟨by show 0≤(i:Int);omega,by show(i:Int)<n;omega⟩,?_⟩
  conv=>whnf
  refine⟨(i+1,yZ (yZ (yZ (yZ E 4 (0+(i:Int).toNat) (0+0) [.int .i64 (k+4*(i:Int))]) 4 (0+(i:Int).toNat) (0+1) [.int .i64 (IntKind.i64.wrap (k+4*(i:Int)+1))]) 4 (0+(i:Int).toNat) (0+2) [.int .i64 (IntKind.i64.wrap (IntKind.i64.wrap (k+4*(i:Int)+1)+1))]) 4 (0+(i:Int).toNat) (0+3) [.flt (FloatKind.f64.nearest (IntKind.i64.wrap (IntKind.i64.wrap (IntKind.i64.wrap (k+4*(i:Int)+1)+1)+1)))]),⟨by show i+1≤n;omega,?_,?_⟩,by show n - (i+1)<n - i;omega,⟨rfl,?_,?_,trivial⟩,⟨rfl,trivial⟩⟩
  ·dsimp only
   rw[vR,vR,vR,vR,hE]
  ·dsimp only
   refine aD (aD (aD (aD hE4 ?_) ?_) ?_) ?_ <;> omega
  ·show AV.d (.int .i64 (IntKind.i64.wrap (IntKind.i64.wrap (IntKind.i64.wrap (IntKind.i64.wrap ((k+4*(i:Int))+1)+1)+1)+1)))=i64 (k+4*((i+1:Nat):Int))
   rw[zF (n:=k+4*(i:Int)+1) (by omega) (by omega),zF (n:=k+4*(i:Int)+1+1) (by omega) (by omega),zF (n:=k+4*(i:Int)+1+1+1) (by omega) (by omega),zF (n:=k+4*(i:Int)+1+1+1+1) (by omega) (by omega)]
   exact congrArg i64 (by omega)
  ·show AV.d (.int .i64 (IntKind.i64.wrap ((i:Int)+1)))=i64 ((i+1:Nat):Int)
   rw[zF (by omega) (by omega)]
   rfl
 ·conv=>whnf
  have hkk:i=n:=by
   have:¬ i<n:=by simpa using h
   omega
  subst hkk
  refine⟨_,Weak.refl,?_⟩
  conv=>whnf
  exact⟨fun _=>false,rfl,fun κ=>rfl⟩
end Ai
namespace Ai
set_option maxRecDepth 100000
open Go Go.Proofs
theorem xB {g:FuncId} {xs ys:List AV} {H0:Key→Option Ob} {Post:AV→(Key→Option Ob)→Prop} (h:IOCall EE g xs H0 Post) (e:ys=xs):IOCall EE g ys H0 Post:=by rw[e];exact h
def lY (subs:List (List (List D))) (i j:Nat):List AV:=if j<i then [.junk] else [.ref (.s 903 j) 0 (subs.getD j []).length]
def wV (subs:List (List (List D))) (i:Nat):List (List AV):=(List.range subs.length).map (lY subs i)
def wX (subs:List (List (List D))) (i j:Nat):Option Ob:=if j<i then none else (subs[j]?).map (.ds 135 4)
theorem w6 {subs:List (List (List D))} {i j:Nat} (h:j<subs.length):(wV subs i)[j]?=some (lY subs i j):=by simp[wV,h]
theorem rY {subs:List (List (List D))} {i i':Nat} (f:List AV→List AV) (h:∀ j,f (lY subs i j)=lY subs i' j):(wV subs i).map f=wV subs i':=by
 unfold wV
 rw[List.map_map]
 exact List.map_congr_left fun j _=>h j
theorem wQ (f:Key→Key) (subs:List (List (List D))) (i j:Nat):(wX subs i j).map (renO f)=wX subs i j:=by
 unfold wX
 split
 ·rfl
 ·cases subs[j]? <;> rfl
theorem vO (p:Key→Bool) (subs:List (List (List D))) (i j:Nat):(wX subs i j).map (scrPO p)=wX subs i j:=by
 unfold wX
 split
 ·rfl
 ·cases subs[j]? <;> rfl
def tot (subs:List (List (List D))) (i:Nat):Nat:=((subs.take i).map List.length).sum
theorem tot_succ {subs:List (List (List D))} {i:Nat} (h:i<subs.length):tot subs (i+1)=tot subs i+subs[i].length:=by
 unfold tot
 rw[List.take_succ_eq_append_getElem h,List.map_append,List.sum_append]
 simp
theorem tot_le (subs:List (List (List D))) (i:Nat):tot subs i≤tot subs subs.length:=by
 unfold tot
 rw[List.take_length]
 have:∀ (l:List Nat) (i:Nat),(l.take i).sum≤l.sum:=by
  intro l
  induction l with
  |nil=>simp
  |cons x xs ih =>
   intro i
   cases i with
   |zero=>simp
   |succ i=>simp only[List.take_succ_cons,List.sum_cons];have:=ih i;omega
 rw[List.map_take]
 exact this _ i
theorem markOpSS_ok (subs:List (List (List D))) (k:Int) (hx:subs.length≤1048576) (hs:∀ q∈subs,∀ c∈q,c.length=4) (ht:tot subs subs.length≤1048576) (h0:0≤k) (h1:k≤1048576) (H0:Key→Option Ob)
  (hH:H0 (.n 903)=some (.rs 133 1 (wV subs 0))) (hF:∀ j,H0 (.s 903 j)=wX subs 0 j) :
  IOCall EE 65 [.dref (.n 903) subs.length,i64 k] H0 (fun r H1=>r=i64 (k+4*tot subs subs.length)∧∀ κ,H1 κ=none):=by
 refine xH (fn:=Tryz.f65) (c:=Tryz.f65.body.getD .skip) Tryz.func65 rfl (by kernel_rfl) rfl ?_
 have hat:At [(0,.dref (.n 903) subs.length),(1,i64 k)] [(.n 903,.rs 133 1 (wV subs 0))] [(903,wX subs 0)] ⟨fun i=>[AV.dref (.n 903) subs.length,i64 k].getD i .junk,H0⟩:=⟨⟨rfl,rfl,trivial⟩,⟨hH,trivial⟩,⟨hF,trivial⟩⟩
 obtain⟨τ,H,hf⟩:=hat.form
 rw[hf]
 conv=>whnf
 refine gR (fun i:Nat=>[(0,.dref (.n 903) subs.length),(1,i64 (k+4*(tot subs i:Int))),(5,i64 i)]) (fun i=>[(.n 903,.rs 133 1 (wV subs i))]) (fun i=>[(903,wX subs i)]) (fun i=>subs.length - i) (fun i=>i≤subs.length) 0
  Weak.refl ⟨rfl,?_,rfl,trivial⟩ ⟨rfl,trivial⟩ ⟨fun j=>?_,trivial⟩ (Nat.zero_le _) ?_
 ·show i64 k=i64 (k+4*((tot subs 0:Nat):Int))
  rw[show k+4*((tot subs 0:Nat):Int)=k by simp[tot]]
 ·rfl
 intro i τ H hi
 have hi:i≤subs.length:=hi
 have hti:=tot_le subs i
 conv=>whnf
 refine kbi (fun h=>?_) (fun h=>?_)
 ·have hlt:i<subs.length:=by simpa using h
  conv=>whnf
  refine⟨⟨by omega,by omega⟩,?_⟩
  conv=>whnf
  have hgi:subs.getD i []=subs[i]:=by simp[List.getD_eq_getElem?_getD,hlt]
  have hrow:lY subs i i=[.ref (.s 903 i) 0 subs[i].length]:=by unfold lY;rw[if_neg (by omega),hgi]
  have hfi:wX subs i i=some (.ds 135 4 subs[i]):=by unfold wX;rw[if_neg (by omega),List.getElem?_eq_getElem hlt];rfl
  refine⟨[.ref (.s 903 i) 0 subs[i].length],⟨?_,Nat.le_refl _⟩,?_⟩
  ·rw[Int.toNat_natCast,w6 hlt,hrow]
  conv=>whnf
  have hsw:swp (.n 50) (.s 903 i) (.s 903 i)=.n 50:=by simp[swp,Key.beq]
  have hts:=tot_succ hlt
  have hti2:=tot_le subs (i+1)
  split
  case' h_1=>conv=>whnf
  case' h_1=>refine .inr (.inr (.inr (.inl ?_)))
  case' h_2=>refine .inr (.inr (.inl ?_))
  all_goals
   refine⟨_,123,[],uI 50 903 i,rfl,999,0,isK (.n 50),(fun r H1=>r=i64 ((k+4*(tot subs i:Int))+4*(subs[i].length:Nat))∧∀ κ,H1 κ=none),?_,rfl,?_⟩
   ·refine xB (markOpS_ok subs[i] (k+4*(tot subs i:Int)) subs[i].length rfl (by omega) (hs _ (List.getElem_mem hlt)) (by omega) (by omega) _ ?_) ?_
    ·show Option.map _ (Option.map _ (Option.map _ (wX subs i i)))=_
     rw[hfi]
     rfl
    ·show[scrP _ (.ref (swp (.n 999) (.l 0) (swp (.n 50) (.s 903 i) (.s 903 i))) 0 subs[i].length),_]=_
     rw[hsw]
     rfl
   ·rintro r H1 ⟨rfl,q⟩
    refine⟨fun κ _=>q κ,fun n hn=>(by cases hn),?_⟩
    conv=>whnf
    have hne:∀ j,j≠i→swp (.n 50) (.s 903 i) (.s 903 j)=.s 903 j:=fun j hj=>by simp[swp,Key.beq,nbeq_ne hj]
    refine⟨i+1,_,uI 50 903 i,by show i+1≤subs.length;omega,by show subs.length - (i+1)<subs.length - i;omega,⟨rfl,?_,?_,trivial⟩,⟨?_,trivial⟩,⟨fun j=>?_,trivial⟩⟩
    ·show i64 (k+4*((tot subs i:Nat):Int)+4*((subs[i].length:Nat):Int))=i64 (k+4*((tot subs (i+1):Nat):Int))
     rw[hts]
     exact congrArg i64 (by omega)
    ·show AV.d (.int .i64 (IntKind.i64.wrap ((i:Int)+1)))=i64 ((i+1:Nat):Int)
     rw[zF (by omega) (by omega)]
     rfl
    ·show some (Ob.rs 133 1 ((((((wV subs i).map (renL (swp (.n 50) (.s 903 i)))).map (renL (swp (.n 999) (.l 0)))).map (scrPL (xK (isK (.n 50))))).map (renL (swp (.n 999) (.l 0)))).map (renL (swp (.n 50) (.s 903 i)))))=_
     rw[List.map_map,List.map_map,List.map_map,List.map_map]
     refine congrArg (fun x=>some (Ob.rs 133 1 x)) (rY _ fun j=>?_)
     by_cases hj:j=i
     ·subst hj
      rw[hrow]
      unfold lY
      rw[if_pos (by omega)]
      show renL _ (renL _ (scrPL _ (renL _ [AV.ref (swp (.n 50) (.s 903 j) (.s 903 j)) 0 _])))=_
      rw[hsw]
      rfl
     ·unfold lY
      by_cases hji:j<i
      ·rw[if_pos hji,if_pos (by omega)]
       rfl
      ·rw[if_neg hji,if_neg (by omega)]
       show renL _ (renL _ (scrPL _ (renL _ [AV.ref (swp (.n 50) (.s 903 i) (.s 903 j)) 0 _])))=_
       rw[hne j hj]
       show[AV.ref (swp (.n 50) (.s 903 i) (.s 903 j)) 0 _]=_
       rw[hne j hj]
    ·show(St.H _ (swp (.n 50) (.s 903 i) (.s 903 j))).map _=_
     by_cases hj:j=i
     ·subst hj
      rw[hsw]
      show Option.map _ (Option.map _ (H1 (.n 50)))=_
      rw[q]
      unfold wX
      rw[if_pos (by omega)]
      rfl
     ·rw[hne j hj]
      show Option.map _ (Option.map _ (Option.map _ (Option.map _ (Option.map _ (St.H _ (swp (.n 50) (.s 903 i) (.s 903 j)))))))=_
      rw[hne j hj]
      show Option.map _ (Option.map _ (Option.map _ (Option.map _ (Option.map _ (wX subs i j)))))=_
      rw[wQ,wQ,vO,wQ,wQ]
      unfold wX
      by_cases hji:j<i
      ·rw[if_pos hji,if_pos (by omega)]
      ·rw[if_neg hji,if_neg (by omega)]
 ·conv=>whnf
  have hkk:i=subs.length:=by
   have:¬ i<subs.length:=by simpa using h
   omega
  subst hkk
  refine⟨_,Weak.refl,?_⟩
  conv=>whnf
  exact⟨fun _=>false,rfl,fun κ=>rfl⟩
end Ai
namespace Ai
set_option maxRecDepth 100000
open Go Go.Proofs Cyc
def hY (e:Ev):Prop:=((e.kind=4∨e.kind=5)→0≤e.obj)∧((e.kind=8∨e.kind=9)→0≤e.lock)
theorem q8 {e:Ev} (h:hY e):(vX e=-2∧gJ e=-1)∨(0≤vX e∧gJ e=vX e):=by
 obtain⟨h1,h2⟩:=h
 unfold vX gJ aT iG
 by_cases k4:e.kind=4
 ·have:=h1 (.inl k4);simp[k4];omega
 by_cases k5:e.kind=5
 ·have:=h1 (.inr k5);simp[k5];omega
 by_cases k8:e.kind=8
 ·have:=h2 (.inl k8);simp[k8];omega
 by_cases k9:e.kind=9
 ·have:=h2 (.inr k9);simp[k9];omega
 simp[k4,k5,k8,k9]
theorem hang_same {a b:Ev} (ha:hY a) (hb:hY b):mN a b↔j8 a b:=by
 unfold mN j8
 have h1:=q8 ha
 have h2:=q8 hb
 have:(vX a=vX b∧vX a≠-2)↔(0≤gJ a∧gJ a=gJ b):=by omega
 rw[this]
theorem do_lock {s:StL} {k:Nat} {o:OpL} {e:Ev} {t:Th} (hf:o.fits s t):hY (doL s k o e).2:=by
 have ok:∀ e':Ev,e'.kind≠4→e'.kind≠5→e'.kind≠8→e'.kind≠9→hY e':=fun e' a b c d=>⟨fun h=>(h.elim a b).elim,fun h=>(h.elim c d).elim⟩
 unfold doL
 simp only
 by_cases h1:o.code=1
 ·rw[if_pos h1];exact ok _ (by simp) (by simp) (by simp) (by simp)
 rw[if_neg h1]
 by_cases h2:o.code=2
 ·rw[if_pos h2];exact ok _ (by simp) (by simp) (by simp) (by simp)
 rw[if_neg h2]
 by_cases h3:o.code=3
 ·rw[if_pos h3];exact ok _ (by simp) (by simp) (by simp) (by simp)
 rw[if_neg h3]
 by_cases h4:o.code=10
 ·rw[if_pos h4];exact ok _ (by simp) (by simp) (by simp) (by simp)
 rw[if_neg h4]
 by_cases h5:o.code=11
 ·rw[if_pos h5];exact ok _ (by simp) (by simp) (by simp) (by simp)
 rw[if_neg h5]
 by_cases h6:o.code=12
 ·rw[if_pos h6]
  exact⟨fun _=>(hf.2.2.1 (.inl h6)).1,fun h=>by simp at h⟩
 rw[if_neg h6]
 by_cases h7:o.code=13
 ·rw[if_pos h7]
  exact⟨fun _=>(hf.2.2.1 (.inr h7)).1,fun h=>by simp at h⟩
 rw[if_neg h7]
 by_cases h8:o.code=14
 ·rw[if_pos h8];exact ok _ (by simp) (by simp) (by simp) (by simp)
 rw[if_neg h8]
 by_cases h9:o.code=15
 ·rw[if_pos h9];exact ok _ (by simp) (by simp) (by simp) (by simp)
 rw[if_neg h9]
 by_cases h10:o.code=16
 ·rw[if_pos h10]
  exact⟨fun h=>by simp at h,fun _=>(hf.2.2.2.1 h10).1⟩
 rw[if_neg h10]
 by_cases h11:o.code=17
 ·rw[if_pos h11]
  split <;> exact ok _ (by simp) (by simp) (by simp) (by simp)
 rw[if_neg h11]
 exact ok _ (by simp) (by simp) (by simp) (by simp)
theorem step_lock {p:ProgL} {s:StL} {k:Nat} (hk:k<s.ths.length) (hr:s.ths[k].ready p s k):hY (zP p s k).2:=by
 have hg:s.ths.getD k th0=s.ths[k]:=by simp[List.getD_eq_getElem?_getD,hk]
 unfold zP
 simp only[hg]
 split
 ·rename_i h4
  exact⟨fun h=>by simp at h,fun _=>(hr.lock h4).1⟩
 ·split
  ·exact⟨fun h=>by simp at h,fun h=>by simp at h⟩
  ·rename_i o ho
   split
   ·rename_i hf
    exact do_lock ((hr.op o ho).2 hf)
   ·exact⟨fun h=>by simp at h,fun h=>by simp at h⟩
end Ai
namespace Ai
set_option maxRecDepth 100000
open Go Go.Proofs Cyc
structure Eff where
 t:Th
 cw:Option (Nat × Nat)
 ow:Option (Nat × Int)
 sp:Option Th
 wk:Option Nat
 ev:Ev
def aM (l:List Th):Option Nat→List Th
 |some j=>l.modify j fun u=>{ u with st:=4 }
 |none=>l
def mV {α:Type} (l:List α):Option (Nat × α)→List α
 |some (a,v)=>l.set a v
 |none=>l
def Eff.app (f:Eff) (s:StL) (k:Nat):StL :=
 { ths:=(aM s.ths f.wk++f.sp.toList).set k f.t,cells:=mV s.cells f.cw,owner:=mV s.owner f.ow,fault:=s.fault }
structure EffOK (f:Eff) (s:StL) (k:Nat):Prop where
 th:f.ev.th=k
 cw:∀ a v,f.cw=some (a,v)→f.ev.kind=3∧f.ev.obj=a
 ow:∀ a x,f.ow=some (a,x)→vX f.ev=a
 sp:∀ t,f.sp=some t→f.ev.kind=6∧f.ev.obj=s.ths.length∧t.st=1
 wk:∀ j,f.wk=some j→f.ev.kind=10∧f.ev.lock=j∧j≠k∧j<s.ths.length∧(s.ths.getD j th0).st=3∧(s.ths.getD j th0).cond=f.ev.obj
 st3:f.t.st=3→f.ev.kind=8∧f.ev.obj=f.t.cond
 st2:f.t.st=2→f.ev.kind=11
section
variable {f:Eff} {s:StL} {k:Nat}
theorem bX (l:List Th) (o:Option Nat):(aM l o).length=l.length:=by cases o <;> simp[aM]
theorem uP:(f.app s k).ths.length=s.ths.length+f.sp.toList.length:=by simp[Eff.app,bX]
theorem cO (hk:k<s.ths.length):(f.app s k).ths.getD k th0=f.t:=by
 rw[List.getD_eq_getElem?_getD]
 simp only[Eff.app]
 rw[List.getElem?_set_self (by rw[List.length_append,bX];omega)]
 rfl
theorem app_pre {u:Nat} (hu:u≠k):(f.app s k).ths.getD u th0=(aM s.ths f.wk++f.sp.toList).getD u th0:=by
 rw[List.getD_eq_getElem?_getD,List.getD_eq_getElem?_getD]
 simp only[Eff.app]
 rw[List.getElem?_set_ne (Ne.symm hu)]
theorem app_old {u:Nat} (hu:u≠k) (hl:u<s.ths.length):(f.app s k).ths.getD u th0=(aM s.ths f.wk).getD u th0:=by
 rw[app_pre hu,List.getD_eq_getElem?_getD,List.getD_eq_getElem?_getD,List.getElem?_append_left (by rw[bX];exact hl)]
theorem app_o {u:Nat} (hu:u≠k) (hl:u<s.ths.length) (hw:f.wk≠some u):(f.app s k).ths.getD u th0=s.ths.getD u th0:=by
 rw[app_old hu hl]
 cases hq:f.wk with
 |none=>rfl
 |some j =>
  have hj:j≠u:=fun e=>hw (by rw[hq,e])
  simp only[aM]
  rw[List.getD_eq_getElem?_getD,List.getD_eq_getElem?_getD,List.getElem?_modify]
  cases s.ths[u]? <;> simp[hj]
theorem iZ {u:Nat} (hu:u≠k) (hl:u<s.ths.length) (hw:f.wk=some u):(f.app s k).ths.getD u th0={ s.ths.getD u th0 with st:=4 }:=by
 rw[app_old hu hl,hw]
 simp only[aM]
 rw[List.getD_eq_getElem?_getD,List.getD_eq_getElem?_getD,List.getElem?_modify,List.getElem?_eq_getElem hl]
 simp
theorem oA {t:Th} (hk:k<s.ths.length) (hs:f.sp=some t):(f.app s k).ths.getD s.ths.length th0=t:=by
 rw[app_pre (by omega),hs,List.getD_eq_getElem?_getD,List.getElem?_append_right (by rw[bX];exact Nat.le_refl _),bX]
 simp
theorem app_out {u:Nat} (h:s.ths.length+f.sp.toList.length≤u):(f.app s k).ths.getD u th0=th0:=by
 rw[List.getD_eq_getElem?_getD,List.getElem?_eq_none (by rw[uP];exact h)];rfl
theorem getD_out {s:StL} {u:Nat} (h:s.ths.length≤u):s.ths.getD u th0=th0:=by
 rw[List.getD_eq_getElem?_getD,List.getElem?_eq_none h];rfl
theorem setO_ne {α:Type} {l:List α} {o:Option (Nat × α)} {a:Nat} {d:α} (h:∀ b v,o=some (b,v)→b≠a):(mV l o).getD a d=l.getD a d:=by
 cases o with
 |none=>rfl
 |some x =>
  obtain⟨b,v⟩:=x
  simp only[mV]
  rw[List.getD_eq_getElem?_getD,List.getD_eq_getElem?_getD,List.getElem?_set_ne (h b v rfl)]
theorem setO_two {α:Type} {l l':List α} {o:Option (Nat × α)} {a:Nat} {d:α} (hl:l.length=l'.length) (h:l.getD a d=l'.getD a d):(mV l o).getD a d=(mV l' o).getD a d:=by
 cases o with
 |none=>exact h
 |some x =>
  obtain⟨b,v⟩:=x
  simp only[mV]
  rw[List.getD_eq_getElem?_getD,List.getD_eq_getElem?_getD] at h ⊢
  rw[List.getElem?_set,List.getElem?_set,hl]
  split
  ·rfl
  ·exact h
end
end Ai
namespace Ai
set_option maxRecDepth 100000
open Go Go.Proofs Cyc
theorem lX {f:Eff} {s:StL} {k u:Nat} (hk:k<s.ths.length) (hu:u≠k) (hw:f.wk≠some u) (hs:∀ t,f.sp=some t→u≠s.ths.length):(f.app s k).ths.getD u th0=s.ths.getD u th0:=by
 by_cases hl:u<s.ths.length
 ·exact app_o hu hl hw
 ·rw[getD_out (s:=s) (by omega)]
  cases hq:f.sp with
  |none=>exact app_out (by rw[hq];simp;omega)
  |some t =>
   have:=hs t hq
   exact app_out (by rw[hq];simp;omega)
def touchT (d:Ev) (u:Nat):Prop:=d.th=u∨(d.kind=6∧d.obj=u)∨(d.kind=10∧d.lock=u)
def aV (s:StL) (u:Nat) (a:Int):Prop:=(s.ths.getD u th0).st=3∧(s.ths.getD u th0).cond=a
structure Sim (D:List Ev) (s c:StL):Prop where
 len:c.ths.length≤s.ths.length
 cl:c.cells.length=s.cells.length
 ol:c.owner.length=s.owner.length
 th:∀ u:Nat,u<s.ths.length→(∀ d∈D,¬ touchT d u)→u<c.ths.length∧c.ths.getD u th0=s.ths.getD u th0
 cell:∀ a:Nat,(∀ d∈D,¬ (d.kind=3∧d.obj=a))→c.cells.getD a 0=s.cells.getD a 0
 own:∀ a:Nat,(∀ d∈D,vX d≠a)→c.owner.getD a 0=s.owner.getD a 0
 num:(∀ d∈D,d.kind≠6)→c.ths.length=s.ths.length
 slp:∀ a:Int,(∀ d∈D,¬ (rD d∧d.obj=a))→∀ u:Nat,aV c u a↔aV s u a
 don:∀ u:Nat,(s.ths.getD u th0).st=2→(∀ d∈D,¬ (d.kind=11∧d.th=u))→(c.ths.getD u th0).st=2
 flt:s.fault=0→c.fault=0
theorem Sim.refl (s:StL):Sim [] s s:=⟨Nat.le_refl _,rfl,rfl,fun u h _=>⟨h,rfl⟩,fun _ _=>rfl,fun _ _=>rfl,fun _=>rfl,fun _ _ _=>Iff.rfl,fun _ h _=>h,id⟩
theorem iR {α:Type} {l l':List α} {d:α} (hl:l.length=l'.length) (h:∀ i,i<l'.length→l.getD i d=l'.getD i d):l=l':=by
 apply List.ext_getElem hl
 intro i h1 h2
 have:=h i h2
 rw[List.getD_eq_getElem?_getD,List.getD_eq_getElem?_getD,List.getElem?_eq_getElem h1,List.getElem?_eq_getElem h2] at this
 exact this
theorem Sim.eq {s c:StL} (h:Sim [] s c) (hf:s.fault=0):c=s:=by
 have h1:c.ths=s.ths:=iR (h.num (by simp)) fun i hi=>(h.th i hi (by simp)).2
 have h2:c.cells=s.cells:=iR h.cl fun i _=>h.cell i (by simp)
 have h3:c.owner=s.owner:=iR h.ol fun i _=>h.own i (by simp)
 have h4:c.fault=s.fault:=by rw[h.flt hf,hf]
 cases c;cases s
 simp only at h1 h2 h3 h4
 subst h1 h2 h3 h4
 rfl
theorem gV {α:Type} (l:List α) (o:Option (Nat × α)):(mV l o).length=l.length:=by cases o <;> simp[mV]
theorem Sim.drop {D:List Ev} {s c:StL} {f:Eff} {k:Nat} (h:Sim D s c) (hf:EffOK f s k) (hk:k<s.ths.length) (h3:(s.ths.getD k th0).st≠3):Sim (f.ev::D) (f.app s k) c:=by
 have hmem:∀ {P:Ev→Prop},(∀ d∈f.ev::D,P d)→P f.ev∧∀ d∈D,P d:=fun h=>⟨h _ (List.mem_cons_self ..),fun d hd=>h d (List.mem_cons_of_mem _ hd)⟩
 have hsp:f.ev.kind≠6→f.sp=none:=fun hn=>by
  cases hq:f.sp with
  |none=>rfl
  |some t=>exact absurd (hf.sp t hq).1 hn
 refine⟨by rw[uP];have:=h.len;omega,by show _=(mV s.cells f.cw).length;rw[gV];exact h.cl,by show _=(mV s.owner f.ow).length;rw[gV];exact h.ol,fun u hu hD=>?_,fun a hD=>?_,fun a hD=>?_,fun hD=>?_,fun a hD u=>?_,fun u h2 hD=>?_,fun h0=>h.flt h0⟩
 ·obtain⟨h1,h2⟩:=hmem hD
  have huk:u≠k:=fun e=>h1 (.inl (by rw[hf.th,e]))
  have hul:u<s.ths.length:=by
   rw[uP] at hu
   cases hq:f.sp with
   |none=>rw[hq] at hu;simpa using hu
   |some t =>
    rw[hq] at hu
    have hu:u<s.ths.length+1:=by simpa using hu
    by_cases e:u=s.ths.length
    ·exact absurd (.inr (.inl ⟨(hf.sp t hq).1,by rw[(hf.sp t hq).2.1,e]⟩)) h1
    ·omega
  have hw:f.wk≠some u:=fun e=>h1 (.inr (.inr ⟨(hf.wk u e).1,(hf.wk u e).2.1⟩))
  rw[app_o huk hul hw]
  exact h.th u hul h2
 ·obtain⟨h1,h2⟩:=hmem hD
  rw[h.cell a h2]
  exact(setO_ne fun b v e eb=>h1 (by rw[← eb];exact hf.cw b v e)).symm
 ·obtain⟨h1,h2⟩:=hmem hD
  rw[h.own a h2]
  exact(setO_ne fun b v e eb=>h1 (by rw[← eb];exact hf.ow b v e)).symm
 ·obtain⟨h1,h2⟩:=hmem hD
  rw[uP,hsp h1,h.num h2];rfl
 ·obtain⟨h1,h2⟩:=hmem hD
  rw[h.slp a h2 u]
  unfold aV
  by_cases huk:u=k
  ·subst huk
   rw[cO hk]
   constructor
   ·rintro⟨e,_⟩;exact absurd e h3
   ·rintro⟨e1,e2⟩
    obtain⟨g1,g2⟩:=hf.st3 e1
    exact absurd ⟨.inl g1,g2.trans e2⟩ h1
  by_cases hw:f.wk=some u
  ·obtain⟨g1,g2,g3,g4,g5,g6⟩:=hf.wk u hw
   rw[iZ huk g4 hw]
   constructor
   ·rintro⟨_,e⟩;exact absurd ⟨.inr (.inr g1),by rw[← g6];exact e⟩ h1
   ·rintro⟨e,_⟩
    have e:(4:Int)=3:=e
    exact absurd e (by decide)
  by_cases hs:∀ t,f.sp=some t→u≠s.ths.length
  ·rw[lX hk huk hw hs]
  ·obtain⟨t,hx⟩:=Classical.not_forall.1 hs
   have hy:f.sp=some t∧u=s.ths.length:=by
    by_cases e:f.sp=some t
    ·exact⟨e,Classical.byContradiction fun e2=>hx fun _=>e2⟩
    ·exact absurd (fun e2=>absurd e2 e) hx
   obtain⟨ht,hu⟩:=hy
   clear hx
   subst hu
   rw[oA hk ht,getD_out (Nat.le_refl _),(hf.sp t ht).2.2]
   constructor
   ·rintro⟨e,_⟩
    have e:(0:Int)=3:=e
    exact absurd e (by decide)
   ·rintro⟨e,_⟩
    exact absurd e (by decide)
 ·obtain⟨h1,h5⟩:=hmem hD
  refine h.don u ?_ h5
  by_cases huk:u=k
  ·subst huk
   rw[cO hk] at h2
   exact absurd ⟨hf.st2 h2,hf.th⟩ h1
  by_cases hw:f.wk=some u
  ·rw[iZ huk (hf.wk u hw).2.2.2.1 hw] at h2
   have e:(4:Int)=2:=h2
   exact absurd e (by decide)
  by_cases hs:∀ t,f.sp=some t→u≠s.ths.length
  ·rw[lX hk huk hw hs] at h2;exact h2
  ·obtain⟨t,hx⟩:=Classical.not_forall.1 hs
   have hy:f.sp=some t∧u=s.ths.length:=by
    by_cases e:f.sp=some t
    ·exact⟨e,Classical.byContradiction fun e2=>hx fun _=>e2⟩
    ·exact absurd (fun e2=>absurd e2 e) hx
   obtain⟨ht,hu⟩:=hy
   clear hx
   subst hu
   rw[oA hk ht,(hf.sp t ht).2.2] at h2
   exact absurd h2 (by decide)
theorem Sim.keep {D:List Ev} {s c:StL} {f:Eff} {k:Nat} (h:Sim D s c) (hf:EffOK f s k) (hg:EffOK f c k) (hk:k<s.ths.length) (hkc:k<c.ths.length):Sim D (f.app s k) (f.app c k):=by
 have hle:f.sp≠none→c.ths.length=s.ths.length:=fun hn=>by
  cases hq:f.sp with
  |none=>exact absurd hq hn
  |some t =>
   have h1:=(hf.sp t hq).2.1
   have h2:=(hg.sp t hq).2.1
   omega
 refine⟨by rw[uP,uP];have:=h.len;omega,by show(mV c.cells f.cw).length=(mV s.cells f.cw).length;rw[gV,gV];exact h.cl,by show(mV c.owner f.ow).length=(mV s.owner f.ow).length;rw[gV,gV];exact h.ol,fun u hu hD=>?_,fun a hD=>?_,fun a hD=>?_,fun hD=>?_,fun a hD u=>?_,fun u h2 hD=>?_,fun h0=>h.flt h0⟩
 ·by_cases huk:u=k
  ·subst huk
   exact⟨by rw[uP];omega,by rw[cO hk,cO hkc]⟩
  by_cases hul:u<s.ths.length
  ·obtain⟨g1,g2⟩:=h.th u hul hD
   refine⟨by rw[uP];omega,?_⟩
   by_cases hw:f.wk=some u
   ·rw[iZ huk hul hw,iZ huk g1 hw,g2]
   ·rw[app_o huk hul hw,app_o huk g1 hw,g2]
  ·rw[uP] at hu
   cases hq:f.sp with
   |none=>rw[hq] at hu;simp at hu;omega
   |some t =>
    rw[hq] at hu
    have hu:u<s.ths.length+1:=by simpa using hu
    have e:u=s.ths.length:=by omega
    subst e
    have hl:=hle (by rw[hq];simp)
    refine⟨by rw[uP,hq];simp;omega,?_⟩
    rw[oA hk hq]
    have:=oA hkc hq
    rw[hl] at this
    exact this
 ·exact setO_two h.cl (h.cell a hD)
 ·exact setO_two h.ol (h.own a hD)
 ·rw[uP,uP,h.num hD]
 ·by_cases huk:u=k
  ·subst huk
   unfold aV
   rw[cO hk,cO hkc]
  by_cases hw:f.wk=some u
  ·unfold aV
   rw[iZ huk (hf.wk u hw).2.2.2.1 hw,iZ huk (hg.wk u hw).2.2.2.1 hw]
   constructor
   all_goals
    rintro⟨e,_⟩
    have e:(4:Int)=3:=e
    exact absurd e (by decide)
  by_cases hs:∀ t,f.sp=some t→u≠s.ths.length
  ·have hsc:∀ t,f.sp=some t→u≠c.ths.length:=fun t ht=>by rw[hle (by rw[ht];simp)];exact hs t ht
   have:=h.slp a hD u
   unfold aV at this ⊢
   rw[lX hk huk hw hs,lX hkc huk hw hsc]
   exact this
  ·obtain⟨t,hx⟩:=Classical.not_forall.1 hs
   have hy:f.sp=some t∧u=s.ths.length:=by
    by_cases e:f.sp=some t
    ·exact⟨e,Classical.byContradiction fun e2=>hx fun _=>e2⟩
    ·exact absurd (fun e2=>absurd e2 e) hx
   obtain⟨ht,hu⟩:=hy
   clear hx
   subst hu
   have hl:=hle (by rw[ht];simp)
   have h1:=oA hk ht
   have h2:=oA hkc ht
   rw[hl] at h2
   unfold aV
   rw[h1,h2]
 ·by_cases huk:u=k
  ·subst huk
   rw[cO hk] at h2
   rw[cO hkc];exact h2
  by_cases hw:f.wk=some u
  ·rw[iZ huk (hf.wk u hw).2.2.2.1 hw] at h2
   have e:(4:Int)=2:=h2
   exact absurd e (by decide)
  by_cases hs:∀ t,f.sp=some t→u≠s.ths.length
  ·have hsc:∀ t,f.sp=some t→u≠c.ths.length:=fun t ht=>by rw[hle (by rw[ht];simp)];exact hs t ht
   rw[lX hk huk hw hs] at h2
   rw[lX hkc huk hw hsc]
   exact h.don u h2 hD
  ·obtain⟨t,hx⟩:=Classical.not_forall.1 hs
   have hy:f.sp=some t∧u=s.ths.length:=by
    by_cases e:f.sp=some t
    ·exact⟨e,Classical.byContradiction fun e2=>hx fun _=>e2⟩
    ·exact absurd (fun e2=>absurd e2 e) hx
   obtain⟨ht,hu⟩:=hy
   clear hx
   subst hu
   rw[oA hk ht,(hf.sp t ht).2.2] at h2
   exact absurd h2 (by decide)
end Ai
namespace Ai
set_option maxRecDepth 100000
open Go Go.Proofs Cyc
def Evs (p:ProgL):StL→List Ev→Prop
 | _,[]=>True
 |s,e::es=>∃ k,k∈zA p s∧e=(zP p s k).2∧Evs p (zP p s k).1 es
theorem run_evs (p:ProgL) (picks:List Int) (budget:Int) (hpk:∀ i∈picks,0≤i):∀ n s tr tk,budget.toNat+1 - tr.length≤n→(tr.length:Int)≤budget→∃ es,(mW p picks budget n s tr tk).tr=tr++es∧Evs p s es
 | 0,s,tr,tk,h1,h2=>⟨[],by simp[mW],trivial⟩
 |n+1,s,tr,tk,h1,h2=>by
  unfold mW
  by_cases hc:0<yD p s tr.length budget
  ·rw[if_pos hc];exact⟨[],by simp,trivial⟩
  rw[if_neg hc]
  simp only
  obtain⟨he,hne⟩:=en_ne hc
  obtain⟨q1,q2⟩:=p9 p s picks tk hpk he
  generalize hq:wS picks tk (zA p s).length=q at *
  have hql:q.toNat<(zA p s).length:=by omega
  have hm:(zA p s).getD q.toNat 0∈zA p s:=by rw[List.getD_eq_getElem?_getD,List.getElem?_eq_getElem hql];exact List.getElem_mem hql
  obtain⟨es,h3,h4⟩:=run_evs p picks budget hpk n (zP p s ((zA p s).getD q.toNat 0)).1 (tr++[(zP p s ((zA p s).getD q.toNat 0)).2]) (tk++[q]) (by simp;omega) (by simp;omega)
  exact⟨_::es,by rw[h3];simp,_,hm,rfl,h4⟩
end Ai
namespace Ai
set_option maxRecDepth 100000
open Go Go.Proofs Ieee
def Cn (x:Nat):Prop:=canon x=x
theorem aI:Cn 0:=canon_num (by decide +kernel)
theorem nearN_cn (n:Int):Cn (FloatKind.f64.nearest n):=canon_num (jD (.number (n<0) n.natAbs 0) rfl)
theorem fop_cn (op:BinOp) (x y:Nat):Cn (fop op x y):=by
 unfold fop
 cases h:floatBits op .f64 x y with
 |none=>exact canon_nan sC
 |some r=>exact canon_num (floatBits_num h)
theorem reckon_cn (c:Int) (x y:Nat):Cn (yV c x y):=by
 unfold yV
 repeat' split
 all_goals first|exact fop_cn _ _ _|exact aI|(unfold Cn oneF;decide +kernel)|(unfold Cn;decide +kernel)
theorem topN_cn0 {t:Th} {o:OpL} {i:Nat} (h:∀ x∈t.stack,Cn x):Cn (xL t o i):=by
 unfold xL
 rw[List.getD_eq_getElem?_getD]
 cases hg:(t.stack.drop (yN t o))[i]? with
 |none=>exact aI
 |some x=>exact h x (List.mem_of_mem_drop (List.mem_of_getElem? hg))
def ProgL.cn (p:ProgL):Prop:=∀ r∈p.rs,∀ o∈r,Cn o.v
def StL.cn (s:StL):Prop:=(∀ c∈s.cells,Cn c)∧∀ t∈s.ths,∀ x∈t.stack,Cn x
theorem uU {s:StL} {k:Nat} {t:Th} (h:s.cn) (ht:∀ x∈t.stack,Cn x):(s.put k t).cn:=by
 refine⟨h.1,fun u hu=>?_⟩
 rcases List.mem_or_eq_of_mem_set hu with e|e
 ·exact h.2 u e
 ·subst e;exact ht
theorem topN_cn {t:Th} {o:OpL} {i:Nat} (h:∀ x∈t.stack,Cn x):Cn (xL t o i):=topN_cn0 h
theorem cn_do {s:StL} {k:Nat} {o:OpL} {e:Ev} (hk:k<s.ths.length) (h:s.cn) (ho:Cn o.v):(doL s k o e).1.cn:=by
 have hgd:s.ths.getD k th0=s.ths[k]:=by simp[List.getD_eq_getElem?_getD,hk]
 have ht:=h.2 _ (List.getElem_mem hk)
 generalize s.ths[k]=t at *
 unfold doL
 simp only[hgd]
 have hpop:∀ x∈(zJ t o).stack,Cn x:=fun x hx=>ht x (List.mem_of_mem_take hx)
 have hpush:∀ v,Cn v→∀ x∈(zY (zJ t o) v).stack,Cn x:=by
  intro v hv x hx
  rcases List.mem_append.1 hx with e|e
  ·exact hpop x e
  ·simp only[List.mem_cons,List.not_mem_nil,or_false] at e
   subst e;exact hv
 by_cases n1:o.code=1
 ·rw[if_pos n1];exact uU h (hpush _ ho)
 rw[if_neg n1]
 by_cases n2:o.code=2
 ·rw[if_pos n2]
  refine uU h (hpush _ ?_)
  rw[List.getD_eq_getElem?_getD]
  cases hg:s.cells[o.a.toNat]? with
  |none=>exact aI
  |some c=>exact h.1 c (List.mem_of_getElem? hg)
 rw[if_neg n2]
 by_cases n3:o.code=3
 ·rw[if_pos n3]
  refine uU ⟨fun c hc=>?_,h.2⟩ hpop
  rcases List.mem_or_eq_of_mem_set hc with e|e
  ·exact h.1 c e
  ·subst e;exact topN_cn ht
 rw[if_neg n3]
 by_cases n10:o.code=10
 ·rw[if_pos n10];exact uU h hpop
 rw[if_neg n10]
 by_cases n11:o.code=11
 ·rw[if_pos n11]
  refine uU h ?_
  split
  ·exact hpop
  ·exact hpop
 rw[if_neg n11]
 by_cases n12:o.code=12
 ·rw[if_pos n12];exact uU (s:={ s with owner:=_ }) h hpop
 rw[if_neg n12]
 by_cases n13:o.code=13
 ·rw[if_pos n13];exact uU (s:={ s with owner:=_ }) h hpop
 rw[if_neg n13]
 by_cases n14:o.code=14
 ·rw[if_pos n14]
  refine uU (s:={ s with ths:=_ }) ⟨h.1,fun u hu=>?_⟩ (hpush _ (nearN_cn _))
  rcases List.mem_append.1 hu with e|e
  ·exact h.2 u e
  ·simp only[List.mem_cons,List.not_mem_nil,or_false] at e
   subst e;intro x hx;cases hx
 rw[if_neg n14]
 by_cases n15:o.code=15
 ·rw[if_pos n15];exact uU h hpop
 rw[if_neg n15]
 by_cases n16:o.code=16
 ·rw[if_pos n16];exact uU (s:={ s with owner:=_ }) h hpop
 rw[if_neg n16]
 by_cases n17:o.code=17
 ·rw[if_pos n17]
  cases vE s.ths o.a with
  |none=>exact uU h hpop
  |some j =>
   refine uU (s:={ s with ths:=_ }) ⟨h.1,fun u hu=>?_⟩ hpop
   obtain⟨i,hi,rfl⟩:=List.mem_iff_getElem.1 hu
   have hil:i<s.ths.length:=by simpa using hi
   have:=h.2 _ (List.getElem_mem hil)
   rw[List.getElem_modify]
   split
   ·exact this
   ·exact this
 rw[if_neg n17]
 exact uU h (hpush _ (reckon_cn _ _ _))
theorem cn_step {p:ProgL} (hv:p.cn) {s:StL} {k:Nat} (hk:k<s.ths.length) (h:s.cn):(zP p s k).1.cn:=by
 have hgd:s.ths.getD k th0=s.ths[k]:=by simp[List.getD_eq_getElem?_getD,hk]
 have ht:=h.2 _ (List.getElem_mem hk)
 unfold zP
 simp only[hgd]
 split
 ·exact uU (s:={ s with owner:=_ }) h ht
 ·split
  ·exact uU h ht
  ·rename_i o hn
   split
   ·refine cn_do hk h ?_
    unfold yP at hn
    by_cases hr:s.ths[k].rt.toNat<p.rs.length
    ·have e:p.rs.getD s.ths[k].rt.toNat []=p.rs[s.ths[k].rt.toNat]:=by rw[List.getD_eq_getElem?_getD,List.getElem?_eq_getElem hr];rfl
     rw[e] at hn
     exact hv _ (List.getElem_mem hr) o (List.mem_of_getElem? hn)
    ·have e:p.rs.getD s.ths[k].rt.toNat []=[]:=by rw[List.getD_eq_getElem?_getD,List.getElem?_eq_none (by omega)];rfl
     rw[e] at hn
     simp at hn
   ·exact h
theorem cn_new (p:ProgL):(yQ p).cn:=by
 refine⟨fun c hc=>?_,fun t ht=>?_⟩
 ·obtain⟨_,rfl⟩:=List.mem_replicate.1 hc
  exact aI
 ·have:t=kA 0:=by simpa[yQ] using ht
  subst this
  intro x hx;cases hx
theorem runT_cn {p:ProgL} (hg:p.goodS) (hv:p.flt) (hc:p.cn) (picks:List Int) (budget:Int) (hpk:∀ i∈picks,0≤i):∀ n s tr tk,AInv p s→s.cn→(mW p picks budget n s tr tk).s.cn
 | 0,s,tr,tk,hi,h=>h
 |n+1,s,tr,tk,hi,h=>by
  unfold mW
  split
  ·exact h
  ·rename_i hcd
   obtain⟨h1,h2⟩:=en_ne hcd
   have h3:=p9 p s picks tk hpk h1
   have hkl:(wS picks tk (zA p s).length).toNat<(zA p s).length:=by omega
   have hmem:(zA p s).getD (wS picks tk (zA p s).length).toNat 0∈zA p s:=by rw[List.getD_eq_getElem?_getD,List.getElem?_eq_getElem hkl];exact List.getElem_mem hkl
   exact runT_cn hg hv hc picks budget hpk n _ _ _ (fN hg hv hmem hi) (cn_step hc (cJ hmem) h)
theorem runOf_cn {p:ProgL} (hg:p.goodS) (hv:p.flt) (hc:p.cn) (picks:List Int) (budget:Int) (hpk:∀ i∈picks,0≤i):(dD p picks budget).s.cn :=
 runT_cn hg hv hc picks budget hpk _ _ _ _ (dY hg) (cn_new p)
theorem nT {x y:Nat} (hx:Cn x) (hy:Cn y) (hx2:F64 x) (hy2:F64 y):fO x y↔x=y:=by
 by_cases h:zW x=true∨zW y=true
 ·constructor
  ·rintro(e|e)
   ·unfold Cn at hx hy
    rw[← hx,← hy,canon_nan e.2.1,canon_nan e.2.2]
   ·exact absurd h e.1
  ·rintro rfl
   have h':zW x=true:=h.elim id id
   exact .inl ⟨h,h',h'⟩
 ·have nx:zW x=false:=by simpa using fun e=>h (.inl e)
  have ny:zW y=false:=by simpa using fun e=>h (.inr e)
  constructor
  ·rintro(e|e)
   ·exact absurd e.1 h
   ·exact(nU hx2 hy2 nx ny).1 e.2
  ·intro e
   exact .inr ⟨h,(nU hx2 hy2 nx ny).2 e⟩
end Ai
namespace Ai
set_option maxRecDepth 100000
open Go Go.Proofs
theorem szEventS_ok (xs:List (List D)) (left:Int) (h0:0≤left) (h1:left≤1048576) (hx:xs.length≤9223372036854775807) :
  CallsTo EE 44 [sl xs,i64 left] (szR left xs.length):=by
 refine callsTo_of_AW (fn:=Tryz.f44) Tryz.func44 rfl (by kernel_rfl) rfl ?_
 conv=>whnf
 rw[zF (by omega) (by omega)]
 refine⟨fun h=>?_,fun h=>?_⟩
 ·conv=>whnf
  exact⟨-1,rfl,by omega,by omega,by omega⟩
 ·conv=>whnf
  simp at h
  exact⟨_,rfl,by omega,by omega,by omega⟩
theorem tL (xs:List (List D)) (left:Int) (h0:0≤left) (h1:left≤1048576) (hx:xs.length≤9223372036854775807) :
  CallsTo EE 100 [sl xs,i64 left] (szR left xs.length):=by
 refine callsTo_of_AW (fn:=Tryz.f100) Tryz.func100 rfl (by kernel_rfl) rfl ?_
 conv=>whnf
 rw[zF (by omega) (by omega)]
 refine⟨fun h=>?_,fun h=>?_⟩
 ·conv=>whnf
  exact⟨-1,rfl,by omega,by omega,by omega⟩
 ·conv=>whnf
  simp at h
  exact⟨_,rfl,by omega,by omega,by omega⟩
theorem szThread_ok (t:Th) (left:Int) (h0:0≤left) (h1:left≤1048576) (hx:t.stack.length≤9223372036854775807) :
  CallsTo EE 161 [agg (zE t),i64 left] (szR left t.stack.length):=by
 refine callsTo_of_AW (fn:=Tryz.f161) Tryz.func161 rfl (by kernel_rfl) rfl ?_
 have hz:=tL (t.stack.map encF) left h0 h1 (by simpa using hx)
 rw[List.length_map] at hz
 conv=>whnf
 refine⟨_,hz,?_⟩
 rintro r ⟨n,rfl,hn1,hn2,hn3⟩
 conv=>whnf
 refine⟨fun h=>?_,fun h=>?_⟩
 ·conv=>whnf
  exact⟨-1,rfl,by omega,by omega,by omega⟩
 ·simp at h
  conv=>whnf
  exact⟨_,rfl,by omega,by omega,hn3⟩
def Th.stl (t:Th):Nat:=t.stack.length
theorem n4 (xs:List Th) (left:Int) (h0:0≤left) (h1:left≤1048576) (hx:xs.length≤9223372036854775807) (hx2:∀ x∈xs,x.stack.length≤9223372036854775807) :
  CallsTo EE 99 [sl (xs.map zE),i64 left] (szR left (jS Th.stl xs)):=by
 refine callsTo_of_AW (fn:=Tryz.f99) Tryz.func99 rfl (by kernel_rfl) rfl ?_
 conv=>whnf
 rw[zF (by simp;omega) (by simp;omega),List.length_map]
 refine⟨fun h=>?_,fun h=>?_⟩
 ·conv=>whnf
  exact⟨-1,rfl,by omega,by omega,by omega⟩
 ·simp at h
  conv=>whnf
  refine yJ (fun x:Nat × Int=>[(0,sl (xs.map zE)),(5,i64 x.1),(1,i64 x.2)]) (fun _=>[]) (fun x=>xs.length - x.1)
   (fun x=>x.1≤xs.length∧0≤x.2∧(xs.length:Int)+((xs.map Th.stl).take x.1).sum+x.2≤left) (0,left - xs.length) .refl ⟨rfl,rfl,rfl,trivial⟩ trivial ⟨by omega,by omega,by simp;omega⟩ ?_
  rintro⟨k,l⟩ τ H ⟨hk,hl,hs⟩
  dsimp only at hk hl hs
  conv=>whnf
  refine⟨fun h=>?_,fun h=>?_⟩
  ·have hlt:=yH h
   conv=>whnf
   refine⟨zE xs[k],zO zE hlt rfl,?_⟩
   conv=>whnf
   refine⟨_,szThread_ok xs[k] l hl (by omega) (hx2 _ (List.getElem_mem hlt)),?_⟩
   rintro r ⟨n,rfl,hn1,hn2,hn3⟩
   conv=>whnf
   refine⟨fun h=>?_,fun h=>?_⟩
   ·conv=>whnf
    exact⟨-1,rfl,by omega,by omega,by omega⟩
   ·simp at h
    conv=>whnf
    refine⟨(k+1,n),⟨by omega,by omega,?_⟩,by show xs.length - (k+1)<xs.length - k;omega,⟨rfl,zK hlt hx,rfl,trivial⟩,trivial⟩
    have hm:k<(xs.map Th.stl).length:=by simpa using hlt
    rw[mC _ _ hm]
    have:=hn3 h
    simp[Th.stl] at this ⊢
    omega
  ·have hge:=dO h
   conv=>whnf
   have hkk:k=xs.length:=by omega
   subst hkk
   refine⟨_,rfl,by omega,?_,?_⟩
   ·omega
   ·intro _
    simp only[jS]
    rw[List.take_of_length_le (by simp)] at hs
    simp at hs ⊢
    omega
structure StL.wf (s:StL):Prop where
 ths:s.ths.length≤9223372036854775807
 st:∀ t∈s.ths,t.stack.length≤9223372036854775807
 cells:s.cells.length≤9223372036854775807
 owner:s.owner.length≤9223372036854775807
def StL.size (s:StL):Nat:=jS Th.stl s.ths+(s.cells.length+s.owner.length)
theorem szState_ok (s:StL) (left:Int) (h0:0≤left) (h1:left≤1048576) (hs:s.wf):CallsTo EE 46 [agg (yG s),i64 left] (szR left s.size):=by
 refine callsTo_of_AW (fn:=Tryz.f46) Tryz.func46 rfl (by kernel_rfl) rfl ?_
 conv=>whnf
 refine⟨_,n4 _ left h0 h1 hs.ths hs.st,?_⟩
 rintro r ⟨n,rfl,hn1,hn2,hn3⟩
 conv=>whnf
 refine⟨fun h=>?_,fun h=>?_⟩
 ·conv=>whnf
  exact⟨-1,rfl,by omega,by omega,by omega⟩
 ·simp at h
  have h3:=hn3 (by omega)
  conv=>whnf
  refine⟨_,tL _ n (by omega) (by omega) (by simpa using hs.cells),?_⟩
  rintro r ⟨n2,rfl,hm1,hm2,hm3⟩
  conv=>whnf
  refine⟨fun h=>?_,fun h=>?_⟩
  ·conv=>whnf
   exact⟨-1,rfl,by omega,by omega,by omega⟩
  ·simp at h
   have h4:=hm3 (by omega)
   simp at h4
   conv=>whnf
   refine⟨_,y9 _ n2 (by omega) (by omega) (by simpa using hs.owner),?_⟩
   rintro r ⟨n3,rfl,hk1,hk2,hk3⟩
   conv=>whnf
   refine⟨fun h=>?_,fun h=>?_⟩
   ·conv=>whnf
    exact⟨-1,rfl,by omega,by omega,by omega⟩
   ·simp at h
    have h5:=hk3 (by omega)
    simp at h5
    conv=>whnf
    exact⟨_,rfl,by omega,by omega,fun _=>by unfold StL.size;omega⟩
structure RunT.wf (x:RunT):Prop where
 tr:x.tr.length≤9223372036854775807
 tk:x.tk.length≤9223372036854775807
 s:x.s.wf
def RunT.size (x:RunT):Nat:=x.tr.length+(x.tk.length+x.s.size)
theorem szRun_ok (x:RunT) (left:Int) (h0:0≤left) (h1:left≤1048576) (hx:x.wf):CallsTo EE 10 [agg (encRT x),i64 left] (szR left x.size):=by
 refine callsTo_of_AW (fn:=Tryz.f10) Tryz.func10 rfl (by kernel_rfl) rfl ?_
 conv=>whnf
 refine⟨_,szEventS_ok _ left h0 h1 (by simpa using hx.tr),?_⟩
 rintro r ⟨n,rfl,hn1,hn2,hn3⟩
 conv=>whnf
 refine⟨fun h=>?_,fun h=>?_⟩
 ·conv=>whnf
  exact⟨-1,rfl,by omega,by omega,by omega⟩
 ·simp at h
  have h3:=hn3 (by omega)
  simp at h3
  conv=>whnf
  refine⟨_,y9 _ n (by omega) (by omega) (by simpa using hx.tk),?_⟩
  rintro r ⟨n2,rfl,hm1,hm2,hm3⟩
  conv=>whnf
  refine⟨fun h=>?_,fun h=>?_⟩
  ·conv=>whnf
   exact⟨-1,rfl,by omega,by omega,by omega⟩
  ·simp at h
   have h4:=hm3 (by omega)
   simp at h4
   conv=>whnf
   refine⟨_,szState_ok x.s n2 (by omega) (by omega) hx.s,?_⟩
   rintro r ⟨n3,rfl,hk1,hk2,hk3⟩
   conv=>whnf
   refine⟨fun h=>?_,fun h=>?_⟩
   ·conv=>whnf
    exact⟨-1,rfl,by omega,by omega,by omega⟩
   ·simp at h
    have h5:=hk3 (by omega)
    conv=>whnf
    exact⟨_,rfl,by omega,by omega,fun _=>by unfold RunT.size;omega⟩
end Ai
namespace Ai
set_option maxRecDepth 100000
open Go Go.Proofs
def dL:Key→Bool
 | .n k=>Nat.beq k 903
 | .s o _=>Nat.beq o 903
 | .l _=>false
theorem qV {p:Key→Bool} (subs:List (List (List D))) (hp:∀ j,p (.s 903 j)=false):(wV subs 0).map (scrPL p)=wV subs 0 :=
 rY _ fun j=>by
  unfold lY
  rw[if_neg (by omega)]
  simp[scrPL,scrP,hp j]
theorem mX {f:Key→Key} (subs:List (List (List D))) (hf:∀ j,f (.s 903 j)=.s 903 j):(wV subs 0).map (renL f)=wV subs 0 :=
 rY _ fun j=>by
  unfold lY
  rw[if_neg (by omega)]
  simp[renL,ren,hf j]
theorem tS (c l d:Int) (subs:List (List (List D))) (k:Int) (hx:subs.length≤1048576) (hs:∀ q∈subs,∀ c∈q,c.length=4) (ht:tot subs subs.length≤1048576) (h0:0≤k) (h1:k≤1048576) (H0:Key→Option Ob)
  (hH:H0 (.n 903)=some (.rs 133 1 (wV subs 0))) (hF:∀ j,H0 (.s 903 j)=wX subs 0 j) :
  IOCall EE 20 [.agg [i64 c,i64 l,i64 d,.dref (.n 903) subs.length],i64 k] H0 (fun r H1=>r=i64 (k+4*tot subs subs.length)∧∀ κ,H1 κ=none):=by
 refine xH (fn:=Tryz.f20) (c:=Tryz.f20.body.getD .skip) Tryz.func20 rfl (by kernel_rfl) rfl ?_
 have hat:At [(0,.agg [i64 c,i64 l,i64 d,.dref (.n 903) subs.length]),(1,i64 k)] [(.n 903,.rs 133 1 (wV subs 0))] [(903,wX subs 0)] ⟨fun i=>[AV.agg [i64 c,i64 l,i64 d,.dref (.n 903) subs.length],i64 k].getD i .junk,H0⟩:=⟨⟨rfl,rfl,trivial⟩,⟨hH,trivial⟩,⟨hF,trivial⟩⟩
 obtain⟨τ,H,hf⟩:=hat.form
 rw[hf]
 conv=>whnf
 refine .inr (.inl ⟨999,0,dL,(fun r H1=>r=i64 (k+4*tot subs subs.length)∧∀ κ,H1 κ=none),?_,rfl,?_⟩)
 ·refine xB (markOpSS_ok subs k hx hs ht h0 h1 _ ?_ fun j=>?_) rfl
  ·show some (Ob.rs 133 1 ((((wV subs 0).map (scrPL (isK (.n 2)))).map (renL (swp (.n 999) (.l 0)))).map (scrPL (fun o=>!dL o))))=_
   rw[qV subs (fun j=>rfl),mX subs (fun j=>rfl),qV subs (fun j=>rfl)]
  ·show Option.map _ (Option.map _ (Option.map _ (wX subs 0 j)))=_
   rw[vO,wQ,vO]
 ·rintro r H1 ⟨rfl,q⟩
  refine⟨fun κ _=>q κ,fun n hn=>(by cases hn),?_⟩
  conv=>whnf
  refine⟨_,Weak.refl,?_⟩
  conv=>whnf
  exact⟨fun _=>false,rfl,fun κ=>rfl⟩
def gN (r:List OpL):List (List D):=r.map encOp
def zN (p:ProgL):List (List (List D)):=p.rs.map gN
def oQ (subs:List (List (List D))) (i j:Nat):List AV:=if j<i then [.ref (.s 900 j) 0 (subs.getD j []).length] else [.d .nil]
def uK (subs:List (List (List D))) (i:Nat):List (List AV):=(List.range subs.length).map (oQ subs i)
def sY (subs:List (List (List D))) (i j:Nat):Option Ob:=if j<i then (subs[j]?).map (.ds 135 4) else none
theorem rowsT_zero (subs:List (List (List D))):uK subs 0=List.replicate subs.length [.d .nil]:=by
 apply List.ext_getElem?
 intro j
 simp only[uK,List.getElem?_map,List.getElem?_replicate,List.getElem?_range']
 by_cases h:j<subs.length
 ·rw[if_pos h,List.getElem?_eq_getElem (by simpa using h)]
  simp[oQ]
 ·rw[if_neg h,List.getElem?_eq_none (by simpa using h)]
  rfl
theorem rowsT_map {subs:List (List (List D))} {i i':Nat} (f:List AV→List AV) (h:∀ j,f (oQ subs i j)=oQ subs i' j):(uK subs i).map f=uK subs i':=by
 unfold uK
 rw[List.map_map]
 exact List.map_congr_left fun j _=>h j
theorem x9 {p:Key→Bool} (subs:List (List (List D))) (i:Nat) (hp:∀ j,p (.s 900 j)=false):(uK subs i).map (scrPL p)=uK subs i :=
 rowsT_map _ fun j=>by
  unfold oQ
  split
  ·simp[scrPL,scrP,hp j]
  ·rfl
theorem famT_ren (f:Key→Key) (subs:List (List (List D))) (i j:Nat):(sY subs i j).map (renO f)=sY subs i j:=by
 unfold sY
 split
 ·cases subs[j]? <;> rfl
 ·rfl
theorem famT_scr (p:Key→Bool) (subs:List (List (List D))) (i j:Nat):(sY subs i j).map (scrPO p)=sY subs i j:=by
 unfold sY
 split
 ·cases subs[j]? <;> rfl
 ·rfl
theorem rowsT_put {subs:List (List (List D))} {k:Nat} (h:k<subs.length):((yR (uK subs k) 1 k 0 [.ref (.n 20) 0 subs[k].length]).map (renL (swp (.n 20) (.s 900 k))))=uK subs (k+1):=by
 have hlen:(uK subs k).length=subs.length:=by simp[uK]
 apply List.ext_getElem?
 intro j
 by_cases hj:j=k
 ·subst hj
  rw[List.getElem?_map,xY (c:=oQ subs j j) (c':=[.ref (.n 20) 0 subs[j].length]) (by simp[uK,h]) rfl]
  simp only[uK,List.getElem?_map,List.getElem?_range h,Option.map_some,Option.some.injEq]
  unfold oQ
  rw[if_pos (by omega)]
  have e:swp (.n 20) (.s 900 j) (.n 20)=.s 900 j:=by simp[swp,Key.beq]
  simp[renL,ren,e,List.getD_eq_getElem?_getD,h]
 ·by_cases hl:j<subs.length
  ·rw[List.getElem?_map,jG hj (c:=oQ subs k j) (by simp[uK,hl])]
   simp only[uK,List.getElem?_map,List.getElem?_range hl,Option.map_some,Option.some.injEq]
   have e:swp (.n 20) (.s 900 k) (.s 900 j)=.s 900 j:=by simp[swp,Key.beq,nbeq_ne hj]
   unfold oQ
   by_cases hjk:j<k
   ·rw[if_pos hjk,if_pos (by omega)]
    simp[renL,ren,e]
   ·rw[if_neg hjk,if_neg (by omega)]
    simp[renL,ren]
  ·rw[List.getElem?_eq_none (by simp[yR];simp[hlen];omega),List.getElem?_eq_none (by simp[uK];omega)]
def lend9:Key→Bool
 | .n k=>Nat.beq k 900
 | .s o _=>Nat.beq o 900
 | .l _=>false
theorem own1_n {x:AV} {q:Nat} (h:q≠900):ownH [x] (.n q)=none:=by
 unfold ownH
 cases hb:Nat.blt q 900 with
 |true=>simp only[hb,cond_true]
 |false =>
  have:¬ q<900:=by
   intro e
   have:Nat.blt q 900=true:=by simpa[Nat.blt_eq] using e
   rw[this] at hb;cases hb
  have:([x]:List AV)[q - 900]?=none:=List.getElem?_eq_none (by simp;omega)
  simp only[hb,cond_false,this]
theorem own1_s {x:AV} {q j:Nat} (h:q≠900):ownH [x] (.s q j)=none:=by
 unfold ownH
 cases hb:Nat.blt q 900 with
 |true=>simp only[hb,cond_true]
 |false =>
  have:¬ q<900:=by
   intro e
   have:Nat.blt q 900=true:=by simpa[Nat.blt_eq] using e
   rw[this] at hb;cases hb
  have:([x]:List AV)[q - 900]?=none:=List.getElem?_eq_none (by simp;omega)
  simp only[hb,cond_false,this]
theorem rowsT_own (xs:List (List OpL)):uK (xs.map gN) xs.length=ownRows 900 0 (xs.map fun _=>[.nil]) (xs.map gN):=by
 unfold ownRows uK
 apply List.ext_getElem?
 intro j
 by_cases h:j<xs.length
 ·have h2:j<(xs.map gN).length:=by simpa using h
  simp only[List.getElem?_map,List.getElem?_range h2,Option.map_some,List.getElem?_mapIdx,List.getElem?_eq_getElem h]
  unfold oQ
  rw[if_pos h]
  rfl
 ·rw[List.getElem?_eq_none (by simp;omega),List.getElem?_eq_none (by simp;omega)]
theorem toOpSS_own (xs:List (List OpL)) (hx:xs.length≤1048576) (hx2:∀ x∈xs,x.length≤1048576):CallsTo EE 53 [sl (xs.map yA)] (·=.ownF 1 [.uqd 133 1 0 135 4 (xs.map fun _=>[.nil]) (xs.map gN)]):=by
 refine cL (fun v hv=>?_) ?_
 ·simp only[List.mem_cons,List.not_mem_nil,or_false] at hv
  subst hv
  show(xs.map _).length=(xs.map gN).length
  simp
 refine xH (fn:=Tryz.f53) (c:=Tryz.f53.body.getD .skip) Tryz.func53 rfl (by kernel_rfl) rfl ?_
 conv=>whnf
 refine⟨by simp;omega,?_⟩
 conv=>whnf
 refine gR (fun k:Nat=>[(0,sl (xs.map yA)),(3,.dref (.n 900) xs.length),(4,i64 k)]) (fun k=>[(.n 900,.rs 133 1 (uK (xs.map gN) k))]) (fun k=>[(900,sY (xs.map gN) k)]) (fun k=>xs.length - k) (fun k=>k≤xs.length) 0
  ((aN (.n 7) rfl).trans (wM 7 900)) ?_ ?_ ?_ (Nat.zero_le _) ?_
 ·exact⟨rfl,by show AV.dref (.n 900) (((xs.map yA).length:Nat):Int).toNat=_;simp,rfl,trivial⟩
 ·refine⟨?_,trivial⟩
  show some (Ob.rs 133 1 (((List.replicate (((xs.map yA).length:Nat):Int).toNat [D.nil]).map (List.map AV.d)).map (renL (swp (.n 7) (.n 900)))))=_
  rw[rowsT_zero]
  simp[renL,ren]
 ·refine⟨fun j=>?_,trivial⟩
  unfold sY
  rw[if_neg (by omega)]
  rfl
 intro k τ H hk
 have hk:k≤xs.length:=hk
 conv=>whnf
 refine kbi (fun h=>?_) (fun h=>?_)
 ·have hlt:=yH h
  have hlt2:k<(xs.map gN).length:=by simpa using hlt
  have hgk:(xs.map gN)[k]=xs[k].map encOp:=by simp[gN]
  conv=>whnf
  refine⟨yA xs[k],zO yA hlt rfl,?_⟩
  conv=>whnf
  refine⟨_,toOpS_ok xs[k] (hx2 _ (List.getElem_mem hlt)),?_⟩
  rintro r rfl
  refine .inr ⟨_,rfl,?_⟩
  conv=>whnf
  refine⟨⟨by omega,by omega⟩,?_⟩
  conv=>whnf
  refine⟨k+1,_,uI 20 900 k,by show k+1≤xs.length;omega,by show xs.length - (k+1)<xs.length - k;omega,⟨rfl,rfl,zK hlt (by omega),trivial⟩,⟨?_,trivial⟩,⟨fun j=>?_,trivial⟩⟩
  ·show some (Ob.rs 133 1 ((yR ((uK (xs.map gN) k).map (scrPL (isK (.n 20)))) 1 ((k:Int)).toNat 0 [.ref (.n 20) 0 (xs[k].map encOp).length]).map (renL (swp (.n 20) (.s 900 k)))))=_
   rw[x9 _ _ (fun j=>rfl),Int.toNat_natCast,← hgk,rowsT_put hlt2]
  ·show(St.H _ (swp (.n 20) (.s 900 k) (.s 900 j))).map _=_
   by_cases hj:j=k
   ·subst hj
    have e:swp (.n 20) (.s 900 j) (.s 900 j)=.n 20:=by simp[swp,Key.beq]
    rw[e]
    unfold sY
    rw[if_pos (by omega),List.getElem?_eq_getElem hlt2,hgk]
    rfl
   ·have e:swp (.n 20) (.s 900 k) (.s 900 j)=.s 900 j:=by simp[swp,Key.beq,nbeq_ne hj]
    rw[e]
    show Option.map _ (Option.map _ (sY (xs.map gN) k j))=_
    rw[famT_scr,famT_ren]
    unfold sY
    by_cases hjk:j<k
    ·rw[if_pos hjk,if_pos (by omega)]
    ·rw[if_neg hjk,if_neg (by omega)]
 ·have hkk:k=xs.length:=by
   have:¬ k<xs.length:=by simpa using h
   omega
  subst hkk
  conv=>whnf
  refine⟨_,Weak.refl,?_⟩
  conv=>whnf
  refine⟨lend9,?_,fun κ hκ=>?_⟩
  ·show AV.dref (.n 900) xs.length=AV.dref (.n 900) (xs.map _).length
   rw[List.length_map]
  ·cases κ with
   |l n=>exact absurd rfl hκ
   |n q =>
    by_cases hq:q=900
    ·subst hq
     show some (Ob.rs 133 1 ((uK (xs.map gN) xs.length).map (scrPL (fun o=>!lend9 o))))=some (Ob.rs 133 1 (ownRows 900 0 (xs.map fun _=>[.nil]) (xs.map gN)))
     rw[x9 _ _ (fun j=>rfl),rowsT_own]
    ·exact absurd (own1_n hq) hκ
   |s o j =>
    by_cases hq:o=900
    ·subst hq
     show Option.map _ (sY (xs.map gN) xs.length j)=((xs.map gN)[j]?).map (Ob.ds 135 4)
     rw[famT_scr]
     unfold sY
     by_cases hj:j<xs.length
     ·rw[if_pos hj]
     ·rw[if_neg hj,List.getElem?_eq_none (by simp;omega)]
      rfl
    ·exact absurd (own1_s hq) hκ
end Ai
namespace Ai
set_option maxRecDepth 100000
open Go Go.Proofs
structure StL.fit (s:StL):Prop where
 ths:s.ths.length≤1048576
 st:∀ t∈s.ths,t.stack.length≤1048576
 cells:s.cells.length≤1048576
 owner:s.owner.length≤1048576
structure RunT.fit (x:RunT):Prop where
 tr:x.tr.length≤1048576
 tk:x.tk.length≤1048576
 s:x.s.fit
theorem fit_of {x:RunT} (h:x.size≤1048576):x.fit:=by
 unfold RunT.size StL.size at h
 have:=size_le Th.stl x.s.ths 1048576 (by omega)
 exact⟨by omega,by omega,⟨this.1,this.2,by omega,by omega⟩⟩
theorem toEvent_ok (e:Ev):CallsTo EE 109 [agg (encEv e)] (·=agg (encEv e)):=by
 refine callsTo_of_AW (fn:=Tryz.f109) Tryz.func109 rfl (by kernel_rfl) rfl ?_
 conv=>whnf
 rfl
theorem tI (xs:List Ev) (hx:xs.length≤1048576):CallsTo EE 54 [sl (xs.map encEv)] (·=.uq 105 5 (xs.map encEv)):=by
 refine callsTo_of_AW (fn:=Tryz.f54) Tryz.func54 rfl (by kernel_rfl) rfl ?_
 conv=>whnf
 refine⟨by simp;omega,?_⟩
 conv=>whnf
 refine yJ (fun k:Nat=>[(0,sl (xs.map encEv)),(3,.ref 7 0 (xs.map encEv).length),(4,i64 k)]) (fun k=>[(7,.ds 105 5 ((xs.take k).map encEv++List.replicate (xs.length - k) [di 0,di 0,di 0,di 0,di 0]))]) (fun k=>xs.length - k) (fun k=>k≤xs.length) 0 .refl ⟨rfl,by simp[put,St.new,St.setH,St.kill];rfl,rfl,trivial⟩ ⟨?_,trivial⟩ (Nat.zero_le _) ?_
 ·simp[put,St.new,St.setH,St.kill,rW];rfl
 intro k τ H hk
 conv=>whnf
 refine⟨fun h=>?_,fun h=>?_⟩
 ·have hlt:=yH h
  conv=>whnf
  refine⟨encEv xs[k],zO encEv hlt rfl,?_⟩
  conv=>whnf
  refine⟨_,toEvent_ok xs[k],?_⟩
  rintro r rfl
  conv=>whnf
  refine⟨⟨by omega,by simp;omega⟩,?_⟩
  conv=>whnf
  refine⟨k+1,by omega,by show xs.length - (k+1)<xs.length - k;omega,⟨rfl,rfl,zK hlt (by omega),trivial⟩,⟨?_,trivial⟩⟩
  exact congrArg (fun l=>some (Ob.ds 105 5 l)) (gU xs encEv [di 0,di 0,di 0,di 0,di 0] k 5 hlt rfl)
 ·have hge:=dO h
  conv=>whnf
  exact congrArg (AV.uq 105 5) (lH xs encEv [di 0,di 0,di 0,di 0,di 0] k _ hge hk (by simp))
theorem gE (xs:List Nat) (hx:xs.length≤1048576):CallsTo EE 111 [sl (xs.map encF)] (·=.uq 74 1 (xs.map encF)):=by
 refine callsTo_of_AW (fn:=Tryz.f111) Tryz.func111 rfl (by kernel_rfl) rfl ?_
 conv=>whnf
 refine⟨by simp;omega,?_⟩
 conv=>whnf
 refine yJ (fun k:Nat=>[(0,sl (xs.map encF)),(3,.ref 7 0 (xs.map encF).length),(4,i64 k)]) (fun k=>[(7,.ds 74 1 ((xs.take k).map encF++List.replicate (xs.length - k) [.flt 0]))]) (fun k=>xs.length - k) (fun k=>k≤xs.length) 0 .refl ⟨rfl,by simp[put,St.new,St.setH,St.kill];rfl,rfl,trivial⟩ ⟨?_,trivial⟩ (Nat.zero_le _) ?_
 ·simp[put,St.new,St.setH,St.kill,rW];rfl
 intro k τ H hk
 conv=>whnf
 refine⟨fun h=>?_,fun h=>?_⟩
 ·have hlt:=yH h
  conv=>whnf
  refine⟨encF xs[k],zO encF hlt rfl,?_⟩
  conv=>whnf
  refine⟨⟨by omega,by simp;omega⟩,?_⟩
  conv=>whnf
  refine⟨k+1,by omega,by show xs.length - (k+1)<xs.length - k;omega,⟨rfl,rfl,zK hlt (by omega),trivial⟩,⟨?_,trivial⟩⟩
  exact congrArg (fun l=>some (Ob.ds 74 1 l)) (gU xs encF [.flt 0] k 1 hlt rfl)
 ·have hge:=dO h
  conv=>whnf
  exact congrArg (AV.uq 74 1) (lH xs encF [.flt 0] k _ hge hk (by simp))
theorem toThread_ok (t:Th) (h:t.stack.length≤1048576):CallsTo EE 172 [agg (zE t)] (·=agg (zE t)):=by
 refine callsTo_of_AW (fn:=Tryz.f172) Tryz.func172 rfl (by kernel_rfl) rfl ?_
 conv=>whnf
 refine⟨_,gE t.stack h,?_⟩
 rintro r rfl
 refine .inl ?_
 conv=>whnf
 try rfl
theorem m8 (xs:List Th) (hx:xs.length≤1048576) (hx2:∀ x∈xs,x.stack.length≤1048576):CallsTo EE 110 [sl (xs.map zE)] (·=.uq 158 6 (xs.map zE)):=by
 refine callsTo_of_AW (fn:=Tryz.f110) Tryz.func110 rfl (by kernel_rfl) rfl ?_
 conv=>whnf
 refine⟨by simp;omega,?_⟩
 conv=>whnf
 refine yJ (fun k:Nat=>[(0,sl (xs.map zE)),(3,.ref 7 0 (xs.map zE).length),(4,i64 k)]) (fun k=>[(7,.ds 158 6 ((xs.take k).map zE++List.replicate (xs.length - k) [di 0,di 0,di 0,di 0,di 0,.nil]))]) (fun k=>xs.length - k) (fun k=>k≤xs.length) 0 .refl ⟨rfl,by simp[put,St.new,St.setH,St.kill];rfl,rfl,trivial⟩ ⟨?_,trivial⟩ (Nat.zero_le _) ?_
 ·simp[put,St.new,St.setH,St.kill,rW];rfl
 intro k τ H hk
 conv=>whnf
 refine⟨fun h=>?_,fun h=>?_⟩
 ·have hlt:=yH h
  conv=>whnf
  refine⟨zE xs[k],zO zE hlt rfl,?_⟩
  conv=>whnf
  refine⟨_,toThread_ok xs[k] (hx2 _ (List.getElem_mem hlt)),?_⟩
  rintro r rfl
  conv=>whnf
  refine⟨⟨by omega,by simp;omega⟩,?_⟩
  conv=>whnf
  refine⟨k+1,by omega,by show xs.length - (k+1)<xs.length - k;omega,⟨rfl,rfl,zK hlt (by omega),trivial⟩,⟨?_,trivial⟩⟩
  exact congrArg (fun l=>some (Ob.ds 158 6 l)) (gU xs zE [di 0,di 0,di 0,di 0,di 0,.nil] k 6 hlt rfl)
 ·have hge:=dO h
  conv=>whnf
  exact congrArg (AV.uq 158 6) (lH xs zE [di 0,di 0,di 0,di 0,di 0,.nil] k _ hge hk (by simp))
theorem toState_ok (s:StL) (h:s.fit):CallsTo EE 55 [agg (yG s)] (·=agg (yG s)):=by
 refine callsTo_of_AW (fn:=Tryz.f55) Tryz.func55 rfl (by kernel_rfl) rfl ?_
 conv=>whnf
 refine⟨_,m8 s.ths h.ths h.st,?_⟩
 rintro r rfl
 refine .inl ?_
 conv=>whnf
 refine⟨_,gE s.cells h.cells,?_⟩
 rintro r rfl
 refine .inl ?_
 conv=>whnf
 refine⟨_,lE s.owner h.owner,?_⟩
 rintro r rfl
 refine .inl ?_
 conv=>whnf
 try rfl
theorem bZ (x:RunT) (h:x.fit):CallsTo EE 13 [agg (encRT x)] (·=agg (encRT x)):=by
 refine callsTo_of_AW (fn:=Tryz.f13) Tryz.func13 rfl (by kernel_rfl) rfl ?_
 conv=>whnf
 refine⟨_,tI x.tr h.tr,?_⟩
 rintro r rfl
 refine .inl ?_
 conv=>whnf
 refine⟨_,lE x.tk h.tk,?_⟩
 rintro r rfl
 refine .inl ?_
 conv=>whnf
 refine⟨_,toState_ok x.s h.s,?_⟩
 rintro r rfl
 conv=>whnf
 try rfl
theorem m7 (t:Th) (h:t.stack.length≤1048576):CallsTo EE 172 [agg (zE t)] (·=.own [i64 t.rt,i64 t.pc,i64 t.st,i64 t.cond,i64 t.lock,.uq 74 1 (stk t)]):=by
 refine callsTo_of_AW (fn:=Tryz.f172) Tryz.func172 rfl (by kernel_rfl) rfl ?_
 conv=>whnf
 refine⟨_,gE t.stack h,?_⟩
 rintro r rfl
 refine .inr ⟨_,rfl,?_⟩
 conv=>whnf
 refine .inr (.inr ⟨[i64 t.rt,i64 t.pc,i64 t.st,i64 t.cond,i64 t.lock,.uq 74 1 (stk t)],_,wM 21 905,rfl,?_,jT ⟨trivial,trivial,trivial,trivial,trivial,rfl,trivial⟩,rfl⟩)
 intro v hv
 simp only[List.mem_cons,List.not_mem_nil,or_false] at hv
 rcases hv with rfl|rfl|rfl|rfl|rfl|rfl <;> trivial
end Ai
namespace Ai
set_option maxRecDepth 100000
open Go Go.Proofs
theorem wN {α:Type} {a b:List α} {k:Nat} (ha:k<a.length) (hb:k<b.length) (h:a.take k=b.take k) (e:a[k]=b[k]):a.take (k+1)=b.take (k+1):=by
 rw[List.take_succ_eq_append_getElem ha,List.take_succ_eq_append_getElem hb,h,e]
theorem vB {α:Type} {a b:List α} {k:Nat} (ha:a.length≤k) (hb:b.length≤k) (h:a.take k=b.take k):a=b:=by
 rwa [List.take_of_length_le ha,List.take_of_length_le hb] at h
theorem eN {α:Type} {a b:List α} {k:Nat} (ha:k<a.length) (hb:k<b.length) (e:¬ a[k]=b[k]):¬ a=b:=by
 rintro rfl;exact e rfl
theorem ev_eq {x y:Ev}:x=y↔[x.th,x.kind,x.obj,x.lock,x.pc]=[y.th,y.kind,y.obj,y.lock,y.pc]:=by
 constructor
 ·rintro rfl;rfl
 ·intro h
  cases x;cases y
  simp only[List.cons.injEq,and_true] at h
  obtain⟨rfl,rfl,rfl,rfl,rfl⟩:=h
  rfl
theorem EqualEv_ok (a b:List Ev) (hx:a.length≤1048576):CallsTo EE 93 [sl (a.map encEv),sl (b.map encEv)] (·=bp (a=b)):=by
 refine callsTo_of_AW (fn:=Tryz.f93) Tryz.func93 rfl (by kernel_rfl) rfl ?_
 conv=>whnf
 refine kbi (fun h=>?_) (fun h=>?_)
 ·have h:¬ a.length=b.length:=by simp at h;omega
  conv=>whnf
  exact bpf fun e=>h (by rw[e])
 have h:a.length=b.length:=by simp at h;omega
 conv=>whnf
 refine yJ (fun k:Nat=>[(0,sl (a.map encEv)),(1,sl (b.map encEv)),(12,i64 (a.map encEv).length),(13,i64 k)]) (fun k=>[]) (fun k=>a.length - k) (fun k=>k≤a.length∧a.take k=b.take k) 0
  Weak.refl ⟨rfl,rfl,rfl,rfl,trivial⟩ trivial ⟨Nat.zero_le _,by simp⟩ ?_
 rintro k τ H ⟨hk,he⟩
 have hk:k≤a.length:=hk
 conv=>whnf
 refine kbi (fun h2=>?_) (fun h2=>?_)
 ·have hlt:=yH h2
  have hltb:k<b.length:=by omega
  conv=>whnf
  refine⟨by kernel_rfl,?_⟩
  conv=>whnf
  refine⟨encEv a[k],zO encEv hlt rfl,?_⟩
  conv=>whnf
  refine⟨encEv b[k],zO encEv hltb rfl,?_⟩
  conv=>whnf
  refine kbi (fun h3=>?_) (fun h3=>?_)
  ·have h3:¬ a[k]=b[k]:=fun e=>by
    rw[e] at h3
    simp at h3
   conv=>whnf
   exact bpf (eN hlt hltb h3)
  ·have h3:a[k]=b[k]:=ev_eq.2 (by simpa using h3)
   conv=>whnf
   exact⟨k+1,⟨hlt,wN hlt hltb he h3⟩,by show a.length - (k+1)<a.length - k;omega,⟨rfl,rfl,rfl,zK hlt (by omega),trivial⟩,trivial⟩
 ·have hge:a.length≤k:=by simpa using h2
  conv=>whnf
  exact bpt (vB (by omega) (by omega) he)
theorem cR (a b:List Int) (hx:a.length≤1048576):CallsTo EE 145 [sl (a.map encInt),sl (b.map encInt)] (·=bp (a=b)):=by
 refine callsTo_of_AW (fn:=Tryz.f145) Tryz.func145 rfl (by kernel_rfl) rfl ?_
 conv=>whnf
 refine kbi (fun h=>?_) (fun h=>?_)
 ·have h:¬ a.length=b.length:=by simp at h;omega
  conv=>whnf
  exact bpf fun e=>h (by rw[e])
 have h:a.length=b.length:=by simp at h;omega
 conv=>whnf
 refine yJ (fun k:Nat=>[(0,sl (a.map encInt)),(1,sl (b.map encInt)),(12,i64 (a.map encInt).length),(13,i64 k)]) (fun k=>[]) (fun k=>a.length - k) (fun k=>k≤a.length∧a.take k=b.take k) 0
  Weak.refl ⟨rfl,rfl,rfl,rfl,trivial⟩ trivial ⟨Nat.zero_le _,by simp⟩ ?_
 rintro k τ H ⟨hk,he⟩
 have hk:k≤a.length:=hk
 conv=>whnf
 refine kbi (fun h2=>?_) (fun h2=>?_)
 ·have hlt:=yH h2
  have hltb:k<b.length:=by omega
  conv=>whnf
  refine⟨by kernel_rfl,?_⟩
  conv=>whnf
  refine⟨encInt a[k],zO encInt hlt rfl,?_⟩
  conv=>whnf
  refine⟨encInt b[k],zO encInt hltb rfl,?_⟩
  conv=>whnf
  refine kbi (fun h3=>?_) (fun h3=>?_)
  ·have h3:¬ a[k]=b[k]:=by simpa using h3
   conv=>whnf
   exact bpf (eN hlt hltb h3)
  ·have h3:a[k]=b[k]:=by simpa using h3
   conv=>whnf
   exact⟨k+1,⟨hlt,wN hlt hltb he h3⟩,by show a.length - (k+1)<a.length - k;omega,⟨rfl,rfl,rfl,zK hlt (by omega),trivial⟩,trivial⟩
 ·have hge:a.length≤k:=by simpa using h2
  conv=>whnf
  exact bpt (vB (by omega) (by omega) he)
def CF (x:Nat):Prop:=Cn x∧F64 x
theorem cT (a b:List Nat) (hx:a.length≤1048576) (ha:∀ x∈a,CF x) (hb:∀ x∈b,CF x):CallsTo EE 251 [sl (a.map encF),sl (b.map encF),.fn 97 []] (·=bp (a=b)):=by
 refine callsTo_of_AW (fn:=Tryz.f251) Tryz.func251 rfl (by kernel_rfl) rfl ?_
 conv=>whnf
 refine kbi (fun h=>?_) (fun h=>?_)
 ·have h:¬ a.length=b.length:=by simp at h;omega
  conv=>whnf
  exact bpf fun e=>h (by rw[e])
 have h:a.length=b.length:=by simp at h;omega
 conv=>whnf
 refine yJ (fun k:Nat=>[(0,sl (a.map encF)),(1,sl (b.map encF)),(2,.fn 97 []),(15,sl (a.map encF)),(16,i64 (a.map encF).length),(17,i64 k)]) (fun k=>[]) (fun k=>a.length - k) (fun k=>k≤a.length∧a.take k=b.take k) 0
  Weak.refl ⟨rfl,rfl,rfl,rfl,rfl,rfl,trivial⟩ trivial ⟨Nat.zero_le _,by simp⟩ ?_
 rintro k τ H ⟨hk,he⟩
 have hk:k≤a.length:=hk
 conv=>whnf
 refine kbi (fun h2=>?_) (fun h2=>?_)
 ·have hlt:=yH h2
  have hltb:k<b.length:=by omega
  have c1:=ha _ (List.getElem_mem hlt)
  have c2:=hb _ (List.getElem_mem hltb)
  conv=>whnf
  refine⟨encF a[k],zO encF hlt rfl,?_⟩
  conv=>whnf
  refine⟨encF b[k],zO encF hltb rfl,?_⟩
  conv=>whnf
  refine ocase (cQ a[k] b[k] c1.2 c2.2) (fun h3=>?_) (fun h3=>?_)
  ·have h3:a[k]=b[k]:=(nT c1.1 c2.1 c1.2 c2.2).1 h3
   conv=>whnf
   exact⟨k+1,⟨hlt,wN hlt hltb he h3⟩,by show a.length - (k+1)<a.length - k;omega,⟨rfl,rfl,rfl,rfl,rfl,zK hlt (by omega),trivial⟩,trivial⟩
  ·have h3:¬ a[k]=b[k]:=fun e=>h3 ((nT c1.1 c2.1 c1.2 c2.2).2 e)
   conv=>whnf
   exact bpf (eN hlt hltb h3)
 ·have hge:a.length≤k:=by simpa using h2
  conv=>whnf
  exact bpt (vB (by omega) (by omega) he)
end Ai
namespace Ai
set_option maxRecDepth 100000
open Go Go.Proofs
def Th.cf (t:Th):Prop:=∀ x∈t.stack,CF x
def StL.cf (s:StL):Prop:=(∀ x∈s.cells,CF x)∧∀ t∈s.ths,t.cf
theorem Same1_ok (x y:Th) (hx:x.stack.length≤1048576) (h1:x.cf) (h2:y.cf):CallsTo EE 253 [agg (zE x),agg (zE y)] (·=bp (x=y)):=by
 refine callsTo_of_AW (fn:=Tryz.f253) Tryz.func253 rfl (by kernel_rfl) rfl ?_
 conv=>whnf
 refine kbi (fun h=>?_) (fun h=>?_)
 rotate_left 1
 ·have h:¬ x.rt=y.rt:=by simpa using h
  conv=>whnf
  exact bpf fun e=>h (by rw[e])
 have e1:x.rt=y.rt:=by simpa using h
 conv=>whnf
 refine kbi (fun h=>?_) (fun h=>?_)
 rotate_left 1
 ·have h:¬ x.pc=y.pc:=by simpa using h
  conv=>whnf
  exact bpf fun e=>h (by rw[e])
 have e2:x.pc=y.pc:=by simpa using h
 conv=>whnf
 refine kbi (fun h=>?_) (fun h=>?_)
 rotate_left 1
 ·have h:¬ x.st=y.st:=by simpa using h
  conv=>whnf
  exact bpf fun e=>h (by rw[e])
 have e3:x.st=y.st:=by simpa using h
 conv=>whnf
 refine kbi (fun h=>?_) (fun h=>?_)
 rotate_left 1
 ·have h:¬ x.cond=y.cond:=by simpa using h
  conv=>whnf
  exact bpf fun e=>h (by rw[e])
 have e4:x.cond=y.cond:=by simpa using h
 conv=>whnf
 refine kbi (fun h=>?_) (fun h=>?_)
 rotate_left 1
 ·have h:¬ x.lock=y.lock:=by simpa using h
  conv=>whnf
  exact bpf fun e=>h (by rw[e])
 have e5:x.lock=y.lock:=by simpa using h
 conv=>whnf
 refine ocase (cT x.stack y.stack hx h1 h2) (fun e6=>?_) (fun h=>?_)
 ·conv=>whnf
  refine bpt ?_
  clear h hx h1 h2
  cases x;cases y
  simp only at e1 e2 e3 e4 e5 e6
  subst e1 e2 e3 e4 e5 e6
  rfl
 ·conv=>whnf
  exact bpf fun e=>h (by rw[e])
theorem EqualTh_ok (a b:List Th) (hx:a.length≤1048576) (hx2:∀ t∈a,t.stack.length≤1048576) (ha:∀ x∈a,x.cf) (hb:∀ x∈b,x.cf):CallsTo EE 252 [sl (a.map zE),sl (b.map zE),.fn 253 []] (·=bp (a=b)):=by
 refine callsTo_of_AW (fn:=Tryz.f252) Tryz.func252 rfl (by kernel_rfl) rfl ?_
 conv=>whnf
 refine kbi (fun h=>?_) (fun h=>?_)
 ·have h:¬ a.length=b.length:=by simp at h;omega
  conv=>whnf
  exact bpf fun e=>h (by rw[e])
 have h:a.length=b.length:=by simp at h;omega
 conv=>whnf
 refine yJ (fun k:Nat=>[(0,sl (a.map zE)),(1,sl (b.map zE)),(2,.fn 253 []),(15,sl (a.map zE)),(16,i64 (a.map zE).length),(17,i64 k)]) (fun k=>[]) (fun k=>a.length - k) (fun k=>k≤a.length∧a.take k=b.take k) 0
  Weak.refl ⟨rfl,rfl,rfl,rfl,rfl,rfl,trivial⟩ trivial ⟨Nat.zero_le _,by simp⟩ ?_
 rintro k τ H ⟨hk,he⟩
 have hk:k≤a.length:=hk
 conv=>whnf
 refine kbi (fun h2=>?_) (fun h2=>?_)
 ·have hlt:=yH h2
  have hltb:k<b.length:=by omega
  conv=>whnf
  refine⟨zE a[k],zO zE hlt rfl,?_⟩
  conv=>whnf
  refine⟨zE b[k],zO zE hltb rfl,?_⟩
  conv=>whnf
  refine ocase (Same1_ok a[k] b[k] (hx2 _ (List.getElem_mem hlt)) (ha _ (List.getElem_mem hlt)) (hb _ (List.getElem_mem hltb))) (fun h3=>?_) (fun h3=>?_)
  ·conv=>whnf
   exact⟨k+1,⟨hlt,wN hlt hltb he h3⟩,by show a.length - (k+1)<a.length - k;omega,⟨rfl,rfl,rfl,rfl,rfl,zK hlt (by omega),trivial⟩,trivial⟩
  ·conv=>whnf
   exact bpf (eN hlt hltb h3)
 ·have hge:a.length≤k:=by simpa using h2
  conv=>whnf
  exact bpt (vB (by omega) (by omega) he)
theorem z8 (x y:StL) (hx:x.fit) (h1:x.cf) (h2:y.cf):CallsTo EE 219 [agg (yG x),agg (yG y)] (·=bp (x=y)):=by
 refine callsTo_of_AW (fn:=Tryz.f219) Tryz.func219 rfl (by kernel_rfl) rfl ?_
 conv=>whnf
 refine kbi (fun h=>?_) (fun h=>?_)
 rotate_left 1
 ·have h:¬ x.fault=y.fault:=by simpa using h
  conv=>whnf
  exact bpf fun e=>h (by rw[e])
 have e1:x.fault=y.fault:=by simpa using h
 conv=>whnf
 refine ocase (cR x.owner y.owner hx.owner) (fun e2=>?_) (fun h=>?_)
 rotate_left 1
 ·conv=>whnf
  exact bpf fun e=>h (by rw[e])
 conv=>whnf
 refine ocase (cT x.cells y.cells hx.cells h1.1 h2.1) (fun e3=>?_) (fun h=>?_)
 rotate_left 1
 ·conv=>whnf
  exact bpf fun e=>h (by rw[e])
 conv=>whnf
 refine ocase (EqualTh_ok x.ths y.ths hx.ths hx.st h1.2 h2.2) (fun e4=>?_) (fun h=>?_)
 rotate_left 1
 ·conv=>whnf
  exact bpf fun e=>h (by rw[e])
 conv=>whnf
 refine bpt ?_
 cases x;cases y
 simp only at e1 e2 e3 e4
 subst e1 e2 e3 e4
 rfl
theorem sameRun_ok (x y:RunT) (hx:x.fit) (h1:x.s.cf) (h2:y.s.cf):CallsTo EE 174 [agg (encRT x),agg (encRT y)] (·=bp (x=y)):=by
 refine callsTo_of_AW (fn:=Tryz.f174) Tryz.func174 rfl (by kernel_rfl) rfl ?_
 conv=>whnf
 refine kbi (fun h=>?_) (fun h=>?_)
 rotate_left 1
 ·have h:¬ x.c=y.c:=by simpa using h
  conv=>whnf
  exact bpf fun e=>h (by rw[e])
 have e1:x.c=y.c:=by simpa using h
 conv=>whnf
 refine ocase (EqualEv_ok x.tr y.tr hx.tr) (fun e2=>?_) (fun h=>?_)
 rotate_left 1
 ·conv=>whnf
  exact bpf fun e=>h (by rw[e])
 conv=>whnf
 refine ocase (cR x.tk y.tk hx.tk) (fun e3=>?_) (fun h=>?_)
 rotate_left 1
 ·conv=>whnf
  exact bpf fun e=>h (by rw[e])
 conv=>whnf
 refine ocase (z8 x.s y.s hx.s h1 h2) (fun e4=>?_) (fun h=>?_)
 rotate_left 1
 ·conv=>whnf
  exact bpf fun e=>h (by rw[e])
 conv=>whnf
 refine bpt ?_
 cases x;cases y
 simp only at e1 e2 e3 e4
 subst e1 e2 e3 e4
 rfl
end Ai
namespace Ai
set_option maxRecDepth 100000
open Go Go.Proofs
def PkRn (x:RunT):Prop:=x.tk.length≤200∧AllIn x.tk 0 999
def y3 (p:ProgL) (x:RunT):Prop:=p.goodS∧x.tr.length≤200∧PkRn x∧dD p x.tk x.tk.length=x
theorem cf_run {p:ProgL} (hg:p.goodS) (hv:p.flt) (hc:p.cn) (x:RunT) (h:PkRn x):(dD p x.tk x.tk.length).s.cf∧(dD p x.tk x.tk.length).fit:=by
 have hpk:∀ i∈x.tk,0≤i:=fun i hi=>(h.2 i hi).1
 have he:=runOf_end hg hv x.tk x.tk.length hpk (by omega)
 have hcn:=runOf_cn hg hv hc x.tk x.tk.length hpk
 have hs:=((tM hg).small _ he.inv.si).1
 have hle:=he.le
 have hln:=he.len
 have h200:=h.1
 refine⟨⟨fun c hc=>⟨hcn.1 c hc,he.inv.fl.1 c hc⟩,fun t ht c hc=>⟨hcn.2 t ht c hc,he.inv.fl.2 t ht c hc⟩⟩,by omega,by omega,⟨hs.1,hs.2.1,hs.2.2.1,hs.2.2.2⟩⟩
theorem IsRunI_ok (p:ProgL) (hp:p.wf) (hs:p.rs.length≤1048576∧∀ x∈p.rs,x.length≤1048576) (hv:p.flt) (hc:p.cn) (x:RunT) (hx:x.fit) (hf:x.s.cf) :
  CallsTo EE 112 [agg (encProg p),agg (encRT x)] (fun r=>(y3 p x∧r=.tup [bv true,bv true])∨(¬ y3 p x∧(r=.tup [bv false,bv true]∨r=.tup [bv false,bv false]))):=by
 refine callsTo_of_AW (fn:=Tryz.f112) Tryz.func112 rfl (by kernel_rfl) rfl ?_
 conv=>whnf
 refine ocase (rL p hs) (fun hg=>?_) (fun hg=>?_)
 rotate_left 1
 ·conv=>whnf
  exact .inr ⟨fun e=>hg ((sD p).1 e.1),.inr rfl⟩
 have hg:p.goodS:=(sD p).2 hg
 conv=>whnf
 refine kbi (fun h=>?_) (fun h=>?_)
 ·have h:¬ x.tr.length≤200:=by simp at h;omega
  conv=>whnf
  exact .inr ⟨fun e=>h e.2.1,.inr rfl⟩
 have htr:x.tr.length≤200:=by simp at h;omega
 conv=>whnf
 refine ocase (arePicks_ok x.tk 200 hx.tk) (fun hpk=>?_) (fun hpk=>?_)
 rotate_left 1
 ·conv=>whnf
  exact .inr ⟨fun e=>hpk e.2.2.1,.inr rfl⟩
 have hpk:PkRn x:=hpk
 obtain⟨c1,c2⟩:=cf_run hg hv hc x hpk
 have hrun:=runPicks_of p hp hg hv x.tk x.tk.length (fun i hi=>(hpk.2 i hi).1) hx.tk ⟨by omega,by have:=hpk.1;omega⟩
 have e0:((x.tk.map encInt).length:Int)=(x.tk.length:Int):=by simp
 rw[← e0] at hrun
 have hsame:=sameRun_ok _ x c2 c1 hf
 rw[← e0] at hsame
 conv=>whnf
 refine⟨by kernel_rfl,?_⟩
 conv=>whnf
 refine⟨_,hrun,?_⟩
 conv=>whnf
 refine fD hsame (fun h=>?_) (fun h=>?_)
 all_goals rw[e0] at h
 ·conv=>whnf
  exact .inl ⟨⟨hg,htr,hpk,h⟩,rfl⟩
 ·conv=>whnf
  exact .inr ⟨fun e=>h e.2.2.2,.inl rfl⟩
theorem isRunI_ok (p:ProgL) (hp:p.wf) (hs:p.rs.length≤1048576∧∀ x∈p.rs,x.length≤1048576) (hv:p.flt) (hc:p.cn) (x:RunT) (hx:x.fit) (hf:x.s.cf) :
  CallsTo EE 56 [agg (encProg p),agg (encRT x)] (·=bp (y3 p x)):=by
 refine callsTo_of_AW (fn:=Tryz.f56) Tryz.func56 rfl (by kernel_rfl) rfl ?_
 conv=>whnf
 refine⟨_,IsRunI_ok p hp hs hv hc x hx hf,?_⟩
 rintro r (⟨h,rfl⟩|⟨h,rfl|rfl⟩)
 ·conv=>whnf
  exact bpt h
 ·conv=>whnf
  exact bpf h
 ·conv=>whnf
  exact bpf h
end Ai
namespace Ai
set_option maxRecDepth 100000
open Go Go.Proofs Cyc
theorem evs_ok {p:ProgL} (hg:p.goodS) (hv:p.flt):∀ (es:List Ev) (s:StL),AInv p s→Evs p s es→∀ e∈es,hY e∧0≤e.th∧e.th<5
 | [],s,_,_,e,he=>by cases he
 |a::es,s,hs,hE,e,he=>by
  obtain⟨k,hk,rfl,hE⟩:=hE
  have hl:=cJ hk
  rcases List.mem_cons.1 he with rfl|he
  ·refine⟨step_lock hl (sR hg hs.si hl),?_,?_⟩
   ·rw[(aC p s k).1];omega
   ·rw[(aC p s k).1];have:=hs.si.len;omega
  ·exact evs_ok hg hv es _ (fN hg hv hk hs) hE e he
theorem isRn_evs {p:ProgL} {x:RunT} (h:y3 p x):Evs p (yQ p) x.tr:=by
 obtain⟨es,h1,h2⟩:=run_evs p x.tk x.tk.length (fun i hi=>(h.2.2.1.2 i hi).1) (((x.tk.length:Nat):Int).toNat+1) (yQ p) [] [] (by simp) (by simp)
 have e:x.tr=es:=by
  have:(dD p x.tk x.tk.length).tr=[]++es:=h1
  rw[h.2.2.2] at this
  simpa using this
 rw[e];exact h2
theorem isRn_ok {p:ProgL} (hv:p.flt) {x:RunT} (h:y3 p x):∀ e∈x.tr,hY e∧0≤e.th∧e.th<5 :=
 evs_ok h.1 hv x.tr (yQ p) (dY h.1) (isRn_evs h)
theorem isRn_hang {p:ProgL} (hv:p.flt) {x:RunT} (h:y3 p x) {a b:Ev} (ha:a∈x.tr) (hb:b∈x.tr):mN a b↔j8 a b :=
 hang_same (isRn_ok hv h a ha).1 (isRn_ok hv h b hb).1
end Ai
namespace Ai
set_option maxRecDepth 100000
open Go Go.Proofs
theorem cY (a b:List Ev) (hx:a.length≤1048576):CallsTo EE 163 [sl (a.map encEv),sl (b.map encEv)] (·=bp (a=b)):=by
 refine callsTo_of_AW (fn:=Tryz.f163) Tryz.func163 rfl (by kernel_rfl) rfl ?_
 conv=>whnf
 refine kbi (fun h=>?_) (fun h=>?_)
 ·have h:¬ a.length=b.length:=by simp at h;omega
  conv=>whnf
  exact bpf fun e=>h (by rw[e])
 have h:a.length=b.length:=by simp at h;omega
 conv=>whnf
 refine yJ (fun k:Nat=>[(0,sl (a.map encEv)),(1,sl (b.map encEv)),(12,i64 (a.map encEv).length),(13,i64 k)]) (fun k=>[]) (fun k=>a.length - k) (fun k=>k≤a.length∧a.take k=b.take k) 0
  Weak.refl ⟨rfl,rfl,rfl,rfl,trivial⟩ trivial ⟨Nat.zero_le _,by simp⟩ ?_
 rintro k τ H ⟨hk,he⟩
 have hk:k≤a.length:=hk
 conv=>whnf
 refine kbi (fun h2=>?_) (fun h2=>?_)
 ·have hlt:=yH h2
  have hltb:k<b.length:=by omega
  conv=>whnf
  refine⟨by kernel_rfl,?_⟩
  conv=>whnf
  refine⟨encEv a[k],zO encEv hlt rfl,?_⟩
  conv=>whnf
  refine⟨encEv b[k],zO encEv hltb rfl,?_⟩
  conv=>whnf
  refine kbi (fun h3=>?_) (fun h3=>?_)
  ·have h3:¬ a[k]=b[k]:=fun e=>by
    rw[e] at h3
    simp at h3
   conv=>whnf
   exact bpf (eN hlt hltb h3)
  ·have h3:a[k]=b[k]:=ev_eq.2 (by simpa using h3)
   conv=>whnf
   exact⟨k+1,⟨hlt,wN hlt hltb he h3⟩,by show a.length - (k+1)<a.length - k;omega,⟨rfl,rfl,rfl,zK hlt (by omega),trivial⟩,trivial⟩
 ·have hge:a.length≤k:=by simpa using h2
  conv=>whnf
  exact bpt (vB (by omega) (by omega) he)
theorem j4 (a b:List Int) (hx:a.length≤1048576):CallsTo EE 136 [sl (a.map encInt),sl (b.map encInt)] (·=bp (a=b)):=by
 refine callsTo_of_AW (fn:=Tryz.f136) Tryz.func136 rfl (by kernel_rfl) rfl ?_
 conv=>whnf
 refine kbi (fun h=>?_) (fun h=>?_)
 ·have h:¬ a.length=b.length:=by simp at h;omega
  conv=>whnf
  exact bpf fun e=>h (by rw[e])
 have h:a.length=b.length:=by simp at h;omega
 conv=>whnf
 refine yJ (fun k:Nat=>[(0,sl (a.map encInt)),(1,sl (b.map encInt)),(12,i64 (a.map encInt).length),(13,i64 k)]) (fun k=>[]) (fun k=>a.length - k) (fun k=>k≤a.length∧a.take k=b.take k) 0
  Weak.refl ⟨rfl,rfl,rfl,rfl,trivial⟩ trivial ⟨Nat.zero_le _,by simp⟩ ?_
 rintro k τ H ⟨hk,he⟩
 have hk:k≤a.length:=hk
 conv=>whnf
 refine kbi (fun h2=>?_) (fun h2=>?_)
 ·have hlt:=yH h2
  have hltb:k<b.length:=by omega
  conv=>whnf
  refine⟨by kernel_rfl,?_⟩
  conv=>whnf
  refine⟨encInt a[k],zO encInt hlt rfl,?_⟩
  conv=>whnf
  refine⟨encInt b[k],zO encInt hltb rfl,?_⟩
  conv=>whnf
  refine kbi (fun h3=>?_) (fun h3=>?_)
  ·have h3:¬ a[k]=b[k]:=by simpa using h3
   conv=>whnf
   exact bpf (eN hlt hltb h3)
  ·have h3:a[k]=b[k]:=by simpa using h3
   conv=>whnf
   exact⟨k+1,⟨hlt,wN hlt hltb he h3⟩,by show a.length - (k+1)<a.length - k;omega,⟨rfl,rfl,rfl,zK hlt (by omega),trivial⟩,trivial⟩
 ·have hge:a.length≤k:=by simpa using h2
  conv=>whnf
  exact bpt (vB (by omega) (by omega) he)
theorem mL (a b:List Nat) (hx:a.length≤1048576) (ha:∀ x∈a,CF x) (hb:∀ x∈b,CF x):CallsTo EE 214 [sl (a.map encF),sl (b.map encF)] (·=bp (a=b)):=by
 refine callsTo_of_AW (fn:=Tryz.f214) Tryz.func214 rfl (by kernel_rfl) rfl ?_
 conv=>whnf
 refine kbi (fun h=>?_) (fun h=>?_)
 ·have h:¬ a.length=b.length:=by simp at h;omega
  conv=>whnf
  exact bpf fun e=>h (by rw[e])
 have h:a.length=b.length:=by simp at h;omega
 conv=>whnf
 refine yJ (fun k:Nat=>[(0,sl (a.map encF)),(1,sl (b.map encF)),(12,i64 (a.map encF).length),(13,i64 k)]) (fun k=>[]) (fun k=>a.length - k) (fun k=>k≤a.length∧a.take k=b.take k) 0
  Weak.refl ⟨rfl,rfl,rfl,rfl,trivial⟩ trivial ⟨Nat.zero_le _,by simp⟩ ?_
 rintro k τ H ⟨hk,he⟩
 have hk:k≤a.length:=hk
 conv=>whnf
 refine kbi (fun h2=>?_) (fun h2=>?_)
 ·have hlt:=yH h2
  have hltb:k<b.length:=by omega
  have c1:=ha _ (List.getElem_mem hlt)
  have c2:=hb _ (List.getElem_mem hltb)
  conv=>whnf
  refine⟨by kernel_rfl,?_⟩
  conv=>whnf
  refine⟨encF a[k],zO encF hlt rfl,?_⟩
  conv=>whnf
  refine⟨encF b[k],zO encF hltb rfl,?_⟩
  conv=>whnf
  refine fD (pQ a[k] b[k]) (fun h3=>?_) (fun h3=>?_)
  ·have h3:a[k]=b[k]:=(nT c1.1 c2.1 c1.2 c2.2).1 h3
   conv=>whnf
   exact⟨k+1,⟨hlt,wN hlt hltb he h3⟩,by show a.length - (k+1)<a.length - k;omega,⟨rfl,rfl,rfl,zK hlt (by omega),trivial⟩,trivial⟩
  ·have h3:¬ a[k]=b[k]:=fun e=>h3 ((nT c1.1 c2.1 c1.2 c2.2).2 e)
   conv=>whnf
   exact bpf (eN hlt hltb h3)
 ·have hge:a.length≤k:=by simpa using h2
  conv=>whnf
  exact bpt (vB (by omega) (by omega) he)
end Ai
namespace Ai
set_option maxRecDepth 100000
open Go Go.Proofs
theorem th_eq {x y:Th} (a1:x.rt=y.rt) (a2:x.pc=y.pc) (a3:x.st=y.st) (a4:x.cond=y.cond) (a5:x.lock=y.lock) (a6:x.stack=y.stack):x=y:=by
 cases x;cases y
 simp only at a1 a2 a3 a4 a5 a6
 subst a1 a2 a3 a4 a5 a6
 rfl
theorem z7 (x y:StL) (hx:x.fit) (h1:x.cf) (h9:y.cf):CallsTo EE 164 [agg (yG x),agg (yG y)] (·=bp (x=y)):=by
 refine callsTo_of_AW (fn:=Tryz.f164) Tryz.func164 rfl (by kernel_rfl) rfl ?_
 conv=>whnf
 refine kbi (fun h=>?_) (fun h=>?_)
 ·have h:¬ x.ths.length=y.ths.length:=by simp at h;omega
  conv=>whnf
  exact bpf fun e=>h (by rw[e])
 have h:x.ths.length=y.ths.length:=by simp at h;omega
 conv=>whnf
 refine ocase (mL x.cells y.cells hx.cells h1.1 h9.1) (fun e3=>?_) (fun h=>?_)
 rotate_left 1
 ·conv=>whnf
  exact bpf fun e=>h (by rw[e])
 conv=>whnf
 refine ocase (j4 x.owner y.owner hx.owner) (fun e2=>?_) (fun h=>?_)
 rotate_left 1
 ·conv=>whnf
  exact bpf fun e=>h (by rw[e])
 conv=>whnf
 refine kbi (fun h=>?_) (fun h=>?_)
 ·have h:¬ x.fault=y.fault:=by simpa using h
  conv=>whnf
  exact bpf fun e=>h (by rw[e])
 have e1:x.fault=y.fault:=by simpa using h
 conv=>whnf
 refine yJ (fun k:Nat=>[(2,.ptr (.n 2) 0),(3,.ptr (.n 3) 0),(39,sl (x.ths.map zE)),(40,i64 (x.ths.map zE).length),(41,i64 k)]) (fun k=>[(.n 2,.vs 37 ((yG x).map .d)),(.n 3,.vs 37 ((yG y).map .d))]) (fun k=>x.ths.length - k) (fun k=>k≤x.ths.length∧x.ths.take k=y.ths.take k) 0
  Weak.refl ⟨rfl,rfl,rfl,rfl,rfl,trivial⟩ ⟨rfl,rfl,trivial⟩ ⟨Nat.zero_le _,by simp⟩ ?_
 rintro k τ H ⟨hk,he⟩
 have hk:k≤x.ths.length:=hk
 conv=>whnf
 refine kbi (fun h2=>?_) (fun h2=>?_)
 ·have hlt:=yH h2
  have hltb:k<y.ths.length:=by omega
  have c1:=h1.2 _ (List.getElem_mem hlt)
  have c2:=h9.2 _ (List.getElem_mem hltb)
  conv=>whnf
  refine⟨zE x.ths[k],zO zE hlt rfl,?_⟩
  conv=>whnf
  refine⟨zE y.ths[k],zO zE hltb rfl,?_⟩
  conv=>whnf
  refine kbi (fun h=>?_) (fun h=>?_)
  ·have h:¬ x.ths[k].rt=y.ths[k].rt:=by simpa using h
   conv=>whnf
   exact bpf fun e=>h (by subst e;rfl)
  have a1:x.ths[k].rt=y.ths[k].rt:=by simpa using h
  conv=>whnf
  refine kbi (fun h=>?_) (fun h=>?_)
  ·have h:¬ x.ths[k].pc=y.ths[k].pc:=by simpa using h
   conv=>whnf
   exact bpf fun e=>h (by subst e;rfl)
  have a2:x.ths[k].pc=y.ths[k].pc:=by simpa using h
  conv=>whnf
  refine kbi (fun h=>?_) (fun h=>?_)
  ·have h:¬ x.ths[k].st=y.ths[k].st:=by simpa using h
   conv=>whnf
   exact bpf fun e=>h (by subst e;rfl)
  have a3:x.ths[k].st=y.ths[k].st:=by simpa using h
  conv=>whnf
  refine kbi (fun h=>?_) (fun h=>?_)
  ·have h:¬ x.ths[k].cond=y.ths[k].cond:=by simpa using h
   conv=>whnf
   exact bpf fun e=>h (by subst e;rfl)
  have a4:x.ths[k].cond=y.ths[k].cond:=by simpa using h
  conv=>whnf
  refine kbi (fun h=>?_) (fun h=>?_)
  ·have h:¬ x.ths[k].lock=y.ths[k].lock:=by simpa using h
   conv=>whnf
   exact bpf fun e=>h (by subst e;rfl)
  have a5:x.ths[k].lock=y.ths[k].lock:=by simpa using h
  conv=>whnf
  refine ocase (mL x.ths[k].stack y.ths[k].stack (hx.st _ (List.getElem_mem hlt)) c1 c2) (fun a6=>?_) (fun h=>?_)
  rotate_left 1
  ·conv=>whnf
   exact bpf fun e=>h (by subst e;rfl)
  have a7:x.ths[k]=y.ths[k]:=th_eq a1 a2 a3 a4 a5 a6
  conv=>whnf
  exact⟨k+1,⟨hlt,wN hlt hltb he a7⟩,by show x.ths.length - (k+1)<x.ths.length - k;have:=hlt;omega,⟨rfl,rfl,rfl,rfl,zK hlt (Nat.le_trans hx.ths (by omega)),trivial⟩,⟨rfl,rfl,trivial⟩⟩
 ·have hge:x.ths.length≤k:=by simpa using h2
  have e4:=vB (by omega) (by omega) he
  conv=>whnf
  refine bpt ?_
  clear h1 h9 hx
  cases x;cases y
  simp only at e1 e2 e3 e4
  subst e1 e2 e3 e4
  rfl
theorem a8 (x y:RunT) (hx:x.fit) (h1:x.s.cf) (h2:y.s.cf):CallsTo EE 103 [agg (encRT x),agg (encRT y)] (·=bp (x=y)):=by
 refine callsTo_of_AW (fn:=Tryz.f103) Tryz.func103 rfl (by kernel_rfl) rfl ?_
 conv=>whnf
 refine kbi (fun h=>?_) (fun h=>?_)
 rotate_left 1
 ·have h:¬ x.c=y.c:=by simpa using h
  conv=>whnf
  exact bpf fun e=>h (by rw[e])
 have e1:x.c=y.c:=by simpa using h
 conv=>whnf
 refine ocase (cY x.tr y.tr hx.tr) (fun e2=>?_) (fun h=>?_)
 rotate_left 1
 ·conv=>whnf
  exact bpf fun e=>h (by rw[e])
 conv=>whnf
 refine ocase (j4 x.tk y.tk hx.tk) (fun e3=>?_) (fun h=>?_)
 rotate_left 1
 ·conv=>whnf
  exact bpf fun e=>h (by rw[e])
 conv=>whnf
 refine ocase (z7 x.s y.s hx.s h1 h2) (fun e4=>?_) (fun h=>?_)
 rotate_left 1
 ·conv=>whnf
  exact bpf fun e=>h (by rw[e])
 conv=>whnf
 refine bpt ?_
 cases x;cases y
 simp only at e1 e2 e3 e4
 subst e1 e2 e3 e4
 rfl
end Ai
namespace Ai
set_option maxRecDepth 100000
open Go Go.Proofs
theorem l4Is_ok (p:ProgL) (hp:p.wf) (hg:p.goodS) (hv:p.flt) (hc:p.cn) (x:RunT) (hx:x.fit) (hf:x.s.cf) :
  CallsTo EE 48 [agg (encProg p),agg (encRT x)] (·=bp (y3 p x)):=by
 refine callsTo_of_AW (fn:=Tryz.f48) Tryz.func48 rfl (by kernel_rfl) rfl ?_
 conv=>whnf
 refine⟨by kernel_rfl,?_⟩
 conv=>whnf
 refine kbi (fun h=>?_) (fun h=>?_)
 rotate_left 1
 ·have h:¬ x.tr.length≤200:=by simp at h;omega
  conv=>whnf
  exact bpf fun e=>h e.2.1
 have htr:x.tr.length≤200:=by simp at h;omega
 conv=>whnf
 refine fD (l4Picks_ok x.tk hx.tk) (fun hpk=>?_) (fun hpk=>?_)
 rotate_left 1
 ·conv=>whnf
  exact bpf fun e=>hpk e.2.2.1
 have hpk:PkRn x:=hpk
 obtain⟨c1,c2⟩:=cf_run hg hv hc x hpk
 have hrun:=l4Run_of p hp hg x.tk x.tk.length (fun i hi=>(hpk.2 i hi).1) hx.tk ⟨by omega,by have:=hpk.1;omega⟩
 have e0:((x.tk.map encInt).length:Int)=(x.tk.length:Int):=by simp
 rw[← e0] at hrun
 have hsame:=a8 _ x c2 c1 hf
 rw[← e0] at hsame
 conv=>whnf
 refine⟨_,hrun,?_⟩
 conv=>whnf
 refine fD hsame (fun h=>?_) (fun h=>?_)
 all_goals rw[e0] at h
 ·conv=>whnf
  exact bpt ⟨hg,htr,hpk,h⟩
 ·conv=>whnf
  exact bpf fun e=>h e.2.2.2
end Ai
namespace Ai
set_option maxRecDepth 100000
open Go Go.Proofs Cyc
def rtOf (x:Int × List Ev × List Int × StL):RunT:=⟨x.1,x.2.1,x.2.2.1,x.2.2.2⟩
open Classical in
/-- the answer of SwapAt -/
noncomputable def uF (p:ProgL) (x:RunT) (k:Int):RunT × Bool :=
 if y3 p x∧InR k 0 ((x.tr.length:Int) - 2)∧¬ mN (x.tr.getD k.toNat jY) (x.tr.getD (k.toNat+1) jY) then
  (match kK p (kJ (vF x.tr) k.toNat) (yQ p) [] [] with|some y=>(rtOf y,true)|none=>(rn0,false))
 else (rn0,false)
end Ai
namespace Ai
set_option maxRecDepth 100000
open Go Go.Proofs Cyc
def st0:StL:=⟨[],[],[],0⟩
end Ai
namespace Ai
set_option maxRecDepth 100000
open Go Go.Proofs Cyc
theorem kL {p:ProgL} {x:RunT} {k:Int} (h:¬ (y3 p x∧InR k 0 ((x.tr.length:Int) - 2)∧¬ mN (x.tr.getD k.toNat jY) (x.tr.getD (k.toNat+1) jY))):uF p x k=(rn0,false):=if_neg h
theorem x3 {p:ProgL} {x:RunT} {k:Int} (h:y3 p x∧InR k 0 ((x.tr.length:Int) - 2)∧¬ mN (x.tr.getD k.toNat jY) (x.tr.getD (k.toNat+1) jY)) :
  uF p x k=(match kK p (kJ (vF x.tr) k.toNat) (yQ p) [] [] with|some y=>(rtOf y,true)|none=>(rn0,false)):=if_pos h
theorem SwapAtS_ok (p:ProgL) (hp:p.wf) (hs:p.rs.length≤1048576∧∀ x∈p.rs,x.length≤1048576) (hv:p.flt) (hc:p.cn) (x:RunT) (hx:x.fit) (hf:x.s.cf) (k:Int) :
  CallsTo EE 25 [agg (encProg p),agg (encRT x),i64 k] (·=.tup [agg (encRT (uF p x k).1),bv (uF p x k).2]):=by
 classical
 refine callsTo_of_AW (fn:=Tryz.f25) Tryz.func25 rfl (by kernel_rfl) rfl ?_
 conv=>whnf
 refine⟨by kernel_rfl,?_⟩
 conv=>whnf
 refine fD (GoodProgS_ok p hs hv) (fun hg=>?_) (fun hg=>?_)
 rotate_left 1
 ·rw[kL fun e=>hg e.1.1]
  conv=>whnf
  rfl
 conv=>whnf
 refine fD (l4Is_ok p hp hg hv hc x hx hf) (fun hi=>?_) (fun hi=>?_)
 rotate_left 1
 ·rw[kL fun e=>hi e.1]
  conv=>whnf
  rfl
 have htl:x.tr.length≤200:=hi.2.1
 have hwr:IntKind.i64.wrap ((x.tr.length:Int) - 2)=(x.tr.length:Int) - 2:=zF (by omega) (by omega)
 have hin2:CallsTo EE 71 [i64 k,i64 0,i64 (IntKind.i64.wrap (((x.tr.map encEv).length:Int) - 2))] (·=bp (InR k 0 ((x.tr.length:Int) - 2))):=by
  rw[List.length_map,hwr];exact kG _ _ _
 conv=>whnf
 refine fD hin2 (fun hk=>?_) (fun hk=>?_)
 rotate_left 1
 ·rw[kL fun e=>hk e.2.1]
  conv=>whnf
  rfl
 obtain⟨kn,rfl⟩:∃ n:Nat,k=(n:Int):=⟨k.toNat,by have:=hk.1;omega⟩
 have hk2:=hk.2
 have h1:kn<x.tr.length:=by omega
 have h2:kn+1<x.tr.length:=by omega
 have g1:x.tr.getD ((kn:Nat):Int).toNat jY=x.tr[kn]:=by rw[Int.toNat_natCast,List.getD_eq_getElem?_getD,List.getElem?_eq_getElem h1];rfl
 have g2:x.tr.getD (((kn:Nat):Int).toNat+1) jY=x.tr[kn+1]:=by rw[Int.toNat_natCast,List.getD_eq_getElem?_getD,List.getElem?_eq_getElem h2];rfl
 have hw1:IntKind.i64.wrap ((kn:Int)+1)=((kn+1:Nat):Int):=by rw[zF (by omega) (by omega)];simp
 conv=>whnf
 refine⟨encEv x.tr[kn],zO encEv h1 rfl,?_⟩
 conv=>whnf
 refine⟨encEv x.tr[kn+1],⟨by rw[hw1];omega,by rw[hw1];simp[h2],rfl⟩,?_⟩
 conv=>whnf
 refine fD (hangS_ok x.tr[kn] x.tr[kn+1]) (fun h3=>?_) (fun h3=>?_)
 ·rw[kL fun e=>e.2.2 (by rw[g1,g2];exact h3)]
  conv=>whnf
  rfl
 rw[x3 ⟨hi,hk,by rw[g1,g2];exact h3⟩,Int.toNat_natCast]
 conv=>whnf
 refine .inr (.inl ⟨11,[],?_⟩)
 conv=>whnf
 have hlen:(vF x.tr).length=x.tr.length:=by simp[vF]
 refine⟨_,s8 x.tr (by omega),?_⟩
 conv=>whnf
 refine .inl ?_
 conv=>whnf
 refine⟨_,l9Turn_ok (vF x.tr) kn (by omega) (by omega),?_⟩
 conv=>whnf
 refine .inl ?_
 conv=>whnf
 refine⟨_,s9 p hp hg (kJ (vF x.tr) kn) (by simp[kJ];omega),?_⟩
 cases kK p (kJ (vF x.tr) kn) (yQ p) [] [] with
 |none =>
  conv=>whnf
  refine⟨by kernel_rfl,?_⟩
  conv=>whnf
  rfl
 |some y =>
  obtain⟨c,tr,tk,s⟩:=y
  conv=>whnf
  refine⟨by kernel_rfl,?_⟩
  conv=>whnf
  rfl
end Ai
namespace Ai
set_option maxRecDepth 100000
open Go Go.Proofs
def eC (xs:List Th) (k j:Nat):List AV:=if j<k then (match xs[j]? with|some t=>thRow 900 j t|none=>[]) else [i64 0,i64 0,i64 0,i64 0,i64 0,.d .nil]
def vV (xs:List Th) (k:Nat):List (List AV):=(List.range xs.length).map (eC xs k)
def rB (xs:List Th) (k j:Nat):Option Ob:=if j<k then zD xs j else none
theorem rowsH_map {xs:List Th} {i i':Nat} (f:List AV→List AV) (h:∀ j,j<xs.length→f (eC xs i j)=eC xs i' j):(vV xs i).map f=vV xs i':=by
 unfold vV
 rw[List.map_map]
 exact List.map_congr_left fun j hj=>h j (by simpa using hj)
theorem rowsH_zero (xs:List Th):vV xs 0=List.replicate xs.length [i64 0,i64 0,i64 0,i64 0,i64 0,.d .nil]:=by
 apply List.ext_getElem?
 intro j
 by_cases h:j<xs.length
 ·simp[vV,eC,h]
 ·rw[List.getElem?_eq_none (by simp[vV];omega),List.getElem?_eq_none (by simp;omega)]
theorem w7 {p:Key→Bool} (xs:List Th) (i:Nat) (hp:∀ j,p (.s 900 j)=false):(vV xs i).map (scrPL p)=vV xs i :=
 rowsH_map _ fun j hj=>by
  unfold eC
  split
  ·rw[List.getElem?_eq_getElem hj]
   exact yB (hp j)
  ·rfl
theorem famH_ren (f:Key→Key) (xs:List Th) (i j:Nat):(rB xs i j).map (renO f)=rB xs i j:=by
 unfold rB
 split
 ·exact thFam_ren _ _ _
 ·rfl
theorem famH_scr (p:Key→Bool) (xs:List Th) (i j:Nat):(rB xs i j).map (scrPO p)=rB xs i j:=by
 unfold rB
 split
 ·exact zG _ _ _
 ·rfl
theorem rowsH_end (xs:List Th):vV xs xs.length=thRows 900 xs:=by
 apply List.ext_getElem?
 intro j
 by_cases h:j<xs.length
 ·rw[yL h]
  simp[vV,eC,h]
 ·rw[List.getElem?_eq_none (by simp[vV];omega),List.getElem?_eq_none (by rw[zT];omega)]
theorem famH_end (xs:List Th) (j:Nat):rB xs xs.length j=zD xs j:=by
 unfold rB
 split
 ·rfl
 ·rename_i h
  exact(thFam_ge (by omega)).symm
theorem rowsH_put {xs:List Th} {k:Nat} (h:k<xs.length):((yR (vV xs k) 6 k 0 [i64 xs[k].rt,i64 xs[k].pc,i64 xs[k].st,i64 xs[k].cond,i64 xs[k].lock,.ref (.n 905) 0 (stk xs[k]).length]).map (renL (swp (.n 905) (.s 900 k))))=vV xs (k+1):=by
 have hlen:(vV xs k).length=xs.length:=by simp[vV]
 apply List.ext_getElem?
 intro j
 by_cases hj:j=k
 ·subst hj
  rw[List.getElem?_map,xY (c:=eC xs j j) (c':=[i64 xs[j].rt,i64 xs[j].pc,i64 xs[j].st,i64 xs[j].cond,i64 xs[j].lock,.ref (.n 905) 0 (stk xs[j]).length]) (by simp[vV,h]) (by unfold eC;rw[if_neg (by omega)];rfl)]
  have e:swp (.n 905) (.s 900 j) (.n 905)=.s 900 j:=by simp[swp,Key.beq]
  simp[vV,eC,h,renL,ren,e,thRow,stk]
 ·by_cases hl:j<xs.length
  ·rw[List.getElem?_map,jG hj (c:=eC xs k j) (by simp[vV,hl])]
   simp only[vV,List.getElem?_map,List.getElem?_range hl,Option.map_some,Option.some.injEq]
   unfold eC
   by_cases hjk:j<k
   ·rw[if_pos hjk,if_pos (by omega),List.getElem?_eq_getElem hl]
    exact rR (by omega)
   ·rw[if_neg hjk,if_neg (by omega)]
    rfl
  ·rw[List.getElem?_eq_none (by simp[yR];simp[hlen];omega),List.getElem?_eq_none (by simp[vV];omega)]
theorem oO (xs:List Th) (hx:xs.length≤1048576) (hx2:∀ x∈xs,x.stack.length≤1048576):CallsTo EE 110 [sl (xs.map zE)] (·=.ownF 1 [.uqd 158 6 5 74 1 (xs.map xU) (xs.map stk)]):=by
 refine cL (fun v hv=>?_) ?_
 ·simp only[List.mem_cons,List.not_mem_nil,or_false] at hv
  subst hv
  show(xs.map _).length=(xs.map _).length
  simp
 refine xH (fn:=Tryz.f110) (c:=Tryz.f110.body.getD .skip) Tryz.func110 rfl (by kernel_rfl) rfl ?_
 conv=>whnf
 refine⟨by simp;omega,?_⟩
 conv=>whnf
 refine gR (fun k:Nat=>[(0,sl (xs.map zE)),(3,.dref (.n 900) xs.length),(4,i64 k)]) (fun k=>[(.n 900,.rs 158 6 (vV xs k))]) (fun k=>[(900,rB xs k)]) (fun k=>xs.length - k) (fun k=>k≤xs.length) 0
  ((aN (.n 7) rfl).trans (wM 7 900)) ?_ ?_ ?_ (Nat.zero_le _) ?_
 ·exact⟨rfl,by show AV.dref (.n 900) (((xs.map zE).length:Nat):Int).toNat=_;simp,rfl,trivial⟩
 ·refine⟨?_,trivial⟩
  show some (Ob.rs 158 6 (((List.replicate (((xs.map zE).length:Nat):Int).toNat [di 0,di 0,di 0,di 0,di 0,D.nil]).map (List.map AV.d)).map (renL (swp (.n 7) (.n 900)))))=_
  rw[rowsH_zero]
  simp[renL,ren]
 ·refine⟨fun j=>?_,trivial⟩
  unfold rB
  rw[if_neg (by omega)]
  rfl
 intro k τ H hk
 have hk:k≤xs.length:=hk
 conv=>whnf
 refine kbi (fun h=>?_) (fun h=>?_)
 ·have hlt:=yH h
  conv=>whnf
  refine⟨zE xs[k],zO zE hlt rfl,?_⟩
  conv=>whnf
  refine⟨_,m7 xs[k] (hx2 _ (List.getElem_mem hlt)),?_⟩
  rintro r rfl
  conv=>whnf
  refine⟨⟨by omega,by omega⟩,?_⟩
  conv=>whnf
  refine⟨k+1,_,uI 905 900 k,by show k+1≤xs.length;omega,by show xs.length - (k+1)<xs.length - k;omega,⟨rfl,rfl,zK hlt (by omega),trivial⟩,⟨?_,trivial⟩,⟨fun j=>?_,trivial⟩⟩
  ·show some (Ob.rs 158 6 ((yR ((vV xs k).map (scrPL fun κ=>(ownH [i64 xs[k].rt,i64 xs[k].pc,i64 xs[k].st,i64 xs[k].cond,i64 xs[k].lock,.uq 74 1 (stk xs[k])] κ).isSome)) 6 ((k:Int)).toNat 0 [i64 xs[k].rt,i64 xs[k].pc,i64 xs[k].st,i64 xs[k].cond,i64 xs[k].lock,.ref (.n 905) 0 (stk xs[k]).length]).map (renL (swp (.n 905) (.s 900 k)))))=_
   rw[w7 _ _ (fun j=>rfl),Int.toNat_natCast,rowsH_put hlt]
  ·show(St.H _ (swp (.n 905) (.s 900 k) (.s 900 j))).map _=_
   by_cases hj:j=k
   ·subst hj
    have e:swp (.n 905) (.s 900 j) (.s 900 j)=.n 905:=by simp[swp,Key.beq]
    rw[e]
    unfold rB
    rw[if_pos (by omega),thFam_self hlt]
    rfl
   ·have e:swp (.n 905) (.s 900 k) (.s 900 j)=.s 900 j:=by simp[swp,Key.beq,nbeq_ne hj]
    rw[e]
    show Option.map _ (Option.map _ (rB xs k j))=_
    rw[famH_scr,famH_ren]
    unfold rB
    by_cases hjk:j<k
    ·rw[if_pos hjk,if_pos (by omega)]
    ·rw[if_neg hjk,if_neg (by omega)]
 ·have hkk:k=xs.length:=by
   have:¬ k<xs.length:=by simpa using h
   omega
  subst hkk
  conv=>whnf
  refine⟨_,Weak.refl,?_⟩
  conv=>whnf
  refine⟨lend9,?_,fun κ hκ=>?_⟩
  ·show AV.dref (.n 900) xs.length=AV.dref (.n 900) (xs.map _).length
   rw[List.length_map]
  ·cases κ with
   |l n=>exact absurd rfl hκ
   |n q =>
    by_cases hq:q=900
    ·subst hq
     show some (Ob.rs 158 6 ((vV xs xs.length).map (scrPL (fun o=>!lend9 o))))=some (Ob.rs 158 6 (ownRows 900 5 (xs.map xU) (xs.map stk)))
     rw[w7 _ _ (fun j=>rfl),rowsH_end];rfl
    ·exact absurd (own1_n hq) hκ
   |s o j =>
    by_cases hq:o=900
    ·subst hq
     show Option.map _ (rB xs xs.length j)=((xs.map stk)[j]?).map (Ob.ds 74 1)
     rw[famH_scr,famH_end]
     simp[zD]
     rfl
    ·exact absurd (own1_s hq) hκ
theorem toState_own (s:StL) (h:s.fit):CallsTo EE 55 [agg (yG s)] (·=.own (wC s)):=by
 refine callsTo_of_AW (fn:=Tryz.f55) Tryz.func55 rfl (by kernel_rfl) rfl ?_
 conv=>whnf
 refine⟨_,oO s.ths h.ths h.st,?_⟩
 rintro r rfl
 conv=>whnf
 refine⟨_,gE s.cells h.cells,?_⟩
 rintro r rfl
 refine .inr ⟨_,rfl,?_⟩
 conv=>whnf
 refine⟨_,lE s.owner h.owner,?_⟩
 rintro r rfl
 refine .inr ⟨_,rfl,?_⟩
 conv=>whnf
 refine .inr (.inr ⟨wC s,_,(wM 10 901).trans (wM 14 902),?_,?_,jT ⟨⟨?_,fun j q hq=>?_⟩,?_,?_,trivial,trivial⟩,rfl⟩)
 ·rfl
 ·intro v hv
  simp only[wC,List.mem_cons,List.not_mem_nil,or_false] at hv
  rcases hv with rfl|rfl|rfl|rfl
  ·show(s.ths.map xU).length=(s.ths.map stk).length
   simp
  ·trivial
  ·trivial
  ·trivial
 ·show some (Ob.rs 158 6 (((((thRows 900 s.ths).map (scrPL (isK (.n 10)))).map (scrPL (isK (.n 14)))).map (renL (swp (.n 10) (.n 901)))).map (renL (swp (.n 14) (.n 902)))))=some (Ob.rs 158 6 (thRows 900 s.ths))
  rw[vU,vU,vA,vA]
 ·have hq:(s.ths.map stk)[j]?=some q:=hq
  have e:ownH [AV.uqd 158 6 5 74 1 (s.ths.map xU) (s.ths.map stk)] (.s 900 j)=some (.ds 74 1 q):=by
   show((s.ths.map stk)[j]?).map (Ob.ds 74 1)=_
   rw[hq];rfl
  show Option.map _ (Option.map _ (Option.map _ (Option.map _ (match ownH [AV.uqd 158 6 5 74 1 (s.ths.map xU) (s.ths.map stk)] (.s 900 j) with|some ob=>some ob|none=>_))))=_
  rw[e];rfl
 ·rfl
 ·rfl
def jZ (x:RunT):List AV:=[i64 x.c,.uq 105 5 (x.tr.map encEv),.uq 3 1 (x.tk.map encInt),.uqd 158 6 5 74 1 (x.s.ths.map xU) (x.s.ths.map stk),.uq 74 1 (x.s.cells.map encF),.uq 3 1 (x.s.owner.map encInt),.d (di x.s.fault)]
theorem toRun_own (x:RunT) (h:x.fit):CallsTo EE 13 [agg (encRT x)] (·=.own (jZ x)):=by
 refine callsTo_of_AW (fn:=Tryz.f13) Tryz.func13 rfl (by kernel_rfl) rfl ?_
 conv=>whnf
 refine⟨_,tI x.tr h.tr,?_⟩
 rintro r rfl
 refine .inr ⟨_,rfl,?_⟩
 conv=>whnf
 refine⟨_,lE x.tk h.tk,?_⟩
 rintro r rfl
 refine .inr ⟨_,rfl,?_⟩
 conv=>whnf
 refine⟨_,toState_own x.s h.s,?_⟩
 rintro r rfl
 conv=>whnf
 refine .inr (.inr ⟨jZ x,_,(vD shA).trans ((wM 9 901).trans (wM 13 902)),?_,?_,jT ⟨trivial,?_,?_,⟨?_,fun j q hq=>?_⟩,?_,?_,trivial,trivial⟩,rfl⟩)
 ·rfl
 ·intro v hv
  simp only[jZ,List.mem_cons,List.not_mem_nil,or_false] at hv
  rcases hv with rfl|rfl|rfl|rfl|rfl|rfl|rfl
  ·trivial
  ·trivial
  ·trivial
  ·show(x.s.ths.map xU).length=(x.s.ths.map stk).length
   simp
  ·trivial
  ·trivial
  ·trivial
 ·rfl
 ·rfl
 ·show some (Ob.rs 158 6 ((((thRows 900 x.s.ths).map (renL shA.f)).map (renL (swp (.n 9) (.n 901)))).map (renL (swp (.n 13) (.n 902)))))=some (Ob.rs 158 6 (thRows 903 x.s.ths))
  rw[show(thRows 900 x.s.ths).map (renL shA.f)=thRows 903 x.s.ths from qU (g:=numA) (hg:=lM) 900 x.s.ths]
  show some (Ob.rs 158 6 (((thRows 903 x.s.ths).map (renL (swp (.n 9) (.n 901)))).map (renL (swp (.n 13) (.n 902)))))=_
  rw[vA,vA]
 ·have hq:(x.s.ths.map stk)[j]?=some q:=hq
  have e:ownH (wC x.s) (.s 900 j)=some (.ds 74 1 q):=by
   show((x.s.ths.map stk)[j]?).map (Ob.ds 74 1)=_
   rw[hq];rfl
  show Option.map _ (Option.map _ (Option.map _ (match ownH (wC x.s) (.s 900 j) with|some ob=>some ob|none=>_)))=_
  rw[e];rfl
 ·rfl
 ·rfl
end Ai
namespace Ai
set_option maxRecDepth 100000
open Go Go.Proofs Cyc
theorem pickT_ok (ts:List Int) (en:List Nat) (n:Nat) (h5:en.length≤5) (hn:n<ts.length) (hl:ts.length≤1000):CallsTo EE 133 [sl (en.map xV),i64 n,.fp [.sl (ts.map encInt)]] (·=i64 (pkT ts en n)):=by
 refine callsTo_of_AW (fn:=Tryz.f133) Tryz.func133 rfl (by kernel_rfl) rfl ?_
 conv=>whnf
 refine⟨encInt ts[n],zO encInt hn rfl,?_⟩
 conv=>whnf
 have e:en.map xV=(en.map fun i=>((i:Nat):Int)).map encInt:=by rw[List.map_map];rfl
 have hI:=IdxA_ok (en.map fun i=>((i:Nat):Int)) ts[n] (by simp;omega)
 rw[← e] at hI
 refine⟨_,hI,?_⟩
 rintro r rfl
 conv=>whnf
 unfold pkT
 rw[List.getD_eq_getElem?_getD,List.getElem?_eq_getElem hn]
 rfl
theorem x8 (p:ProgL) (pk:List Nat→Nat→Int) (budget:Int):∀ (n:Nat) (s:StL) (tr:List Ev) (tk:List Int) (y:Int × List Ev × List Int × StL),(tr.length:Int)≤budget→uJ p pk budget n s tr tk=some y→(y.2.1.length:Int)≤budget
 | 0,s,tr,tk,y,_,h=>by cases h
 |n+1,s,tr,tk,y,hb,h=>by
  unfold uJ at h
  split at h
  ·injection h with h;subst h;exact hb
  ·rename_i hc
   split at h
   ·cases h
   ·refine x8 p pk budget n _ _ _ y ?_ h
    have hne:(tr.length:Int)≠budget:=fun e=>by
     apply hc
     rw[e];exact l0 p s _
    simp;omega
theorem eD:nM (.tup [agg (encRT rn0),bv false]):=by
 intro c hc
 simp only[List.mem_cons,List.not_mem_nil,or_false] at hc
 rcases hc with rfl|rfl
 ·exact .inr ⟨encRT rn0,rfl,rfl⟩
 ·exact .inl ⟨_,rfl,rfl⟩
theorem z9 (p:ProgL) (hp:p.wf) (hs:p.rs.length≤1048576∧∀ x∈p.rs,x.length≤1048576) (hg:p.goodS) (hv:p.flt) (ts:List Int) (hl:ts.length≤200) :
  CallsTo EE 79 [agg (encProg p),sl (ts.map encInt)] (RunZ (kK p ts (yQ p) [] [])):=by
 obtain⟨b1,b2,b3,b4⟩:=hg.1
 refine callsTo_of_AW (fn:=Tryz.f79) Tryz.func79 rfl (by kernel_rfl) rfl ?_
 conv=>whnf
 refine ocase (rL p hs) (fun hgi=>?_) (fun hgi=>absurd ((sD p).1 hg) hgi)
 conv=>whnf
 refine kbi (fun h=>?_) (fun h=>?_)
 ·exfalso
  have:=of_decide_eq_true h
  simp at this
  omega
 have hrun:=runZ_ok toIndexI p hp ⟨b1.1,by have:=b1.2;omega⟩ ⟨b2.1,by have:=b2.2;omega⟩ _ ⟨pR hg,flt_new p⟩ (runI hg hv) ts.length ⟨by omega,by omega⟩ 133 [.sl (ts.map encInt)] (pkT ts)
  (fun en n _ _ h5 hn=>pickT_ok ts en n h5 (by omega) (by omega)) (fun en n he=>pkT_lt ts en n he)
 rw[Int.toNat_natCast] at hrun
 have hrun:CallsTo EE 132 [agg (encProg p),i64 ((ts.map encInt).length:Int),.fn 133 [.fp [.sl (ts.map encInt)]]] (RunZ (uJ p (pkT ts) ts.length (ts.length+1) (yQ p) [] [])):=by rw[List.length_map];exact hrun
 have hsame:=m9 p ts
 rw[← hsame]
 conv=>whnf
 refine .inl ⟨_,hrun,?_⟩
 have hle:=fun y h=>x8 p (pkT ts) ts.length (ts.length+1) (yQ p) [] [] y (by simp) h
 cases hq:uJ p (pkT ts) ts.length (ts.length+1) (yQ p) [] [] with
 |none =>
  rintro r rfl
  refine⟨?_,?_⟩
  ·exact eD
  conv=>whnf
  rfl
 |some y =>
  have hle:=hle y hq
  obtain⟨c,tr,tk,s⟩:=y
  have hle:(tr.length:Int)≤ts.length:=hle
  rintro r rfl
  refine⟨dI _ _,?_⟩
  conv=>whnf
  refine kbi (fun h2=>?_) (fun h2=>?_)
  ·have h2:=of_decide_eq_true h2
   simp only[List.length_map] at h2
   simp only[cutK]
   rw[if_pos (by show tr.length<ts.length;omega)]
   conv=>whnf
   rfl
  ·have h2:¬ _:=fun e=>h2 (decide_eq_true e)
   simp only[List.length_map] at h2
   simp only[cutK]
   rw[if_neg (by show ¬ tr.length<ts.length;omega)]
   conv=>whnf
   refine .inr ⟨8,wT (c,tr,tk,s)++[bv true],_,[.agg [i64 c,.ref (.n 901) 0 tr.length,.ref (.n 902) 0 tk.length,.dref (.n 903) s.ths.length,.ref (.n 904) 0 s.cells.length,.ref (.n 905) 0 s.owner.length,i64 s.fault],bv true],Weak.refl,?_,by simp,?_,?_,jT ⟨trivial,?_,?_,⟨?_,fun j q hq=>?_⟩,?_,?_,trivial,trivial,trivial⟩,rfl⟩
   ·show some [AV.agg [i64 c,.ref (.n 901) 0 (tr.map encEv).length,.ref (.n 902) 0 (tk.map encInt).length,.dref (.n 903) (s.ths.map xU).length,.ref (.n 904) 0 (s.cells.map encF).length,.ref (.n 905) 0 (s.owner.map encInt).length,i64 s.fault],bv true]=_
    simp only[List.length_map]
   ·simp[wT,wC,ownR,ownR1,qQ]
   ·intro v hv
    simp only[wT,wC,List.mem_append,List.mem_cons,List.not_mem_nil,or_false] at hv
    rcases hv with ((rfl|rfl|rfl)|(rfl|rfl|rfl|rfl))|rfl
    all_goals first|trivial|(show(s.ths.map xU).length=(s.ths.map stk).length;simp)
   ·rfl
   ·rfl
   ·first|rfl|(show some (Ob.rs 158 6 ((thRows 903 s.ths).map (scrPL _)))=some (Ob.rs 158 6 (thRows 903 s.ths));rw[zU fun _ _=>rfl])
   ·have hq:(s.ths.map stk)[j]?=some q:=hq
    have e:ownH (wT (c,tr,tk,s)++[bv true]) (.s 903 j)=some (.ds 74 1 q):=by
     show((s.ths.map stk)[j]?).map (Ob.ds 74 1)=_
     rw[hq];rfl
    show Option.map _ (match ownH (wT (c,tr,tk,s)++[bv true]) (.s 903 j) with|some ob=>some ob|none=>_)=_
    rw[e];rfl
   ·rfl
   ·rfl
end Ai
namespace Ai
set_option maxRecDepth 100000
open Go Go.Proofs Cyc
theorem nL (p:ProgL) (hp:p.wf) (hs:p.rs.length≤1048576∧∀ x∈p.rs,x.length≤1048576) (hv:p.flt) (hc:p.cn) (x:RunT) (hx:x.fit) (hf:x.s.cf) (k:Int) :
  CallsTo EE 26 [agg (encProg p),agg (encRT x),i64 k] (fun r=>(∃ y,uF p x k=(y,true)∧r=.ownF 8 (jZ y++[bv true]))∨(uF p x k=(rn0,false)∧r=.tup [agg (encRT rn0),bv false])):=by
 classical
 refine callsTo_of_AW (fn:=Tryz.f26) Tryz.func26 rfl (by kernel_rfl) rfl ?_
 conv=>whnf
 refine⟨by kernel_rfl,?_⟩
 conv=>whnf
 refine fD (isRunI_ok p hp hs hv hc x hx hf) (fun hi=>?_) (fun hi=>?_)
 rotate_left 1
 ·conv=>whnf
  exact .inr ⟨kL fun e=>hi e.1,rfl⟩
 have htl:x.tr.length≤200:=hi.2.1
 have hwr:IntKind.i64.wrap ((x.tr.length:Int) - 2)=(x.tr.length:Int) - 2:=zF (by omega) (by omega)
 have hin2:CallsTo EE 76 [i64 k,i64 0,i64 (IntKind.i64.wrap (((x.tr.map encEv).length:Int) - 2))] (·=bp (InR k 0 ((x.tr.length:Int) - 2))):=by
  rw[List.length_map,hwr];exact in_ok _ _ _
 conv=>whnf
 refine fD hin2 (fun hk=>?_) (fun hk=>?_)
 rotate_left 1
 ·conv=>whnf
  exact .inr ⟨kL fun e=>hk e.2.1,rfl⟩
 obtain⟨kn,rfl⟩:∃ n:Nat,k=(n:Int):=⟨k.toNat,by have:=hk.1;omega⟩
 have hk2:=hk.2
 have h1:kn<x.tr.length:=by omega
 have h2:kn+1<x.tr.length:=by omega
 have g1:x.tr.getD ((kn:Nat):Int).toNat jY=x.tr[kn]:=by rw[Int.toNat_natCast,List.getD_eq_getElem?_getD,List.getElem?_eq_getElem h1];rfl
 have g2:x.tr.getD (((kn:Nat):Int).toNat+1) jY=x.tr[kn+1]:=by rw[Int.toNat_natCast,List.getD_eq_getElem?_getD,List.getElem?_eq_getElem h2];rfl
 have hw1:IntKind.i64.wrap ((kn:Int)+1)=((kn+1:Nat):Int):=by rw[zF (by omega) (by omega)];simp
 have hsame:=isRn_hang hv hi (List.getElem_mem h1) (List.getElem_mem h2)
 conv=>whnf
 refine⟨encEv x.tr[kn],zO encEv h1 rfl,?_⟩
 conv=>whnf
 refine⟨encEv x.tr[kn+1],⟨by rw[hw1];omega,by rw[hw1];simp[h2],rfl⟩,?_⟩
 conv=>whnf
 refine fD (hangI_ok x.tr[kn] x.tr[kn+1]) (fun h3=>?_) (fun h3=>?_)
 ·conv=>whnf
  exact .inr ⟨kL fun e=>e.2.2 (by rw[g1,g2];exact hsame.2 h3),rfl⟩
 have hV:=x3 ⟨hi,hk,(by rw[g1,g2];exact fun e=>h3 (hsame.1 e):¬ mN (x.tr.getD ((kn:Nat):Int).toNat jY) (x.tr.getD (((kn:Nat):Int).toNat+1) jY))⟩
 rw[Int.toNat_natCast] at hV
 have hlen:(vF x.tr).length=x.tr.length:=by simp[vF]
 conv=>whnf
 refine⟨_,n0 x.tr (by omega),?_⟩
 rintro r rfl
 refine .inr ⟨_,rfl,?_⟩
 conv=>whnf
 refine .inr (.inr (.inr ⟨[2],by kernel_rfl,18,[],?_⟩))
 conv=>whnf
 rw[hw1]
 have hk1:kn<(vF x.tr).length:=by omega
 have hk12:kn+1<(vF x.tr).length:=by omega
 refine⟨⟨by omega,by simp;omega⟩,?_⟩
 conv=>whnf
 refine⟨encInt (vF x.tr)[kn+1],⟨by rw[Nat.zero_add,Int.toNat_natCast,List.getElem?_map,List.getElem?_eq_getElem hk12];rfl,Nat.le_refl _⟩,?_⟩
 conv=>whnf
 refine⟨⟨by omega,by simp;omega⟩,?_⟩
 conv=>whnf
 refine⟨encInt (vF x.tr)[kn],⟨by rw[Nat.zero_add,Int.toNat_natCast,List.getElem?_map,List.getElem?_eq_getElem hk1];rfl,Nat.le_refl _⟩,?_⟩
 conv=>whnf
 refine⟨⟨by omega,by simp;omega⟩,?_⟩
 conv=>whnf
 refine⟨⟨by omega,by simp;omega⟩,?_⟩
 conv=>whnf
 refine⟨by kernel_rfl,?_⟩
 have heq:List.take ((vF x.tr).map encInt).length (List.drop 0 ((((vF x.tr).map encInt).set (0+((kn:Nat):Int).toNat) (encInt (vF x.tr)[kn+1])).set (0+((kn+1:Nat):Int).toNat) (encInt (vF x.tr)[kn])))=(kJ (vF x.tr) kn).map encInt:=by
  rw[List.drop_zero,List.take_of_length_le (by simp),Nat.zero_add,Nat.zero_add,Int.toNat_natCast,Int.toNat_natCast]
  unfold kJ
  rw[List.map_set,List.map_set,List.getD_eq_getElem?_getD,List.getD_eq_getElem?_getD,List.getElem?_eq_getElem hk12,List.getElem?_eq_getElem hk1]
  rfl
 have hR:CallsTo EE 79 [agg (encProg p),sl (List.take ((vF x.tr).map encInt).length (List.drop 0 ((((vF x.tr).map encInt).set (0+((kn:Nat):Int).toNat) (encInt (vF x.tr)[kn+1])).set (0+((kn+1:Nat):Int).toNat) (encInt (vF x.tr)[kn]))))] (RunZ (kK p (kJ (vF x.tr) kn) (yQ p) [] [])):=by
  rw[heq]
  exact z9 p hp hs hi.1 hv _ (by simp[kJ];omega)
 clear heq
 conv=>whnf
 refine .inl ⟨_,hR,?_⟩
 cases hq:kK p (kJ (vF x.tr) kn) (yQ p) [] [] with
 |none =>
  rw[hq] at hV
  rintro r rfl
  refine⟨eD,?_⟩
  conv=>whnf
  exact .inr ⟨hV,rfl⟩
 |some y =>
  rw[hq] at hV
  obtain⟨c,tr,tk,s⟩:=y
  rintro r rfl
  refine⟨dI _ _,?_⟩
  conv=>whnf
  refine .inr ⟨8,wT (c,tr,tk,s)++[bv true],_,[.agg [i64 c,.ref (.n 901) 0 tr.length,.ref (.n 902) 0 tk.length,.dref (.n 903) s.ths.length,.ref (.n 904) 0 s.cells.length,.ref (.n 905) 0 s.owner.length,i64 s.fault],bv true],Weak.refl,?_,by simp,?_,?_,jT ⟨trivial,?_,?_,⟨?_,fun j q hq=>?_⟩,?_,?_,trivial,trivial,trivial⟩,.inl ⟨_,hV,rfl⟩⟩
  ·show some [AV.agg [i64 c,.ref (.n 901) 0 (tr.map encEv).length,.ref (.n 902) 0 (tk.map encInt).length,.dref (.n 903) (s.ths.map xU).length,.ref (.n 904) 0 (s.cells.map encF).length,.ref (.n 905) 0 (s.owner.map encInt).length,i64 s.fault],bv true]=_
   simp only[List.length_map]
  ·simp[wT,wC,ownR,ownR1,qQ]
  ·intro v hv
   simp only[wT,wC,List.mem_append,List.mem_cons,List.not_mem_nil,or_false] at hv
   rcases hv with ((rfl|rfl|rfl)|(rfl|rfl|rfl|rfl))|rfl
   all_goals first|trivial|(show(s.ths.map xU).length=(s.ths.map stk).length;simp)
  ·rfl
  ·rfl
  ·first|rfl|(show some (Ob.rs 158 6 ((thRows 903 s.ths).map (scrPL _)))=some (Ob.rs 158 6 (thRows 903 s.ths));rw[zU fun _ _=>rfl])
  ·have hq:(s.ths.map stk)[j]?=some q:=hq
   have e:ownH (wT (c,tr,tk,s)++[bv true]) (.s 903 j)=some (.ds 74 1 q):=by
    show((s.ths.map stk)[j]?).map (Ob.ds 74 1)=_
    rw[hq];rfl
   show(match ownH (wT (c,tr,tk,s)++[bv true]) (.s 903 j) with|some ob=>some ob|none=>_)=_
   rw[e]
  ·rfl
  ·rfl
end Ai
namespace Ai
set_option maxRecDepth 100000
open Go Go.Proofs
theorem mI (els:List (List D)) (k:Int) (n:Nat) (hn:n=els.length) (hx:n≤1048576) (h0:0≤k) (h1:k≤1073741824) (H0:Key→Option Ob) (hH:H0 (.n 50)=some (.ds 74 1 els)) :
  IOCall EE 68 [.ref (.n 50) 0 n,i64 k] H0 (fun r H1=>r=i64 (k+n)∧∀ κ,H1 κ=none):=by
 refine xH (fn:=Tryz.f68) (c:=Tryz.f68.body.getD .skip) Tryz.func68 rfl (by kernel_rfl) rfl ?_
 have hat:At [(0,.ref (.n 50) 0 n),(1,i64 k)] [(.n 50,.ds 74 1 els)] [] ⟨fun i=>[AV.ref (.n 50) 0 n,i64 k].getD i .junk,H0⟩:=⟨⟨rfl,rfl,trivial⟩,⟨hH,trivial⟩,trivial⟩
 obtain⟨τ,H,hf⟩:=hat.form
 rw[hf]
 conv=>whnf
 refine yJ (fun x:Nat × List (List D)=>[(0,.ref (.n 50) 0 n),(1,i64 (k+(x.1:Int))),(5,i64 x.1)]) (fun x=>[(.n 50,.ds 74 1 x.2)]) (fun x=>n - x.1) (fun x=>x.1≤n∧x.2.length=n) (0,els)
  Weak.refl ⟨rfl,?_,rfl,trivial⟩ ⟨rfl,trivial⟩ ⟨Nat.zero_le _,hn.symm⟩ ?_
 ·show i64 k=i64 (k+((0:Nat):Int))
  rw[show k+((0:Nat):Int)=k by omega]
 rintro⟨i,E⟩ τ H ⟨hi,hE⟩
 have hi:i≤n:=hi
 have hE:E.length=n:=hE
 conv=>whnf
 refine kbi (fun h=>?_) (fun h=>?_)
 ·have hlt:i<n:=by simpa using h
  conv=>whnf
  refine⟨⟨by show 0≤(i:Int);omega,by show(i:Int)<n;omega⟩,?_⟩
  conv=>whnf
  refine⟨(i+1,yZ E 1 (0+(i:Int).toNat) 0 [.flt (FloatKind.f64.nearest (k+(i:Int)))]),⟨by show i+1≤n;omega,?_⟩,by show n - (i+1)<n - i;omega,⟨rfl,?_,?_,trivial⟩,⟨rfl,trivial⟩⟩
  ·dsimp only
   rw[vR,hE]
  ·show AV.d (.int .i64 (IntKind.i64.wrap (k+(i:Int)+1)))=i64 (k+((i+1:Nat):Int))
   rw[zF (by omega) (by omega)]
   exact congrArg i64 (by omega)
  ·show AV.d (.int .i64 (IntKind.i64.wrap ((i:Int)+1)))=i64 ((i+1:Nat):Int)
   rw[zF (by omega) (by omega)]
   rfl
 ·conv=>whnf
  have hkk:i=n:=by
   have:¬ i<n:=by simpa using h
   omega
  subst hkk
  refine⟨_,Weak.refl,?_⟩
  conv=>whnf
  exact⟨fun _=>false,rfl,fun κ=>rfl⟩
theorem nR {sz:Nat} {els:List (List D)} {k off:Nat} {x:D} (h:∀ c∈els,c.length=sz) (hs:sz≠1) (ho:off<sz):∀ c∈yZ els sz k off [x],c.length=sz:=by
 intro c hc
 unfold yZ at hc
 rw[show Nat.beq ([x]:List D).length sz=false from by rw[Bool.eq_false_iff];intro e;exact hs (Nat.eq_of_beq_eq_true e).symm,Bool.and_false] at hc
 obtain⟨i,hi,rfl⟩:=List.mem_iff_getElem.1 hc
 have hil:i<els.length:=by simpa using hi
 have h4:=h _ (List.getElem_mem hil)
 simp only[cond_false,List.getElem_modify]
 split
 ·rw[mU _ _ (by omega)];exact h4
 ·exact h4
theorem oW (els:List (List D)) (k:Int) (n:Nat) (hn:n=els.length) (hx:n≤1048576) (h4:∀ c∈els,c.length=5) (h0:0≤k) (h1:k≤1073741824) (H0:Key→Option Ob) (hH:H0 (.n 901)=some (.ds 105 5 els)) :
  IOCall EE 66 [.ref (.n 901) 0 n,i64 k] H0 (fun r H1=>r=i64 (k+5*n)∧∀ κ,H1 κ=none):=by
 refine xH (fn:=Tryz.f66) (c:=Tryz.f66.body.getD .skip) Tryz.func66 rfl (by kernel_rfl) rfl ?_
 have hat:At [(0,.ref (.n 901) 0 n),(1,i64 k)] [(.n 901,.ds 105 5 els)] [] ⟨fun i=>[AV.ref (.n 901) 0 n,i64 k].getD i .junk,H0⟩:=⟨⟨rfl,rfl,trivial⟩,⟨hH,trivial⟩,trivial⟩
 obtain⟨τ,H,hf⟩:=hat.form
 rw[hf]
 conv=>whnf
 refine yJ (fun x:Nat × List (List D)=>[(0,.ref (.n 901) 0 n),(1,i64 (k+5*(x.1:Int))),(5,i64 x.1)]) (fun x=>[(.n 901,.ds 105 5 x.2)]) (fun x=>n - x.1) (fun x=>x.1≤n∧x.2.length=n∧∀ c∈x.2,c.length=5) (0,els)
  Weak.refl ⟨rfl,?_,rfl,trivial⟩ ⟨rfl,trivial⟩ ⟨Nat.zero_le _,hn.symm,h4⟩ ?_
 ·show i64 k=i64 (k+5*((0:Nat):Int))
  rw[show k+5*((0:Nat):Int)=k by omega]
 rintro⟨i,E⟩ τ H ⟨hi,hE,hE4⟩
 have hi:i≤n:=hi
 have hE:E.length=n:=hE
 have hE4:∀ c∈E,c.length=5:=hE4
 conv=>whnf
 refine kbi (fun h=>?_) (fun h=>?_)
 ·have hlt:i<n:=by simpa using h
  conv=>whnf
  iterate 5
   refine⟨⟨by show 0≤(i:Int);omega,by show(i:Int)<n;omega⟩,?_⟩
   conv=>whnf
  refine⟨(i+1,yZ (yZ (yZ (yZ (yZ E 5 (0+(i:Int).toNat) (0+0) [.int .i64 (k+5*(i:Int))]) 5 (0+(i:Int).toNat) (0+1) [.int .i64 (IntKind.i64.wrap (k+5*(i:Int)+1))]) 5 (0+(i:Int).toNat) (0+2) [.int .i64 (IntKind.i64.wrap (IntKind.i64.wrap (k+5*(i:Int)+1)+1))]) 5 (0+(i:Int).toNat) (0+3) [.int .i64 (IntKind.i64.wrap (IntKind.i64.wrap (IntKind.i64.wrap (k+5*(i:Int)+1)+1)+1))]) 5 (0+(i:Int).toNat) (0+4) [.int .i64 (IntKind.i64.wrap (IntKind.i64.wrap (IntKind.i64.wrap (IntKind.i64.wrap (k+5*(i:Int)+1)+1)+1)+1))]),⟨by show i+1≤n;omega,?_,?_⟩,by show n - (i+1)<n - i;omega,⟨rfl,?_,?_,trivial⟩,⟨rfl,trivial⟩⟩
  ·dsimp only
   rw[vR,vR,vR,vR,vR,hE]
  ·dsimp only
   refine nR (nR (nR (nR (nR hE4 ?_ ?_) ?_ ?_) ?_ ?_) ?_ ?_) ?_ ?_ <;> omega
  ·show AV.d (.int .i64 (IntKind.i64.wrap (IntKind.i64.wrap (IntKind.i64.wrap (IntKind.i64.wrap (IntKind.i64.wrap ((k+5*(i:Int))+1)+1)+1)+1)+1)))=i64 (k+5*((i+1:Nat):Int))
   rw[zF (n:=k+5*(i:Int)+1) (by omega) (by omega),zF (n:=k+5*(i:Int)+1+1) (by omega) (by omega),zF (n:=k+5*(i:Int)+1+1+1) (by omega) (by omega),zF (n:=k+5*(i:Int)+1+1+1+1) (by omega) (by omega),zF (n:=k+5*(i:Int)+1+1+1+1+1) (by omega) (by omega)]
   exact congrArg i64 (by omega)
  ·show AV.d (.int .i64 (IntKind.i64.wrap ((i:Int)+1)))=i64 ((i+1:Nat):Int)
   rw[zF (by omega) (by omega)]
   rfl
 ·conv=>whnf
  have hkk:i=n:=by
   have:¬ i<n:=by simpa using h
   omega
  subst hkk
  refine⟨_,Weak.refl,?_⟩
  conv=>whnf
  exact⟨fun _=>false,rfl,fun κ=>rfl⟩
end Ai
namespace Ai
set_option maxRecDepth 100000
open Go Go.Proofs
def zS (xs:List Th) (i:Nat):Nat:=((xs.take i).map fun t=>5+t.stack.length).sum
theorem lC {xs:List Th} {i:Nat} (h:i<xs.length):zS xs (i+1)=zS xs i+(5+xs[i].stack.length):=by
 unfold zS
 rw[List.take_succ_eq_append_getElem h,List.map_append,List.sum_append]
 simp
theorem lD (xs:List Th) (i:Nat):zS xs i≤zS xs xs.length:=by
 unfold zS
 rw[List.take_length]
 have:∀ (l:List Nat) (i:Nat),(l.take i).sum≤l.sum:=by
  intro l
  induction l with
  |nil=>simp
  |cons x xs ih =>
   intro i
   cases i with
   |zero=>simp
   |succ i=>simp only[List.take_succ_cons,List.sum_cons];have:=ih i;omega
 rw[List.map_take]
 exact this _ i
def rowX (k:Int) (xs:List Th) (i j:Nat):List AV:=if j<i then [i64 (k+(zS xs j:Int)),i64 (k+(zS xs j:Int)+1),i64 (k+(zS xs j:Int)+2),i64 (k+(zS xs j:Int)+3),i64 (k+(zS xs j:Int)+4),.junk] else (match xs[j]? with|some t=>thRow 903 j t|none=>[])
def nX (k:Int) (xs:List Th) (i:Nat):List (List AV):=(List.range xs.length).map (rowX k xs i)
def rA (xs:List Th) (i j:Nat):Option Ob:=if j<i then none else zD xs j
theorem lL {k:Int} {xs:List Th} {i j:Nat} (h:j<xs.length):(nX k xs i)[j]?=some (rowX k xs i j):=by simp[nX,h]
theorem rX {k:Int} {xs:List Th} {i:Nat}:(nX k xs i).length=xs.length:=by simp[nX]
theorem rowsX_zero (k:Int) (xs:List Th):nX k xs 0=thRows 903 xs:=by
 apply List.ext_getElem?
 intro j
 by_cases h:j<xs.length
 ·rw[yL h,lL h]
  simp[rowX,h]
 ·rw[List.getElem?_eq_none (by rw[rX];omega),List.getElem?_eq_none (by rw[zT];omega)]
theorem pZ (f:Key→Key) (xs:List Th) (i j:Nat):(rA xs i j).map (renO f)=rA xs i j:=by
 unfold rA
 split
 ·rfl
 ·exact thFam_ren _ _ _
theorem famX_scr (p:Key→Bool) (xs:List Th) (i j:Nat):(rA xs i j).map (scrPO p)=rA xs i j:=by
 unfold rA
 split
 ·rfl
 ·exact zG _ _ _
def eG (R:List (List AV)) (i:Nat) (v0 v1 v2 v3 v4:AV):List (List AV) :=
 yR (yR (yR (yR (yR R 6 (i:Int).toNat (0+0) [v0]) 6 (i:Int).toNat (0+1) [v1]) 6 (i:Int).toNat (0+2) [v2]) 6 (i:Int).toNat (0+3) [v3]) 6 (i:Int).toNat (0+4) [v4]
theorem put5_eq {R:List (List AV)} {i:Nat} {v0 v1 v2 v3 v4 a0 a1 a2 a3 a4 a5:AV} (h:R[i]?=some [a0,a1,a2,a3,a4,a5]):(eG R i v0 v1 v2 v3 v4)[i]?=some [v0,v1,v2,v3,v4,a5]:=by
 unfold eG
 rw[Int.toNat_natCast]
 exact xY (xY (xY (xY (xY h rfl) rfl) rfl) rfl) rfl
theorem put5_ne {R:List (List AV)} {i j:Nat} {v0 v1 v2 v3 v4:AV} {c:List AV} (hj:j≠i) (h:R[j]?=some c):(eG R i v0 v1 v2 v3 v4)[j]?=some c:=by
 unfold eG
 rw[Int.toNat_natCast]
 exact jG hj (jG hj (jG hj (jG hj (jG hj h))))
theorem dB {X:List (List AV)} {sz k off:Nat} {xs:List AV}:(yR X sz k off xs).length=X.length:=by
 unfold yR
 cases (Nat.beq off 0&&Nat.beq xs.length sz) <;> simp
theorem put5_len {R:List (List AV)} {i:Nat} {v0 v1 v2 v3 v4:AV}:(eG R i v0 v1 v2 v3 v4).length=R.length:=by
 unfold eG
 rw[dB,dB,dB,dB,dB]
theorem eQ (xs:List Th) (k:Int) (hx:xs.length≤1048576) (hs:∀ t∈xs,t.stack.length≤1048576) (ht:zS xs xs.length≤8388608) (h0:0≤k) (h1:k≤67108864) (H0:Key→Option Ob)
  (hH:H0 (.n 903)=some (.rs 158 6 (thRows 903 xs))) (hF:∀ j,H0 (.s 903 j)=zD xs j) :
  IOCall EE 67 [.dref (.n 903) xs.length,i64 k] H0 (fun r H1=>r=i64 (k+zS xs xs.length)∧∀ κ,H1 κ=none):=by
 refine xH (fn:=Tryz.f67) (c:=Tryz.f67.body.getD .skip) Tryz.func67 rfl (by kernel_rfl) rfl ?_
 have hat:At [(0,.dref (.n 903) xs.length),(1,i64 k)] [(.n 903,.rs 158 6 (thRows 903 xs))] [(903,rA xs 0)] ⟨fun i=>[AV.dref (.n 903) xs.length,i64 k].getD i .junk,H0⟩:=⟨⟨rfl,rfl,trivial⟩,⟨hH,trivial⟩,⟨fun j=>(hF j).trans rfl,trivial⟩⟩
 obtain⟨τ,H,hf⟩:=hat.form
 rw[hf]
 conv=>whnf
 refine gR (fun i:Nat=>[(0,.dref (.n 903) xs.length),(1,i64 (k+(zS xs i:Int))),(5,i64 i)]) (fun i=>[(.n 903,.rs 158 6 (nX k xs i))]) (fun i=>[(903,rA xs i)]) (fun i=>xs.length - i) (fun i=>i≤xs.length) 0
  Weak.refl ⟨rfl,?_,rfl,trivial⟩ ⟨?_,trivial⟩ ⟨fun j=>?_,trivial⟩ (Nat.zero_le _) ?_
 ·show i64 k=i64 (k+((zS xs 0:Nat):Int))
  rw[show k+((zS xs 0:Nat):Int)=k by simp[zS]]
 ·rw[rowsX_zero];rfl
 ·rfl
 intro i τ H hi
 have hi:i≤xs.length:=hi
 have hti:=lD xs i
 conv=>whnf
 refine kbi (fun h=>?_) (fun h=>?_)
 ·have hlt:i<xs.length:=by simpa using h
  conv=>whnf
  have hrow:rowX k xs i i=thRow 903 i xs[i]:=by unfold rowX;rw[if_neg (by omega),List.getElem?_eq_getElem hlt]
  have hfi:rA xs i i=some (.ds 74 1 (stk xs[i])):=by unfold rA;rw[if_neg (by omega),thFam_self hlt]
  iterate 5
   refine⟨⟨by omega,by omega⟩,?_⟩
   conv=>whnf
  have w1:IntKind.i64.wrap (k+(zS xs i:Int)+1)=k+(zS xs i:Int)+1:=zF (by omega) (by omega)
  have w2:IntKind.i64.wrap (k+(zS xs i:Int)+1+1)=k+(zS xs i:Int)+2:=by rw[zF (by omega) (by omega)];omega
  have w3:IntKind.i64.wrap (k+(zS xs i:Int)+2+1)=k+(zS xs i:Int)+3:=by rw[zF (by omega) (by omega)];omega
  have w4:IntKind.i64.wrap (k+(zS xs i:Int)+3+1)=k+(zS xs i:Int)+4:=by rw[zF (by omega) (by omega)];omega
  have w5:IntKind.i64.wrap (k+(zS xs i:Int)+4+1)=k+(zS xs i:Int)+5:=by rw[zF (by omega) (by omega)];omega
  refine⟨⟨by omega,by omega⟩,?_⟩
  conv=>whnf
  have hget:(eG (nX k xs i) i (i64 (k+(zS xs i:Int))) (i64 (k+(zS xs i:Int)+1)) (i64 (k+(zS xs i:Int)+2)) (i64 (k+(zS xs i:Int)+3)) (i64 (k+(zS xs i:Int)+4)))[i]?=some [i64 (k+(zS xs i:Int)),i64 (k+(zS xs i:Int)+1),i64 (k+(zS xs i:Int)+2),i64 (k+(zS xs i:Int)+3),i64 (k+(zS xs i:Int)+4),.ref (.s 903 i) 0 xs[i].stack.length] :=
   put5_eq (by rw[lL hlt,hrow];rfl)
  rw[w1,w2,w3,w4,w5]
  refine⟨[i64 (k+(zS xs i:Int)),i64 (k+(zS xs i:Int)+1),i64 (k+(zS xs i:Int)+2),i64 (k+(zS xs i:Int)+3),i64 (k+(zS xs i:Int)+4),.ref (.s 903 i) 0 xs[i].stack.length],⟨?_,by show 0+5+1≤6;omega⟩,?_⟩
  ·rw[← hget,Int.toNat_natCast];rfl
  conv=>whnf
  have hsw:swp (.n 50) (.s 903 i) (.s 903 i)=.n 50:=by simp[swp,Key.beq]
  have hts:=lC hlt
  have hti2:=lD xs (i+1)
  have hst:=hs _ (List.getElem_mem hlt)
  split
  case' h_1=>conv=>whnf
  case' h_1=>refine .inr (.inr (.inr (.inl ?_)))
  case' h_2=>refine .inr (.inr (.inl ?_))
  all_goals
   refine⟨_,68,[],uI 50 903 i,rfl,999,0,isK (.n 50),(fun r H1=>r=i64 ((k+(zS xs i:Int)+5)+(xs[i].stack.length:Nat))∧∀ κ,H1 κ=none),?_,rfl,?_⟩
   ·refine xB (mI (stk xs[i]) (k+(zS xs i:Int)+5) xs[i].stack.length (by simp[stk]) hst (by omega) (by omega) _ ?_) ?_
    ·show Option.map _ (Option.map _ (Option.map _ (rA xs i i)))=_
     rw[hfi]
     rfl
    ·show[scrP _ (.ref (swp (.n 999) (.l 0) (swp (.n 50) (.s 903 i) (.s 903 i))) 0 xs[i].stack.length),_]=_
     rw[hsw]
     rfl
   ·rintro r H1 ⟨rfl,q⟩
    refine⟨fun κ _=>q κ,fun n hn=>(by cases hn),?_⟩
    conv=>whnf
    have hne:∀ j,j≠i→swp (.n 50) (.s 903 i) (.s 903 j)=.s 903 j:=fun j hj=>by simp[swp,Key.beq,nbeq_ne hj]
    refine⟨i+1,_,uI 50 903 i,by show i+1≤xs.length;omega,by show xs.length - (i+1)<xs.length - i;omega,⟨rfl,?_,?_,trivial⟩,⟨?_,trivial⟩,⟨fun j=>?_,trivial⟩⟩
    ·show i64 (k+((zS xs i:Nat):Int)+5+((xs[i].stack.length:Nat):Int))=i64 (k+((zS xs (i+1):Nat):Int))
     rw[hts]
     exact congrArg i64 (by omega)
    ·show AV.d (.int .i64 (IntKind.i64.wrap ((i:Int)+1)))=i64 ((i+1:Nat):Int)
     rw[zF (by omega) (by omega)]
     rfl
    ·show some (Ob.rs 158 6 ((((((eG (nX k xs i) i (i64 (k+(zS xs i:Int))) (i64 (k+(zS xs i:Int)+1)) (i64 (k+(zS xs i:Int)+2)) (i64 (k+(zS xs i:Int)+3)) (i64 (k+(zS xs i:Int)+4))).map (renL (swp (.n 50) (.s 903 i)))).map (renL (swp (.n 999) (.l 0)))).map (scrPL (xK (isK (.n 50))))).map (renL (swp (.n 999) (.l 0)))).map (renL (swp (.n 50) (.s 903 i)))))=some (Ob.rs 158 6 (nX k xs (i+1)))
     rw[List.map_map,List.map_map,List.map_map,List.map_map]
     refine congrArg (fun x=>some (Ob.rs 158 6 x)) (List.ext_getElem? fun j=>?_)
     by_cases hl:j<xs.length
     ·rw[lL hl,List.getElem?_map]
      by_cases hj:j=i
      ·subst hj
       rw[hget]
       unfold rowX
       rw[if_pos (by omega)]
       show some (renL _ (renL _ (scrPL _ (renL _ [_,_,_,_,_,AV.ref (swp (.n 50) (.s 903 j) (.s 903 j)) 0 _]))))=_
       rw[hsw]
       rfl
      ·rw[put5_ne hj (lL hl)]
       unfold rowX
       by_cases hji:j<i
       ·rw[if_pos hji,if_pos (by omega)]
        rfl
       ·rw[if_neg hji,if_neg (by omega),List.getElem?_eq_getElem hl]
        show some (renL _ (renL _ (scrPL _ (renL _ [_,_,_,_,_,AV.ref (swp (.n 50) (.s 903 i) (.s 903 j)) 0 _]))))=_
        rw[hne j hj]
        show some [_,_,_,_,_,AV.ref (swp (.n 50) (.s 903 i) (.s 903 j)) 0 _]=_
        rw[hne j hj]
        rfl
     ·rw[List.getElem?_eq_none (by rw[List.length_map,put5_len,rX];omega),List.getElem?_eq_none (by rw[rX];omega)]
    ·show(St.H _ (swp (.n 50) (.s 903 i) (.s 903 j))).map _=_
     by_cases hj:j=i
     ·subst hj
      rw[hsw]
      show Option.map _ (Option.map _ (H1 (.n 50)))=_
      rw[q]
      unfold rA
      rw[if_pos (by omega)]
      rfl
     ·rw[hne j hj]
      show Option.map _ (Option.map _ (Option.map _ (Option.map _ (Option.map _ (St.H _ (swp (.n 50) (.s 903 i) (.s 903 j)))))))=_
      rw[hne j hj]
      show Option.map _ (Option.map _ (Option.map _ (Option.map _ (Option.map _ (rA xs i j)))))=_
      rw[pZ,pZ,famX_scr,pZ,pZ]
      unfold rA
      by_cases hji:j<i
      ·rw[if_pos hji,if_pos (by omega)]
      ·rw[if_neg hji,if_neg (by omega)]
 ·conv=>whnf
  have hkk:i=xs.length:=by
   have:¬ i<xs.length:=by simpa using h
   omega
  subst hkk
  refine⟨_,Weak.refl,?_⟩
  conv=>whnf
  exact⟨fun _=>false,rfl,fun κ=>rfl⟩
end Ai
namespace Ai
set_option maxRecDepth 100000
open Go Go.Proofs
theorem zX {l:List Th} {p:Key→Bool} (h:∀ j,p (.s 903 j)=false):(thRows 903 l).map (scrPL p)=thRows 903 l:=zU fun j _=>h j
theorem zI {f:Key→Key} {o:Nat} {l:List Th} (h:∀ j,f (.s o j)=.s o j):(thRows o l).map (renL f)=thRows o l:=by
 apply List.ext_getElem?
 intro j
 rw[List.getElem?_map]
 by_cases hl:j<l.length
 ·rw[yL hl]
  show some [_,_,_,_,_,AV.ref (f (.s o j)) 0 _]=_
  rw[h j]
  rfl
 ·rw[List.getElem?_eq_none (by rw[zT];omega)]
  rfl
def lendS:Key→Bool
 | .n k=>Nat.beq k 903 || Nat.beq k 904 || Nat.beq k 905
 | .s o _=>Nat.beq o 903
 | .l _=>false
theorem s6 (s:StL) (k:Int) (h:s.fit) (ht:zS s.ths s.ths.length≤8388608) (h0:0≤k) (h1:k≤67108864) (H0:Key→Option Ob)
  (hH:H0 (.n 903)=some (.rs 158 6 (thRows 903 s.ths))) (hF:∀ j,H0 (.s 903 j)=zD s.ths j) (hC:H0 (.n 904)=some (.ds 74 1 (s.cells.map encF))) (hO:H0 (.n 905)=some (.ds 3 1 (s.owner.map encInt))) :
  IOCall EE 23 [.agg [.dref (.n 903) s.ths.length,.ref (.n 904) 0 s.cells.length,.ref (.n 905) 0 s.owner.length,i64 s.fault],i64 k] H0 (fun r H1=>(∃ n:Int,r=i64 n∧0≤n∧n≤268435456)∧∀ κ,H1 κ=none):=by
 have hc:=h.cells
 have ho:=h.owner
 refine xH (fn:=Tryz.f23) (c:=Tryz.f23.body.getD .skip) Tryz.func23 rfl (by kernel_rfl) rfl ?_
 have hat:At [(0,.agg [.dref (.n 903) s.ths.length,.ref (.n 904) 0 s.cells.length,.ref (.n 905) 0 s.owner.length,i64 s.fault]),(1,i64 k)] [(.n 903,.rs 158 6 (thRows 903 s.ths)),(.n 904,.ds 74 1 (s.cells.map encF)),(.n 905,.ds 3 1 (s.owner.map encInt))] [(903,zD s.ths)] ⟨fun i=>[AV.agg [.dref (.n 903) s.ths.length,.ref (.n 904) 0 s.cells.length,.ref (.n 905) 0 s.owner.length,i64 s.fault],i64 k].getD i .junk,H0⟩:=⟨⟨rfl,rfl,trivial⟩,⟨hH,hC,hO,trivial⟩,⟨hF,trivial⟩⟩
 obtain⟨τ,H,hf⟩:=hat.form
 rw[hf]
 conv=>whnf
 refine .inr (.inl ⟨999,0,dL,(fun r H1=>r=i64 (k+zS s.ths s.ths.length)∧∀ κ,H1 κ=none),?_,rfl,?_⟩)
 ·refine xB (eQ s.ths k h.ths h.st ht h0 h1 _ ?_ fun j=>?_) rfl
  ·show some (Ob.rs 158 6 ((((thRows 903 s.ths).map (scrPL (isK (.n 2)))).map (renL (swp (.n 999) (.l 0)))).map (scrPL (fun o=>!dL o))))=_
   rw[zX (fun j=>rfl),zI (fun j=>rfl),zX (fun j=>rfl)]
  ·show Option.map _ (Option.map _ (Option.map _ (zD s.ths j)))=_
   rw[zG,thFam_ren,zG]
 rintro r H1 ⟨rfl,q⟩
 refine⟨fun κ _=>q κ,fun n hn=>(by cases hn),?_⟩
 generalize zS s.ths s.ths.length=T at ht ⊢
 conv=>whnf
 refine .inr (.inr (.inr (.inl ⟨_,68,[],wM 50 904,rfl,999,0,isK (.n 50),(fun r H1=>r=i64 (k+(T:Int)+(s.cells.length:Nat))∧∀ κ,H1 κ=none),?_,rfl,?_⟩)))
 ·exact xB (mI (s.cells.map encF) (k+(T:Int)) s.cells.length (by simp) hc (by omega) (by omega) _ rfl) rfl
 rintro r H2 ⟨rfl,q2⟩
 refine⟨fun κ _=>q2 κ,fun n hn=>(by cases hn),?_⟩
 conv=>whnf
 refine .inr (.inl ⟨905,77,isK (.l 77),_,xB (gI (.l 77) (.inr rfl) s.owner (k+(T:Int)+(s.cells.length:Nat)) ho (by omega) (by omega) _ rfl) rfl,rfl,?_⟩)
 rintro r H3 ⟨rfl,e1,q3⟩
 refine⟨q3,fun n hn=>⟨.ds 3 1 (s.owner.map encInt),?_,(qJ (k+(T:Int)+(s.cells.length:Nat)) s.owner.length).map encInt,?_,by simp[wZ]⟩,?_⟩
 ·have:n=77:=Nat.eq_of_beq_eq_true hn
  subst this;rfl
 ·have:n=77:=Nat.eq_of_beq_eq_true hn
  subst this;exact e1
 conv=>whnf
 refine⟨_,Weak.refl,?_⟩
 conv=>whnf
 exact⟨fun _=>false,⟨_,rfl,by omega,by omega⟩,fun κ=>rfl⟩
end Ai
namespace Ai
set_option maxRecDepth 100000
open Go Go.Proofs
def lendX:Key→Bool
 | .n k=>Nat.beq k 901 || Nat.beq k 902 || Nat.beq k 903 || Nat.beq k 904 || Nat.beq k 905
 | .s o _=>Nat.beq o 903
 | .l _=>false
def refRn (x:RunT):List AV:=[i64 x.c,.ref (.n 901) 0 x.tr.length,.ref (.n 902) 0 x.tk.length,.dref (.n 903) x.s.ths.length,.ref (.n 904) 0 x.s.cells.length,.ref (.n 905) 0 x.s.owner.length,i64 x.s.fault]
theorem eS (x:RunT) (k:Int) (h:x.fit) (ht:zS x.s.ths x.s.ths.length≤8388608) (h0:0≤k) (h1:k≤8388608) (H0:Key→Option Ob)
  (hE:H0 (.n 901)=some (.ds 105 5 (x.tr.map encEv))) (hT:H0 (.n 902)=some (.ds 3 1 (x.tk.map encInt)))
  (hH:H0 (.n 903)=some (.rs 158 6 (thRows 903 x.s.ths))) (hF:∀ j,H0 (.s 903 j)=zD x.s.ths j) (hC:H0 (.n 904)=some (.ds 74 1 (x.s.cells.map encF))) (hO:H0 (.n 905)=some (.ds 3 1 (x.s.owner.map encInt))) :
  IOCall EE 21 [.agg (refRn x),i64 k] H0 (fun r H1=>(∃ n:Int,r=i64 n∧0≤n∧n≤268435456)∧∀ κ,H1 κ=none):=by
 have he:=h.tr
 have hk:=h.tk
 refine xH (fn:=Tryz.f21) (c:=Tryz.f21.body.getD .skip) Tryz.func21 rfl (by kernel_rfl) rfl ?_
 have hat:At [(0,.agg (refRn x)),(1,i64 k)] [(.n 901,.ds 105 5 (x.tr.map encEv)),(.n 902,.ds 3 1 (x.tk.map encInt)),(.n 903,.rs 158 6 (thRows 903 x.s.ths)),(.n 904,.ds 74 1 (x.s.cells.map encF)),(.n 905,.ds 3 1 (x.s.owner.map encInt))] [(903,zD x.s.ths)] ⟨fun i=>[AV.agg (refRn x),i64 k].getD i .junk,H0⟩:=⟨⟨rfl,rfl,trivial⟩,⟨hE,hT,hH,hC,hO,trivial⟩,⟨hF,trivial⟩⟩
 obtain⟨τ,H,hf⟩:=hat.form
 rw[hf]
 conv=>whnf
 refine .inr (.inr (.inl ⟨999,0,isK (.n 901),(fun r H1=>r=i64 (k+5*(x.tr.length:Nat))∧∀ κ,H1 κ=none),?_,rfl,?_⟩))
 ·exact xB (oW (x.tr.map encEv) k x.tr.length (by simp) he (fun c hc=>by obtain⟨e,_,rfl⟩:=List.mem_map.1 hc;rfl) h0 (by omega) _ rfl) rfl
 rintro r H1 ⟨rfl,q⟩
 refine⟨fun κ _=>q κ,fun n hn=>(by cases hn),?_⟩
 conv=>whnf
 refine .inr (.inl ⟨902,77,isK (.l 77),_,xB (gI (.l 77) (.inr rfl) x.tk (k+5*(x.tr.length:Nat)) hk (by omega) (by omega) _ rfl) rfl,rfl,?_⟩)
 rintro r H3 ⟨rfl,e1,q3⟩
 refine⟨q3,fun n hn=>⟨.ds 3 1 (x.tk.map encInt),?_,(qJ (k+5*(x.tr.length:Nat)) x.tk.length).map encInt,?_,by simp[wZ]⟩,?_⟩
 ·have:n=77:=Nat.eq_of_beq_eq_true hn
  subst this;rfl
 ·have:n=77:=Nat.eq_of_beq_eq_true hn
  subst this;exact e1
 conv=>whnf
 refine .inr (.inl ⟨999,0,lendS,(fun r H1=>(∃ n:Int,r=i64 n∧0≤n∧n≤268435456)∧∀ κ,H1 κ=none),?_,rfl,?_⟩)
 ·refine xB (s6 x.s (k+5*(x.tr.length:Nat)+(x.tk.length:Nat)) h.s ht (by omega) (by omega) _ ?_ (fun j=>?_) ?_ ?_) ?_
  ·show some (Ob.rs 158 6 ((((((((((thRows 903 x.s.ths).map (scrPL (isK (.n 2)))).map (renL (swp (.n 999) (.l 0)))).map (scrPL (xK (isK (.n 901))))).map (renL (swp (.n 999) (.l 0)))).map (renL (swp (.n 902) (.l 77)))).map (scrPL (xK (isK (.l 77))))).map (renL (swp (.n 902) (.l 77)))).map (renL (swp (.n 999) (.l 0)))).map (scrPL (fun o=>!lendS o))))=_
   rw[zX (fun j=>rfl),zI (fun j=>rfl),zX (fun j=>rfl),zI (fun j=>rfl),zI (fun j=>rfl),zX (fun j=>rfl),zI (fun j=>rfl),zI (fun j=>rfl),zX (fun j=>rfl)]
  ·show Option.map _ (Option.map _ (Option.map _ (Option.map _ (Option.map _ (Option.map _ (Option.map _ (Option.map _ (Option.map _ (zD x.s.ths j)))))))))=_
   rw[zG,thFam_ren,zG,thFam_ren,thFam_ren,zG,thFam_ren,thFam_ren,zG]
  ·rfl
  ·rfl
  ·rfl
 rintro r H4 ⟨⟨n,rfl,hn1,hn2⟩,q4⟩
 refine⟨fun κ _=>q4 κ,fun n hn=>(by cases hn),?_⟩
 conv=>whnf
 refine⟨_,Weak.refl,?_⟩
 conv=>whnf
 exact⟨fun _=>false,⟨n,rfl,hn1,hn2⟩,fun κ=>rfl⟩
end Ai
namespace Ai
set_option maxRecDepth 100000
open Go Go.Proofs
theorem eqEvent_ok (x:Ev):CallsTo EE 122 [agg (encEv x),agg (encEv x)] (·=bv true):=by
 refine callsTo_of_AW (fn:=Tryz.f122) Tryz.func122 rfl (by kernel_rfl) rfl ?_
 conv=>whnf
 iterate 5
  refine⟨fun h=>(yO _ h).elim,fun _=>?_⟩
  conv=>whnf
theorem eqEventS_ok (xs:List Ev) (hx:xs.length≤1048576):CallsTo EE 64 [sl (xs.map encEv),sl (xs.map encEv)] (·=bv true):=by
 refine callsTo_of_AW (fn:=Tryz.f64) Tryz.func64 rfl (by kernel_rfl) rfl ?_
 conv=>whnf
 refine⟨fun h=>(yO _ h).elim,fun _=>?_⟩
 conv=>whnf
 refine yJ (fun k:Nat=>[(0,sl (xs.map encEv)),(1,sl (xs.map encEv)),(5,i64 k)]) (fun k=>[]) (fun k=>xs.length - k) (fun k=>k≤xs.length) 0 .refl ⟨rfl,rfl,rfl,trivial⟩ trivial (Nat.zero_le _) ?_
 intro k τ H hk
 conv=>whnf
 refine⟨fun h=>?_,fun h=>?_⟩
 ·have hlt:=yH h
  conv=>whnf
  refine⟨by kernel_rfl,?_⟩
  conv=>whnf
  refine⟨encEv xs[k],zO encEv hlt rfl,?_⟩
  conv=>whnf
  refine⟨encEv xs[k],zO encEv hlt rfl,?_⟩
  conv=>whnf
  refine⟨_,eqEvent_ok xs[k],?_⟩
  conv=>whnf
  refine⟨k+1,by omega,by show xs.length - (k+1)<xs.length - k;omega,⟨rfl,rfl,zK hlt (by omega),trivial⟩,trivial⟩
 ·conv=>whnf
theorem cF (xs:List Nat) (hx:xs.length≤1048576):CallsTo EE 62 [sl (xs.map encF),sl (xs.map encF)] (·=bv true):=by
 refine callsTo_of_AW (fn:=Tryz.f62) Tryz.func62 rfl (by kernel_rfl) rfl ?_
 conv=>whnf
 refine⟨fun h=>(yO _ h).elim,fun _=>?_⟩
 conv=>whnf
 refine yJ (fun k:Nat=>[(0,sl (xs.map encF)),(1,sl (xs.map encF)),(5,i64 k)]) (fun k=>[]) (fun k=>xs.length - k) (fun k=>k≤xs.length) 0 .refl ⟨rfl,rfl,rfl,trivial⟩ trivial (Nat.zero_le _) ?_
 intro k τ H hk
 conv=>whnf
 refine⟨fun h=>?_,fun h=>?_⟩
 ·have hlt:=yH h
  conv=>whnf
  refine⟨by kernel_rfl,?_⟩
  conv=>whnf
  refine⟨encF xs[k],zO encF hlt rfl,?_⟩
  conv=>whnf
  refine⟨encF xs[k],zO encF hlt rfl,?_⟩
  conv=>whnf
  refine⟨_,nV xs[k],?_⟩
  conv=>whnf
  refine⟨k+1,by omega,by show xs.length - (k+1)<xs.length - k;omega,⟨rfl,rfl,zK hlt (by omega),trivial⟩,trivial⟩
 ·conv=>whnf
theorem eqThread_ok (x:Th) (hx:x.stack.length≤1048576):CallsTo EE 119 [agg (zE x),agg (zE x)] (·=bv true):=by
 refine callsTo_of_AW (fn:=Tryz.f119) Tryz.func119 rfl (by kernel_rfl) rfl ?_
 conv=>whnf
 iterate 5
  refine⟨fun h=>(yO _ h).elim,fun _=>?_⟩
  conv=>whnf
 refine⟨_,cF x.stack hx,?_⟩
 rintro r rfl
 conv=>whnf
theorem eqThreadS_ok (xs:List Th) (hx:xs.length≤1048576) (h9:∀ t∈xs,t.stack.length≤1048576):CallsTo EE 61 [sl (xs.map zE),sl (xs.map zE)] (·=bv true):=by
 refine callsTo_of_AW (fn:=Tryz.f61) Tryz.func61 rfl (by kernel_rfl) rfl ?_
 conv=>whnf
 refine⟨fun h=>(yO _ h).elim,fun _=>?_⟩
 conv=>whnf
 refine yJ (fun k:Nat=>[(0,sl (xs.map zE)),(1,sl (xs.map zE)),(5,i64 k)]) (fun k=>[]) (fun k=>xs.length - k) (fun k=>k≤xs.length) 0 .refl ⟨rfl,rfl,rfl,trivial⟩ trivial (Nat.zero_le _) ?_
 intro k τ H hk
 conv=>whnf
 refine⟨fun h=>?_,fun h=>?_⟩
 ·have hlt:=yH h
  conv=>whnf
  refine⟨by kernel_rfl,?_⟩
  conv=>whnf
  refine⟨zE xs[k],zO zE hlt rfl,?_⟩
  conv=>whnf
  refine⟨zE xs[k],zO zE hlt rfl,?_⟩
  conv=>whnf
  refine⟨_,eqThread_ok xs[k] (h9 _ (List.getElem_mem hlt)),?_⟩
  conv=>whnf
  refine⟨k+1,by omega,by show xs.length - (k+1)<xs.length - k;omega,⟨rfl,rfl,zK hlt (by omega),trivial⟩,trivial⟩
 ·conv=>whnf
theorem eqState_ok (s:StL) (h:s.fit):CallsTo EE 16 [agg (yG s),agg (yG s)] (·=bv true):=by
 refine callsTo_of_AW (fn:=Tryz.f16) Tryz.func16 rfl (by kernel_rfl) rfl ?_
 conv=>whnf
 refine⟨_,eqThreadS_ok s.ths h.ths h.st,?_⟩
 rintro r rfl
 conv=>whnf
 refine⟨_,cF s.cells h.cells,?_⟩
 rintro r rfl
 conv=>whnf
 refine⟨_,d6 s.owner h.owner,?_⟩
 rintro r rfl
 conv=>whnf
 refine⟨fun h=>(yO _ h).elim,fun _=>?_⟩
 conv=>whnf
theorem jK (x:RunT) (h:x.fit):CallsTo EE 18 [agg (encRT x),agg (encRT x)] (·=bv true):=by
 refine callsTo_of_AW (fn:=Tryz.f18) Tryz.func18 rfl (by kernel_rfl) rfl ?_
 conv=>whnf
 refine⟨fun h=>(yO _ h).elim,fun _=>?_⟩
 conv=>whnf
 refine⟨_,eqEventS_ok x.tr h.tr,?_⟩
 rintro r rfl
 conv=>whnf
 refine⟨_,d6 x.tk h.tk,?_⟩
 rintro r rfl
 conv=>whnf
 refine⟨_,eqState_ok x.s h.s,?_⟩
 rintro r rfl
 conv=>whnf
end Ai
namespace Ai
set_option maxRecDepth 100000
open Go Go.Proofs
def ownPg (p:ProgL):List AV:=[i64 p.cells,i64 p.locks,i64 p.conds,.uqd 133 1 0 135 4 (p.rs.map fun _=>[.nil]) (zN p)]
theorem sF (o:Nat) (p:ProgL):ownRows o 0 (p.rs.map fun _=>[.nil]) (zN p)=(List.range p.rs.length).map fun j=>[.ref (.s o j) 0 ((zN p).getD j []).length]:=by
 unfold ownRows
 apply List.ext_getElem?
 intro j
 by_cases h:j<p.rs.length
 ·simp[h]
 ·rw[List.getElem?_eq_none (by simp;omega),List.getElem?_eq_none (by simp;omega)]
theorem ownRows_map {o o':Nat} {p:ProgL} (f:List AV→List AV) (h:∀ j n,f [.ref (.s o j) 0 n]=[.ref (.s o' j) 0 n]):(ownRows o 0 (p.rs.map fun _=>[.nil]) (zN p)).map f=ownRows o' 0 (p.rs.map fun _=>[.nil]) (zN p):=by
 rw[sF,sF,List.map_map]
 exact List.map_congr_left fun j _=>h j _
theorem ownRows_M (p:ProgL):ownRows 903 0 (p.rs.map fun _=>[.nil]) (zN p)=wV (zN p) 0:=by
 rw[sF]
 unfold wV
 rw[show(zN p).length=p.rs.length by simp[zN]]
 refine List.map_congr_left fun j _=>?_
 unfold lY
 rw[if_neg (by omega)]
theorem toProg_own (p:ProgL) (h:p.rs.length≤1048576∧∀ x∈p.rs,x.length≤1048576):CallsTo EE 12 [agg (encProg p)] (·=.own (ownPg p)):=by
 refine callsTo_of_AW (fn:=Tryz.f12) Tryz.func12 rfl (by kernel_rfl) rfl ?_
 conv=>whnf
 refine⟨_,toOpSS_own _ h.1 h.2,?_⟩
 rintro r rfl
 conv=>whnf
 refine .inr (.inr ⟨ownPg p,_,vD shA,rfl,?_,jT ⟨trivial,trivial,trivial,⟨?_,fun j q hq=>?_⟩,trivial⟩,rfl⟩)
 ·intro v hv
  simp only[ownPg,List.mem_cons,List.not_mem_nil,or_false] at hv
  rcases hv with rfl|rfl|rfl|rfl
  ·trivial
  ·trivial
  ·trivial
  ·show(p.rs.map _).length=(zN p).length
   simp[zN]
 ·show some (Ob.rs 133 1 ((ownRows 900 0 (p.rs.map fun _=>[.nil]) (zN p)).map (renL shA.f)))=some (Ob.rs 133 1 (ownRows 903 0 (p.rs.map fun _=>[.nil]) (zN p)))
  exact congrArg (fun x=>some (Ob.rs 133 1 x)) (ownRows_map _ fun j n=>rfl)
 ·have hq:(zN p)[j]?=some q:=hq
  have e:ownH [.uqd 133 1 0 135 4 (p.rs.map fun _=>[.nil]) (zN p)] (.s 900 j)=some (.ds 135 4 q):=by
   show((zN p)[j]?).map (Ob.ds 135 4)=_
   rw[hq]
   rfl
  show Option.map (renO shA.f) (match ownH [.uqd 133 1 0 135 4 (p.rs.map fun _=>[.nil]) (zN p)] (.s 900 j) with|some ob=>some ob|none=>_)=_
  rw[e]
  rfl
end Ai
namespace Ai
set_option maxRecDepth 100000
open Go Go.Proofs Cyc
theorem ownPg_fam {p:ProgL} {j:Nat}:ownH (ownPg p) (.s 903 j)=wX (zN p) 0 j:=by
 show((zN p)[j]?).map (Ob.ds 135 4)=_
 unfold wX
 rw[if_neg (by omega)]
theorem fz_own {p:ProgL} {S:St} {n:Nat} (h1:S.H (.n 903)=some (.rs 133 1 (wV (zN p) 0))) (h2:∀ j,S.H (.s 903 j)=wX (zN p) 0 j) (hn:n=p.rs.length) :
  FzC S [i64 p.cells,i64 p.locks,i64 p.conds,.dref (.n 903) n] (encProg p):=by
 subst hn
 refine⟨di p.cells,_,rfl,rfl,di p.locks,_,rfl,rfl,di p.conds,_,rfl,rfl,.sl (p.rs.map yA),_,rfl,⟨_,rfl,tH h1 (by simp) (by simp[wV,zN]) ?_⟩,rfl⟩
 intro j row d hr hd
 have hj:j<p.rs.length:=by
  have:=(List.getElem?_eq_some_iff.1 hd).1
  simpa using this
 have hjs:j<(zN p).length:=by simpa[zN] using hj
 rw[w6 hjs] at hr
 rw[List.getElem?_map,List.getElem?_eq_getElem hj] at hd
 simp only[Option.map_some,Option.some.injEq] at hr hd
 subst hr hd
 have hg:(zN p)[j]=p.rs[j].map encOp:=by simp[zN,gN]
 have h3:=h2 j
 unfold wX at h3
 rw[if_neg (by omega),List.getElem?_eq_getElem hjs,hg] at h3
 unfold lY
 rw[if_neg (by omega)]
 simp[fz1s,fz1,h3,List.getD_eq_getElem?_getD,hjs,hg,yA,List.take_of_length_le]
theorem tot_size {p:ProgL} (h:p.size≤1048576):tot (zN p) (zN p).length≤1048576:=by
 unfold ProgL.size jS at h
 unfold tot zN
 rw[List.take_length,List.map_map]
 have e:(List.length ∘ gN:List OpL→Nat)=List.length:=by funext r;simp[gN]
 rw[e];omega
theorem ops4 (p:ProgL):∀ q∈zN p,∀ c∈q,c.length=4:=by
 intro q hq c hc
 obtain⟨r,_,rfl⟩:=List.mem_map.1 hq
 obtain⟨y,_,rfl⟩:=List.mem_map.1 hc
 rfl
end Ai
namespace Ai
open Go Go.RowKit
def Snd (E:Env) (N:Nat) (c:Code) (Q:AX→St→Prop) (s:St):Prop:=∀ (A:Fr) (w0:World) (m:Own) (a:Act) (w:World),SRel E N A w0 m s a w→c.wp E.P (vT E N A w0 Q) a w
section
variable {E:Env} {N:Nat} {s:St} {Q:AX→St→Prop}
theorem rU {c:Code} (h:AW E N c Q s):Snd E N c Q s:=fun A w0 m a w hs=>rM c Q hs h
theorem snd_weak {c:Code} {s':St} (hw:Weak E N s s') (h:Snd E N c Q s'):Snd E N c Q s:=fun A w0 m a w hs=>by
 obtain⟨m',h'⟩:=hw A w0 m a w hs
 exact h A w0 m' a w h'
theorem snd_seq {x y:Code} {K:St→Prop} (h:AW E N x (dA K Q) s) (h2:∀ s,K s→Snd E N y Q s):Snd E N (.seq x y) Q s:=fun A w0 m a w hs=>by
 refine wp_seq (wp_mono (rM x _ hs h) fun e a' w' hq=>?_)
 cases e with
 |normal =>
  obtain⟨m',s',hS,hk⟩:=hq
  exact h2 s' hk A w0 m' a' w' hS
 |exit id=>exact hq
 |ret=>exact hq
 |goto l=>exact hq.elim
 |panic ch=>exact hq.elim
 |outgrown=>exact hq.elim
theorem snd_pre {K:St→Prop}:∀ (n:Nat) (c:Code) (s:St),cX E N K Q n c s→(∀ s,K s→Snd E N (dropC n c) Q s)→Snd E N c Q s
 | 0,c,s,h,h2=>by
  have:=h2 s h
  cases c <;> exact this
 |n+1,c,s,h,h2=>by
  cases c with
  |seq x y=>exact snd_seq (K:=cX E N K Q n y) h fun s' hk=>snd_pre n y s' hk h2
  | _=>exact rU h
theorem n6 {c:Code} (n:Nat) (C:St→Prop) (h1:∀ K:St→Prop,(∀ s s',Weak E N s s'→C s'→K s)→cX E N K Q n c s) (h2:∀ s,C s→Snd E N (dropC n c) Q s):Snd E N c Q s :=
 snd_pre (K:=fun s=>∃ s',Weak E N s s'∧C s') n c s (h1 _ fun s s' hw hc=>⟨s',hw,hc⟩) fun s ⟨s',hw,hc⟩=>snd_weak hw (h2 s' hc)
end
section
variable {E:Env} {w:World}
theorem calls_of_snd {A:Nat→Prop} {f:FuncId} {fn:Func} {c:Code} {as1:List AV} {R:AV→Prop} {vs:Array Value} (hf:E.P.funcs[f]?=some fn) (hb:fn.body=some c) (hN:Nat.ble as1.length fn.ntmps=true)
  (h:Snd E fn.ntmps c (bT E fn R) (St.init as1)) (hI:E.I w) (hr:ARel w A as1 vs) :
  Calls E.P f vs w fun e w'=>∃ v,e=.returned v∧∃ r,R r∧Below w.heap.size w w'∧y1 w w' A r v:=by
 have hN':as1.length≤fn.ntmps:=Nat.le_of_ble_eq_true hN
 have hsz:vs.size≤fn.ntmps:=by rw[← hr.1];exact hN'
 refine calls_of_wp hf hb ?_
 have hS:SRel E fn.ntmps ⟨fun b=>A b∨w.heap.size≤b,fun _=>False,fun _=>none,fun _=>none⟩ w (fun _=>none) (St.init as1) { tmps:=vs++Array.replicate (fn.ntmps - vs.size) undef,defers:=[] } w:=by
  refine⟨by simp;omega,rfl,Below.refl _ _,hI,fun i hi=>?_,fun o ob ho=>by simp[St.init] at ho,fun o o' p p' ho=>by simp[St.init] at ho,fun b hb=>.inl (.inr hb),fun b hb=>hb.elim,fun n hn=>absurd rfl hn⟩
  by_cases hlt:i<as1.length
  ·have h1:as1[i]?=some as1[i]:=List.getElem?_eq_getElem hlt
   have hlv:i<vs.size:=by rw[← hr.1];exact hlt
   have:=hr.2 i as1[i] vs[i] h1 (Array.getElem?_eq_getElem hlv)
   have e1:(St.init as1).τ i=as1[i]:=by simp[St.init,List.getD,h1]
   have e2:(vs++Array.replicate (fn.ntmps - vs.size) undef).getD i undef=vs[i]:=by
    rw[Array.getD_eq_getD_getElem?,Array.getElem?_append_left hlv,Array.getElem?_eq_getElem hlv];rfl
   rw[e1]
   show VRel _ _ _ _ _ ((vs++Array.replicate (fn.ntmps - vs.size) undef).getD i undef)
   rw[e2]
   exact this.lift fun b hb=>⟨hb.1,fun o ho=>by simp[St.init] at ho,.inl hb.2⟩
  ·have e1:(St.init as1).τ i=.junk:=by simp[St.init,List.getD,List.getElem?_eq_none (Nat.le_of_not_lt hlt)]
   rw[e1];exact .junk _
 refine wp_mono (h _ _ _ _ _ hS) fun e a' w' hq=>?_
 cases e with
 |normal =>
  obtain⟨m',s',hS',hk⟩:=hq
  refine⟨hS'.defers,?_⟩
  have fin:(match vH E fn.ntmps s' fn.results.toList with|some r=>kv r R|none=>False)∨vG E fn.ntmps s' fn.results.toList R∨pA E fn.ntmps s' fn.results.toList R:=by
   have hk2:(match lZ E fn.ntmps s' fn.results.toList with
    |some [.agg cs]=>bif yC cs then (match vH E fn.ntmps s' fn.results.toList with|some r=>kv r R|none=>False)∨vG E fn.ntmps s' fn.results.toList R
      else (match vH E fn.ntmps s' fn.results.toList with|some r=>kv r R|none=>vG E fn.ntmps s' fn.results.toList R)
    |some (v1::v2::vs)=>bif yC (v1::v2::vs) || gO (v1::v2::vs) then (match vH E fn.ntmps s' fn.results.toList with|some r=>kv r R|none=>vG E fn.ntmps s' fn.results.toList R)∨pA E fn.ntmps s' fn.results.toList R
      else (match vH E fn.ntmps s' fn.results.toList with|some r=>kv r R|none=>vG E fn.ntmps s' fn.results.toList R)
    | _=>(match vH E fn.ntmps s' fn.results.toList with|some r=>kv r R|none=>vG E fn.ntmps s' fn.results.toList R)):=hk
   have both:(match vH E fn.ntmps s' fn.results.toList with|some r=>kv r R|none=>vG E fn.ntmps s' fn.results.toList R)→(match vH E fn.ntmps s' fn.results.toList with|some r=>kv r R|none=>False)∨vG E fn.ntmps s' fn.results.toList R∨pA E fn.ntmps s' fn.results.toList R:=by
    intro h
    split at h
    ·exact .inl h
    ·exact .inr (.inl h)
   split at hk2
   ·rename_i cs _
    cases hq:yC cs with
    |true =>
     rw[hq] at hk2
     rcases hk2 with hk2|hk2
     ·exact .inl hk2
     ·exact .inr (.inl hk2)
    |false=>rw[hq] at hk2;exact both hk2
   ·rename_i v1 v2 vs _
    cases hq:yC (v1::v2::vs) || gO (v1::v2::vs) with
    |true =>
     rw[hq] at hk2
     rcases hk2 with hk2|hk2
     ·exact both hk2
     ·exact .inr (.inr hk2)
    |false=>rw[hq] at hk2;exact both hk2
   ·exact both hk2
  rcases fin with hk2|hk2|hk2
  ·split at hk2
   ·rename_i r ho
    rw[yX] at hk2
    obtain⟨v,hv,hrr⟩:=pF hS' (B:=A) (fun b hb=>hb) fn ho
    exact⟨v,hv,v,rfl,r,hk2,hS'.below,hrr⟩
   ·exact hk2.elim
  ·obtain⟨v,r,hv,hR,hrr⟩:=pB hS' (B:=A) (fun b hb=>hb) fn hk2
   exact⟨v,hv,v,rfl,r,hR,hS'.below,hrr⟩
  ·obtain⟨v,r,hv,hR,hrr⟩:=nZ hS' (B:=A) (fun b hb=>hb) fn hk2
   exact⟨v,hv,v,rfl,r,hR,hS'.below,hrr⟩
 |ret =>
  obtain⟨m',s',hS',hk⟩:=hq
  refine⟨hS'.defers,?_⟩
  have fin:(match vH E fn.ntmps s' fn.results.toList with|some r=>kv r R|none=>False)∨vG E fn.ntmps s' fn.results.toList R∨pA E fn.ntmps s' fn.results.toList R:=by
   have hk2:(match lZ E fn.ntmps s' fn.results.toList with
    |some [.agg cs]=>bif yC cs then (match vH E fn.ntmps s' fn.results.toList with|some r=>kv r R|none=>False)∨vG E fn.ntmps s' fn.results.toList R
      else (match vH E fn.ntmps s' fn.results.toList with|some r=>kv r R|none=>vG E fn.ntmps s' fn.results.toList R)
    |some (v1::v2::vs)=>bif yC (v1::v2::vs) || gO (v1::v2::vs) then (match vH E fn.ntmps s' fn.results.toList with|some r=>kv r R|none=>vG E fn.ntmps s' fn.results.toList R)∨pA E fn.ntmps s' fn.results.toList R
      else (match vH E fn.ntmps s' fn.results.toList with|some r=>kv r R|none=>vG E fn.ntmps s' fn.results.toList R)
    | _=>(match vH E fn.ntmps s' fn.results.toList with|some r=>kv r R|none=>vG E fn.ntmps s' fn.results.toList R)):=hk
   have both:(match vH E fn.ntmps s' fn.results.toList with|some r=>kv r R|none=>vG E fn.ntmps s' fn.results.toList R)→(match vH E fn.ntmps s' fn.results.toList with|some r=>kv r R|none=>False)∨vG E fn.ntmps s' fn.results.toList R∨pA E fn.ntmps s' fn.results.toList R:=by
    intro h
    split at h
    ·exact .inl h
    ·exact .inr (.inl h)
   split at hk2
   ·rename_i cs _
    cases hq:yC cs with
    |true =>
     rw[hq] at hk2
     rcases hk2 with hk2|hk2
     ·exact .inl hk2
     ·exact .inr (.inl hk2)
    |false=>rw[hq] at hk2;exact both hk2
   ·rename_i v1 v2 vs _
    cases hq:yC (v1::v2::vs) || gO (v1::v2::vs) with
    |true =>
     rw[hq] at hk2
     rcases hk2 with hk2|hk2
     ·exact both hk2
     ·exact .inr (.inr hk2)
    |false=>rw[hq] at hk2;exact both hk2
   ·exact both hk2
  rcases fin with hk2|hk2|hk2
  ·split at hk2
   ·rename_i r ho
    rw[yX] at hk2
    obtain⟨v,hv,hrr⟩:=pF hS' (B:=A) (fun b hb=>hb) fn ho
    exact⟨v,hv,v,rfl,r,hk2,hS'.below,hrr⟩
   ·exact hk2.elim
  ·obtain⟨v,r,hv,hR,hrr⟩:=pB hS' (B:=A) (fun b hb=>hb) fn hk2
   exact⟨v,hv,v,rfl,r,hR,hS'.below,hrr⟩
  ·obtain⟨v,r,hv,hR,hrr⟩:=nZ hS' (B:=A) (fun b hb=>hb) fn hk2
   exact⟨v,hv,v,rfl,r,hR,hS'.below,hrr⟩
 |exit i =>
  obtain⟨m',s',hS',hk⟩:=hq
  exact hk.elim
 |goto l=>exact hq.elim
 |panic ch=>exact hq.elim
 |outgrown=>exact hq.elim
theorem iW {f : FuncId} {fn : Func} {c : Code} {as1 : List AV} {R : AV → Prop} (hf : E.P.funcs[f]? = some fn) (hb : fn.body = some c) (hn : (fn.name == "runtime.NumGoroutine") = false) (hN : Nat.ble as1.length fn.ntmps = true)
  (h:Snd E fn.ntmps c (bT E fn R) (St.init as1)):CallsTo E f as1 R:=by
 intro w A vs hI hr
 have hrun:(callFunc f vs).run E.P w=.ok (.enter f vs) w:=by
  simp only[callFunc,Sem.run_bind,run_program,Result.andThen_ok,hf,hn,hb]
  rfl
 unfold Invokes
 rw[hrun]
 exact(calls_of_snd hf hb hN h hI hr).mono fun e w' ⟨v,he,hp⟩=>⟨v,he,hp⟩
end
end Ai
namespace Ai
set_option maxRecDepth 100000
open Go Go.Proofs Cyc
def refR (o:Nat) (x:RunT):List AV:=[i64 x.c,.ref (.n 901) 0 x.tr.length,.ref (.n 902) 0 x.tk.length,.dref (.n o) x.s.ths.length,.ref (.n 904) 0 x.s.cells.length,.ref (.n 905) 0 x.s.owner.length,i64 x.s.fault]
theorem fz_ownR {o:Nat} {x:RunT} {S:St} (h1:S.H (.n 901)=some (.ds 105 5 (x.tr.map encEv))) (h2:S.H (.n 902)=some (.ds 3 1 (x.tk.map encInt))) (h3:S.H (.n o)=some (.rs 158 6 (thRows o x.s.ths))) (h4:∀ j,S.H (.s o j)=zD x.s.ths j)
  (h5:S.H (.n 904)=some (.ds 74 1 (x.s.cells.map encF))) (h6:S.H (.n 905)=some (.ds 3 1 (x.s.owner.map encInt))):FzC S (refR o x) (encRT x):=by
 refine⟨di x.c,_,rfl,rfl,.sl (x.tr.map encEv),_,rfl,?_,.sl (x.tk.map encInt),_,rfl,?_,.sl (x.s.ths.map zE),_,rfl,⟨_,rfl,?_⟩,.sl (x.s.cells.map encF),_,rfl,?_,.sl (x.s.owner.map encInt),_,rfl,?_,di x.s.fault,[],rfl,rfl,rfl⟩
 ·simp[FzD,fz1,h1,List.take_of_length_le]
 ·simp[FzD,fz1,h2,List.take_of_length_le]
 ·unfold kD
  rw[h3]
  refine⟨by simp,fun j row hj hr=>?_⟩
  rw[yL hj] at hr
  simp only[Option.some.injEq] at hr
  subst hr
  exact⟨zE x.s.ths[j],by simp[hj],o0 ((h4 j).trans (thFam_self hj))⟩
 ·simp[FzD,fz1,h5,List.take_of_length_le]
 ·simp[FzD,fz1,h6,List.take_of_length_le]
def numZ (k:Nat):Nat:=bif Nat.beq k 903 then 963 else bif Nat.beq k 963 then 903 else k
theorem sI (k:Nat):numZ (numZ k)=k:=by
 by_cases h1:k=903
 ·subst h1;rfl
 by_cases h2:k=963
 ·subst h2;rfl
 have e:numZ k=k:=by unfold numZ;rw[nbeq_ne h1,nbeq_ne h2];rfl
 rw[e,e]
def shZ:Sh:=oU numZ sI
def qH (subs:List (List (List D))):List (List AV):=(List.range subs.length).map fun j=>[.ref (.s 963 j) 0 (subs.getD j []).length]
theorem rowsM_Z (subs:List (List (List D))):(wV subs 0).map (renL shZ.f)=qH subs:=by
 unfold wV qH
 rw[List.map_map]
 refine List.map_congr_left fun j _=>?_
 show renL _ (lY subs 0 j)=_
 unfold lY
 rw[if_neg (by omega)]
 rfl
theorem rowsZ_M (subs:List (List (List D))):(qH subs).map (renL shZ.f)=wV subs 0:=by
 unfold wV qH
 rw[List.map_map]
 refine List.map_congr_left fun j _=>?_
 show _=lY subs 0 j
 unfold lY
 rw[if_neg (by omega)]
 rfl
theorem gW {p:Key→Bool} (subs:List (List (List D))) (hp:∀ j,p (.s 963 j)=false):(qH subs).map (scrPL p)=qH subs:=by
 unfold qH
 rw[List.map_map]
 refine List.map_congr_left fun j _=>?_
 show scrPL p [_]=_
 simp[scrPL,scrP,hp j]
theorem totT_size {s:StL} (h:s.size≤1048576):zS s.ths s.ths.length≤8388608:=by
 unfold StL.size jS at h
 unfold zS
 rw[List.take_length]
 have:∀ l:List Th,(l.map fun t=>5+t.stack.length).sum=5*l.length+(l.map Th.stl).sum:=by
  intro l
  induction l with
  |nil=>rfl
  |cons a l ih=>simp only[List.map_cons,List.sum_cons,List.length_cons,ih,Th.stl];omega
 rw[this]
 omega
structure SmX (p:ProgL) (x:RunT):Prop where
 hs:p.rs.length≤1048576∧∀ x∈p.rs,x.length≤1048576
 hz:p.size≤1048576
 hx:x.fit
 ht:zS x.s.ths x.s.ths.length≤8388608
end Ai
namespace Ai
set_option maxRecDepth 100000
open Go Go.Proofs Cyc
theorem v7 {x:RunT} {j:Nat}:ownH (jZ x) (.s 903 j)=zD x.s.ths j:=by
 show((x.s.ths.map stk)[j]?).map (Ob.ds 74 1)=_
 unfold zD
 rw[List.getElem?_map,Option.map_map]
 rfl
end Ai
namespace Ai
set_option maxRecDepth 100000
open Go Go.Proofs Cyc
def PctL.fit (s:PctL):Prop:=s.ranks.length≤1048576∧s.changes.length≤1048576
end Ai
namespace Ai
set_option maxRecDepth 100000
open Go Go.Proofs Cyc
def run0:RunT:=⟨0,[],[],⟨[],[],[],0⟩⟩
end Ai
namespace Ai
set_option maxRecDepth 100000
open Go Go.Proofs
theorem near_ne (n:Int):fcmp .neq (FloatKind.f64.nearest n) (FloatKind.f64.nearest n)=false:=by
 rw[aH,eql_refl (x:=FloatKind.f64.nearest n) (jD (.number (n<0) n.natAbs 0) rfl)];rfl
theorem setEl_m {els:List (List D)} {k off:Nat} {x:D}:yZ els 5 k off [x]=els.modify k fun c=>yE c off [x]:=by
 unfold yZ
 rw[show Nat.beq ([x]:List D).length 5=false from rfl,Bool.and_false]
 rfl
theorem set5 {E:List (List D)} {i:Nat} {v0 v1 v2 v3 v4:D} (h:i<E.length) (h5:∀ c∈E,c.length=5) :
  yZ (yZ (yZ (yZ (yZ E 5 (0+(i:Int).toNat) (0+0) [v0]) 5 (0+(i:Int).toNat) (0+1) [v1]) 5 (0+(i:Int).toNat) (0+2) [v2]) 5 (0+(i:Int).toNat) (0+3) [v3]) 5 (0+(i:Int).toNat) (0+4) [v4]=E.set i [v0,v1,v2,v3,v4]:=by
 rw[Int.toNat_natCast,Nat.zero_add]
 simp only[setEl_m]
 apply List.ext_getElem?
 intro j
 simp only[List.getElem?_modify,List.getElem?_set]
 by_cases hj:i=j
 ·subst hj
  have hl:=h5 _ (List.getElem_mem h)
  rw[List.getElem?_eq_getElem h]
  generalize E[i]=c at hl
  match c,hl with
  | [a0,a1,a2,a3,a4],_=>simp[h];rfl
 ·simp[hj]
end Ai
namespace Ai
set_option maxRecDepth 100000
open Go Go.Proofs
def qK (k:Int) (j:Nat):Ev:=⟨k+5*(j:Int),k+5*(j:Int)+1,k+5*(j:Int)+2,k+5*(j:Int)+3,k+5*(j:Int)+4⟩
def uH (k:Int) (n:Nat):List Ev:=(List.range n).map (qK k)
def wJ (k:Int) (n:Nat):List Nat:=(List.range n).map fun (j:Nat)=>FloatKind.f64.nearest (k+(j:Int))
theorem fY (k:Int) (n:Nat):(uH k n).length=n:=by simp[uH]
theorem uR (k:Int) (n:Nat):(wJ k n).length=n:=by simp[wJ]
theorem setEl_1 {els:List (List D)} {k:Nat} {x:D}:yZ els 1 k 0 [x]=els.set k [x]:=by
 unfold yZ
 rw[show Nat.beq ([x]:List D).length 1=true from rfl,show Nat.beq 0 0=true from rfl]
 rfl
def fX {α:Type} (enc:α→List D) (ms:Nat→List α) (els:List (List D)) (n:Nat):List (List D):=(ms n).map enc++els.drop n
theorem q6 {α:Type} {enc:α→List D} {f:Nat→α} {els:List (List D)} {n:Nat} (h:n<els.length):(fX enc (fun n=>(List.range n).map f) els n).set n (enc (f n))=fX enc (fun n=>(List.range n).map f) els (n+1):=by
 unfold fX
 rw[List.drop_eq_getElem_cons h,List.set_append_right _ _ (by simp),List.length_map,List.length_map,List.length_range,Nat.sub_self,List.set_cons_zero]
 show((List.range n).map f).map enc++enc (f n)::_=((List.range (n+1)).map f).map enc++_
 rw[List.range_succ,List.map_append,List.map_append]
 simp
theorem mkTo_len {α:Type} {enc:α→List D} {f:Nat→α} {els:List (List D)} {n:Nat} (h:n≤els.length):(fX enc (fun n=>(List.range n).map f) els n).length=els.length:=by simp[fX];omega
theorem mkTo_k {α:Type} {enc:α→List D} {ms:Nat→List α} {els:List (List D)} {n z:Nat} (h5:∀ c∈els,c.length=z) (he:∀ x,(enc x).length=z):∀ c∈fX enc ms els n,c.length=z:=by
 intro c hc
 rcases List.mem_append.1 hc with h|h
 ·obtain⟨j,_,rfl⟩:=List.mem_map.1 h;exact he j
 ·exact h5 c (List.mem_of_mem_drop h)
def dK (k:Int) (xs:List Th) (j:Nat):Th:=⟨k+(zS xs j:Int),k+(zS xs j:Int)+1,k+(zS xs j:Int)+2,k+(zS xs j:Int)+3,k+(zS xs j:Int)+4,wJ (k+(zS xs j:Int)+5) (xs.getD j th0).stack.length⟩
def wU (k:Int) (xs:List Th):List Th:=(List.range xs.length).map (dK k xs)
theorem oX (els:List (List D)) (n:Nat) (k:Int) (hn:n=els.length) (h5:∀ c∈els,c.length=5) (hx:n≤1048576) (h0:0≤k) (h1:k≤1073741824) (H0:Key→Option Ob) (hH:H0 (.l 77)=some (.ds 105 5 els)) :
  IOCall EE 66 [.ref (.l 77) 0 n,i64 k] H0 (fun r H1=>r=i64 (k+5*(n:Int))∧H1 (.l 77)=some (.ds 105 5 ((uH k n).map encEv))∧∀ κ',isK (.l 77) κ'=false→H1 κ'=none):=by
 refine xH (fn:=Tryz.f66) (c:=Tryz.f66.body.getD .skip) Tryz.func66 rfl (by kernel_rfl) rfl ?_
 have hat:At [(0,.ref (.l 77) 0 n),(1,i64 k)] [(.l 77,.ds 105 5 els)] [] ⟨fun i=>[AV.ref (.l 77) 0 n,i64 k].getD i .junk,H0⟩:=⟨⟨rfl,rfl,trivial⟩,⟨hH,trivial⟩,trivial⟩
 obtain⟨τ,H,hf⟩:=hat.form
 rw[hf]
 conv=>whnf
 refine yJ (fun i:Nat=>[(0,.ref (.l 77) 0 n),(1,i64 (k+5*(i:Int))),(5,i64 i)]) (fun i=>[(.l 77,.ds 105 5 (fX encEv (uH k) els i))]) (fun i=>n - i) (fun i=>i≤n) 0
  Weak.refl ⟨rfl,?_,rfl,trivial⟩ ⟨rfl,trivial⟩ (Nat.zero_le _) ?_
 ·show i64 k=i64 (k+5*((0:Nat):Int))
  rw[show k+5*((0:Nat):Int)=k by omega]
 intro i τ H hi
 have hi:i≤n:=hi
 conv=>whnf
 refine kbi (fun h=>?_) (fun h=>?_)
 ·have hlt:i<n:=by simpa using h
  have w1:IntKind.i64.wrap (k+5*(i:Int)+1)=k+5*(i:Int)+1:=zF (by omega) (by omega)
  have w2:IntKind.i64.wrap (k+5*(i:Int)+1+1)=k+5*(i:Int)+2:=by rw[zF (by omega) (by omega)];omega
  have w3:IntKind.i64.wrap (k+5*(i:Int)+2+1)=k+5*(i:Int)+3:=by rw[zF (by omega) (by omega)];omega
  have w4:IntKind.i64.wrap (k+5*(i:Int)+3+1)=k+5*(i:Int)+4:=by rw[zF (by omega) (by omega)];omega
  have w5:IntKind.i64.wrap (k+5*(i:Int)+4+1)=k+5*(i:Int)+5:=by rw[zF (by omega) (by omega)];omega
  have hE:(fX encEv (uH k) els i).length=els.length:=mkTo_len (by omega)
  have hset:=set5 (E:=fX encEv (uH k) els i) (i:=i) (v0:=di (k+5*(i:Int))) (v1:=di (k+5*(i:Int)+1)) (v2:=di (k+5*(i:Int)+2)) (v3:=di (k+5*(i:Int)+3)) (v4:=di (k+5*(i:Int)+4)) (by omega) (mkTo_k h5 fun _=>rfl)
  have hs2:(fX encEv (uH k) els i).set i (encEv (qK k i))=fX encEv (uH k) els (i+1):=q6 (by omega)
  rw[show[di (k+5*(i:Int)),di (k+5*(i:Int)+1),di (k+5*(i:Int)+2),di (k+5*(i:Int)+3),di (k+5*(i:Int)+4)]=encEv (qK k i) from rfl,hs2] at hset
  conv=>whnf
  iterate 5
   refine⟨⟨by show 0≤(i:Int);omega,by show(i:Int)<n;omega⟩,?_⟩
   conv=>whnf
  rw[w1,w2,w3,w4,w5]
  refine⟨i+1,by show i+1≤n;omega,by show n - (i+1)<n - i;omega,⟨rfl,?_,?_,trivial⟩,⟨?_,trivial⟩⟩
  ·show i64 (k+5*(i:Int)+5)=i64 (k+5*((i+1:Nat):Int))
   exact congrArg i64 (by omega)
  ·show AV.d (.int .i64 (IntKind.i64.wrap ((i:Int)+1)))=i64 ((i+1:Nat):Int)
   rw[zF (by omega) (by omega)]
   rfl
  ·exact congrArg (fun x=>some (Ob.ds 105 5 x)) hset
 ·conv=>whnf
  have hkk:i=n:=by
   have:¬ i<n:=by simpa using h
   omega
  subst hkk
  refine⟨_,Weak.refl,?_⟩
  conv=>whnf
  refine⟨isK (.l 77),rfl,?_,fun κ hκ=>?_⟩
  ·show some (Ob.ds 105 5 (fX encEv (uH k) els i))=_
   unfold fX
   rw[hn,List.drop_length,List.append_nil]
  ·unfold yS
   rw[hκ];rfl
theorem mJ (els:List (List D)) (n:Nat) (k:Int) (hn:n=els.length) (hx:n≤1048576) (h0:0≤k) (h1:k≤1073741824) (H0:Key→Option Ob) (hH:H0 (.l 77)=some (.ds 74 1 els)) :
  IOCall EE 68 [.ref (.l 77) 0 n,i64 k] H0 (fun r H1=>r=i64 (k+(n:Int))∧H1 (.l 77)=some (.ds 74 1 ((wJ k n).map encF))∧∀ κ',isK (.l 77) κ'=false→H1 κ'=none):=by
 refine xH (fn:=Tryz.f68) (c:=Tryz.f68.body.getD .skip) Tryz.func68 rfl (by kernel_rfl) rfl ?_
 have hat:At [(0,.ref (.l 77) 0 n),(1,i64 k)] [(.l 77,.ds 74 1 els)] [] ⟨fun i=>[AV.ref (.l 77) 0 n,i64 k].getD i .junk,H0⟩:=⟨⟨rfl,rfl,trivial⟩,⟨hH,trivial⟩,trivial⟩
 obtain⟨τ,H,hf⟩:=hat.form
 rw[hf]
 conv=>whnf
 refine yJ (fun i:Nat=>[(0,.ref (.l 77) 0 n),(1,i64 (k+(i:Int))),(5,i64 i)]) (fun i=>[(.l 77,.ds 74 1 (fX encF (wJ k) els i))]) (fun i=>n - i) (fun i=>i≤n) 0
  Weak.refl ⟨rfl,?_,rfl,trivial⟩ ⟨rfl,trivial⟩ (Nat.zero_le _) ?_
 ·show i64 k=i64 (k+((0:Nat):Int))
  rw[show k+((0:Nat):Int)=k by omega]
 intro i τ H hi
 have hi:i≤n:=hi
 conv=>whnf
 refine kbi (fun h=>?_) (fun h=>?_)
 ·have hlt:i<n:=by simpa using h
  have hs2:(fX encF (wJ k) els i).set i (encF (FloatKind.f64.nearest (k+(i:Int))))=fX encF (wJ k) els (i+1):=q6 (f:=fun (j:Nat)=>FloatKind.f64.nearest (k+(j:Int))) (by omega)
  conv=>whnf
  refine⟨⟨by show 0≤(i:Int);omega,by show(i:Int)<n;omega⟩,?_⟩
  conv=>whnf
  refine⟨i+1,by show i+1≤n;omega,by show n - (i+1)<n - i;omega,⟨rfl,?_,?_,trivial⟩,⟨?_,trivial⟩⟩
  ·show AV.d (.int .i64 (IntKind.i64.wrap (k+(i:Int)+1)))=i64 (k+((i+1:Nat):Int))
   rw[zF (by omega) (by omega)]
   exact congrArg i64 (by omega)
  ·show AV.d (.int .i64 (IntKind.i64.wrap ((i:Int)+1)))=i64 ((i+1:Nat):Int)
   rw[zF (by omega) (by omega)]
   rfl
  ·show some (Ob.ds 74 1 (yZ (fX encF (wJ k) els i) 1 (0+(i:Int).toNat) 0 [.flt (FloatKind.f64.nearest (k+(i:Int)))]))=_
   rw[setEl_1,Int.toNat_natCast,Nat.zero_add]
   exact congrArg (fun x=>some (Ob.ds 74 1 x)) hs2
 ·conv=>whnf
  have hkk:i=n:=by
   have:¬ i<n:=by simpa using h
   omega
  subst hkk
  refine⟨_,Weak.refl,?_⟩
  conv=>whnf
  refine⟨isK (.l 77),rfl,?_,fun κ hκ=>?_⟩
  ·show some (Ob.ds 74 1 (fX encF (wJ k) els i))=_
   unfold fX
   rw[hn,List.drop_length,List.append_nil]
  ·unfold yS
   rw[hκ];rfl
end Ai
namespace Ai
set_option maxRecDepth 100000
open Go Go.Proofs
def jV (k:Int) (xs:List Th) (i:Nat):List Th:=(List.range i).map (dK k xs)++xs.drop i
theorem lP {k:Int} {xs:List Th} {i j:Nat} (h:j<i):(jV k xs i)[j]?=some (dK k xs j):=by
 unfold jV
 rw[List.getElem?_append_left (by simpa using h)]
 simp[h]
theorem pJ {k:Int} {xs:List Th} {i j:Nat} (h:i≤j):(jV k xs i)[j]?=xs[j]?:=by
 unfold jV
 rw[List.getElem?_append_right (by simpa using h),List.length_map,List.length_range,List.getElem?_drop]
 congr 1;omega
theorem mixT_end {k:Int} {xs:List Th}:jV k xs xs.length=wU k xs:=by simp[jV,wU]
theorem rQ {o:Nat} {l:List Th} {j:Nat}:(thRows o l)[j]?=(l[j]?).map (thRow o j):=rP o l j
def lendT:Key→Bool
 | .l k=>Nat.beq k 76
 | .s o _=>Nat.beq o 903
 | .n _=>false
theorem pin_s {i:Nat}:∀ n,isK (.l 77) (swp (.s 903 i) (.l 77) (.l n))=true→∃ n',swp (.s 903 i) (.l 77) (.l n)=.l n':=by
 intro n hn
 unfold swp at hn ⊢
 have e0:Key.beq (.l n) (.s 903 i)=false:=rfl
 rw[e0] at hn ⊢
 simp only[cond_false] at hn ⊢
 cases hb:Key.beq (.l n) (.l 77) with
 |true=>rw[hb] at hn;cases hn
 |false=>exact⟨n,rfl⟩
theorem eR (xs:List Th) (k:Int) (hx:xs.length≤1048576) (hs:∀ t∈xs,t.stack.length≤1048576) (ht:zS xs xs.length≤8388608) (h0:0≤k) (h1:k≤67108864) (H0:Key→Option Ob)
  (hH:H0 (.l 76)=some (.rs 158 6 (thRows 903 xs))) (hF:∀ j,H0 (.s 903 j)=zD xs j) :
  IOCall EE 67 [.dref (.l 76) xs.length,i64 k] H0 (fun r H1=>r=i64 (k+zS xs xs.length)∧H1 (.l 76)=some (.rs 158 6 (thRows 903 (wU k xs)))∧(∀ j,H1 (.s 903 j)=zD (wU k xs) j)∧∀ κ,lendT κ=false→H1 κ=none):=by
 refine xH (fn:=Tryz.f67) (c:=Tryz.f67.body.getD .skip) Tryz.func67 rfl (by kernel_rfl) rfl ?_
 have hat:At [(0,.dref (.l 76) xs.length),(1,i64 k)] [(.l 76,.rs 158 6 (thRows 903 xs))] [(903,zD xs)] ⟨fun i=>[AV.dref (.l 76) xs.length,i64 k].getD i .junk,H0⟩:=⟨⟨rfl,rfl,trivial⟩,⟨hH,trivial⟩,⟨fun j=>(hF j).trans rfl,trivial⟩⟩
 obtain⟨τ,H,hf⟩:=hat.form
 rw[hf]
 conv=>whnf
 refine gR (fun i:Nat=>[(0,.dref (.l 76) xs.length),(1,i64 (k+(zS xs i:Int))),(5,i64 i)]) (fun i=>[(.l 76,.rs 158 6 (thRows 903 (jV k xs i)))]) (fun i=>[(903,zD (jV k xs i))]) (fun i=>xs.length - i) (fun i=>i≤xs.length) 0
  Weak.refl ⟨rfl,?_,rfl,trivial⟩ ⟨?_,trivial⟩ ⟨fun j=>?_,trivial⟩ (Nat.zero_le _) ?_
 ·show i64 k=i64 (k+((zS xs 0:Nat):Int))
  rw[show k+((zS xs 0:Nat):Int)=k by simp[zS]]
 ·rfl
 ·rfl
 intro i τ H hi
 have hi:i≤xs.length:=hi
 have hti:=lD xs i
 conv=>whnf
 refine kbi (fun h=>?_) (fun h=>?_)
 ·have hlt:i<xs.length:=by simpa using h
  have hgi:(jV k xs i)[i]?=some xs[i]:=by rw[pJ (Nat.le_refl _),List.getElem?_eq_getElem hlt]
  have hrow:(thRows 903 (jV k xs i))[i]?=some (thRow 903 i xs[i]):=by rw[rQ,hgi];rfl
  have hfi:zD (jV k xs i) i=some (.ds 74 1 (stk xs[i])):=by unfold zD;rw[hgi];rfl
  have w1:IntKind.i64.wrap (k+(zS xs i:Int)+1)=k+(zS xs i:Int)+1:=zF (by omega) (by omega)
  have w2:IntKind.i64.wrap (k+(zS xs i:Int)+1+1)=k+(zS xs i:Int)+2:=by rw[zF (by omega) (by omega)];omega
  have w3:IntKind.i64.wrap (k+(zS xs i:Int)+2+1)=k+(zS xs i:Int)+3:=by rw[zF (by omega) (by omega)];omega
  have w4:IntKind.i64.wrap (k+(zS xs i:Int)+3+1)=k+(zS xs i:Int)+4:=by rw[zF (by omega) (by omega)];omega
  have w5:IntKind.i64.wrap (k+(zS xs i:Int)+4+1)=k+(zS xs i:Int)+5:=by rw[zF (by omega) (by omega)];omega
  conv=>whnf
  iterate 5
   refine⟨⟨by omega,by omega⟩,?_⟩
   conv=>whnf
  refine⟨⟨by omega,by omega⟩,?_⟩
  conv=>whnf
  have hget:(eG (thRows 903 (jV k xs i)) i (i64 (k+(zS xs i:Int))) (i64 (k+(zS xs i:Int)+1)) (i64 (k+(zS xs i:Int)+2)) (i64 (k+(zS xs i:Int)+3)) (i64 (k+(zS xs i:Int)+4)))[i]?=some [i64 (k+(zS xs i:Int)),i64 (k+(zS xs i:Int)+1),i64 (k+(zS xs i:Int)+2),i64 (k+(zS xs i:Int)+3),i64 (k+(zS xs i:Int)+4),.ref (.s 903 i) 0 xs[i].stack.length] :=
   put5_eq hrow
  rw[w1,w2,w3,w4,w5]
  refine⟨[i64 (k+(zS xs i:Int)),i64 (k+(zS xs i:Int)+1),i64 (k+(zS xs i:Int)+2),i64 (k+(zS xs i:Int)+3),i64 (k+(zS xs i:Int)+4),.ref (.s 903 i) 0 xs[i].stack.length],⟨?_,by show 0+5+1≤6;omega⟩,?_⟩
  ·rw[← hget,Int.toNat_natCast];rfl
  conv=>whnf
  have hsw:swp (.s 903 i) (.l 77) (.s 903 i)=.l 77:=by simp[swp,Key.beq]
  have hswl:swp (.s 903 i) (.l 77) (.l 77)=.s 903 i:=by simp[swp,Key.beq]
  have hne:∀ j,j≠i→swp (.s 903 i) (.l 77) (.s 903 j)=.s 903 j:=fun j hj=>by simp[swp,Key.beq,nbeq_ne hj]
  have hts:=lC hlt
  have hti2:=lD xs (i+1)
  have hst:=hs _ (List.getElem_mem hlt)
  have hmk:dK k xs i=⟨k+(zS xs i:Int),k+(zS xs i:Int)+1,k+(zS xs i:Int)+2,k+(zS xs i:Int)+3,k+(zS xs i:Int)+4,wJ (k+(zS xs i:Int)+5) xs[i].stack.length⟩:=by
   unfold dK;simp[List.getD_eq_getElem?_getD,hlt]
  split
  case' h_1=>conv=>whnf
  case' h_1=>refine .inr (.inr (.inr (.inr (.inr ?_))))
  case' h_2=>refine .inr (.inr (.inr (.inr ?_)))
  all_goals
   refine⟨_,68,[],swp (.s 903 i) (.l 77),Weak.refl,rfl,wY _ _,isK (.l 77),_,xB (mJ (stk xs[i]) xs[i].stack.length (k+(zS xs i:Int)+5) (by simp[stk]) hst (by omega) (by omega) _ ?_) ?_,pin_s,?_⟩
   ·show Option.map _ (Option.map _ (zD (jV k xs i) i))=_
    rw[hfi]
    rfl
   ·show[scrP _ (.ref (swp (.s 903 i) (.l 77) (.s 903 i)) 0 xs[i].stack.length),_]=_
    rw[hsw]
    rfl
   ·rintro r H1 ⟨rfl,e1,q2⟩
    refine⟨q2,fun n hn=>⟨.ds 74 1 (stk xs[i]),?_,(wJ (k+(zS xs i:Int)+5) xs[i].stack.length).map encF,?_,by simp[uR,stk]⟩,?_⟩
    ·have:n=77:=Nat.eq_of_beq_eq_true hn
     subst this
     show Option.map _ (zD (jV k xs i) i)=_
     rw[hfi];rfl
    ·have:n=77:=Nat.eq_of_beq_eq_true hn
     subst this;exact e1
    conv=>whnf
    refine⟨i+1,_,Weak.refl,by show i+1≤xs.length;omega,by show xs.length - (i+1)<xs.length - i;omega,⟨rfl,?_,?_,trivial⟩,⟨?_,trivial⟩,⟨fun j=>?_,trivial⟩⟩
    ·show i64 (k+((zS xs i:Nat):Int)+5+((xs[i].stack.length:Nat):Int))=i64 (k+((zS xs (i+1):Nat):Int))
     rw[hts]
     exact congrArg i64 (by omega)
    ·show AV.d (.int .i64 (IntKind.i64.wrap ((i:Int)+1)))=i64 ((i+1:Nat):Int)
     rw[zF (by omega) (by omega)]
     rfl
    ·show some (Ob.rs 158 6 ((((eG (thRows 903 (jV k xs i)) i (i64 (k+(zS xs i:Int))) (i64 (k+(zS xs i:Int)+1)) (i64 (k+(zS xs i:Int)+2)) (i64 (k+(zS xs i:Int)+3)) (i64 (k+(zS xs i:Int)+4))).map (renL (swp (.s 903 i) (.l 77)))).map (scrPL (xK (isK (.l 77))))).map (renL (swp (.s 903 i) (.l 77)))))=some (Ob.rs 158 6 (thRows 903 (jV k xs (i+1))))
     rw[List.map_map,List.map_map]
     refine congrArg (fun x=>some (Ob.rs 158 6 x)) (List.ext_getElem? fun j=>?_)
     rw[List.getElem?_map,rQ]
     by_cases hj:j=i
     ·subst hj
      rw[hget,lP (by omega),hmk]
      show some (renL _ (scrPL _ [_,_,_,_,_,AV.ref (swp (.s 903 j) (.l 77) (.s 903 j)) 0 _]))=_
      rw[hsw]
      show some [_,_,_,_,_,AV.ref (swp (.s 903 j) (.l 77) (.l 77)) 0 _]=some [_,_,_,_,_,AV.ref (.s 903 j) 0 (wJ _ xs[j].stack.length).length]
      rw[hswl,uR]
      rfl
     ·have hmx:(jV k xs (i+1))[j]?=(jV k xs i)[j]?:=by
       rcases Nat.lt_or_ge j i with h1|h1
       ·rw[lP (by omega),lP h1]
       ·rw[pJ (by omega),pJ h1]
      rw[hmx]
      cases hq:(jV k xs i)[j]? with
      |none =>
       have:(eG (thRows 903 (jV k xs i)) i (i64 (k+(zS xs i:Int))) (i64 (k+(zS xs i:Int)+1)) (i64 (k+(zS xs i:Int)+2)) (i64 (k+(zS xs i:Int)+3)) (i64 (k+(zS xs i:Int)+4)))[j]?=none:=by
        rw[List.getElem?_eq_none_iff] at hq ⊢
        rw[put5_len,zT];exact hq
       rw[this];rfl
      |some t =>
       rw[put5_ne hj (show(thRows 903 (jV k xs i))[j]?=some (thRow 903 j t) by rw[rQ,hq];rfl)]
       show some (renL _ (scrPL _ [_,_,_,_,_,AV.ref (swp (.s 903 i) (.l 77) (.s 903 j)) 0 _]))=_
       rw[hne j hj]
       show some [_,_,_,_,_,AV.ref (swp (.s 903 i) (.l 77) (.s 903 j)) 0 _]=_
       rw[hne j hj]
       rfl
    ·by_cases hj:j=i
     ·subst hj
      have hm2:zD (jV k xs (j+1)) j=some (.ds 74 1 ((wJ (k+(zS xs j:Int)+5) xs[j].stack.length).map encF)):=by
       unfold zD;rw[lP (by omega),hmk];rfl
      show Option.map _ (St.H _ (swp (.s 903 j) (.l 77) (.s 903 j)))=_
      rw[hsw,hm2]
      show Option.map _ (H1 (.l 77))=_
      rw[e1];rfl
     ·have hmx:zD (jV k xs (i+1)) j=zD (jV k xs i) j:=by
       unfold zD
       rcases Nat.lt_or_ge j i with h1|h1
       ·rw[lP (by omega),lP h1]
       ·rw[pJ (by omega),pJ h1]
      show Option.map _ (St.H _ (swp (.s 903 i) (.l 77) (.s 903 j)))=_
      rw[hne j hj,hmx]
      show Option.map _ (Option.map _ (Option.map _ (St.H _ (swp (.s 903 i) (.l 77) (.s 903 j)))))=_
      rw[hne j hj]
      show Option.map _ (Option.map _ (Option.map _ (zD (jV k xs i) j)))=_
      rw[thFam_ren,zG,thFam_ren]
 ·conv=>whnf
  have hkk:i=xs.length:=by
   have:¬ i<xs.length:=by simpa using h
   omega
  subst hkk
  rw[mixT_end]
  refine⟨_,Weak.refl,?_⟩
  conv=>whnf
  refine⟨lendT,rfl,?_,fun j=>?_,fun κ hκ=>?_⟩
  ·show some (Ob.rs 158 6 ((thRows 903 (wU k xs)).map (scrPL (fun o=>!lendT o))))=_
   rw[zX (fun j=>rfl)]
  ·show Option.map _ (zD (wU k xs) j)=_
   exact zG _ _ _
  ·exact pO hκ
end Ai
namespace Ai
set_option maxRecDepth 100000
open Go Go.Proofs
theorem oZ (k:Int) (n:Nat) (hx:n≤1048576) (h0:0≤k) (h1:k≤1073741824):CallsTo EE 80 [sl ((uH k n).map encEv),i64 k] (·=i64 (k+5*(n:Int))):=by
 have hml:=fY k n
 refine callsTo_of_AW (fn:=Tryz.f80) Tryz.func80 rfl (by kernel_rfl) rfl ?_
 conv=>whnf
 refine yJ (fun j:Nat=>[(0,sl ((uH k n).map encEv)),(1,i64 (k+5*(j:Int))),(5,i64 j)]) (fun j=>[]) (fun j=>n - j) (fun j=>j≤n) 0
  Weak.refl ⟨rfl,?_,rfl,trivial⟩ trivial (Nat.zero_le _) ?_
 ·show i64 k=i64 (k+5*((0:Nat):Int))
  rw[show k+5*((0:Nat):Int)=k by omega]
 intro j τ H hj
 have hj:j≤n:=hj
 conv=>whnf
 refine kbi (fun h=>?_) (fun h=>?_)
 ·have hlt:=yH h
  rw[hml] at hlt
  have hgt:((uH k n).map encEv)[(j:Int).toNat]?=some (encEv (qK k j)):=by simp[uH,hlt]
  have w1:IntKind.i64.wrap (k+5*(j:Int)+1)=k+5*(j:Int)+1:=zF (by omega) (by omega)
  have w2:IntKind.i64.wrap (k+5*(j:Int)+1+1)=k+5*(j:Int)+2:=by rw[zF (by omega) (by omega)];omega
  have w3:IntKind.i64.wrap (k+5*(j:Int)+2+1)=k+5*(j:Int)+3:=by rw[zF (by omega) (by omega)];omega
  have w4:IntKind.i64.wrap (k+5*(j:Int)+3+1)=k+5*(j:Int)+4:=by rw[zF (by omega) (by omega)];omega
  have w5:IntKind.i64.wrap (k+5*(j:Int)+4+1)=k+5*(j:Int)+5:=by rw[zF (by omega) (by omega)];omega
  conv=>whnf
  refine⟨encEv (qK k j),⟨by omega,hgt,rfl⟩,?_⟩
  conv=>whnf
  refine kbi (fun h=>absurd h (by simp[qK])) (fun _=>?_)
  conv=>whnf
  rw[w1]
  refine⟨encEv (qK k j),⟨by omega,hgt,rfl⟩,?_⟩
  conv=>whnf
  refine kbi (fun h=>absurd h (by simp[qK])) (fun _=>?_)
  conv=>whnf
  rw[w2]
  refine⟨encEv (qK k j),⟨by omega,hgt,rfl⟩,?_⟩
  conv=>whnf
  refine kbi (fun h=>absurd h (by simp[qK])) (fun _=>?_)
  conv=>whnf
  rw[w3]
  refine⟨encEv (qK k j),⟨by omega,hgt,rfl⟩,?_⟩
  conv=>whnf
  refine kbi (fun h=>absurd h (by simp[qK])) (fun _=>?_)
  conv=>whnf
  rw[w4]
  refine⟨encEv (qK k j),⟨by omega,hgt,rfl⟩,?_⟩
  conv=>whnf
  refine kbi (fun h=>absurd h (by simp[qK])) (fun _=>?_)
  conv=>whnf
  rw[w5]
  refine⟨j+1,by show j+1≤n;omega,by show n - (j+1)<n - j;omega,⟨rfl,?_,?_,trivial⟩,trivial⟩
  ·show i64 (k+5*(j:Int)+5)=i64 (k+5*((j+1:Nat):Int))
   exact congrArg i64 (by omega)
  ·show AV.d (.int .i64 (IntKind.i64.wrap ((j:Int)+1)))=i64 ((j+1:Nat):Int)
   rw[zF (by omega) (by omega)]
   rfl
 ·have hkk:j=n:=by
   have:¬ j<n:=by simpa[uH] using h
   omega
  subst hkk
  conv=>whnf
theorem mM (k:Int) (n:Nat) (hx:n≤1048576) (h0:0≤k) (h1:k≤1073741824):CallsTo EE 70 [sl ((wJ k n).map encF),i64 k] (·=i64 (k+(n:Int))):=by
 have hml:=uR k n
 refine callsTo_of_AW (fn:=Tryz.f70) Tryz.func70 rfl (by kernel_rfl) rfl ?_
 conv=>whnf
 refine yJ (fun j:Nat=>[(0,sl ((wJ k n).map encF)),(1,i64 (k+(j:Int))),(5,i64 j)]) (fun j=>[]) (fun j=>n - j) (fun j=>j≤n) 0
  Weak.refl ⟨rfl,?_,rfl,trivial⟩ trivial (Nat.zero_le _) ?_
 ·show i64 k=i64 (k+((0:Nat):Int))
  rw[show k+((0:Nat):Int)=k by omega]
 intro j τ H hj
 have hj:j≤n:=hj
 conv=>whnf
 refine kbi (fun h=>?_) (fun h=>?_)
 ·have hlt:=yH h
  rw[hml] at hlt
  have hgt:((wJ k n).map encF)[(j:Int).toNat]?=some (encF (FloatKind.f64.nearest (k+(j:Int)))):=by simp[wJ,hlt]
  conv=>whnf
  refine⟨encF (FloatKind.f64.nearest (k+(j:Int))),⟨by omega,hgt,rfl⟩,?_⟩
  conv=>whnf
  refine kbi (fun g=>absurd g (by rw[near_ne];simp)) (fun _=>?_)
  conv=>whnf
  refine⟨j+1,by show j+1≤n;omega,by show n - (j+1)<n - j;omega,⟨rfl,?_,?_,trivial⟩,trivial⟩
  ·show AV.d (.int .i64 (IntKind.i64.wrap (k+(j:Int)+1)))=i64 (k+((j+1:Nat):Int))
   rw[zF (by omega) (by omega)]
   exact congrArg i64 (by omega)
  ·show AV.d (.int .i64 (IntKind.i64.wrap ((j:Int)+1)))=i64 ((j+1:Nat):Int)
   rw[zF (by omega) (by omega)]
   rfl
 ·have hkk:j=n:=by
   have:¬ j<n:=by simpa[wJ] using h
   omega
  subst hkk
  conv=>whnf
theorem iF (xs:List Th) (k:Int) (hx:xs.length≤1048576) (hs:∀ t∈xs,t.stack.length≤1048576) (ht:zS xs xs.length≤8388608) (h0:0≤k) (h1:k≤67108864) :
  CallsTo EE 69 [sl ((wU k xs).map zE),i64 k] (·=i64 (k+zS xs xs.length)):=by
 have hml:(wU k xs).length=xs.length:=by simp[wU]
 refine callsTo_of_AW (fn:=Tryz.f69) Tryz.func69 rfl (by kernel_rfl) rfl ?_
 conv=>whnf
 refine yJ (fun j:Nat=>[(0,sl ((wU k xs).map zE)),(1,i64 (k+(zS xs j:Int))),(5,i64 j)]) (fun j=>[]) (fun j=>xs.length - j) (fun j=>j≤xs.length) 0
  Weak.refl ⟨rfl,?_,rfl,trivial⟩ trivial (Nat.zero_le _) ?_
 ·show i64 k=i64 (k+((zS xs 0:Nat):Int))
  rw[show k+((zS xs 0:Nat):Int)=k by simp[zS]]
 intro i τ H hi
 have hi:i≤xs.length:=hi
 conv=>whnf
 refine kbi (fun h=>?_) (fun h=>?_)
 ·have hlt:=yH h
  rw[hml] at hlt
  have hmk:dK k xs i=⟨k+(zS xs i:Int),k+(zS xs i:Int)+1,k+(zS xs i:Int)+2,k+(zS xs i:Int)+3,k+(zS xs i:Int)+4,wJ (k+(zS xs i:Int)+5) xs[i].stack.length⟩:=by
   unfold dK;simp[List.getD_eq_getElem?_getD,hlt]
  have hgt:((wU k xs).map zE)[(i:Int).toNat]?=some (zE (dK k xs i)):=by simp[wU,hlt]
  rw[hmk] at hgt
  have hti:=lD xs i
  have hts:=lC hlt
  have hti2:=lD xs (i+1)
  have hst:=hs _ (List.getElem_mem hlt)
  generalize zS xs i=T at *
  have w1:IntKind.i64.wrap (k+(T:Int)+1)=k+(T:Int)+1:=zF (by omega) (by omega)
  have w2:IntKind.i64.wrap (k+(T:Int)+1+1)=k+(T:Int)+2:=by rw[zF (by omega) (by omega)];omega
  have w3:IntKind.i64.wrap (k+(T:Int)+2+1)=k+(T:Int)+3:=by rw[zF (by omega) (by omega)];omega
  have w4:IntKind.i64.wrap (k+(T:Int)+3+1)=k+(T:Int)+4:=by rw[zF (by omega) (by omega)];omega
  have w5:IntKind.i64.wrap (k+(T:Int)+4+1)=k+(T:Int)+5:=by rw[zF (by omega) (by omega)];omega
  conv=>whnf
  refine⟨_,⟨by omega,hgt,rfl⟩,?_⟩
  conv=>whnf
  refine kbi (fun h=>absurd h (by simp)) (fun _=>?_)
  conv=>whnf
  rw[w1]
  refine⟨_,⟨by omega,hgt,rfl⟩,?_⟩
  conv=>whnf
  refine kbi (fun h=>absurd h (by simp)) (fun _=>?_)
  conv=>whnf
  rw[w2]
  refine⟨_,⟨by omega,hgt,rfl⟩,?_⟩
  conv=>whnf
  refine kbi (fun h=>absurd h (by simp)) (fun _=>?_)
  conv=>whnf
  rw[w3]
  refine⟨_,⟨by omega,hgt,rfl⟩,?_⟩
  conv=>whnf
  refine kbi (fun h=>absurd h (by simp)) (fun _=>?_)
  conv=>whnf
  rw[w4]
  refine⟨_,⟨by omega,hgt,rfl⟩,?_⟩
  conv=>whnf
  refine kbi (fun h=>absurd h (by simp)) (fun _=>?_)
  conv=>whnf
  rw[w5]
  refine⟨_,⟨by omega,hgt,rfl⟩,?_⟩
  conv=>whnf
  refine⟨_,mM (k+(T:Int)+5) xs[i].stack.length hst (by omega) (by omega),?_⟩
  rintro r rfl
  conv=>whnf
  refine kbi (fun h=>absurd h (by simp;omega)) (fun _=>?_)
  conv=>whnf
  refine⟨i+1,by show i+1≤xs.length;omega,by show xs.length - (i+1)<xs.length - i;omega,⟨rfl,?_,?_,trivial⟩,trivial⟩
  ·show i64 (k+(T:Int)+5+(xs[i].stack.length:Nat))=i64 (k+((zS xs (i+1):Nat):Int))
   rw[hts]
   exact congrArg i64 (by omega)
  ·show AV.d (.int .i64 (IntKind.i64.wrap ((i:Int)+1)))=i64 ((i+1:Nat):Int)
   rw[zF (by omega) (by omega)]
   rfl
 ·have hkk:i=xs.length:=by
   have:¬ i<xs.length:=by simpa[wU] using h
   omega
  subst hkk
  conv=>whnf
end Ai
namespace Ai
set_option maxRecDepth 100000
open Go Go.Proofs
def jW (s:StL) (k:Int):StL:=⟨wU k s.ths,wJ (k+(zS s.ths s.ths.length:Int)) s.cells.length,qJ (k+(zS s.ths s.ths.length:Int)+(s.cells.length:Int)) s.owner.length,s.fault⟩
def cG (s:StL) (k:Int):Int:=k+(zS s.ths s.ths.length:Int)+(s.cells.length:Int)+(s.owner.length:Int)
def xF (x:RunT) (k:Int):RunT:=⟨x.c,uH k x.tr.length,qJ (k+5*(x.tr.length:Int)) x.tk.length,jW x.s (k+5*(x.tr.length:Int)+(x.tk.length:Int))⟩
def bP (x:RunT) (k:Int):Int:=cG x.s (k+5*(x.tr.length:Int)+(x.tk.length:Int))
theorem i5 (s:StL) (k:Int) (h:s.fit) (ht:zS s.ths s.ths.length≤8388608) (h0:0≤k) (h1:k≤67108864) :
  CallsTo EE 24 [agg (yG (jW s k)),i64 k] (·=i64 (cG s k)):=by
 have hc:=h.cells
 have ho:=h.owner
 refine callsTo_of_AW (fn:=Tryz.f24) Tryz.func24 rfl (by kernel_rfl) rfl ?_
 conv=>whnf
 refine⟨_,iF s.ths k h.ths h.st ht h0 h1,?_⟩
 rintro r rfl
 conv=>whnf
 refine kbi (fun h=>absurd h (by simp;omega)) (fun _=>?_)
 conv=>whnf
 refine⟨_,mM _ _ hc (by omega) (by omega),?_⟩
 rintro r rfl
 conv=>whnf
 refine kbi (fun h=>absurd h (by simp;omega)) (fun _=>?_)
 conv=>whnf
 refine⟨_,cC _ _ ho (by omega) (by omega),?_⟩
 rintro r rfl
 conv=>whnf
 refine kbi (fun h=>absurd h (by simp;omega)) (fun _=>?_)
 conv=>whnf
 try rfl
theorem nG (x:RunT) (k:Int) (h:x.fit) (ht:zS x.s.ths x.s.ths.length≤8388608) (h0:0≤k) (h1:k≤8388608) :
  CallsTo EE 27 [agg (encRT (xF x k)),i64 k] (·=i64 (bP x k)):=by
 have hc:=h.tr
 have ho:=h.tk
 have hcl:=h.s.cells
 have hol:=h.s.owner
 refine callsTo_of_AW (fn:=Tryz.f27) Tryz.func27 rfl (by kernel_rfl) rfl ?_
 conv=>whnf
 refine⟨_,oZ k x.tr.length hc h0 (by omega),?_⟩
 rintro r rfl
 conv=>whnf
 refine kbi (fun h=>absurd h (by simp;omega)) (fun _=>?_)
 conv=>whnf
 refine⟨_,cC _ _ ho (by omega) (by omega),?_⟩
 rintro r rfl
 conv=>whnf
 refine kbi (fun h=>absurd h (by simp;omega)) (fun _=>?_)
 conv=>whnf
 refine⟨_,i5 x.s _ h.s ht (by omega) (by omega),?_⟩
 rintro r rfl
 conv=>whnf
 refine kbi (fun h=>absurd h (by unfold cG;simp;omega)) (fun _=>?_)
 conv=>whnf
 try rfl
end Ai
namespace Ai
set_option maxRecDepth 100000
open Go Go.Proofs
theorem eI {K:Key→Bool} {a b:Nat}:∀ n,K (swp (.l a) (.l b) (.l n))=true→∃ n',swp (.l a) (.l b) (.l n)=.l n':=by
 intro n hn
 clear hn
 unfold swp
 cases Key.beq (.l n) (.l a) with
 |true=>exact⟨b,rfl⟩
 |false =>
  cases Key.beq (.l n) (.l b) with
  |true=>exact⟨a,rfl⟩
  |false=>exact⟨n,rfl⟩
def lendSt:Key→Bool
 | .l k=>Nat.beq k 73 || Nat.beq k 74 || Nat.beq k 75
 | .s o _=>Nat.beq o 903
 | .n _=>false
structure StAtL (s:StL) (H:Key→Option Ob):Prop where
 hH:H (.l 73)=some (.rs 158 6 (thRows 903 s.ths))
 hF:∀ j,H (.s 903 j)=zD s.ths j
 hC:H (.l 74)=some (.ds 74 1 (s.cells.map encF))
 hO:H (.l 75)=some (.ds 3 1 (s.owner.map encInt))
theorem oV (s:StL) (k:Int) (h:s.fit) (ht:zS s.ths s.ths.length≤8388608) (h0:0≤k) (h1:k≤67108864) (H0:Key→Option Ob) (hS:StAtL s H0) :
  IOCall EE 23 [.agg [.dref (.l 73) s.ths.length,.ref (.l 74) 0 s.cells.length,.ref (.l 75) 0 s.owner.length,i64 s.fault],i64 k] H0 (fun r H1=>r=i64 (cG s k)∧StAtL (jW s k) H1∧∀ κ,lendSt κ=false→H1 κ=none):=by
 have hc:=h.cells
 have ho:=h.owner
 refine xH (fn:=Tryz.f23) (c:=Tryz.f23.body.getD .skip) Tryz.func23 rfl (by kernel_rfl) rfl ?_
 have hat:At [(0,.agg [.dref (.l 73) s.ths.length,.ref (.l 74) 0 s.cells.length,.ref (.l 75) 0 s.owner.length,i64 s.fault]),(1,i64 k)] [(.l 73,.rs 158 6 (thRows 903 s.ths)),(.l 74,.ds 74 1 (s.cells.map encF)),(.l 75,.ds 3 1 (s.owner.map encInt))] [(903,zD s.ths)] ⟨fun i=>[AV.agg [.dref (.l 73) s.ths.length,.ref (.l 74) 0 s.cells.length,.ref (.l 75) 0 s.owner.length,i64 s.fault],i64 k].getD i .junk,H0⟩:=⟨⟨rfl,rfl,trivial⟩,⟨hS.hH,hS.hC,hS.hO,trivial⟩,⟨hS.hF,trivial⟩⟩
 obtain⟨τ,H,hf⟩:=hat.form
 rw[hf]
 conv=>whnf
 refine .inr (.inr (.inr (.inr ⟨_,67,[],swp (.l 73) (.l 76),Weak.refl,rfl,wY _ _,lendT,_,xB (eR s.ths k h.ths h.st ht h0 h1 _ ?_ fun j=>?_) rfl,eI,?_⟩)))
 ·show some (Ob.rs 158 6 ((((thRows 903 s.ths).map (scrPL (isK (.n 2)))).map (renL (swp (.l 73) (.l 76)))).map (scrPL (fun o=>!lendT o))))=_
  rw[zX (fun j=>rfl),zI (fun j=>rfl),zX (fun j=>rfl)]
 ·show Option.map _ (Option.map _ (Option.map _ (zD s.ths j)))=_
  rw[zG,thFam_ren,zG]
 rintro r H1 ⟨rfl,e1,e2,q⟩
 refine⟨q,fun n hn=>⟨.rs 158 6 (thRows 903 s.ths),?_,thRows 903 (wU k s.ths),?_,by simp[zT,wU]⟩,?_⟩
 ·have:n=76:=Nat.eq_of_beq_eq_true hn
  subst this
  show some (Ob.rs 158 6 (((thRows 903 s.ths).map (scrPL (isK (.n 2)))).map (renL (swp (.l 73) (.l 76)))))=_
  rw[zX (fun j=>rfl),zI (fun j=>rfl)]
 ·have:n=76:=Nat.eq_of_beq_eq_true hn
  subst this;exact e1
 generalize hT:zS s.ths s.ths.length=T at ht
 conv=>whnf
 refine .inr (.inr (.inr (.inr (.inr ⟨_,68,[],swp (.l 74) (.l 77),Weak.refl,rfl,wY _ _,isK (.l 77),_,xB (mJ (s.cells.map encF) s.cells.length (k+(T:Int)) (by simp) hc (by omega) (by omega) _ rfl) rfl,eI,?_⟩))))
 rintro r H2 ⟨rfl,e3,q3⟩
 refine⟨q3,fun n hn=>⟨.ds 74 1 (s.cells.map encF),?_,(wJ (k+(T:Int)) s.cells.length).map encF,?_,by simp[uR]⟩,?_⟩
 ·have:n=77:=Nat.eq_of_beq_eq_true hn
  subst this;rfl
 ·have:n=77:=Nat.eq_of_beq_eq_true hn
  subst this;exact e3
 conv=>whnf
 refine .inr (.inr (.inr (.inr (.inr ⟨_,22,[],swp (.l 75) (.l 77),Weak.refl,rfl,wY _ _,isK (.l 77),_,xB (gI (.l 77) (.inr rfl) s.owner (k+(T:Int)+(s.cells.length:Nat)) ho (by omega) (by omega) _ rfl) rfl,eI,?_⟩))))
 rintro r H3 ⟨rfl,e4,q4⟩
 refine⟨q4,fun n hn=>⟨.ds 3 1 (s.owner.map encInt),?_,(qJ (k+(T:Int)+(s.cells.length:Nat)) s.owner.length).map encInt,?_,by simp[wZ]⟩,?_⟩
 ·have:n=77:=Nat.eq_of_beq_eq_true hn
  subst this;rfl
 ·have:n=77:=Nat.eq_of_beq_eq_true hn
  subst this;exact e4
 conv=>whnf
 refine⟨_,Weak.refl,?_⟩
 conv=>whnf
 refine⟨lendSt,?_,⟨?_,fun j=>?_,?_,?_⟩,fun κ hκ=>pO hκ⟩
 ·show i64 (k+(T:Int)+(s.cells.length:Nat)+(s.owner.length:Nat))=i64 (cG s k)
  unfold cG
  rw[hT]
 ·show Option.map _ (Option.map _ (Option.map _ (Option.map _ (Option.map _ (Option.map _ (Option.map _ (Option.map _ (H1 (.l 76)))))))))= _
  rw[e1]
  show some (Ob.rs 158 6 (((((((((thRows 903 (wU k s.ths)).map (renL _)).map (renL _)).map (scrPL _)).map (renL _)).map (renL _)).map (scrPL _)).map (renL _)).map (scrPL _)))=some (Ob.rs 158 6 (thRows 903 (wU k s.ths)))
  rw[zI (fun j=>rfl),zI (fun j=>rfl),zX (fun j=>rfl),zI (fun j=>rfl),zI (fun j=>rfl),zX (fun j=>rfl),zI (fun j=>rfl),zX (fun j=>rfl)]
 ·show Option.map _ (Option.map _ (Option.map _ (Option.map _ (Option.map _ (Option.map _ (Option.map _ (Option.map _ (H1 (.s 903 j)))))))))= _
  rw[e2,thFam_ren,thFam_ren,zG,thFam_ren,thFam_ren,zG,thFam_ren,zG]
  rfl
 ·show Option.map _ (Option.map _ (Option.map _ (Option.map _ (Option.map _ (H2 (.l 77))))))=some (Ob.ds 74 1 ((wJ (k+(zS s.ths s.ths.length:Int)) s.cells.length).map encF))
  rw[e3,hT];rfl
 ·show Option.map _ (Option.map _ (H3 (.l 77)))=some (Ob.ds 3 1 ((qJ (k+(zS s.ths s.ths.length:Int)+(s.cells.length:Int)) s.owner.length).map encInt))
  rw[e4,hT];rfl
def sM:Key→Bool
 | .l k=>Nat.beq k 71 || Nat.beq k 72 || Nat.beq k 73 || Nat.beq k 74 || Nat.beq k 75
 | .s o _=>Nat.beq o 903
 | .n _=>false
structure RnAtL (x:RunT) (H:Key→Option Ob):Prop where
 hE:H (.l 71)=some (.ds 105 5 (x.tr.map encEv))
 hT:H (.l 72)=some (.ds 3 1 (x.tk.map encInt))
 hS:StAtL x.s H
def refL (x:RunT):List AV:=[i64 x.c,.ref (.l 71) 0 x.tr.length,.ref (.l 72) 0 x.tk.length,.dref (.l 73) x.s.ths.length,.ref (.l 74) 0 x.s.cells.length,.ref (.l 75) 0 x.s.owner.length,i64 x.s.fault]
theorem markRunK_ok (x:RunT) (k:Int) (h:x.fit) (ht:zS x.s.ths x.s.ths.length≤8388608) (h0:0≤k) (h1:k≤8388608) (H0:Key→Option Ob) (hR:RnAtL x H0) :
  IOCall EE 21 [.agg (refL x),i64 k] H0 (fun r H1=>r=i64 (bP x k)∧RnAtL (xF x k) H1∧∀ κ,sM κ=false→H1 κ=none):=by
 have he:=h.tr
 have hk:=h.tk
 refine xH (fn:=Tryz.f21) (c:=Tryz.f21.body.getD .skip) Tryz.func21 rfl (by kernel_rfl) rfl ?_
 have hat:At [(0,.agg (refL x)),(1,i64 k)] [(.l 71,.ds 105 5 (x.tr.map encEv)),(.l 72,.ds 3 1 (x.tk.map encInt)),(.l 73,.rs 158 6 (thRows 903 x.s.ths)),(.l 74,.ds 74 1 (x.s.cells.map encF)),(.l 75,.ds 3 1 (x.s.owner.map encInt))] [(903,zD x.s.ths)] ⟨fun i=>[AV.agg (refL x),i64 k].getD i .junk,H0⟩:=⟨⟨rfl,rfl,trivial⟩,⟨hR.hE,hR.hT,hR.hS.hH,hR.hS.hC,hR.hS.hO,trivial⟩,⟨hR.hS.hF,trivial⟩⟩
 obtain⟨τ,H,hf⟩:=hat.form
 rw[hf]
 conv=>whnf
 refine .inr (.inr (.inr (.inr (.inr ⟨_,66,[],swp (.l 71) (.l 77),Weak.refl,rfl,wY _ _,isK (.l 77),_,xB (oX (x.tr.map encEv) x.tr.length k (by simp) (fun c hc=>by obtain⟨e,_,rfl⟩:=List.mem_map.1 hc;rfl) he h0 (by omega) _ rfl) rfl,eI,?_⟩))))
 rintro r H1 ⟨rfl,e1,q1⟩
 refine⟨q1,fun n hn=>⟨.ds 105 5 (x.tr.map encEv),?_,(uH k x.tr.length).map encEv,?_,by simp[fY]⟩,?_⟩
 ·have:n=77:=Nat.eq_of_beq_eq_true hn
  subst this;rfl
 ·have:n=77:=Nat.eq_of_beq_eq_true hn
  subst this;exact e1
 conv=>whnf
 refine .inr (.inr (.inr (.inr (.inr ⟨_,22,[],swp (.l 72) (.l 77),Weak.refl,rfl,wY _ _,isK (.l 77),_,xB (gI (.l 77) (.inr rfl) x.tk (k+5*(x.tr.length:Int)) hk (by omega) (by omega) _ rfl) rfl,eI,?_⟩))))
 rintro r H2 ⟨rfl,e2,q2⟩
 refine⟨q2,fun n hn=>⟨.ds 3 1 (x.tk.map encInt),?_,(qJ (k+5*(x.tr.length:Int)) x.tk.length).map encInt,?_,by simp[wZ]⟩,?_⟩
 ·have:n=77:=Nat.eq_of_beq_eq_true hn
  subst this;rfl
 ·have:n=77:=Nat.eq_of_beq_eq_true hn
  subst this;exact e2
 conv=>whnf
 refine .inr (.inr (.inr (.inr ⟨_,23,[],fun κ=>κ,Weak.refl,rfl,fun _=>rfl,lendSt,_,xB (oV x.s (k+5*(x.tr.length:Int)+(x.tk.length:Int)) h.s ht (by omega) (by omega) _ ⟨?_,fun j=>?_,?_,?_⟩) ?_,fun n _=>⟨n,rfl⟩,?_⟩)))
 ·show some (Ob.rs 158 6 ((((((((((thRows 903 x.s.ths).map (scrPL _)).map (renL _)).map (scrPL _)).map (renL _)).map (renL _)).map (scrPL _)).map (renL _)).map (renL _)).map (scrPL _)))=_
  rw[zX (fun j=>rfl),zI (fun j=>rfl),zX (fun j=>rfl),zI (fun j=>rfl),zI (fun j=>rfl),zX (fun j=>rfl),zI (fun j=>rfl),zI (fun j=>rfl),zX (fun j=>rfl)]
 ·show Option.map _ (Option.map _ (Option.map _ (Option.map _ (Option.map _ (Option.map _ (Option.map _ (Option.map _ (Option.map _ (zD x.s.ths j)))))))))=_
  rw[zG,thFam_ren,zG,thFam_ren,thFam_ren,zG,thFam_ren,thFam_ren,zG]
 ·rfl
 ·rfl
 ·rfl
 rintro r H3 ⟨rfl,e3,q3⟩
 refine⟨q3,fun n hn=>?_,?_⟩
 ·have hn:(Nat.beq n 73 || Nat.beq n 74 || Nat.beq n 75)=true:=hn
  simp only[Bool.or_eq_true] at hn
  rcases hn with (hn|hn)|hn
  ·have:=Nat.eq_of_beq_eq_true hn
   subst this
   refine⟨.rs 158 6 (thRows 903 x.s.ths),?_,thRows 903 (jW x.s (k+5*(x.tr.length:Int)+(x.tk.length:Int))).ths,e3.hH,by simp[zT,jW,wU]⟩
   show some (Ob.rs 158 6 (((((((((thRows 903 x.s.ths).map (scrPL _)).map (renL _)).map (scrPL _)).map (renL _)).map (renL _)).map (scrPL _)).map (renL _)).map (renL _)))=_
   rw[zX (fun j=>rfl),zI (fun j=>rfl),zX (fun j=>rfl),zI (fun j=>rfl),zI (fun j=>rfl),zX (fun j=>rfl),zI (fun j=>rfl),zI (fun j=>rfl)]
  ·have:=Nat.eq_of_beq_eq_true hn
   subst this
   exact⟨.ds 74 1 (x.s.cells.map encF),rfl,_,e3.hC,by simp[jW,uR]⟩
  ·have:=Nat.eq_of_beq_eq_true hn
   subst this
   exact⟨.ds 3 1 (x.s.owner.map encInt),rfl,_,e3.hO,by simp[jW,wZ]⟩
 conv=>whnf
 refine⟨_,Weak.refl,?_⟩
 conv=>whnf
 refine⟨sM,rfl,⟨?_,?_,⟨?_,fun j=>?_,?_,?_⟩⟩,fun κ hκ=>pO hκ⟩
 ·show Option.map _ (Option.map _ (Option.map _ (Option.map _ (Option.map _ (Option.map _ (Option.map _ (Option.map _ (H1 (.l 77)))))))))=_
  rw[e1];rfl
 ·show Option.map _ (Option.map _ (Option.map _ (Option.map _ (Option.map _ (H2 (.l 77))))))=_
  rw[e2];rfl
 ·show Option.map _ (Option.map _ (H3 (.l 73)))=_
  rw[e3.hH]
  show some (Ob.rs 158 6 (((thRows 903 (jW x.s (k+5*(x.tr.length:Int)+(x.tk.length:Int))).ths).map (renL _)).map (scrPL _)))=_
  rw[zI (fun j=>rfl),zX (fun j=>rfl)]
  rfl
 ·show Option.map _ (Option.map _ (H3 (.s 903 j)))=_
  rw[e3.hF,thFam_ren,zG]
  rfl
 ·show Option.map _ (Option.map _ (H3 (.l 74)))=_
  rw[e3.hC];rfl
 ·show Option.map _ (Option.map _ (H3 (.l 75)))=_
  rw[e3.hO];rfl
end Ai
