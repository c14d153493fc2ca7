import Derived.Test.YtdnffjbcmimnnaaGreatZE
set_option maxHeartbeats 8000000
set_option linter.unusedVariables false
set_option linter.unusedSimpArgs false
namespace Ai
set_option maxRecDepth 100000
open Go Go.Proofs
theorem eqCall_ok (x:CallL):CallsTo EE 94 [agg (wO x),agg (wO x)] (·=bv true):=by
 refine callsTo_of_AW (fn:=Tryz.f94) Tryz.func94 rfl (by kernel_rfl) rfl ?_
 conv=>whnf
 iterate 3
  refine⟨fun h=>(yI _ h).elim,fun _=>?_⟩
  conv=>whnf
 refine kbi (fun h=>absurd h (by simp)) (fun _=>?_)
 conv=>whnf
 refine⟨_,gX x.v,?_⟩
 rintro r rfl
 conv=>whnf
theorem lV (xs:List CallL) (hx:xs.length≤1048576):CallsTo EE 42 [sl (xs.map wO),sl (xs.map wO)] (·=bv true):=by
 refine callsTo_of_AW (fn:=Tryz.f42) Tryz.func42 rfl (by kernel_rfl) rfl ?_
 conv=>whnf
 refine⟨fun h=>(yI _ h).elim,fun _=>?_⟩
 conv=>whnf
 refine yZ (fun k:Nat=>[(0,sl (xs.map wO)),(1,sl (xs.map wO)),(5,i64 k)]) (fun k=>[]) (fun k=>xs.length - k) (fun k=>k≤xs.length) 0 .refl ⟨rfl,rfl,rfl,trivial⟩ trivial (Nat.zero_le _) ?_
 intro k τ H hk
 conv=>whnf
 refine⟨fun h=>?_,fun h=>?_⟩
 ·have hlt:=yR h
  conv=>whnf
  refine⟨by kernel_rfl,?_⟩
  conv=>whnf
  refine⟨wO xs[k],zN wO hlt rfl,?_⟩
  conv=>whnf
  refine⟨wO xs[k],zN wO hlt rfl,?_⟩
  conv=>whnf
  refine⟨_,eqCall_ok xs[k],?_⟩
  conv=>whnf
  refine⟨k+1,by omega,by show xs.length - (k+1)<xs.length - k;omega,⟨rfl,rfl,zH hlt (by omega),trivial⟩,trivial⟩
 ·conv=>whnf
theorem near_ne (n:Int):fcmp .neq (FloatKind.f64.nearest n) (FloatKind.f64.nearest n)=false:=by
 rw[sZ,eql_refl (x:=FloatKind.f64.nearest n) (qX (.number (n<0) n.natAbs 0) rfl)];rfl
def jS (k:Int) (j:Nat):List D:=[di (k+5*(j:Int)),di (k+5*(j:Int)+1),di (k+5*(j:Int)+2),.bool (Int.tmod (k+5*(j:Int)+3) 3==0),.flt (FloatKind.f64.nearest (k+5*(j:Int)+4))]
def uL (k:Int) (n:Nat):List (List D):=(List.range n).map (jS k)
theorem v9 (k:Int) (n:Nat) (hx:n≤1048576) (h0:0≤k) (h1:k≤1073741824):CallsTo EE 44 [sl (uL k n),i64 k] (·=i64 (k+5*(n:Int))):=by
 refine callsTo_of_AW (fn:=Tryz.f44) Tryz.func44 rfl (by kernel_rfl) rfl ?_
 conv=>whnf
 refine yZ (fun j:Nat=>[(0,sl (uL k n)),(1,i64 (k+5*(j:Int))),(5,i64 j)]) (fun j=>[]) (fun j=>n - j) (fun j=>j≤n) 0
  Weak.refl ⟨rfl,?_,rfl,trivial⟩ trivial (Nat.zero_le _) ?_
 ·show i64 k=i64 (k+5*((0:Nat):Int))
  rw[show k+5*((0:Nat):Int)=k by omega]
 intro j τ H hj
 have hj:j≤n:=hj
 conv=>whnf
 refine kbi (fun h=>?_) (fun h=>?_)
 ·have hlt:j<n:=by simpa[uL] using h
  have hgt:(uL k n)[(j:Int).toNat]?=some (jS k j):=by simp[uL,hlt]
  have w1:IntKind.i64.wrap (k+5*(j:Int)+1)=k+5*(j:Int)+1:=zG (by omega) (by omega)
  have w2:IntKind.i64.wrap (k+5*(j:Int)+1+1)=k+5*(j:Int)+2:=by rw[zG (by omega) (by omega)];omega
  have w3:IntKind.i64.wrap (k+5*(j:Int)+2+1)=k+5*(j:Int)+3:=by rw[zG (by omega) (by omega)];omega
  have w4:IntKind.i64.wrap (k+5*(j:Int)+3+1)=k+5*(j:Int)+4:=by rw[zG (by omega) (by omega)];omega
  have w5:IntKind.i64.wrap (k+5*(j:Int)+4+1)=k+5*(j:Int)+5:=by rw[zG (by omega) (by omega)];omega
  conv=>whnf
  refine⟨jS k j,⟨by omega,hgt,rfl⟩,?_⟩
  conv=>whnf
  refine kbi (fun h=>absurd h (by simp)) (fun _=>?_)
  conv=>whnf
  refine⟨jS k j,⟨by omega,hgt,rfl⟩,?_⟩
  conv=>whnf
  rw[w1]
  refine kbi (fun h=>absurd h (by simp)) (fun _=>?_)
  conv=>whnf
  refine⟨jS k j,⟨by omega,hgt,rfl⟩,?_⟩
  conv=>whnf
  rw[w2]
  refine kbi (fun h=>absurd h (by simp)) (fun _=>?_)
  conv=>whnf
  refine⟨jS k j,⟨by omega,hgt,rfl⟩,?_⟩
  conv=>whnf
  rw[w3]
  refine⟨by decide,?_⟩
  conv=>whnf
  refine kbi (fun h9=>?_) (fun h9=>?_)
  all_goals
   conv=>whnf
   refine kbi (fun g=>absurd g (by simp[h9])) (fun _=>?_)
   conv=>whnf
   rw[w4]
   refine⟨jS k j,⟨by omega,hgt,rfl⟩,?_⟩
   conv=>whnf
   refine kbi (fun g=>absurd g (by rw[near_ne];simp)) (fun _=>?_)
   conv=>whnf
   rw[w5]
   refine⟨j+1,by show j+1≤n;omega,by show n - (j+1)<n - j;omega,⟨rfl,?_,?_,trivial⟩,trivial⟩
   ·show i64 (k+5*(j:Int)+5)=i64 (k+5*((j+1:Nat):Int))
    exact congrArg i64 (by omega)
   ·show AV.d (.int .i64 (IntKind.i64.wrap ((j:Int)+1)))=i64 ((j+1:Nat):Int)
    rw[zG (by omega) (by omega)]
    rfl
 ·have hkk:j=n:=by
   have:¬ j<n:=by simpa[uL] using h
   omega
  subst hkk
  conv=>whnf
theorem setEl_m {els:List (List D)} {k off:Nat} {x:D}:xF els 5 k off [x]=els.modify k fun c=>yE c off [x]:=by
 unfold xF
 rw[show Nat.beq ([x]:List D).length 5=false from rfl,Bool.and_false]
 rfl
theorem set5 {E:List (List D)} {i:Nat} {v0 v1 v2 v3 v4:D} (h:i<E.length) (h5:∀ c∈E,c.length=5) :
  xF (xF (xF (xF (xF E 5 (0+(i:Int).toNat) (0+0) [v0]) 5 (0+(i:Int).toNat) (0+1) [v1]) 5 (0+(i:Int).toNat) (0+2) [v2]) 5 (0+(i:Int).toNat) (0+3) [v3]) 5 (0+(i:Int).toNat) (0+4) [v4]=E.set i [v0,v1,v2,v3,v4]:=by
 rw[Int.toNat_natCast,Nat.zero_add]
 simp only[setEl_m]
 apply List.ext_getElem?
 intro j
 simp only[List.getElem?_modify,List.getElem?_set]
 by_cases hj:i=j
 ·subst hj
  have hl:=h5 _ (List.getElem_mem h)
  rw[List.getElem?_eq_getElem h]
  generalize E[i]=c at hl
  match c,hl with
  | [a0,a1,a2,a3,a4],_=>simp[h];rfl
 ·simp[hj]
def uI (els:List (List D)) (k:Int) (n:Nat):List (List D):=uL k n++els.drop n
theorem kB (k:Int) (n:Nat):(uL k n).length=n:=by simp[uL]
theorem w6 {els:List (List D)} {k:Int} {n:Nat} (h:n<els.length):(uI els k n).set n (jS k n)=uI els k (n+1):=by
 unfold uI
 rw[List.drop_eq_getElem_cons h,List.set_append_right _ _ (by rw[kB];omega),kB,Nat.sub_self,List.set_cons_zero]
 unfold uL
 rw[List.range_succ,List.map_append]
 simp
theorem s6 {els:List (List D)} {k:Int} {n:Nat} (h:n≤els.length):(uI els k n).length=els.length:=by simp[uI,kB];omega
theorem markToC_5 {els:List (List D)} {k:Int} {n:Nat} (h5:∀ c∈els,c.length=5):∀ c∈uI els k n,c.length=5:=by
 intro c hc
 rcases List.mem_append.1 hc with h|h
 ·obtain⟨j,_,rfl⟩:=List.mem_map.1 h;rfl
 ·exact h5 c (List.mem_of_mem_drop h)
theorem w8 (els:List (List D)) (n:Nat) (k:Int) (hn:n=els.length) (h5:∀ c∈els,c.length=5) (hx:n≤1048576) (h0:0≤k) (h1:k≤1073741824) (H0:Key→Option Ob) (hH:H0 (.l 77)=some (.ds 134 5 els)) :
  IOCall EE 43 [.ref (.l 77) 0 n,i64 k] H0 (fun r H1=>r=i64 (k+5*(n:Int))∧H1 (.l 77)=some (.ds 134 5 (uL k n))∧∀ κ',isK (.l 77) κ'=false→H1 κ'=none):=by
 refine xR (fn:=Tryz.f43) (c:=Tryz.f43.body.getD .skip) Tryz.func43 rfl (by kernel_rfl) rfl ?_
 have hat:At [(0,.ref (.l 77) 0 n),(1,i64 k)] [(.l 77,.ds 134 5 els)] [] ⟨fun i=>[AV.ref (.l 77) 0 n,i64 k].getD i .junk,H0⟩:=⟨⟨rfl,rfl,trivial⟩,⟨hH,trivial⟩,trivial⟩
 obtain⟨τ,H,hf⟩:=hat.form
 rw[hf]
 conv=>whnf
 refine yZ (fun i:Nat=>[(0,.ref (.l 77) 0 n),(1,i64 (k+5*(i:Int))),(5,i64 i)]) (fun i=>[(.l 77,.ds 134 5 (uI els k i))]) (fun i=>n - i) (fun i=>i≤n) 0
  Weak.refl ⟨rfl,?_,rfl,trivial⟩ ⟨?_,trivial⟩ (Nat.zero_le _) ?_
 ·show i64 k=i64 (k+5*((0:Nat):Int))
  rw[show k+5*((0:Nat):Int)=k by omega]
 ·show some (Ob.ds 134 5 els)=some (Ob.ds 134 5 (uI els k 0))
  simp[uI,uL]
 intro i τ H hi
 have hi:i≤n:=hi
 conv=>whnf
 refine kbi (fun h=>?_) (fun h=>?_)
 ·have hlt:i<n:=by simpa using h
  have w1:IntKind.i64.wrap (k+5*(i:Int)+1)=k+5*(i:Int)+1:=zG (by omega) (by omega)
  have w2:IntKind.i64.wrap (k+5*(i:Int)+1+1)=k+5*(i:Int)+2:=by rw[zG (by omega) (by omega)];omega
  have w3:IntKind.i64.wrap (k+5*(i:Int)+2+1)=k+5*(i:Int)+3:=by rw[zG (by omega) (by omega)];omega
  have w4:IntKind.i64.wrap (k+5*(i:Int)+3+1)=k+5*(i:Int)+4:=by rw[zG (by omega) (by omega)];omega
  have w5:IntKind.i64.wrap (k+5*(i:Int)+4+1)=k+5*(i:Int)+5:=by rw[zG (by omega) (by omega)];omega
  conv=>whnf
  iterate 3
   refine⟨⟨by show 0≤(i:Int);omega,by show(i:Int)<n;omega⟩,?_⟩
   conv=>whnf
  rw[w1,w2,w3]
  refine⟨by decide,?_⟩
  conv=>whnf
  have hE:=s6 (els:=els) (k:=k) (n:=i) (by omega)
  have hset:=set5 (E:=uI els k i) (i:=i) (v0:=di (k+5*(i:Int))) (v1:=di (k+5*(i:Int)+1)) (v2:=di (k+5*(i:Int)+2)) (v3:=.bool (Int.tmod (k+5*(i:Int)+3) 3==0)) (v4:=.flt (FloatKind.f64.nearest (k+5*(i:Int)+4))) (by omega) (markToC_5 h5)
  rw[show[di (k+5*(i:Int)),di (k+5*(i:Int)+1),di (k+5*(i:Int)+2),.bool (Int.tmod (k+5*(i:Int)+3) 3==0),.flt (FloatKind.f64.nearest (k+5*(i:Int)+4))]=jS k i from rfl,w6 (by omega)] at hset
  refine kbi (fun h9=>?_) (fun h9=>?_)
  all_goals
   first|rw[h9] at hset|rw[Bool.eq_false_iff.2 h9] at hset
   conv=>whnf
   refine⟨⟨by show 0≤(i:Int);omega,by show(i:Int)<n;omega⟩,?_⟩
   conv=>whnf
   rw[w4]
   refine⟨⟨by show 0≤(i:Int);omega,by show(i:Int)<n;omega⟩,?_⟩
   conv=>whnf
   rw[w5]
   refine⟨i+1,by show i+1≤n;omega,by show n - (i+1)<n - i;omega,⟨rfl,?_,?_,trivial⟩,⟨?_,trivial⟩⟩
   ·show i64 (k+5*(i:Int)+5)=i64 (k+5*((i+1:Nat):Int))
    exact congrArg i64 (by omega)
   ·show AV.d (.int .i64 (IntKind.i64.wrap ((i:Int)+1)))=i64 ((i+1:Nat):Int)
    rw[zG (by omega) (by omega)]
    rfl
   ·exact congrArg (fun x=>some (Ob.ds 134 5 x)) hset
 ·conv=>whnf
  have hkk:i=n:=by
   have:¬ i<n:=by simpa using h
   omega
  subst hkk
  refine⟨_,Weak.refl,?_⟩
  conv=>whnf
  refine⟨isK (.l 77),rfl,?_,fun κ hκ=>?_⟩
  ·show some (Ob.ds 134 5 (uI els k i))=_
   unfold uI
   rw[hn,List.drop_length,List.append_nil]
  ·unfold yW
   rw[hκ];rfl
end Ai
namespace Ai
set_option maxRecDepth 100000
open Go Go.Proofs Cyc
def hwL (x:RunT) (c:Int) (R:List CallL) (b:AV):List (Nat × AV):=[(2,i64 c),(3,.ptr (.n 3) 0),(4,.ptr (.n 4) 0),(8,sl (R.map wO)),(9,b),(10,.ptr (.n 10) 0)]
def hwO (p:ProgL) (x:RunT):List (Key × Ob):=[(.n 3,.vs 24 ((encProg p).map .d)),(.n 4,.vs 47 ((encRT x).map .d)),(.n 10,.vs 31 [i64 p.cells,i64 p.locks,i64 p.conds,.dref (.n 963) p.rs.length]),(.n 963,.rs 157 1 (mI (zX p)))]
def hwF (p:ProgL):List (Nat × (Nat→Option Ob)):=[(963,qH (zX p) 0),(903,fun _=>none)]
def hwL1 (x:RunT) (c:Int) (R:List CallL) (b:AV):List (Nat × AV):=[(2,i64 c),(3,.ptr (.n 3) 0),(4,.ptr (.n 4) 0),(8,sl (R.map wO)),(9,b),(10,.ptr (.n 10) 0),(11,.ptr (.n 11) 0)]
def hwO1 (p:ProgL) (x:RunT):List (Key × Ob):=[(.n 3,.vs 24 ((encProg p).map .d)),(.n 4,.vs 47 ((encRT x).map .d)),(.n 10,.vs 31 [i64 p.cells,i64 p.locks,i64 p.conds,.dref (.n 903) p.rs.length]),(.n 903,.rs 157 1 (wK (zX p) 0)),
 (.n 11,.vs 56 (refR 963 x)),(.n 901,.ds 128 5 (x.tr.map encEv)),(.n 902,.ds 3 1 (x.tk.map encInt)),(.n 963,.rs 175 6 (thRows 963 x.s.ths)),(.n 904,.ds 132 1 (x.s.cells.map encF)),(.n 905,.ds 3 1 (x.s.owner.map encInt))]
def hwF1 (p:ProgL) (x:RunT):List (Nat × (Nat→Option Ob)):=[(903,qH (zX p) 0),(963,zK x.s.ths)]
theorem lawHist1 (p:ProgL) (hp:p.wf) (hv:p.flt) (hc:p.cn) (x:RunT) (hx:x.wf) (hf:x.s.cf) (c:Int)
  (hL:SmX p x→∀ S,At (hwL1 x c (vD p x c).1 (bv (vD p x c).2)) (hwO1 p x) (hwF1 p x) S→AW EE Tryz.f8.ntmps (dropC 9 (Tryz.f8.body.getD .skip)) (eD EE Tryz.f8 (·=bv true)) S) :
  CallsTo EE 8 [agg (encProg p),agg (encRT x),i64 c] (·=bv true):=by
 refine aL (fn:=Tryz.f8) (c:=Tryz.f8.body.getD .skip) Tryz.func8 rfl (by kernel_rfl) rfl ?_
 refine snd_cut 8 (fun S=>SmX p x∧At (hwL x c (vD p x c).1 (bv (vD p x c).2)) (hwO p x) (hwF p) S) (fun K hK=>?_) (fun S hS=>?_)
 ·conv=>whnf
  refine⟨_,szProg_ok p 1048576 (by omega) (by omega) hp,?_⟩
  rintro r ⟨n,rfl,hn1,hn2,hn3⟩
  conv=>whnf
  refine kbi (fun _=>?_) (fun h=>?_)
  ·conv=>whnf
   try rfl
  have h0:0≤n:=by simp at h;omega
  have hsz:p.size≤1048576:=by have:=hn3 h0;omega
  have hs:=size_le List.length p.rs 1048576 hsz
  conv=>whnf
  refine⟨_,szRun_ok x n h0 (by omega) hx,?_⟩
  rintro r ⟨n2,rfl,hm1,hm2,hm3⟩
  conv=>whnf
  refine kbi (fun _=>?_) (fun h=>?_)
  ·conv=>whnf
   try rfl
  have hxs:x.size≤1048576:=by
   have h:¬ n2<0:=fun e=>h (decide_eq_true e)
   have:=hm3 (by omega)
   omega
  have hft:=fit_of hxs
  have cS:=HistS_ok p hp hs hv hc x hft hf c
  conv=>whnf
  refine .inr (.inl ⟨11,[],?_⟩)
  conv=>whnf
  refine⟨_,nW p hs,?_⟩
  conv=>whnf
  refine⟨_,tH x hft,?_⟩
  conv=>whnf
  refine⟨_,cS,?_⟩
  conv=>whnf
  refine⟨by kernel_rfl,?_⟩
  conv=>whnf
  refine⟨_,toProg_own p hs,?_⟩
  rintro r rfl
  conv=>whnf
  refine hK _ _ (gV shZ) ⟨⟨hs,hsz,hft,totT_size (by unfold RunT.size at hxs;omega)⟩,⟨rfl,rfl,rfl,rfl,rfl,rfl,trivial⟩,⟨?_,?_,?_,?_,trivial⟩,⟨fun j=>?_,fun j=>rfl,trivial⟩⟩
  ·rfl
  ·rfl
  ·show some (Ob.vs 31 [i64 p.cells,i64 p.locks,i64 p.conds,.dref (.n 963) (p.rs.map fun _=>[D.nil]).length])=_
   rw[List.length_map]
  ·show some (Ob.rs 157 1 (((ownRows 903 0 (p.rs.map fun _=>[.nil]) (zX p)).map (scrPL (isK (.n 10)))).map (renL shZ.f)))=_
   rw[ownRows_M,qN _ (fun j=>rfl),rowsM_Z]
  ·show Option.map _ (Option.map _ (match ownH (r4 p) (.s 903 j) with|some ob=>some ob|none=>_))=_
   rw[ownPg_fam]
   cases hq:qH (zX p) 0 j with
   |none=>rfl
   |some ob =>
    show Option.map _ (Option.map _ (some ob))=some ob
    rw[← hq,qF,qG]
 refine snd_cut 1 (fun S=>SmX p x∧At (hwL1 x c (vD p x c).1 (bv (vD p x c).2)) (hwO1 p x) (hwF1 p x) S) (fun K hK=>?_) (fun S hS=>iC (hL hS.1 S hS.2))
 obtain⟨hSm,hat⟩:=hS
 obtain⟨τ,H,rfl⟩:=hat.form
 clear hat
 conv=>whnf
 refine⟨_,toRun_own x hSm.hx,?_⟩
 rintro r rfl
 conv=>whnf
 refine hK _ _ (gV shZ) ⟨hSm,⟨rfl,rfl,rfl,rfl,rfl,rfl,rfl,trivial⟩,⟨?_,?_,?_,?_,?_,?_,?_,?_,?_,?_,trivial⟩,⟨fun j=>?_,fun j=>?_,trivial⟩⟩
 ·rfl
 ·rfl
 ·rfl
 ·show some (Ob.rs 157 1 ((((mI (zX p)).map (scrPL fun κ=>(ownH (iN x) κ).isSome)).map (scrPL (isK (.n 11)))).map (renL shZ.f)))=_
  rw[iF _ (fun j=>rfl),iF _ (fun j=>rfl),rowsZ_M]
 ·show some (Ob.vs 56 [i64 x.c,.ref (.n 901) 0 (x.tr.map encEv).length,.ref (.n 902) 0 (x.tk.map encInt).length,.dref (.n 963) (x.s.ths.map vR).length,.ref (.n 904) 0 (x.s.cells.map encF).length,.ref (.n 905) 0 (x.s.owner.map encInt).length,i64 x.s.fault])=_
  simp only[List.length_map]
  rfl
 ·rfl
 ·rfl
 ·show some (Ob.rs 175 6 (((thRows 903 x.s.ths).map (scrPL (isK (.n 11)))).map (renL shZ.f)))=_
  rw[vA (fun j=>rfl),show(thRows 903 x.s.ths).map (renL shZ.f)=thRows 963 x.s.ths from gA (g:=numZ) (hg:=pM) 903 x.s.ths]
 ·rfl
 ·rfl
 ·show Option.map _ (Option.map _ (Option.map _ (qH (zX p) 0 j)))=_
  rw[qF,qF,qG]
 ·have e:ownH (iN x) (.s 903 j)=zK x.s.ths j:=by
   show((x.s.ths.map stk)[j]?).map (Ob.ds 132 1)=_
   unfold zK
   rw[List.getElem?_map,Option.map_map]
   rfl
  show Option.map _ (Option.map _ (match ownH (iN x) (.s 903 j) with|some ob=>some ob|none=>_))=_
  rw[e]
  cases hq:zK x.s.ths j with
  |none =>
   rfl
  |some ob =>
   show Option.map _ (Option.map _ (some ob))=some ob
   rw[← hq,zQ,thFam_ren]
def hwL2 (x:RunT) (c:Int) (R:List CallL) (b:AV):List (Nat × AV):=[(2,i64 c),(3,.ptr (.n 3) 0),(4,.ptr (.n 4) 0),(8,sl (R.map wO)),(9,b),(10,.ptr (.n 10) 0),(11,.ptr (.n 11) 0),(12,.ref (.n 900) 0 R.length),(13,b)]
def hwO2 (p:ProgL) (x:RunT) (R:List CallL):List (Key × Ob):=[(.n 3,.vs 24 ((encProg p).map .d)),(.n 4,.vs 47 ((encRT x).map .d)),(.n 10,.vs 31 [i64 p.cells,i64 p.locks,i64 p.conds,.dref (.n 903) p.rs.length]),(.n 903,.rs 157 1 (wK (zX p) 0)),
 (.n 11,.vs 56 (refR 963 x)),(.n 901,.ds 128 5 (x.tr.map encEv)),(.n 902,.ds 3 1 (x.tk.map encInt)),(.n 963,.rs 175 6 (thRows 963 x.s.ths)),(.n 904,.ds 132 1 (x.s.cells.map encF)),(.n 905,.ds 3 1 (x.s.owner.map encInt)),(.n 900,.ds 134 5 (R.map wO))]
theorem lawHist2 (p:ProgL) (hp:p.wf) (hv:p.flt) (hc:p.cn) (x:RunT) (hf:x.s.cf) (c:Int) (h:SmX p x) (hR:(vD p x c).1.length≤1048576)
  (hL:∀ S,At (hwL2 x c (vD p x c).1 (bv (vD p x c).2)) (hwO2 p x (vD p x c).1) (hwF1 p x) S→AW EE Tryz.f8.ntmps (dropC 13 (Tryz.f8.body.getD .skip)) (eD EE Tryz.f8 (·=bv true)) S)
  {S:St} (hS:At (hwL1 x c (vD p x c).1 (bv (vD p x c).2)) (hwO1 p x) (hwF1 p x) S):AW EE Tryz.f8.ntmps (dropC 9 (Tryz.f8.body.getD .skip)) (eD EE Tryz.f8 (·=bv true)) S:=by
 have cI:=HistI_ok p hp h.hs hv hc x h.hx hf c
 generalize vD p x c=X at cI hR hL hS
 obtain⟨R,b⟩:=X
 have hR:R.length≤1048576:=hR
 refine fR 4 (At (hwL2 x c R (bv b)) (hwO2 p x R) (hwF1 p x)) (fun K hK=>?_) hL
 obtain⟨τ,H,rfl⟩:=hS.form
 clear hS hL
 conv=>whnf
 refine .inl ⟨[agg (encProg p),agg (encRT x),i64 c],[],_,⟨_,_,rfl,⟨_,rfl,fz_own rfl (fun j=>rfl) rfl⟩,_,_,rfl,⟨_,rfl,fz_ownR (o:=963) rfl rfl rfl (fun j=>rfl) rfl rfl⟩,_,_,rfl,rfl,rfl⟩,rfl,cI,?_⟩
 rintro r rfl
 refine⟨fun c hc=>?_,?_⟩
 ·simp only[List.mem_cons,List.not_mem_nil,or_false] at hc
  rcases hc with rfl|rfl
  ·intro c hc
   obtain⟨y,_,rfl⟩:=List.mem_map.1 hc;rfl
  ·rfl
 have heq:CallsTo EE 42 [sl (((R.map wO).drop 0).take (R.map wO).length),sl (R.map wO)] (·=bv true):=by
  rw[List.drop_zero,List.take_length]
  exact lV R hR
 conv=>whnf
 refine .inl ⟨_,heq,?_⟩
 rintro r rfl
 refine⟨rfl,?_⟩
 conv=>whnf
 refine kbi (fun h=>absurd h (by simp)) (fun _=>?_)
 conv=>whnf
 refine⟨by kernel_rfl,?_⟩
 conv=>whnf
 refine⟨_,nW p h.hs,?_⟩
 conv=>whnf
 refine⟨[agg (encProg p),agg (encProg p)],[],bv true,⟨_,_,rfl,⟨_,rfl,fz_own ?_ (fun j=>?_) rfl⟩,_,_,rfl,q6 p,rfl⟩,rfl,eqProg_ok p h.hs,rfl,?_⟩
 ·show some (Ob.rs 157 1 ((wK (zX p) 0).map (scrPL _)))=_
  rw[qN _ fun j=>rfl]
 ·show Option.map _ (qH (zX p) 0 j)=_
  exact qF _ _ _ _
 conv=>whnf
 refine⟨by kernel_rfl,?_⟩
 conv=>whnf
 refine⟨_,tH x h.hx,?_⟩
 conv=>whnf
 refine⟨[agg (encRT x),agg (encRT x)],[],bv true,⟨_,_,rfl,⟨_,rfl,fz_ownR (o:=963) rfl rfl ?_ (fun j=>?_) rfl rfl⟩,_,_,rfl,fz_runV x,rfl⟩,rfl,eqRun_ok x h.hx,rfl,?_⟩
 ·show some (Ob.rs 175 6 ((thRows 963 x.s.ths).map (scrPL _)))=_
  rw[zV fun _ _=>rfl]
 ·show Option.map _ (zK x.s.ths j)=_
  exact zQ _ _ _
 conv=>whnf
 refine hK _ ⟨⟨rfl,rfl,rfl,rfl,rfl,rfl,rfl,?_,rfl,trivial⟩,⟨rfl,rfl,rfl,?_,rfl,rfl,rfl,?_,rfl,rfl,rfl,trivial⟩,⟨fun j=>?_,fun j=>?_,trivial⟩⟩
 ·show AV.ref (.n 900) 0 (R.map wO).length=_
  rw[List.length_map]
 ·show some (Ob.rs 157 1 ((wK (zX p) 0).map (scrPL _)))=_
  rw[qN _ fun j=>rfl]
 ·show some (Ob.rs 175 6 ((thRows 963 x.s.ths).map (scrPL _)))=_
  rw[zV fun _ _=>rfl]
 ·show Option.map _ (qH (zX p) 0 j)=_
  exact qF _ _ _ _
 ·show Option.map _ (zK x.s.ths j)=_
  exact zQ _ _ _
def hwL3 (c:Int) (R:List CallL) (b:AV) (k:Int):List (Nat × AV):=[(2,i64 c),(3,.ptr (.n 3) 0),(4,.ptr (.n 4) 0),(8,sl (R.map wO)),(9,b),(12,.ref (.n 43) 0 R.length),(13,b),(14,i64 k)]
def hwO3 (p:ProgL) (x:RunT) (R:List CallL):List (Key × Ob):=[(.n 3,.vs 24 ((encProg p).map .d)),(.n 4,.vs 47 ((encRT x).map .d)),(.n 43,.ds 134 5 (R.map wO))]
theorem lawHist3 (p:ProgL) (x:RunT) (c:Int) (h:SmX p x) (R:List CallL) (b:Bool)
  (hL:∀ S,(∃ k:Int,0≤k∧At (hwL3 c R (bv b) k) (hwO3 p x R) [] S)→AW EE Tryz.f8.ntmps (dropC 16 (Tryz.f8.body.getD .skip)) (eD EE Tryz.f8 (·=bv true)) S)
  {S:St} (hS:At (hwL2 x c R (bv b)) (hwO2 p x R) (hwF1 p x) S):AW EE Tryz.f8.ntmps (dropC 13 (Tryz.f8.body.getD .skip)) (eD EE Tryz.f8 (·=bv true)) S:=by
 refine fR 3 (fun S=>∃ k:Int,0≤k∧At (hwL3 c R (bv b) k) (hwO3 p x R) [] S) (fun K hK=>?_) hL
 obtain⟨τ,H,rfl⟩:=hS.form
 clear hS hL
 have hsl:(zX p).length=p.rs.length:=by simp[zX]
 have ht:=tot_size h.hz
 conv=>whnf
 refine .inr (.inr (.inl ⟨_,17,[],wD 900 43,rfl,999,0,cM,(fun r H1=>r=i64 (1+4*tot (zX p) (zX p).length)∧∀ κ,H1 κ=none),?_,rfl,?_⟩))
 ·refine vN (s7 p.cells p.locks p.conds (zX p) 1 (by rw[hsl];exact h.hs.1) (ops4 p) ht (by omega) (by omega) _ ?_ fun j=>?_) ?_
  ·show some (Ob.rs 157 1 ((((wK (zX p) 0).map (renL (swp (.n 900) (.n 43)))).map (renL (swp (.n 999) (.l 0)))).map (scrPL (fun o=>!cM o))))=_
   rw[rowsM_ren0,lM _ (fun j=>rfl),qN _ (fun j=>rfl)]
  ·show Option.map _ (Option.map _ (Option.map _ (qH (zX p) 0 j)))=_
   rw[qG,qG,qF]
  ·rw[hsl];rfl
 rintro r H1 ⟨rfl,q⟩
 refine⟨fun κ _=>q κ,fun n hn=>(by cases hn),?_⟩
 generalize tot (zX p) (zX p).length=T at ht ⊢
 conv=>whnf
 refine .inr (.inr (.inl ⟨_,30,[],gV shZ,rfl,999,0,lendX,(fun r H1=>(∃ n:Int,r=i64 n∧0≤n∧n≤268435456)∧∀ κ,H1 κ=none),?_,rfl,?_⟩))
 ·refine vN (markRun_ok x (1+4*(T:Int)) h.hx h.ht (by omega) ?_ _ ?_ ?_ ?_ (fun j=>?_) ?_ ?_) ?_
  ·omega
  ·rfl
  ·rfl
  ·show some (Ob.rs 175 6 ((((((((thRows 963 x.s.ths).map (renL (swp (.n 900) (.n 43)))).map (renL (swp (.n 999) (.l 0)))).map (scrPL (xQ cM))).map (renL (swp (.n 999) (.l 0)))).map (renL shZ.f)).map (renL (swp (.n 999) (.l 0)))).map (scrPL (fun o=>!lendX o))))=_
   rw[wH (o:=963) (fun j=>rfl),wH (o:=963) (fun j=>rfl),zV (o:=963) (fun _ _=>rfl),wH (o:=963) (fun j=>rfl),show(thRows 963 x.s.ths).map (renL shZ.f)=thRows 903 x.s.ths from gA (g:=numZ) (hg:=pM) 963 x.s.ths,wH (fun j=>rfl),vA (fun j=>rfl)]
  ·show Option.map _ (Option.map _ (Option.map _ (Option.map _ (Option.map _ (Option.map _ (Option.map _ (zK x.s.ths j)))))))=_
   rw[thFam_ren,thFam_ren,zQ,thFam_ren,thFam_ren,thFam_ren,zQ]
  ·rfl
  ·rfl
  ·rfl
 rintro r H2 ⟨⟨n,rfl,hn1,hn2⟩,q2⟩
 refine⟨fun κ _=>q2 κ,fun n hn=>(by cases hn),?_⟩
 conv=>whnf
 refine hK _ ⟨n,hn1,⟨rfl,rfl,rfl,rfl,rfl,rfl,rfl,rfl,trivial⟩,⟨rfl,rfl,rfl,trivial⟩,trivial⟩
def hwL4 (c:Int) (R:List CallL) (b:AV):List (Nat × AV):=[(2,i64 c),(3,.ptr (.n 3) 0),(4,.ptr (.n 4) 0),(8,sl (R.map wO)),(9,b),(12,.ref (.n 43) 0 R.length),(13,b),(15,i64 (1+5*(R.length:Int)))]
def hwO4 (p:ProgL) (x:RunT) (R:List CallL):List (Key × Ob):=[(.n 3,.vs 24 ((encProg p).map .d)),(.n 4,.vs 47 ((encRT x).map .d)),(.n 43,.ds 134 5 (uL 1 R.length))]
theorem lawHist4 (p:ProgL) (hp:p.wf) (hv:p.flt) (hc:p.cn) (x:RunT) (hf:x.s.cf) (c:Int) (h:SmX p x) (hR:(vD p x c).1.length≤1048576)
  {S:St} (hS:∃ k:Int,0≤k∧At (hwL3 c (vD p x c).1 (bv (vD p x c).2) k) (hwO3 p x (vD p x c).1) [] S):AW EE Tryz.f8.ntmps (dropC 16 (Tryz.f8.body.getD .skip)) (eD EE Tryz.f8 (·=bv true)) S:=by
 have cI:=HistI_ok p hp h.hs hv hc x h.hx hf c
 generalize vD p x c=X at cI hR hS
 obtain⟨R,b⟩:=X
 have hR:R.length≤1048576:=hR
 obtain⟨k,hk,hS3⟩:=hS
 refine fR 3 (At (hwL4 c R (bv b)) (hwO4 p x R) []) (fun K hK=>?_) (fun S4 hS4=>?_)
 ·obtain⟨τ,H,rfl⟩:=hS3.form
  clear hS3
  have heq:CallsTo EE 42 [sl (((R.map wO).drop 0).take R.length),sl (R.map wO)] (·=bv true):=by
   rw[List.drop_zero,List.take_of_length_le (by simp)]
   exact lV R hR
  conv=>whnf
  refine kbi (fun h=>absurd h (by simp;omega)) (fun _=>?_)
  conv=>whnf
  refine .inl ⟨_,heq,?_⟩
  rintro r rfl
  refine⟨rfl,?_⟩
  conv=>whnf
  refine kbi (fun h=>absurd h (by simp)) (fun _=>?_)
  conv=>whnf
  refine .inr (.inl ⟨43,77,isK (.l 77),_,vN (w8 (R.map wO) R.length 1 (by simp) (fun c hc=>by obtain⟨y,_,rfl⟩:=List.mem_map.1 hc;rfl) hR (by omega) (by omega) _ rfl) rfl,rfl,?_⟩)
  rintro r H1 ⟨rfl,e1,q2⟩
  refine⟨q2,fun n hn=>⟨.ds 134 5 (R.map wO),?_,uL 1 R.length,?_,by simp[kB]⟩,?_⟩
  ·have:n=77:=Nat.eq_of_beq_eq_true hn
   subst this;rfl
  ·have:n=77:=Nat.eq_of_beq_eq_true hn
   subst this;exact e1
  conv=>whnf
  refine hK _ ⟨⟨rfl,rfl,rfl,rfl,rfl,rfl,rfl,rfl,trivial⟩,⟨rfl,rfl,?_,trivial⟩,trivial⟩
  show Option.map _ (H1 (.l 77))=_
  rw[e1];rfl
 ·clear hS3
  obtain⟨τ,H,rfl⟩:=hS4.form
  clear hS4
  have hh:CallsTo EE 44 [sl (((uL 1 R.length).drop 0).take R.length),i64 1] (·=i64 (1+5*(R.length:Int))):=by
   rw[List.drop_zero,List.take_of_length_le (by simp[kB])]
   exact v9 1 R.length hR (by omega) (by omega)
  conv=>whnf
  refine .inl ⟨_,hh,?_⟩
  rintro r rfl
  refine⟨rfl,?_⟩
  conv=>whnf
  refine kbi (fun h=>absurd h (by simp;omega)) (fun _=>?_)
  conv=>whnf
  refine kbi (fun h=>absurd h (by simp)) (fun _=>?_)
  conv=>whnf
  refine .inr (.inl ⟨11,[2700],?_⟩)
  conv=>whnf
  refine⟨_,nW p h.hs,?_⟩
  conv=>whnf
  refine⟨_,tH x h.hx,?_⟩
  conv=>whnf
  refine⟨_,cI,?_⟩
  conv=>whnf
  refine⟨by kernel_rfl,?_⟩
  have heq:CallsTo EE 42 [sl (((R.map wO).drop 0).take (R.map wO).length),sl (R.map wO)] (·=bv true):=by
   rw[List.drop_zero,List.take_length]
   exact lV R hR
  conv=>whnf
  refine .inl ⟨_,heq,?_⟩
  rintro r rfl
  refine⟨rfl,?_⟩
  conv=>whnf
  refine kbi (fun h=>absurd h (by simp)) (fun _=>?_)
  conv=>whnf
  refine .inl ⟨_,hh,?_⟩
  rintro r rfl
  refine⟨rfl,?_⟩
  conv=>whnf
  refine kbi (fun h=>absurd h (by simp;omega)) (fun _=>?_)
  conv=>whnf
  refine kbi (fun h=>absurd h (by simp)) (fun _=>?_)
  conv=>whnf
  try rfl
theorem oF {p:ProgL} {x:RunT} {c:Int}:(vD p x c).1.length≤1048576:=by
 classical
 unfold vD
 split
 ·exact Nat.le_trans (nD p x c _) (by omega)
 ·exact Nat.zero_le _
theorem lawHist (p:ProgL) (hp:p.wf) (hv:p.flt) (hc:p.cn) (x:RunT) (hx:x.wf) (hf:x.s.cf) (c:Int):CallsTo EE 8 [agg (encProg p),agg (encRT x),i64 c] (·=bv true) :=
 lawHist1 p hp hv hc x hx hf c fun h S hS=>lawHist2 p hp hv hc x hf c h (oF) (fun S2 h2=>lawHist3 p x c h _ _ (fun S3 h3=>lawHist4 p hp hv hc x hf c h (oF) h3) h2) hS
end Ai
