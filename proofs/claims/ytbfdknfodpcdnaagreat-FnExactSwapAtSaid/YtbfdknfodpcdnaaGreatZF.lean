import Derived.Test.YtbfdknfodpcdnaaGreatZE
set_option maxHeartbeats 8000000
set_option linter.unusedVariables false
set_option linter.unusedSimpArgs false
namespace Ai
set_option maxRecDepth 100000
open Go Go.Proofs Cyc
def kP (o:Nat) (x:RunT):List AV:=[i64 x.c,.ref (.n (o+1)) 0 x.tr.length,.ref (.n (o+2)) 0 x.tk.length,.dref (.n (o+3)) x.s.ths.length,.ref (.n (o+4)) 0 x.s.cells.length,.ref (.n (o+5)) 0 x.s.owner.length,i64 x.s.fault]
structure RnAt (o:Nat) (x:RunT) (S:St):Prop where
 h1:S.H (.n (o+1))=some (.ds 105 5 (x.tr.map encEv))
 h2:S.H (.n (o+2))=some (.ds 3 1 (x.tk.map encInt))
 h3:S.H (.n (o+3))=some (.rs 158 6 (thRows (o+3) x.s.ths))
 h4:∀ j,S.H (.s (o+3) j)=zD x.s.ths j
 h5:S.H (.n (o+4))=some (.ds 74 1 (x.s.cells.map encF))
 h6:S.H (.n (o+5))=some (.ds 3 1 (x.s.owner.map encInt))
theorem pW {o:Nat} {x:RunT} {S:St} (h:RnAt o x S):FzC S (kP o x) (encRT x):=by
 obtain⟨h1,h2,h3,h4,h5,h6⟩:=h
 refine⟨di x.c,_,rfl,rfl,.sl (x.tr.map encEv),_,rfl,?_,.sl (x.tk.map encInt),_,rfl,?_,.sl (x.s.ths.map zE),_,rfl,⟨_,rfl,?_⟩,.sl (x.s.cells.map encF),_,rfl,?_,.sl (x.s.owner.map encInt),_,rfl,?_,di x.s.fault,[],rfl,rfl,rfl⟩
 ·simp[FzD,fz1,h1,List.take_of_length_le]
 ·simp[FzD,fz1,h2,List.take_of_length_le]
 ·unfold kD
  rw[h3]
  refine⟨by simp,fun j row hj hr=>?_⟩
  rw[yL hj] at hr
  simp only[Option.some.injEq] at hr
  subst hr
  exact⟨zE x.s.ths[j],by simp[hj],o0 ((h4 j).trans (thFam_self hj))⟩
 ·simp[FzD,fz1,h5,List.take_of_length_le]
 ·simp[FzD,fz1,h6,List.take_of_length_le]
theorem fz_ownZ {p:ProgL} {S:St} {n:Nat} (h1:S.H (.n 963)=some (.rs 133 1 (qH (zN p)))) (h2:∀ j,S.H (.s 963 j)=wX (zN p) 0 j) (hn:n=p.rs.length) :
  FzC S [i64 p.cells,i64 p.locks,i64 p.conds,.dref (.n 963) n] (encProg p):=by
 subst hn
 refine⟨di p.cells,_,rfl,rfl,di p.locks,_,rfl,rfl,di p.conds,_,rfl,rfl,.sl (p.rs.map yA),_,rfl,⟨_,rfl,tH h1 (by simp) (by simp[qH,zN]) ?_⟩,rfl⟩
 intro j row d hr hd
 have hj:j<p.rs.length:=by
  have:=(List.getElem?_eq_some_iff.1 hd).1
  simpa using this
 have hjs:j<(zN p).length:=by simpa[zN] using hj
 have hr0:(qH (zN p))[j]?=some [.ref (.s 963 j) 0 ((zN p).getD j []).length]:=by simp[qH,hjs]
 rw[hr0] at hr
 rw[List.getElem?_map,List.getElem?_eq_getElem hj] at hd
 simp only[Option.map_some,Option.some.injEq] at hr hd
 subst hr hd
 have hg:(zN p)[j]=p.rs[j].map encOp:=by simp[zN,gN]
 have h3:=h2 j
 unfold wX at h3
 rw[if_neg (by omega),List.getElem?_eq_getElem hjs,hg] at h3
 simp[fz1s,fz1,h3,List.getD_eq_getElem?_getD,hjs,hg,yA,List.take_of_length_le]
def numV (k:Nat):Nat:=bif Nat.ble 901 k&&Nat.ble k 905 then k+20 else bif Nat.ble 921 k&&Nat.ble k 925 then k - 20 else k
theorem numV_numV (k:Nat):numV (numV k)=k:=by
 by_cases h1:901≤k∧k≤905
 ·have:k=901∨k=902∨k=903∨k=904∨k=905:=by omega
  rcases this with rfl|rfl|rfl|rfl|rfl <;> rfl
 by_cases h2:921≤k∧k≤925
 ·have:k=921∨k=922∨k=923∨k=924∨k=925:=by omega
  rcases this with rfl|rfl|rfl|rfl|rfl <;> rfl
 have e:numV k=k:=by
  unfold numV
  have a:(Nat.ble 901 k&&Nat.ble k 905)=false:=by
   rw[Bool.and_eq_false_iff]
   by_cases h:901≤k
   ·right;rw[Bool.eq_false_iff];intro e;exact h1 ⟨h,Nat.le_of_ble_eq_true e⟩
   ·left;rw[Bool.eq_false_iff];intro e;exact h (Nat.le_of_ble_eq_true e)
  have b:(Nat.ble 921 k&&Nat.ble k 925)=false:=by
   rw[Bool.and_eq_false_iff]
   by_cases h:921≤k
   ·right;rw[Bool.eq_false_iff];intro e;exact h2 ⟨h,Nat.le_of_ble_eq_true e⟩
   ·left;rw[Bool.eq_false_iff];intro e;exact h (Nat.le_of_ble_eq_true e)
  rw[a,b];rfl
 rw[e,e]
def shV:Sh:=oU numV numV_numV
def zL (κ:Key):Key :=
 match κ with
 | .n k=>bif Nat.ble 921 k&&Nat.ble k 925 then .l (k - 850) else .n k
 | .l k=>bif Nat.ble 71 k&&Nat.ble k 75 then .n (k+850) else .l k
 | .s o j=>bif Nat.beq o 923 then .s 903 j else bif Nat.beq o 903 then .s 923 j else .s o j
theorem zL_zL (κ:Key):zL (zL κ)=κ:=by
 cases κ with
 |n k =>
  by_cases h:921≤k∧k≤925
  ·have:k=921∨k=922∨k=923∨k=924∨k=925:=by omega
   rcases this with rfl|rfl|rfl|rfl|rfl <;> rfl
  ·have a:(Nat.ble 921 k&&Nat.ble k 925)=false:=by
    rw[Bool.and_eq_false_iff]
    by_cases h1:921≤k
    ·right;rw[Bool.eq_false_iff];intro e;exact h ⟨h1,Nat.le_of_ble_eq_true e⟩
    ·left;rw[Bool.eq_false_iff];intro e;exact h1 (Nat.le_of_ble_eq_true e)
   have e:zL (.n k)=.n k:=by show(bif Nat.ble 921 k&&Nat.ble k 925 then _ else _)=_;rw[a];rfl
   rw[e,e]
 |l k =>
  by_cases h:71≤k∧k≤75
  ·have:k=71∨k=72∨k=73∨k=74∨k=75:=by omega
   rcases this with rfl|rfl|rfl|rfl|rfl <;> rfl
  ·have a:(Nat.ble 71 k&&Nat.ble k 75)=false:=by
    rw[Bool.and_eq_false_iff]
    by_cases h1:71≤k
    ·right;rw[Bool.eq_false_iff];intro e;exact h ⟨h1,Nat.le_of_ble_eq_true e⟩
    ·left;rw[Bool.eq_false_iff];intro e;exact h1 (Nat.le_of_ble_eq_true e)
   have e:zL (.l k)=.l k:=by show(bif Nat.ble 71 k&&Nat.ble k 75 then _ else _)=_;rw[a];rfl
   rw[e,e]
 |s o j =>
  by_cases h1:o=923
  ·subst h1;rfl
  by_cases h2:o=903
  ·subst h2;rfl
  have e:zL (.s o j)=.s o j:=by show(bif Nat.beq o 923 then _ else bif Nat.beq o 903 then _ else _)=_;rw[nbeq_ne h1,nbeq_ne h2];rfl
  rw[e,e]
theorem zL_pin:∀ n,sM (zL (.l n))=true→∃ n',zL (.l n)=.l n':=by
 intro n hn
 by_cases h:71≤n∧n≤75
 ·have:n=71∨n=72∨n=73∨n=74∨n=75:=by omega
  rcases this with rfl|rfl|rfl|rfl|rfl <;> cases hn
 ·have a:(Nat.ble 71 n&&Nat.ble n 75)=false:=by
   rw[Bool.and_eq_false_iff]
   by_cases h1:71≤n
   ·right;rw[Bool.eq_false_iff];intro e;exact h ⟨h1,Nat.le_of_ble_eq_true e⟩
   ·left;rw[Bool.eq_false_iff];intro e;exact h1 (Nat.le_of_ble_eq_true e)
  exact⟨n,by show(bif Nat.ble 71 n&&Nat.ble n 75 then _ else _)=_;rw[a];rfl⟩
theorem uB {f:Key→Key} {o o':Nat} {l:List Th} (h:∀ j,f (.s o j)=.s o' j):(thRows o l).map (renL f)=thRows o' l:=by
 apply List.ext_getElem?
 intro j
 rw[List.getElem?_map]
 by_cases hl:j<l.length
 ·rw[yL hl,yL hl]
  show some [_,_,_,_,_,AV.ref (f (.s o j)) 0 _]=_
  rw[h j]
  rfl
 ·rw[List.getElem?_eq_none (by rw[zT];omega),List.getElem?_eq_none (by rw[zT];omega)]
  rfl
end Ai
namespace Ai
set_option maxRecDepth 100000
open Go Go.Proofs Cyc
theorem fU {f:Key→Key} {subs:List (List (List D))} (hf:∀ j,f (.s 963 j)=.s 963 j):(qH subs).map (renL f)=qH subs:=by
 unfold qH
 rw[List.map_map]
 refine List.map_congr_left fun j _=>?_
 show renL f [_]=_
 simp[renL,ren,hf j]
end Ai
namespace Ai
set_option maxRecDepth 100000
open Go Go.Proofs Cyc
def kM (x:RunT):List (Key × Ob):=[(.n 921,.ds 105 5 (x.tr.map encEv)),(.n 922,.ds 3 1 (x.tk.map encInt)),(.n 923,.rs 158 6 (thRows 923 x.s.ths)),(.n 924,.ds 74 1 (x.s.cells.map encF)),(.n 925,.ds 3 1 (x.s.owner.map encInt))]
theorem ownRn_flat (x:RunT):nM (.ownF 8 (jZ x++[bv true])):=by
 intro c hc
 simp only[jZ,List.mem_append,List.mem_cons,List.not_mem_nil,or_false] at hc
 rcases hc with (rfl|rfl|rfl|rfl|rfl|rfl|rfl)|rfl
 ·rfl
 ·intro c hc
  obtain⟨y,_,rfl⟩:=List.mem_map.1 hc;rfl
 ·intro c hc
  obtain⟨y,_,rfl⟩:=List.mem_map.1 hc;rfl
 ·refine⟨fun c hc=>?_,fun q hq c hc=>?_⟩
  ·obtain⟨t,_,rfl⟩:=List.mem_map.1 hc;rfl
  ·obtain⟨t,_,rfl⟩:=List.mem_map.1 hq
   obtain⟨y,_,rfl⟩:=List.mem_map.1 hc;rfl
 ·intro c hc
  obtain⟨y,_,rfl⟩:=List.mem_map.1 hc;rfl
 ·intro c hc
  obtain⟨y,_,rfl⟩:=List.mem_map.1 hc;rfl
 ·rfl
 ·rfl
end Ai
namespace Ai
set_option maxRecDepth 100000
open Go Go.Proofs Cyc
theorem pV {S:St} (x:RunT):FzA S (agg (encRT x)) (agg (encRT x)):=⟨encRT x,rfl,_,_,rfl,rfl,_,_,rfl,rfl,_,_,rfl,rfl,_,_,rfl,rfl,_,_,rfl,rfl,_,_,rfl,rfl,_,_,rfl,rfl,rfl⟩
end Ai
namespace Ai
set_option maxRecDepth 100000
open Go Go.Proofs Cyc
theorem totT_of {xs:List Th} {m:Nat} (h:∀ t∈xs,t.stack.length≤m):∀ i,zS xs i≤i*(5+m)
 | 0=>by simp[zS]
 |i+1=>by
  have ih:=totT_of h i
  rcases Nat.lt_or_ge i xs.length with h1|h1
  ·rw[lC h1]
   have:=h _ (List.getElem_mem h1)
   rw[Nat.add_mul];omega
  ·have e:zS xs (i+1)=zS xs i:=by
    unfold zS
    rw[List.take_of_length_le (by omega),List.take_of_length_le h1]
   rw[e,Nat.add_mul];omega
end Ai
namespace Ai
set_option maxRecDepth 100000
open Go Go.Proofs Cyc
theorem refO_mark (o:Nat) (x:RunT) (k:Int):kP o (xF x k)=kP o x:=by
 simp[kP,xF,jW,fY,wZ,uR,wU]
theorem fz_mark {S:St} (x:RunT) (k:Int) (h:RnAt 920 (xF x k) S):FzC S (kP 920 x) (encRT (xF x k)):=by
 have:=pW h
 rw[refO_mark] at this
 exact this
def refM (o:Nat) (x:RunT):List AV:=[i64 x.c,.ref (.n (o+1)) 0 (x.tr.map encEv).length,.ref (.n (o+2)) 0 (x.tk.map encInt).length,.dref (.n (o+3)) (x.s.ths.map xU).length,.ref (.n (o+4)) 0 (x.s.cells.map encF).length,.ref (.n (o+5)) 0 (x.s.owner.map encInt).length,i64 x.s.fault]
theorem fz_ownM {o:Nat} {x:RunT} {S:St} (h:RnAt o x S):FzC S (refM o x) (encRT x):=by
 have e:refM o x=kP o x:=by simp only[refM,kP,List.length_map]
 rw[e]
 exact pW h
theorem cM {E:Env} {g:FuncId} {xs:List AV} {R R':AV→Prop} (h:CallsTo E g xs R) (hr:∀ r,R r→R' r):CallsTo E g xs R' :=
 fun w A vs hI ha=>(h w A vs hI ha).mono fun _ _ ⟨r,h1,h2,h3⟩=>⟨r,hr r h1,h2,h3⟩
end Ai
namespace Ai
set_option maxRecDepth 100000
open Go Go.Proofs Cyc
theorem markI0 (m:Int):CallsTo EE 22 [sl [],i64 m] (·=i64 m):=by
 refine callsTo_of_AW (fn:=Tryz.f22) Tryz.func22 rfl (by kernel_rfl) rfl ?_
 conv=>whnf
 refine yJ (fun k:Nat=>[(0,sl []),(1,i64 m),(5,i64 0)]) (fun k=>[]) (fun _=>0) (fun _=>True) 0 .refl ⟨rfl,rfl,rfl,trivial⟩ trivial trivial ?_
 intro k τ H hk
 conv=>whnf
 refine⟨fun h=>absurd h (by simp),fun _=>?_⟩
 conv=>whnf
theorem markF0 (m:Int):CallsTo EE 68 [sl [],i64 m] (·=i64 m):=by
 refine callsTo_of_AW (fn:=Tryz.f68) Tryz.func68 rfl (by kernel_rfl) rfl ?_
 conv=>whnf
 refine yJ (fun k:Nat=>[(0,sl []),(1,i64 m),(5,i64 0)]) (fun k=>[]) (fun _=>0) (fun _=>True) 0 .refl ⟨rfl,rfl,rfl,trivial⟩ trivial trivial ?_
 intro k τ H hk
 conv=>whnf
 refine⟨fun h=>absurd h (by simp),fun _=>?_⟩
 conv=>whnf
theorem markE0 (m:Int):CallsTo EE 66 [sl [],i64 m] (·=i64 m):=by
 refine callsTo_of_AW (fn:=Tryz.f66) Tryz.func66 rfl (by kernel_rfl) rfl ?_
 conv=>whnf
 refine yJ (fun k:Nat=>[(0,sl []),(1,i64 m),(5,i64 0)]) (fun k=>[]) (fun _=>0) (fun _=>True) 0 .refl ⟨rfl,rfl,rfl,trivial⟩ trivial trivial ?_
 intro k τ H hk
 conv=>whnf
 refine⟨fun h=>absurd h (by simp),fun _=>?_⟩
 conv=>whnf
theorem markT0 (m:Int):CallsTo EE 67 [sl [],i64 m] (·=i64 m):=by
 refine callsTo_of_AW (fn:=Tryz.f67) Tryz.func67 rfl (by kernel_rfl) rfl ?_
 conv=>whnf
 refine yJ (fun k:Nat=>[(0,sl []),(1,i64 m),(5,i64 0)]) (fun k=>[]) (fun _=>0) (fun _=>True) 0 .refl ⟨rfl,rfl,rfl,trivial⟩ trivial trivial ?_
 intro k τ H hk
 conv=>whnf
 refine⟨fun h=>absurd h (by simp),fun _=>?_⟩
 conv=>whnf
theorem markSt0 (m:Int):CallsTo EE 23 [agg (yG ⟨[],[],[],0⟩),i64 m] (·=i64 m):=by
 refine callsTo_of_AW (fn:=Tryz.f23) Tryz.func23 rfl (by kernel_rfl) rfl ?_
 conv=>whnf
 refine⟨_,markT0 m,?_⟩
 rintro r rfl
 conv=>whnf
 refine⟨_,markF0 m,?_⟩
 rintro r rfl
 conv=>whnf
 refine⟨_,markI0 m,?_⟩
 rintro r rfl
 conv=>whnf
theorem markRun0 (m:Int):CallsTo EE 21 [agg (encRT run0),i64 m] (·=i64 m):=by
 refine callsTo_of_AW (fn:=Tryz.f21) Tryz.func21 rfl (by kernel_rfl) rfl ?_
 conv=>whnf
 refine⟨_,markE0 m,?_⟩
 rintro r rfl
 conv=>whnf
 refine⟨_,markI0 m,?_⟩
 rintro r rfl
 conv=>whnf
 refine⟨_,markSt0 m,?_⟩
 rintro r rfl
 conv=>whnf
theorem nW:run0.fit:=by
 refine⟨by simp[run0],by simp[run0],⟨by simp[run0],by simp[run0],by simp[run0],by simp[run0]⟩⟩
end Ai
namespace Ai
set_option maxRecDepth 100000
open Go Go.Proofs Cyc
def numW (k:Nat):Nat:=bif Nat.ble 901 k&&Nat.ble k 905 then k+40 else bif Nat.ble 941 k&&Nat.ble k 945 then k - 40 else k
theorem numW_numW (k:Nat):numW (numW k)=k:=by
 by_cases h1:901≤k∧k≤905
 ·have:k=901∨k=902∨k=903∨k=904∨k=905:=by omega
  rcases this with rfl|rfl|rfl|rfl|rfl <;> rfl
 by_cases h2:941≤k∧k≤945
 ·have:k=941∨k=942∨k=943∨k=944∨k=945:=by omega
  rcases this with rfl|rfl|rfl|rfl|rfl <;> rfl
 have e:numW k=k:=by
  unfold numW
  have a:(Nat.ble 901 k&&Nat.ble k 905)=false:=by
   rw[Bool.and_eq_false_iff]
   by_cases h:901≤k
   ·right;rw[Bool.eq_false_iff];intro e;exact h1 ⟨h,Nat.le_of_ble_eq_true e⟩
   ·left;rw[Bool.eq_false_iff];intro e;exact h (Nat.le_of_ble_eq_true e)
  have b:(Nat.ble 941 k&&Nat.ble k 945)=false:=by
   rw[Bool.and_eq_false_iff]
   by_cases h:941≤k
   ·right;rw[Bool.eq_false_iff];intro e;exact h2 ⟨h,Nat.le_of_ble_eq_true e⟩
   ·left;rw[Bool.eq_false_iff];intro e;exact h (Nat.le_of_ble_eq_true e)
  rw[a,b];rfl
 rw[e,e]
def shW:Sh:=oU numW numW_numW
theorem ownRn_fam0 {x:RunT} {j:Nat}:ownH (jZ x) (.s 903 j)=zD x.s.ths j:=by
 show((x.s.ths.map stk)[j]?).map (Ob.ds 74 1)=zD x.s.ths j
 unfold zD
 rw[List.getElem?_map,Option.map_map]
 rfl
def wqA (b:Int) (v:AV):List (Nat × AV):=[(2,i64 b),(3,.ptr (.n 3) 0),(4,.ptr (.n 4) 0),(8,.ptr (.n 8) 0),(9,v),(10,.ptr (.n 10) 0)]
def wqAo (p:ProgL) (y:RunT) (X:RunT):List (Key × Ob):=[(.n 3,.vs 24 ((encProg p).map .d)),(.n 4,.vs 32 ((encRT y).map .d)),(.n 8,.vs 46 ((encRT X).map .d)),(.n 10,.vs 42 [i64 p.cells,i64 p.locks,i64 p.conds,.dref (.n 963) p.rs.length]),(.n 963,.rs 133 1 (qH (zN p)))]
def wqB (b:Int) (v:AV):List (Nat × AV):=[(2,i64 b),(3,.ptr (.n 3) 0),(4,.ptr (.n 4) 0),(8,.ptr (.n 8) 0),(9,v),(10,.ptr (.n 10) 0),(11,.ptr (.n 11) 0)]
def wqBo (p:ProgL) (y:RunT) (X:RunT):List (Key × Ob):=[(.n 3,.vs 24 ((encProg p).map .d)),(.n 4,.vs 32 ((encRT y).map .d)),(.n 8,.vs 46 ((encRT X).map .d)),(.n 10,.vs 42 [i64 p.cells,i64 p.locks,i64 p.conds,.dref (.n 963) p.rs.length]),(.n 963,.rs 133 1 (qH (zN p))),
 (.n 11,.vs 46 (kP 940 y)),(.n 941,.ds 105 5 (y.tr.map encEv)),(.n 942,.ds 3 1 (y.tk.map encInt)),(.n 943,.rs 158 6 (thRows 943 y.s.ths)),(.n 944,.ds 74 1 (y.s.cells.map encF)),(.n 945,.ds 3 1 (y.s.owner.map encInt))]
def dwW (p:ProgL) (y:RunT):List (Nat × (Nat→Option Ob)):=[(963,wX (zN p) 0),(943,zD y.s.ths),(903,fun _=>none)]
def dwV (p:ProgL):List (Nat × (Nat→Option Ob)):=[(963,wX (zN p) 0),(903,fun _=>none),(943,fun _=>none)]
theorem lawSwap1 (p:ProgL) (hp:p.wf) (hv:p.flt) (hc:p.cn) (y:RunT) (hx:y.wf) (hf:y.s.cf) (b:Int)
  (hL:SmX p y→∀ S,At (wqB b (bv (uF p y b).2)) (wqBo p y (uF p y b).1) (dwW p y) S→Snd EE Tryz.f4.ntmps (dropC 9 (Tryz.f4.body.getD .skip)) (bT EE Tryz.f4 (·=bv true)) S) :
  CallsTo EE 4 [agg (encProg p),agg (encRT y),i64 b] (·=bv true):=by
 refine iW (fn:=Tryz.f4) (c:=Tryz.f4.body.getD .skip) Tryz.func4 rfl (by kernel_rfl) rfl ?_
 refine n6 8 (fun S=>SmX p y∧At (wqA b (bv (uF p y b).2)) (wqAo p y (uF p y b).1) (dwV p) S) (fun K hK=>?_) (fun S hS=>?_)
 ·conv=>whnf
  refine⟨_,szProg_ok p 1048576 (by omega) (by omega) hp,?_⟩
  rintro r ⟨n,rfl,hn1,hn2,hn3⟩
  conv=>whnf
  refine kbi (fun _=>?_) (fun h=>?_)
  ·conv=>whnf
   try rfl
  have h0:0≤n:=by simp at h;omega
  have hsz:p.size≤1048576:=by have:=hn3 h0;omega
  have hs:=size_le List.length p.rs 1048576 hsz
  conv=>whnf
  refine⟨_,szRun_ok y n h0 (by omega) hx,?_⟩
  rintro r ⟨n2,rfl,hm1,hm2,hm3⟩
  conv=>whnf
  refine kbi (fun _=>?_) (fun h=>?_)
  ·conv=>whnf
   try rfl
  have hxs:y.size≤1048576:=by
   have h:¬ n2<0:=fun e=>h (decide_eq_true e)
   have:=hm3 (by omega)
   omega
  have hft:=fit_of hxs
  have cS:=SwapAtS_ok p hp hs hv hc y hft hf b
  conv=>whnf
  refine .inr (.inl ⟨12,[],?_⟩)
  conv=>whnf
  refine⟨_,gT p hs,?_⟩
  conv=>whnf
  refine⟨_,bZ y hft,?_⟩
  conv=>whnf
  refine⟨_,cS,?_⟩
  conv=>whnf
  refine⟨by kernel_rfl,?_⟩
  conv=>whnf
  refine⟨_,toProg_own p hs,?_⟩
  rintro r rfl
  conv=>whnf
  refine hK _ _ (vD shZ) ⟨⟨hs,hsz,hft,totT_size (by unfold RunT.size at hxs;omega)⟩,⟨rfl,rfl,rfl,rfl,rfl,rfl,trivial⟩,⟨?_,?_,?_,?_,?_,trivial⟩,⟨fun j=>?_,fun j=>rfl,fun j=>rfl,trivial⟩⟩
  ·rfl
  ·rfl
  ·rfl
  ·show some (Ob.vs 42 [i64 p.cells,i64 p.locks,i64 p.conds,.dref (.n 963) (p.rs.map fun _=>[D.nil]).length])=_
   rw[List.length_map]
  ·show some (Ob.rs 133 1 (((ownRows 903 0 (p.rs.map fun _=>[.nil]) (zN p)).map (scrPL (isK (.n 10)))).map (renL shZ.f)))=_
   rw[ownRows_M,qV _ (fun j=>rfl),rowsM_Z]
  ·show Option.map _ (Option.map _ (match ownH (ownPg p) (.s 903 j) with|some ob=>some ob|none=>_))=_
   rw[ownPg_fam]
   cases hq:wX (zN p) 0 j with
   |none=>rfl
   |some ob =>
    show Option.map _ (Option.map _ (some ob))=some ob
    rw[← hq,vO,wQ]
 refine n6 1 (fun S=>SmX p y∧At (wqB b (bv (uF p y b).2)) (wqBo p y (uF p y b).1) (dwW p y) S) (fun K hK=>?_) (fun S hS=>hL hS.1 S hS.2)
 obtain⟨hSm,hat⟩:=hS
 obtain⟨τ,H,rfl⟩:=hat.form
 clear hat
 conv=>whnf
 refine⟨_,toRun_own y hSm.hx,?_⟩
 rintro r rfl
 conv=>whnf
 refine hK _ _ (vD shW) ⟨hSm,⟨rfl,rfl,rfl,rfl,rfl,rfl,rfl,trivial⟩,⟨?_,?_,?_,?_,?_,?_,?_,?_,?_,?_,?_,trivial⟩,⟨fun j=>?_,fun j=>?_,fun j=>rfl,trivial⟩⟩
 ·rfl
 ·rfl
 ·rfl
 ·rfl
 ·show some (Ob.rs 133 1 ((((qH (zN p)).map (scrPL fun κ=>(ownH (jZ y) κ).isSome)).map (scrPL (isK (.n 11)))).map (renL shW.f)))=_
  rw[gW _ (fun j=>rfl),gW _ (fun j=>rfl),fU (fun j=>rfl)]
 ·show some (Ob.vs 46 [i64 y.c,.ref (.n 941) 0 (y.tr.map encEv).length,.ref (.n 942) 0 (y.tk.map encInt).length,.dref (.n 943) (y.s.ths.map xU).length,.ref (.n 944) 0 (y.s.cells.map encF).length,.ref (.n 945) 0 (y.s.owner.map encInt).length,i64 y.s.fault])=_
  simp only[List.length_map]
  rfl
 ·rfl
 ·rfl
 ·show some (Ob.rs 158 6 (((thRows 903 y.s.ths).map (scrPL (isK (.n 11)))).map (renL shW.f)))=_
  rw[zX (fun j=>rfl),uB (o':=943) (fun j=>rfl)]
 ·rfl
 ·rfl
 ·show Option.map _ (Option.map _ (Option.map _ (wX (zN p) 0 j)))=_
  rw[vO,vO,wQ]
 ·have e:ownH (jZ y) (.s 903 j)=zD y.s.ths j:=ownRn_fam0
  show Option.map _ (Option.map _ (match ownH (jZ y) (.s 903 j) with|some ob=>some ob|none=>_))=_
  rw[e]
  cases hq:zD y.s.ths j with
  |none=>rfl
  |some ob =>
   show Option.map _ (Option.map _ (some ob))=some ob
   rw[← hq,zG,thFam_ren]
end Ai
namespace Ai
set_option maxRecDepth 100000
open Go Go.Proofs Cyc
def wqC (b:Int) (v:AV):List (Nat × AV):=[(2,i64 b),(3,.ptr (.n 3) 0),(4,.ptr (.n 4) 0),(8,.ptr (.n 8) 0),(9,v),(10,.ptr (.n 10) 0),(11,.ptr (.n 11) 0),(12,.ptr (.n 12) 0),(13,v)]
def m4 (p:ProgL) (y:RunT) (X:RunT) (r:List AV) (more:List (Key × Ob)):List (Key × Ob):=[(.n 3,.vs 24 ((encProg p).map .d)),(.n 4,.vs 32 ((encRT y).map .d)),(.n 8,.vs 46 ((encRT X).map .d)),(.n 10,.vs 42 [i64 p.cells,i64 p.locks,i64 p.conds,.dref (.n 903) p.rs.length]),(.n 903,.rs 133 1 (wV (zN p) 0)),
 (.n 11,.vs 46 (refR 963 y)),(.n 901,.ds 105 5 (y.tr.map encEv)),(.n 902,.ds 3 1 (y.tk.map encInt)),(.n 963,.rs 158 6 (thRows 963 y.s.ths)),(.n 904,.ds 74 1 (y.s.cells.map encF)),(.n 905,.ds 3 1 (y.s.owner.map encInt)),(.n 12,.vs 46 r)]++more
theorem lawSwap2 (p:ProgL) (hp:p.wf) (hv:p.flt) (hc:p.cn) (y:RunT) (b:Int) (hf:y.s.cf) (h:SmX p y)
  (hT:∀ x,uF p y b=(x,true)→∀ S,At (wqC b (bv true)) (m4 p y x (kP 920 x) (kM x)) [(903,wX (zN p) 0),(963,zD y.s.ths),(923,zD x.s.ths)] S→Snd EE Tryz.f4.ntmps (dropC 10 (Tryz.f4.body.getD .skip)) (bT EE Tryz.f4 (·=bv true)) S)
  (hF:uF p y b=(rn0,false)→∀ S,At (wqC b (bv false)) (m4 p y rn0 ((encRT rn0).map .d) []) [(903,wX (zN p) 0),(963,zD y.s.ths)] S→Snd EE Tryz.f4.ntmps (dropC 10 (Tryz.f4.body.getD .skip)) (bT EE Tryz.f4 (·=bv true)) S)
  {S:St} (hS:At (wqB b (bv (uF p y b).2)) (wqBo p y (uF p y b).1) (dwW p y) S):Snd EE Tryz.f4.ntmps (dropC 9 (Tryz.f4.body.getD .skip)) (bT EE Tryz.f4 (·=bv true)) S:=by
 have cI:=nL p hp h.hs hv hc y h.hx hf b
 refine n6 1 (fun S=>(∃ x,uF p y b=(x,true)∧At (wqC b (bv true)) (m4 p y x (kP 920 x) (kM x)) [(903,wX (zN p) 0),(963,zD y.s.ths),(923,zD x.s.ths)] S)∨(uF p y b=(rn0,false)∧At (wqC b (bv false)) (m4 p y rn0 ((encRT rn0).map .d) []) [(903,wX (zN p) 0),(963,zD y.s.ths)] S)) (fun K hK=>?_) (fun S hS=>?_)
 rotate_left 1
 ·rcases hS with ⟨x,hx,hS⟩|hS
  ·exact hT x hx S hS
  ·exact hF hS.1 S hS.2
 obtain⟨τ,H,rfl⟩:=hS.form
 clear hS hT hF
 conv=>whnf
 refine .inl ⟨[agg (encProg p),agg (encRT y),i64 b],[],_,⟨_,_,rfl,⟨_,rfl,fz_ownZ rfl (fun j=>rfl) rfl⟩,_,_,rfl,⟨_,rfl,pW (o:=940) ⟨rfl,rfl,rfl,fun j=>rfl,rfl,rfl⟩⟩,_,_,rfl,rfl,rfl⟩,rfl,cI,?_⟩
 rintro r (⟨x,hx,rfl⟩|⟨hx,rfl⟩)
 ·refine⟨ownRn_flat x,?_⟩
  rw[hx]
  conv=>whnf
  refine hK _ _ ((vD shV).trans ((vD shW).trans (vD shZ))) (.inl ⟨x,hx,⟨rfl,rfl,rfl,rfl,rfl,rfl,rfl,rfl,rfl,trivial⟩,⟨?_,?_,?_,?_,?_,?_,?_,?_,?_,?_,?_,?_,?_,?_,?_,?_,?_,trivial⟩,⟨fun j=>?_,fun j=>?_,fun j=>?_,trivial⟩⟩)
  ·rfl
  ·rfl
  ·rfl
  ·rfl
  ·show some (Ob.rs 133 1 ((((((qH (zN p)).map (scrPL _)).map (scrPL (isK (.n 12)))).map (renL shV.f)).map (renL shW.f)).map (renL shZ.f)))=_
   rw[gW _ (fun j=>rfl),gW _ (fun j=>rfl),fU (fun j=>rfl),fU (fun j=>rfl),rowsZ_M]
  ·rfl
  ·rfl
  ·rfl
  ·show some (Ob.rs 158 6 ((((((thRows 943 y.s.ths).map (scrPL _)).map (scrPL (isK (.n 12)))).map (renL shV.f)).map (renL shW.f)).map (renL shZ.f)))=_
   rw[zU (o:=943) (fun _ _=>rfl),zU (o:=943) (fun _ _=>rfl),zI (o:=943) (fun j=>rfl),uB (o':=903) (fun j=>rfl),uB (o':=963) (fun j=>rfl)]
  ·rfl
  ·rfl
  ·show some (Ob.vs 46 [i64 x.c,.ref (.n 921) 0 (x.tr.map encEv).length,.ref (.n 922) 0 (x.tk.map encInt).length,.dref (.n 923) (x.s.ths.map xU).length,.ref (.n 924) 0 (x.s.cells.map encF).length,.ref (.n 925) 0 (x.s.owner.map encInt).length,i64 x.s.fault])=_
   simp only[List.length_map]
   rfl
  ·rfl
  ·rfl
  ·show some (Ob.rs 158 6 (((((thRows 903 x.s.ths).map (scrPL (isK (.n 12)))).map (renL shV.f)).map (renL shW.f)).map (renL shZ.f)))=_
   rw[zX (fun j=>rfl),uB (o':=923) (fun j=>rfl),zI (o:=923) (fun j=>rfl),zI (o:=923) (fun j=>rfl)]
  ·rfl
  ·rfl
  ·show Option.map _ (Option.map _ (Option.map _ (Option.map _ (Option.map _ (wX (zN p) 0 j)))))=_
   rw[vO,vO,wQ,wQ,wQ]
  ·show Option.map _ (Option.map _ (Option.map _ (Option.map _ (Option.map _ (zD y.s.ths j)))))=_
   rw[zG,zG,thFam_ren,thFam_ren,thFam_ren]
  ·have e:ownH (jZ x++[bv true]) (.s 903 j)=zD x.s.ths j:=v7
   show Option.map _ (Option.map _ (Option.map _ (Option.map _ (match ownH (jZ x++[bv true]) (.s 903 j) with|some ob=>some ob|none=>_))))=_
   rw[e]
   cases hq:zD x.s.ths j with
   |none=>rfl
   |some ob =>
    show Option.map _ (Option.map _ (Option.map _ (Option.map _ (some ob))))=some ob
    rw[← hq,zG,thFam_ren,thFam_ren,thFam_ren]
 ·refine⟨eD,?_⟩
  rw[hx]
  conv=>whnf
  refine hK _ _ ((vD shW).trans (vD shZ)) (.inr ⟨hx,⟨rfl,rfl,rfl,rfl,rfl,rfl,rfl,rfl,rfl,trivial⟩,⟨?_,?_,?_,?_,?_,?_,?_,?_,?_,?_,?_,?_,trivial⟩,⟨fun j=>?_,fun j=>?_,trivial⟩⟩)
  ·rfl
  ·rfl
  ·rfl
  ·rfl
  ·show some (Ob.rs 133 1 ((((qH (zN p)).map (scrPL (isK (.n 12)))).map (renL shW.f)).map (renL shZ.f)))=_
   rw[gW _ (fun j=>rfl),fU (fun j=>rfl),rowsZ_M]
  ·rfl
  ·rfl
  ·rfl
  ·show some (Ob.rs 158 6 ((((thRows 943 y.s.ths).map (scrPL (isK (.n 12)))).map (renL shW.f)).map (renL shZ.f)))=_
   rw[zU (o:=943) (fun _ _=>rfl),uB (o':=903) (fun j=>rfl),uB (o':=963) (fun j=>rfl)]
  ·rfl
  ·rfl
  ·rfl
  ·show Option.map _ (Option.map _ (Option.map _ (wX (zN p) 0 j)))=_
   rw[vO,wQ,wQ]
  ·show Option.map _ (Option.map _ (Option.map _ (zD y.s.ths j)))=_
   rw[zG,thFam_ren,thFam_ren]
theorem thrR_end {p:ProgL} (hg:p.goodS) (hv:p.flt):∀ (ts:List Int) (s:StL) (tr:List Ev) (tk:List Int) (z:Int × List Ev × List Int × StL),AInv p s→tr.length=tk.length→kK p ts s tr tk=some z→AInv p z.2.2.2∧z.2.1.length=z.2.2.1.length∧z.2.1.length=tr.length+ts.length
 | [],s,tr,tk,z,hi,hl,h=>by
  injection h with h;subst h
  exact⟨hi,hl,by simp⟩
 |t::ts,s,tr,tk,z,hi,hl,h=>by
  unfold kK at h
  split at h
  ·rename_i hm
   obtain⟨w,hw,hwt⟩:=List.mem_map.1 hm
   have hwn:t.toNat=w:=by omega
   rw[hwn] at h
   obtain⟨h1,h2,h3⟩:=thrR_end hg hv ts _ _ _ z (fN hg hv hw hi) (by simp[hl]) h
   refine⟨h1,h2,?_⟩
   rw[h3];simp;omega
  ·cases h
theorem swapV_fit {p:ProgL} (hv:p.flt) {y:RunT} {b:Int} {x:RunT} (h:uF p y b=(x,true)):x.fit∧zS x.s.ths x.s.ths.length≤8388608:=by
 classical
 unfold uF at h
 split at h
 ·rename_i hc
  cases hq:kK p (kJ (vF y.tr) b.toNat) (yQ p) [] [] with
  |none=>rw[hq] at h;cases h
  |some z =>
   rw[hq] at h
   have hx:rtOf z=x:=congrArg Prod.fst h
   subst hx
   obtain⟨h1,h2,h3⟩:=thrR_end hc.1.1 hv _ _ _ _ z (dY hc.1.1) rfl hq
   have hs:=((tM hc.1.1).small _ h1.si).1
   have hl:=h1.si.len
   have h4:(kJ (vF y.tr) b.toNat).length=y.tr.length:=by simp[kJ,vF]
   have h5:=hc.1.2.1
   rw[h4] at h3
   have h3:z.2.1.length=0+y.tr.length:=h3
   refine⟨⟨by show z.2.1.length≤_;omega,by show z.2.2.1.length≤_;omega,⟨hs.1,hs.2.1,hs.2.2.1,hs.2.2.2⟩⟩,?_⟩
   have:=totT_of hs.2.1 z.2.2.2.ths.length
   have h6:z.2.2.2.ths.length*(5+1048576)≤5*(5+1048576):=Nat.mul_le_mul_right _ hl
   show zS z.2.2.2.ths z.2.2.2.ths.length≤_
   omega
 ·cases h
theorem lawSwap3 (p:ProgL) (y:RunT) (b:Int) (h:SmX p y) (x:RunT) (hx:x.fit)
  (hL:∀ S,At (wqC b (bv true)) (m4 p y x (kP 920 x) (kM x)) [(903,wX (zN p) 0),(963,zD y.s.ths),(923,zD x.s.ths)] S→AW EE Tryz.f4.ntmps (dropC 13 (Tryz.f4.body.getD .skip)) (bT EE Tryz.f4 (·=bv true)) S)
  {S:St} (hS:At (wqC b (bv true)) (m4 p y x (kP 920 x) (kM x)) [(903,wX (zN p) 0),(963,zD y.s.ths),(923,zD x.s.ths)] S):AW EE Tryz.f4.ntmps (dropC 10 (Tryz.f4.body.getD .skip)) (bT EE Tryz.f4 (·=bv true)) S:=by
 refine lA 3 (At (wqC b (bv true)) (m4 p y x (kP 920 x) (kM x)) [(903,wX (zN p) 0),(963,zD y.s.ths),(923,zD x.s.ths)]) (fun K hK=>?_) hL
 obtain⟨τ,H,rfl⟩:=hS.form
 clear hS hL
 conv=>whnf
 refine .inl ⟨[agg (encRT x),agg (encRT x)],[],_,⟨_,_,rfl,⟨_,rfl,pW (o:=920) ⟨rfl,rfl,rfl,fun j=>rfl,rfl,rfl⟩⟩,_,_,rfl,pV x,rfl⟩,rfl,jK x hx,?_⟩
 rintro r rfl
 refine⟨rfl,?_⟩
 conv=>whnf
 refine kbi (fun h=>absurd h (by simp)) (fun _=>?_)
 conv=>whnf
 refine⟨by kernel_rfl,?_⟩
 conv=>whnf
 refine⟨_,gT p h.hs,?_⟩
 conv=>whnf
 refine⟨[agg (encProg p),agg (encProg p)],[],bv true,⟨_,_,rfl,⟨_,rfl,fz_own rfl (fun j=>rfl) rfl⟩,_,_,rfl,lT p,rfl⟩,rfl,d5 p h.hs,rfl,?_⟩
 conv=>whnf
 refine⟨by kernel_rfl,?_⟩
 conv=>whnf
 refine⟨_,bZ y h.hx,?_⟩
 conv=>whnf
 refine⟨[agg (encRT y),agg (encRT y)],[],bv true,⟨_,_,rfl,⟨_,rfl,fz_ownR (o:=963) rfl rfl rfl (fun j=>rfl) rfl rfl⟩,_,_,rfl,pV y,rfl⟩,rfl,jK y h.hx,rfl,?_⟩
 conv=>whnf
 refine hK _ ⟨⟨rfl,rfl,rfl,rfl,rfl,rfl,rfl,rfl,rfl,trivial⟩,⟨rfl,rfl,rfl,rfl,?_,rfl,rfl,rfl,?_,rfl,rfl,rfl,rfl,rfl,?_,rfl,rfl,trivial⟩,⟨fun j=>?_,fun j=>?_,fun j=>?_,trivial⟩⟩
 ·first|rfl|(show some (Ob.rs 133 1 ((wV (zN p) 0).map (scrPL _)))=_;rw[qV _ fun j=>rfl])
 ·first|rfl|(show some (Ob.rs 158 6 ((thRows 963 y.s.ths).map (scrPL _)))=_;rw[zU fun _ _=>rfl])
 ·first|rfl|(show some (Ob.rs 158 6 ((thRows 923 x.s.ths).map (scrPL _)))=_;rw[zU fun _ _=>rfl])
 ·first|rfl|(show Option.map _ (wX (zN p) 0 j)=_;exact vO _ _ _ _)
 ·first|rfl|(show Option.map _ (zD y.s.ths j)=_;exact zG _ _ _)
 ·first|rfl|(show Option.map _ (zD x.s.ths j)=_;exact zG _ _ _)
end Ai
namespace Ai
set_option maxRecDepth 100000
open Go Go.Proofs Cyc
def wqD (b:Int) (v:AV) (k:Int):List (Nat × AV):=[(2,i64 b),(3,.ptr (.n 3) 0),(4,.ptr (.n 4) 0),(8,.ptr (.n 8) 0),(9,v),(12,.ptr (.n 12) 0),(13,v),(14,i64 k)]
def m3 (p:ProgL) (y:RunT) (X:RunT) (r:List AV) (more:List (Key × Ob)):List (Key × Ob):=[(.n 3,.vs 24 ((encProg p).map .d)),(.n 4,.vs 32 ((encRT y).map .d)),(.n 8,.vs 46 ((encRT X).map .d)),(.n 12,.vs 46 r)]++more
theorem lawSwap4 (p:ProgL) (y:RunT) (b:Int) (h:SmX p y) (x:RunT) (hx:x.fit)
  (hL:∀ S,(∃ k:Int,0≤k∧At (wqD b (bv true) k) (m3 p y x (kP 920 x) (kM x)) [(923,zD x.s.ths)] S)→AW EE Tryz.f4.ntmps (dropC 16 (Tryz.f4.body.getD .skip)) (bT EE Tryz.f4 (·=bv true)) S)
  {S:St} (hS:At (wqC b (bv true)) (m4 p y x (kP 920 x) (kM x)) [(903,wX (zN p) 0),(963,zD y.s.ths),(923,zD x.s.ths)] S):AW EE Tryz.f4.ntmps (dropC 13 (Tryz.f4.body.getD .skip)) (bT EE Tryz.f4 (·=bv true)) S:=by
 refine lA 3 (fun S=>∃ k:Int,0≤k∧At (wqD b (bv true) k) (m3 p y x (kP 920 x) (kM x)) [(923,zD x.s.ths)] S) (fun K hK=>?_) hL
 obtain⟨τ,H,rfl⟩:=hS.form
 clear hS hL
 have hsl:(zN p).length=p.rs.length:=by simp[zN]
 have ht:=tot_size h.hz
 conv=>whnf
 refine .inr (.inr (.inl ⟨_,20,[],Weak.refl,rfl,999,0,dL,(fun r H1=>r=i64 (1+4*tot (zN p) (zN p).length)∧∀ κ,H1 κ=none),?_,rfl,?_⟩))
 ·refine xB (tS p.cells p.locks p.conds (zN p) 1 (by rw[hsl];exact h.hs.1) (ops4 p) ht (by omega) (by omega) _ ?_ fun j=>?_) ?_
  ·show some (Ob.rs 133 1 (((wV (zN p) 0).map (renL (swp (.n 999) (.l 0)))).map (scrPL (fun o=>!dL o))))=_
   rw[mX _ (fun j=>rfl),qV _ (fun j=>rfl)]
  ·show Option.map _ (Option.map _ (wX (zN p) 0 j))=_
   rw[wQ,vO]
  ·rw[hsl];rfl
 rintro r H1 ⟨rfl,q⟩
 refine⟨fun κ _=>q κ,fun n hn=>(by cases hn),?_⟩
 generalize tot (zN p) (zN p).length=T at ht ⊢
 conv=>whnf
 refine .inr (.inr (.inl ⟨_,21,[],vD shZ,rfl,999,0,lendX,(fun r H1=>(∃ n:Int,r=i64 n∧0≤n∧n≤268435456)∧∀ κ,H1 κ=none),?_,rfl,?_⟩))
 ·refine xB (eS y (1+4*(T:Int)) h.hx h.ht (by omega) ?_ _ ?_ ?_ ?_ (fun j=>?_) ?_ ?_) ?_
  ·omega
  ·rfl
  ·rfl
  ·show some (Ob.rs 158 6 (((((((thRows 963 y.s.ths).map (renL (swp (.n 999) (.l 0)))).map (scrPL (xK dL))).map (renL (swp (.n 999) (.l 0)))).map (renL shZ.f)).map (renL (swp (.n 999) (.l 0)))).map (scrPL (fun o=>!lendX o))))=_
   rw[zI (o:=963) (fun j=>rfl),zU (o:=963) (fun _ _=>rfl),zI (o:=963) (fun j=>rfl),show(thRows 963 y.s.ths).map (renL shZ.f)=thRows 903 y.s.ths from qU (g:=numZ) (hg:=sI) 963 y.s.ths,zI (fun j=>rfl),zX (fun j=>rfl)]
  ·show Option.map _ (Option.map _ (Option.map _ (Option.map _ (Option.map _ (Option.map _ (zD y.s.ths j))))))=_
   rw[thFam_ren,zG,thFam_ren,thFam_ren,thFam_ren,zG]
  ·rfl
  ·rfl
  ·rfl
 rintro r H2 ⟨⟨n,rfl,hn1,hn2⟩,q2⟩
 refine⟨fun κ _=>q2 κ,fun n hn=>(by cases hn),?_⟩
 conv=>whnf
 refine hK _ ⟨n,hn1,⟨rfl,rfl,rfl,rfl,rfl,rfl,rfl,rfl,trivial⟩,⟨rfl,rfl,rfl,rfl,rfl,rfl,?_,rfl,rfl,trivial⟩,⟨fun j=>?_,trivial⟩⟩
 ·show some (Ob.rs 158 6 (((((((thRows 923 x.s.ths).map (renL (swp (.n 999) (.l 0)))).map (scrPL (xK dL))).map (renL (swp (.n 999) (.l 0)))).map (renL shZ.f)).map (renL (swp (.n 999) (.l 0)))).map (scrPL (xK lendX)) |>.map (renL (swp (.n 999) (.l 0)))))=_
  rw[zI (o:=923) (fun j=>rfl),zU (o:=923) (fun _ _=>rfl),zI (o:=923) (fun j=>rfl),zI (o:=923) (fun j=>rfl),zI (o:=923) (fun j=>rfl),zU (o:=923) (fun _ _=>rfl),zI (o:=923) (fun j=>rfl)]
 ·show Option.map _ (Option.map _ (Option.map _ (Option.map _ (Option.map _ (Option.map _ (Option.map _ (zD x.s.ths j)))))))=_
  rw[thFam_ren,zG,thFam_ren,thFam_ren,thFam_ren,zG,thFam_ren]
def wqE (b:Int) (v:AV) (m:Int):List (Nat × AV):=[(2,i64 b),(3,.ptr (.n 3) 0),(4,.ptr (.n 4) 0),(8,.ptr (.n 8) 0),(9,v),(12,.ptr (.n 12) 0),(13,v),(15,i64 m)]
theorem lawSwap5 (p:ProgL) (y:RunT) (b:Int) (h:SmX p y) (x:RunT) (hx:x.fit) (ht:zS x.s.ths x.s.ths.length≤8388608)
  (hL:∀ S,At (wqE b (bv true) (bP x 1)) (m3 p y x (kP 920 x) (kM (xF x 1))) [(923,zD (xF x 1).s.ths)] S→AW EE Tryz.f4.ntmps (dropC 19 (Tryz.f4.body.getD .skip)) (bT EE Tryz.f4 (·=bv true)) S)
  {S:St} (hS:∃ k:Int,0≤k∧At (wqD b (bv true) k) (m3 p y x (kP 920 x) (kM x)) [(923,zD x.s.ths)] S):AW EE Tryz.f4.ntmps (dropC 16 (Tryz.f4.body.getD .skip)) (bT EE Tryz.f4 (·=bv true)) S:=by
 refine lA 3 (At (wqE b (bv true) (bP x 1)) (m3 p y x (kP 920 x) (kM (xF x 1))) [(923,zD (xF x 1).s.ths)]) (fun K hK=>?_) hL
 obtain⟨k,hk,hS⟩:=hS
 obtain⟨τ,H,rfl⟩:=hS.form
 clear hS hL
 conv=>whnf
 refine⟨fun h=>absurd h (by simp;omega),fun _=>?_⟩
 conv=>whnf
 refine .inl ⟨[agg (encRT x),agg (encRT x)],[],_,⟨_,_,rfl,⟨_,rfl,pW (o:=920) ⟨rfl,rfl,rfl,fun j=>rfl,rfl,rfl⟩⟩,_,_,rfl,pV x,rfl⟩,rfl,jK x hx,?_⟩
 rintro r rfl
 refine⟨rfl,?_⟩
 conv=>whnf
 refine kbi (fun h=>absurd h (by simp)) (fun _=>?_)
 conv=>whnf
 refine .inr (.inr (.inr (.inr ⟨_,21,[],zL,Weak.refl,rfl,zL_zL,sM,_,xB (markRunK_ok x 1 hx ht (by omega) (by omega) _ ⟨?_,?_,⟨?_,fun j=>?_,?_,?_⟩⟩) ?_,zL_pin,?_⟩)))
 ·rfl
 ·rfl
 ·show some (Ob.rs 158 6 (((thRows 923 x.s.ths).map (renL zL)).map (scrPL (fun o=>!sM o))))=_
  rw[uB (o':=903) (fun j=>rfl),zX (fun j=>rfl)]
 ·show Option.map _ (Option.map _ (zD x.s.ths j))=_
  rw[thFam_ren,zG]
 ·rfl
 ·rfl
 ·rfl
 rintro r H1 ⟨rfl,e,q⟩
 refine⟨q,fun n hn=>?_,?_⟩
 ·simp only[sM,Bool.or_eq_true] at hn
  rcases hn with (((hn|hn)|hn)|hn)|hn
  ·have:=Nat.eq_of_beq_eq_true hn
   subst this
   exact⟨.ds 105 5 (x.tr.map encEv),rfl,_,e.hE,by simp[xF,fY]⟩
  ·have:=Nat.eq_of_beq_eq_true hn
   subst this
   exact⟨.ds 3 1 (x.tk.map encInt),rfl,_,e.hT,by simp[xF,wZ]⟩
  ·have:=Nat.eq_of_beq_eq_true hn
   subst this
   refine⟨.rs 158 6 (thRows 903 x.s.ths),?_,thRows 903 (xF x 1).s.ths,e.hS.hH,by simp[zT,xF,jW,wU]⟩
   show some (Ob.rs 158 6 ((thRows 923 x.s.ths).map (renL zL)))=_
   rw[uB (o':=903) (fun j=>rfl)]
  ·have:=Nat.eq_of_beq_eq_true hn
   subst this
   exact⟨.ds 74 1 (x.s.cells.map encF),rfl,_,e.hS.hC,by simp[xF,jW,uR]⟩
  ·have:=Nat.eq_of_beq_eq_true hn
   subst this
   exact⟨.ds 3 1 (x.s.owner.map encInt),rfl,_,e.hS.hO,by simp[xF,jW,wZ]⟩
 conv=>whnf
 refine hK _ ⟨⟨rfl,rfl,rfl,rfl,rfl,rfl,rfl,?_,trivial⟩,⟨rfl,rfl,rfl,?_,?_,?_,?_,?_,?_,trivial⟩,⟨fun j=>?_,trivial⟩⟩
 ·rfl
 ·rfl
 ·show Option.map _ (H1 (.l 71))=_
  rw[e.hE];rfl
 ·show Option.map _ (H1 (.l 72))=_
  rw[e.hT];rfl
 ·show Option.map _ (H1 (.l 73))=_
  rw[e.hS.hH]
  show some (Ob.rs 158 6 ((thRows 903 (xF x 1).s.ths).map (renL zL)))=_
  rw[uB (o':=923) (fun j=>rfl)]
 ·show Option.map _ (H1 (.l 74))=_
  rw[e.hS.hC];rfl
 ·show Option.map _ (H1 (.l 75))=_
  rw[e.hS.hO];rfl
 ·show Option.map _ (H1 (.s 903 j))=_
  rw[e.hS.hF,thFam_ren]
theorem lawSwap6 (p:ProgL) (y:RunT) (b:Int) (h:SmX p y) (x:RunT) (hx:x.fit) (ht:zS x.s.ths x.s.ths.length≤8388608)
  (hL:∀ S,At (wqE b (bv true) (bP x 1)) (m3 p y x (kP 920 x) (kM (xF x 1))) [(923,zD (xF x 1).s.ths)] S→AW EE Tryz.f4.ntmps (dropC 23 (Tryz.f4.body.getD .skip)) (bT EE Tryz.f4 (·=bv true)) S)
  {S:St} (hS:At (wqE b (bv true) (bP x 1)) (m3 p y x (kP 920 x) (kM (xF x 1))) [(923,zD (xF x 1).s.ths)] S):AW EE Tryz.f4.ntmps (dropC 19 (Tryz.f4.body.getD .skip)) (bT EE Tryz.f4 (·=bv true)) S:=by
 refine lA 4 (At (wqE b (bv true) (bP x 1)) (m3 p y x (kP 920 x) (kM (xF x 1))) [(923,zD (xF x 1).s.ths)]) (fun K hK=>?_) hL
 obtain⟨τ,H,rfl⟩:=hS.form
 clear hS hL
 have he:0≤bP x 1:=by unfold bP cG;omega
 conv=>whnf
 refine .inl ⟨[agg (encRT (xF x 1)),i64 1],[],_,⟨_,_,rfl,⟨_,rfl,fz_mark x 1 ⟨rfl,rfl,rfl,fun j=>rfl,rfl,rfl⟩⟩,_,_,rfl,rfl,rfl⟩,rfl,nG x 1 hx ht (by omega) (by omega),?_⟩
 rintro r rfl
 refine⟨rfl,?_⟩
 conv=>whnf
 refine kbi (fun h=>absurd h (by simp;try omega)) (fun _=>?_)
 conv=>whnf
 refine⟨fun h=>absurd h (by simp),fun _=>?_⟩
 conv=>whnf
 refine hK _ ⟨⟨rfl,rfl,rfl,rfl,rfl,rfl,rfl,rfl,trivial⟩,⟨rfl,rfl,rfl,rfl,rfl,rfl,?_,rfl,rfl,trivial⟩,⟨fun j=>?_,trivial⟩⟩
 ·first|rfl|(show some (Ob.rs 158 6 ((thRows 923 (xF x 1).s.ths).map (scrPL _)))=_;rw[zU fun _ _=>rfl])
 ·first|rfl|(show Option.map _ (zD (xF x 1).s.ths j)=_;exact zG _ _ _)
theorem lawSwap7 (p:ProgL) (hp:p.wf) (hv:p.flt) (hc:p.cn) (y:RunT) (b:Int) (hf:y.s.cf) (h:SmX p y) (x:RunT) (hx:x.fit) (ht:zS x.s.ths x.s.ths.length≤8388608) (hq:uF p y b=(x,true))
  {S:St} (hS:At (wqE b (bv true) (bP x 1)) (m3 p y x (kP 920 x) (kM (xF x 1))) [(923,zD (xF x 1).s.ths)] S):AW EE Tryz.f4.ntmps (dropC 23 (Tryz.f4.body.getD .skip)) (bT EE Tryz.f4 (·=bv true)) S:=by
 have cI:CallsTo EE 26 [agg (encProg p),agg (encRT y),i64 b] (·=.ownF 8 (jZ x++[bv true])):=by
  refine cM (nL p hp h.hs hv hc y h.hx hf b) ?_
  rintro r (⟨y,hy,rfl⟩|⟨hy,rfl⟩)
  ·rw[hq] at hy
   cases hy;rfl
  ·rw[hq] at hy
   cases hy
 obtain⟨τ,H,rfl⟩:=hS.form
 clear hS
 have he:0≤bP x 1:=by unfold bP cG;omega
 conv=>whnf
 refine .inr (.inl ⟨12,[2703,2706,2709,2710,2712,2715],?_⟩)
 conv=>whnf
 refine⟨_,gT p h.hs,?_⟩
 conv=>whnf
 refine⟨_,bZ y h.hx,?_⟩
 conv=>whnf
 refine⟨_,cI,?_⟩
 conv=>whnf
 refine⟨by kernel_rfl,?_⟩
 conv=>whnf
 refine .inl ⟨[agg (encRT x),agg (encRT x)],[],_,⟨_,_,rfl,⟨_,rfl,fz_ownM (o:=900) ⟨?_,?_,?_,fun j=>?_,?_,?_⟩⟩,_,_,rfl,pV x,rfl⟩,rfl,jK x hx,?_⟩
 ·rfl
 ·rfl
 ·first|rfl|(show some (Ob.rs 158 6 ((thRows 903 x.s.ths).map (scrPL _)))=_;rw[zU fun _ _=>rfl])
 ·have e:ownH (jZ x++[bv true]) (.s 903 j)=zD x.s.ths j:=v7
  show(match ownH (jZ x++[bv true]) (.s 903 j) with|some ob=>some ob|none=>_)=_
  rw[e]
  cases hq:zD x.s.ths j with
  |none=>rfl
  |some ob=>rfl
 ·rfl
 ·rfl
 rintro r rfl
 refine⟨rfl,?_⟩
 conv=>whnf
 refine kbi (fun h=>absurd h (by simp)) (fun _=>?_)
 conv=>whnf
 refine .inl ⟨[agg (encRT (xF x 1)),i64 1],[],_,⟨_,_,rfl,⟨_,rfl,fz_mark x 1 ⟨?_,?_,?_,fun j=>?_,?_,?_⟩⟩,_,_,rfl,rfl,rfl⟩,rfl,nG x 1 hx ht (by omega) (by omega),?_⟩
 ·rfl
 ·rfl
 ·first|rfl|(show some (Ob.rs 158 6 ((thRows 923 (xF x 1).s.ths).map (scrPL _)))=_;rw[zU fun _ _=>rfl])
 ·first|rfl|(show Option.map _ (zD (xF x 1).s.ths j)=_;exact zG _ _ _)
 ·rfl
 ·rfl
 rintro r rfl
 refine⟨rfl,?_⟩
 conv=>whnf
 refine kbi (fun h=>absurd h (by simp;try omega)) (fun _=>?_)
 conv=>whnf
 refine⟨fun h=>absurd h (by simp),fun _=>?_⟩
 conv=>whnf
theorem lawSwapF (p:ProgL) (hp:p.wf) (hv:p.flt) (hc:p.cn) (y:RunT) (b:Int) (hf:y.s.cf) (h:SmX p y) (hq:uF p y b=(rn0,false))
  {S:St} (hS:At (wqC b (bv false)) (m4 p y rn0 ((encRT rn0).map .d) []) [(903,wX (zN p) 0),(963,zD y.s.ths)] S):AW EE Tryz.f4.ntmps (dropC 10 (Tryz.f4.body.getD .skip)) (bT EE Tryz.f4 (·=bv true)) S:=by
 have cI:CallsTo EE 26 [agg (encProg p),agg (encRT y),i64 b] (·=.tup [agg (encRT rn0),bv false]):=by
  refine cM (nL p hp h.hs hv hc y h.hx hf b) ?_
  rintro r (⟨y,hy,rfl⟩|⟨hy,rfl⟩)
  ·rw[hq] at hy
   cases hy
  ·rfl
 obtain⟨τ,H,rfl⟩:=hS.form
 clear hS
 have hsl:(zN p).length=p.rs.length:=by simp[zN]
 have ht:=tot_size h.hz
 conv=>whnf
 refine⟨_,jK rn0 nW,?_⟩
 rintro r rfl
 conv=>whnf
 refine kbi (fun h=>absurd h (by simp)) (fun _=>?_)
 conv=>whnf
 refine⟨by kernel_rfl,?_⟩
 conv=>whnf
 refine⟨_,gT p h.hs,?_⟩
 conv=>whnf
 refine⟨[agg (encProg p),agg (encProg p)],[],bv true,⟨_,_,rfl,⟨_,rfl,fz_own rfl (fun j=>rfl) rfl⟩,_,_,rfl,lT p,rfl⟩,rfl,d5 p h.hs,rfl,?_⟩
 conv=>whnf
 refine⟨by kernel_rfl,?_⟩
 conv=>whnf
 refine⟨_,bZ y h.hx,?_⟩
 conv=>whnf
 refine⟨[agg (encRT y),agg (encRT y)],[],bv true,⟨_,_,rfl,⟨_,rfl,fz_ownR (o:=963) rfl rfl rfl (fun j=>rfl) rfl rfl⟩,_,_,rfl,pV y,rfl⟩,rfl,jK y h.hx,rfl,?_⟩
 conv=>whnf
 refine .inr (.inr (.inl ⟨_,20,[],Weak.refl,rfl,999,0,dL,(fun r H1=>r=i64 (1+4*tot (zN p) (zN p).length)∧∀ κ,H1 κ=none),?_,rfl,?_⟩))
 ·refine xB (tS p.cells p.locks p.conds (zN p) 1 (by rw[hsl];exact h.hs.1) (ops4 p) ht (by omega) (by omega) _ ?_ fun j=>?_) ?_
  ·show some (Ob.rs 133 1 (((wV (zN p) 0).map (renL (swp (.n 999) (.l 0)))).map (scrPL (fun o=>!dL o))))=_
   rw[mX _ (fun j=>rfl),qV _ (fun j=>rfl)]
  ·show Option.map _ (Option.map _ (wX (zN p) 0 j))=_
   rw[wQ,vO]
  ·rw[hsl];rfl
 rintro r H1 ⟨rfl,q⟩
 refine⟨fun κ _=>q κ,fun n hn=>(by cases hn),?_⟩
 generalize tot (zN p) (zN p).length=T at ht ⊢
 conv=>whnf
 refine .inr (.inr (.inl ⟨_,21,[],vD shZ,rfl,999,0,lendX,(fun r H1=>(∃ n:Int,r=i64 n∧0≤n∧n≤268435456)∧∀ κ,H1 κ=none),?_,rfl,?_⟩))
 ·refine xB (eS y (1+4*(T:Int)) h.hx h.ht (by omega) ?_ _ ?_ ?_ ?_ (fun j=>?_) ?_ ?_) ?_
  ·omega
  ·rfl
  ·rfl
  ·show some (Ob.rs 158 6 (((((((thRows 963 y.s.ths).map (renL (swp (.n 999) (.l 0)))).map (scrPL (xK dL))).map (renL (swp (.n 999) (.l 0)))).map (renL shZ.f)).map (renL (swp (.n 999) (.l 0)))).map (scrPL (fun o=>!lendX o))))=_
   rw[zI (o:=963) (fun j=>rfl),zU (o:=963) (fun _ _=>rfl),zI (o:=963) (fun j=>rfl),show(thRows 963 y.s.ths).map (renL shZ.f)=thRows 903 y.s.ths from qU (g:=numZ) (hg:=sI) 963 y.s.ths,zI (fun j=>rfl),zX (fun j=>rfl)]
  ·show Option.map _ (Option.map _ (Option.map _ (Option.map _ (Option.map _ (Option.map _ (zD y.s.ths j))))))=_
   rw[thFam_ren,zG,thFam_ren,thFam_ren,thFam_ren,zG]
  ·rfl
  ·rfl
  ·rfl
 rintro r H2 ⟨⟨n,rfl,hn1,hn2⟩,q2⟩
 refine⟨fun κ _=>q2 κ,fun n hn=>(by cases hn),?_⟩
 conv=>whnf
 refine⟨fun h=>absurd h (by simp;omega),fun _=>?_⟩
 conv=>whnf
 refine⟨_,jK rn0 nW,?_⟩
 rintro r rfl
 conv=>whnf
 refine kbi (fun h=>absurd h (by simp)) (fun _=>?_)
 conv=>whnf
 refine⟨_,markRun0 1,?_⟩
 rintro r rfl
 conv=>whnf
 have hh:CallsTo EE 27 [agg (encRT rn0),i64 1] (·=i64 1):=nG rn0 1 nW (by simp[rn0,zS]) (by omega) (by omega)
 refine⟨_,hh,?_⟩
 rintro r rfl
 conv=>whnf
 refine⟨fun h=>absurd h (by simp),fun _=>?_⟩
 conv=>whnf
 refine⟨fun h=>absurd h (by simp),fun _=>?_⟩
 conv=>whnf
 refine .inr (.inl ⟨12,[],?_⟩)
 conv=>whnf
 refine⟨_,gT p h.hs,?_⟩
 conv=>whnf
 refine⟨_,bZ y h.hx,?_⟩
 conv=>whnf
 refine⟨_,cI,?_⟩
 conv=>whnf
 refine⟨by kernel_rfl,?_⟩
 conv=>whnf
 refine⟨_,jK rn0 nW,?_⟩
 rintro r rfl
 conv=>whnf
 refine kbi (fun h=>absurd h (by simp)) (fun _=>?_)
 conv=>whnf
 refine⟨_,hh,?_⟩
 rintro r rfl
 conv=>whnf
 refine⟨fun h=>absurd h (by simp),fun _=>?_⟩
 conv=>whnf
 refine⟨fun h=>absurd h (by simp),fun _=>?_⟩
 conv=>whnf
theorem lawSwap (p:ProgL) (hp:p.wf) (hv:p.flt) (hc:p.cn) (y:RunT) (hx:y.wf) (hf:y.s.cf) (b:Int):CallsTo EE 4 [agg (encProg p),agg (encRT y),i64 b] (·=bv true):=by
 refine lawSwap1 p hp hv hc y hx hf b fun h S hS=>?_
 refine lawSwap2 p hp hv hc y b hf h (fun x hq S hS=>rU ?_) (fun hq S hS=>rU (lawSwapF p hp hv hc y b hf h hq hS)) hS
 obtain⟨hx,ht⟩:=swapV_fit hv hq
 exact lawSwap3 p y b h x hx (fun S hS=>lawSwap4 p y b h x hx (fun S hS=>lawSwap5 p y b h x hx ht (fun S hS=>lawSwap6 p y b h x hx ht (fun S hS=>lawSwap7 p hp hv hc y b hf h x hx ht hq hS) hS) hS) hS) hS
end Ai
namespace Ai
set_option maxRecDepth 100000
open Go Go.Proofs Go.Deep
section
variable {H:Type} {enc':TypeId × Value→H} {w:World} {sp:Nat→Bool} {held:Bool}
theorem rd_fltC {n:Nat} {cs:List Value} {x:DataW H × List MemPlace} (h:DataW.trod enc' Tryz.prog w 0 sp held n 74 cs=some x):∃ v:Nat,CF v∧Fits w [.flt v] cs:=by
 cases n with
 |zero=>simp[DataW.trod] at h
 |succ n =>
  unfold DataW.trod at h
  rw[Tryz.underlying74] at h
  split at h <;> simp_all
  rename_i kk b e2
  obtain⟨⟨e1,hb⟩,_⟩:=h
  subst e2
  have hb0:(Lit.float FloatKind.f64 b).wf=true:=hb
  refine⟨canon b,⟨?_,?_⟩,rfl,fun i d u hd hu=>?_⟩
  ·exact canon_canon b
  ·show canon b<18446744073709551616
   have hb2:b<18446744073709551616:=by simpa[Lit.wf] using hb0
   unfold canon nanC
   cases zW b <;> simp <;> omega
  match i,hd,hu with
  | 0,hd,hu=>simp at hd hu;subst hd;subst hu;exact .flt _
  |i+1,hd,hu=>simp at hd
theorem rd_opC {n:Nat} {cs:List Value} {x:DataW H × List MemPlace} (h:DataW.trod enc' Tryz.prog w 0 sp held n 199 cs=some x):∃ o:OpL,CF o.v∧Fits w (encOp o) cs:=by
 obtain⟨xs,m,_,_,hcl,hxl,hf⟩:=DataW.trod_struct Tryz.underlying199 h
 have c3:Tryz.prog.cellsOf 3=1:=by kernel_rfl
 have c105:Tryz.prog.cellsOf 74=1:=by kernel_rfl
 have c151:Tryz.prog.cellsOf 199=4:=by kernel_rfl
 have hxl4:xs.length=4:=hxl
 have g0:DataW.trod enc' Tryz.prog w 0 sp held m 3 ((cs.drop 0).take (Tryz.prog.cellsOf 3))=xs[0]?:=hf 0 _ rfl
 have g1:DataW.trod enc' Tryz.prog w 0 sp held m 3 ((cs.drop 1).take (Tryz.prog.cellsOf 3))=xs[1]?:=hf 1 _ rfl
 have g2:DataW.trod enc' Tryz.prog w 0 sp held m 3 ((cs.drop 2).take (Tryz.prog.cellsOf 3))=xs[2]?:=hf 2 _ rfl
 have g3:DataW.trod enc' Tryz.prog w 0 sp held m 74 ((cs.drop 3).take (Tryz.prog.cellsOf 74))=xs[3]?:=hf 3 _ rfl
 simp only[c3,c105] at g0 g1 g2 g3
 rw[List.getElem?_eq_getElem (by omega)] at g0 g1 g2 g3
 obtain⟨k0,f0⟩:=rd_int g0
 obtain⟨k1,f1⟩:=rd_int g1
 obtain⟨k2,f2⟩:=rd_int g2
 obtain⟨v,hv,f3⟩:=rd_fltC g3
 exact⟨⟨k0,k1,k2,v⟩,hv,yF (k:=0) f0 (yF (k:=1) f1 (yF (k:=2) f2 (yF (k:=3) f3 (dR (by omega)))))⟩
theorem rd_rowC {n:Nat} {cs:List Value} {x:DataW H × List MemPlace} (h:DataW.trod enc' Tryz.prog w 0 sp held n 131 cs=some x):∃ l:List OpL,(l.length≤9223372036854775807∧∀ o∈l,CF o.v)∧Fits w (yA l) cs:=by
 obtain⟨xs,hw,hl,hf⟩:=fC (α:=OpL) Tryz.underlying131 4 (by kernel_rfl) (by omega) encOp (fun o=>CF o.v) (fun n cs x h=>rd_opC h) h
 exact⟨xs,⟨hl,hw⟩,hf⟩
theorem rd_rowsC {n:Nat} {cs:List Value} {x:DataW H × List MemPlace} (h:DataW.trod enc' Tryz.prog w 0 sp held n 22 cs=some x):∃ l:List (List OpL),(l.length≤9223372036854775807∧∀ r∈l,r.length≤9223372036854775807∧∀ o∈r,CF o.v)∧Fits w [.sl (l.map yA)] cs:=by
 obtain⟨xs,hw,hl,hf⟩:=fC (α:=List OpL) Tryz.underlying22 1 (by kernel_rfl) (by omega) yA (fun r=>r.length≤9223372036854775807∧∀ o∈r,CF o.v) (fun n cs x h=>rd_rowC h) h
 exact⟨xs,⟨hl,hw⟩,hf⟩
theorem rd_progC {n:Nat} {cs:List Value} {x:DataW H × List MemPlace} (h:DataW.trod enc' Tryz.prog w 0 sp held n 24 cs=some x):∃ p:ProgL,(p.wf∧p.flt∧p.cn)∧Fits w (encProg p) cs:=by
 obtain⟨xs,m,_,_,hcl,hxl,hf⟩:=DataW.trod_struct Tryz.underlying24 h
 have c22:Tryz.prog.cellsOf 22=1:=by kernel_rfl
 have c24:Tryz.prog.cellsOf 24=4:=by kernel_rfl
 have hxl4:xs.length=4:=hxl
 have g0:DataW.trod enc' Tryz.prog w 0 sp held m 3 ((cs.drop 0).take (Tryz.prog.cellsOf 3))=xs[0]?:=hf 0 _ rfl
 have g1:DataW.trod enc' Tryz.prog w 0 sp held m 3 ((cs.drop 1).take (Tryz.prog.cellsOf 3))=xs[1]?:=hf 1 _ rfl
 have g2:DataW.trod enc' Tryz.prog w 0 sp held m 3 ((cs.drop 2).take (Tryz.prog.cellsOf 3))=xs[2]?:=hf 2 _ rfl
 have g3:DataW.trod enc' Tryz.prog w 0 sp held m 22 ((cs.drop 3).take (Tryz.prog.cellsOf 22))=xs[3]?:=hf 3 _ rfl
 simp only[c3,c22] at g0 g1 g2 g3
 rw[List.getElem?_eq_getElem (by omega)] at g0 g1 g2 g3
 obtain⟨k0,f0⟩:=rd_int g0
 obtain⟨k1,f1⟩:=rd_int g1
 obtain⟨k2,f2⟩:=rd_int g2
 obtain⟨v,⟨hv1,hv2⟩,f3⟩:=rd_rowsC g3
 exact⟨⟨k0,k1,k2,v⟩,⟨⟨hv1,fun r hr=>(hv2 r hr).1⟩,fun r hr o ho=>((hv2 r hr).2 o ho).2,fun r hr o ho=>((hv2 r hr).2 o ho).1⟩,yF (k:=0) f0 (yF (k:=1) f1 (yF (k:=2) f2 (yF (k:=3) f3 (dR (by omega)))))⟩
theorem rd_ev {n:Nat} {cs:List Value} {x:DataW H × List MemPlace} (h:DataW.trod enc' Tryz.prog w 0 sp held n 144 cs=some x):∃ o:Ev,True∧Fits w (encEv o) cs:=by
 obtain⟨xs,m,_,_,hcl,hxl,hf⟩:=DataW.trod_struct Tryz.underlying144 h
 have e3:Tryz.prog.cellsOf 3=1:=by kernel_rfl
 have e128:Tryz.prog.cellsOf 144=5:=by kernel_rfl
 have hxl4:xs.length=5:=hxl
 have g0:DataW.trod enc' Tryz.prog w 0 sp held m 3 ((cs.drop 0).take (Tryz.prog.cellsOf 3))=xs[0]?:=hf 0 _ rfl
 have g1:DataW.trod enc' Tryz.prog w 0 sp held m 3 ((cs.drop 1).take (Tryz.prog.cellsOf 3))=xs[1]?:=hf 1 _ rfl
 have g2:DataW.trod enc' Tryz.prog w 0 sp held m 3 ((cs.drop 2).take (Tryz.prog.cellsOf 3))=xs[2]?:=hf 2 _ rfl
 have g3:DataW.trod enc' Tryz.prog w 0 sp held m 3 ((cs.drop 3).take (Tryz.prog.cellsOf 3))=xs[3]?:=hf 3 _ rfl
 have g4:DataW.trod enc' Tryz.prog w 0 sp held m 3 ((cs.drop 4).take (Tryz.prog.cellsOf 3))=xs[4]?:=hf 4 _ rfl
 simp only[e3] at g0 g1 g2 g3 g4
 rw[List.getElem?_eq_getElem (by omega)] at g0 g1 g2 g3 g4
 obtain⟨k0,f0⟩:=rd_int g0
 obtain⟨k1,f1⟩:=rd_int g1
 obtain⟨k2,f2⟩:=rd_int g2
 obtain⟨k3,f3⟩:=rd_int g3
 obtain⟨k4,f4⟩:=rd_int g4
 exact⟨⟨k0,k1,k2,k3,k4⟩,trivial,yF (k:=0) f0 (yF (k:=1) f1 (yF (k:=2) f2 (yF (k:=3) f3 (yF (k:=4) f4 (dR (by omega))))))⟩
theorem rd_evs {n:Nat} {cs:List Value} {x:DataW H × List MemPlace} (h:DataW.trod enc' Tryz.prog w 0 sp held n 25 cs=some x):∃ l:List Ev,l.length≤9223372036854775807∧Fits w [.sl (l.map encEv)] cs:=by
 obtain⟨xs,_,hl,hf⟩:=fC (α:=Ev) Tryz.underlying25 5 (by kernel_rfl) (by omega) encEv (fun _=>True) (fun n cs x h=>rd_ev h) h
 exact⟨xs,hl,hf⟩
theorem rd_flts {n:Nat} {cs:List Value} {x:DataW H × List MemPlace} (h:DataW.trod enc' Tryz.prog w 0 sp held n 28 cs=some x):∃ l:List Nat,(l.length≤9223372036854775807∧∀ y∈l,CF y)∧Fits w [.sl (l.map encF)] cs:=by
 obtain⟨xs,hw,hl,hf⟩:=fC (α:=Nat) Tryz.underlying28 1 (by kernel_rfl) (by omega) encF CF (fun n cs x h=>rd_fltC h) h
 exact⟨xs,⟨hl,hw⟩,hf⟩
theorem rd_th {n:Nat} {cs:List Value} {x:DataW H × List MemPlace} (h:DataW.trod enc' Tryz.prog w 0 sp held n 189 cs=some x):∃ o:Th,(o.stack.length≤9223372036854775807∧o.cf)∧Fits w (zE o) cs:=by
 obtain⟨xs,m,_,_,hcl,hxl,hf⟩:=DataW.trod_struct Tryz.underlying189 h
 have e3:Tryz.prog.cellsOf 3=1:=by kernel_rfl
 have e43:Tryz.prog.cellsOf 28=1:=by kernel_rfl
 have e175:Tryz.prog.cellsOf 189=6:=by kernel_rfl
 have hxl4:xs.length=6:=hxl
 have g0:DataW.trod enc' Tryz.prog w 0 sp held m 3 ((cs.drop 0).take (Tryz.prog.cellsOf 3))=xs[0]?:=hf 0 _ rfl
 have g1:DataW.trod enc' Tryz.prog w 0 sp held m 3 ((cs.drop 1).take (Tryz.prog.cellsOf 3))=xs[1]?:=hf 1 _ rfl
 have g2:DataW.trod enc' Tryz.prog w 0 sp held m 3 ((cs.drop 2).take (Tryz.prog.cellsOf 3))=xs[2]?:=hf 2 _ rfl
 have g3:DataW.trod enc' Tryz.prog w 0 sp held m 3 ((cs.drop 3).take (Tryz.prog.cellsOf 3))=xs[3]?:=hf 3 _ rfl
 have g4:DataW.trod enc' Tryz.prog w 0 sp held m 3 ((cs.drop 4).take (Tryz.prog.cellsOf 3))=xs[4]?:=hf 4 _ rfl
 have g5:DataW.trod enc' Tryz.prog w 0 sp held m 28 ((cs.drop 5).take (Tryz.prog.cellsOf 28))=xs[5]?:=hf 5 _ rfl
 simp only[e3,e43] at g0 g1 g2 g3 g4 g5
 rw[List.getElem?_eq_getElem (by omega)] at g0 g1 g2 g3 g4 g5
 obtain⟨k0,f0⟩:=rd_int g0
 obtain⟨k1,f1⟩:=rd_int g1
 obtain⟨k2,f2⟩:=rd_int g2
 obtain⟨k3,f3⟩:=rd_int g3
 obtain⟨k4,f4⟩:=rd_int g4
 obtain⟨l,⟨hl1,hl2⟩,f5⟩:=rd_flts g5
 exact⟨⟨k0,k1,k2,k3,k4,l⟩,⟨hl1,hl2⟩,yF (k:=0) f0 (yF (k:=1) f1 (yF (k:=2) f2 (yF (k:=3) f3 (yF (k:=4) f4 (yF (k:=5) f5 (dR (by omega)))))))⟩
theorem rd_ths {n:Nat} {cs:List Value} {x:DataW H × List MemPlace} (h:DataW.trod enc' Tryz.prog w 0 sp held n 27 cs=some x):∃ l:List Th,(l.length≤9223372036854775807∧∀ t∈l,t.stack.length≤9223372036854775807∧t.cf)∧Fits w [.sl (l.map zE)] cs:=by
 obtain⟨xs,hw,hl,hf⟩:=fC (α:=Th) Tryz.underlying27 6 (by kernel_rfl) (by omega) zE (fun t=>t.stack.length≤9223372036854775807∧t.cf) (fun n cs x h=>rd_th h) h
 exact⟨xs,⟨hl,hw⟩,hf⟩
theorem rd_st {n:Nat} {cs:List Value} {x:DataW H × List MemPlace} (h:DataW.trod enc' Tryz.prog w 0 sp held n 30 cs=some x):∃ o:StL,(o.wf∧o.cf)∧Fits w (yG o) cs:=by
 obtain⟨xs,m,_,_,hcl,hxl,hf⟩:=DataW.trod_struct Tryz.underlying30 h
 have e3:Tryz.prog.cellsOf 3=1:=by kernel_rfl
 have e41:Tryz.prog.cellsOf 26=1:=by kernel_rfl
 have e43:Tryz.prog.cellsOf 28=1:=by kernel_rfl
 have e52:Tryz.prog.cellsOf 27=1:=by kernel_rfl
 have e54:Tryz.prog.cellsOf 30=4:=by kernel_rfl
 have hxl4:xs.length=4:=hxl
 have g0:DataW.trod enc' Tryz.prog w 0 sp held m 27 ((cs.drop 0).take (Tryz.prog.cellsOf 27))=xs[0]?:=hf 0 _ rfl
 have g1:DataW.trod enc' Tryz.prog w 0 sp held m 28 ((cs.drop 1).take (Tryz.prog.cellsOf 28))=xs[1]?:=hf 1 _ rfl
 have g2:DataW.trod enc' Tryz.prog w 0 sp held m 26 ((cs.drop 2).take (Tryz.prog.cellsOf 26))=xs[2]?:=hf 2 _ rfl
 have g3:DataW.trod enc' Tryz.prog w 0 sp held m 3 ((cs.drop 3).take (Tryz.prog.cellsOf 3))=xs[3]?:=hf 3 _ rfl
 simp only[e3,e41,e43,e52] at g0 g1 g2 g3
 rw[List.getElem?_eq_getElem (by omega)] at g0 g1 g2 g3
 obtain⟨a,⟨ha1,ha2⟩,f0⟩:=rd_ths g0
 obtain⟨c,⟨hc1,hc2⟩,f1⟩:=rd_flts g1
 obtain⟨b,hb,f2⟩:=rd_ints g2
 obtain⟨k3,f3⟩:=rd_int g3
 exact⟨⟨a,c,b,k3⟩,⟨⟨ha1,fun t ht=>(ha2 t ht).1,hc1,hb⟩,hc2,fun t ht=>(ha2 t ht).2⟩,yF (k:=0) f0 (yF (k:=1) f1 (yF (k:=2) f2 (yF (k:=3) f3 (dR (by omega)))))⟩
theorem rd_run {n:Nat} {cs:List Value} {x:DataW H × List MemPlace} (h:DataW.trod enc' Tryz.prog w 0 sp held n 32 cs=some x):∃ o:RunT,(o.wf∧o.s.cf)∧Fits w (encRT o) cs:=by
 obtain⟨xs,m,_,_,hcl,hxl,hf⟩:=DataW.trod_struct Tryz.underlying32 h
 have e3:Tryz.prog.cellsOf 3=1:=by kernel_rfl
 have e41:Tryz.prog.cellsOf 26=1:=by kernel_rfl
 have e51:Tryz.prog.cellsOf 25=1:=by kernel_rfl
 have e54:Tryz.prog.cellsOf 30=4:=by kernel_rfl
 have e56:Tryz.prog.cellsOf 32=7:=by kernel_rfl
 have hxl4:xs.length=4:=hxl
 have g0:DataW.trod enc' Tryz.prog w 0 sp held m 3 ((cs.drop 0).take (Tryz.prog.cellsOf 3))=xs[0]?:=hf 0 _ rfl
 have g1:DataW.trod enc' Tryz.prog w 0 sp held m 25 ((cs.drop 1).take (Tryz.prog.cellsOf 25))=xs[1]?:=hf 1 _ rfl
 have g2:DataW.trod enc' Tryz.prog w 0 sp held m 26 ((cs.drop 2).take (Tryz.prog.cellsOf 26))=xs[2]?:=hf 2 _ rfl
 have g3:DataW.trod enc' Tryz.prog w 0 sp held m 30 ((cs.drop 3).take (Tryz.prog.cellsOf 30))=xs[3]?:=hf 3 _ rfl
 simp only[e3,e41,e51,e54] at g0 g1 g2 g3
 rw[List.getElem?_eq_getElem (by omega)] at g0 g1 g2 g3
 obtain⟨k0,f0⟩:=rd_int g0
 obtain⟨a,ha,f1⟩:=rd_evs g1
 obtain⟨b,hb,f2⟩:=rd_ints g2
 obtain⟨s,⟨hs1,hs2⟩,f3⟩:=rd_st g3
 exact⟨⟨k0,a,b,s⟩,⟨⟨ha,hb,hs1⟩,hs2⟩,yF (k:=0) f0 (yF (k:=1) f1 (yF (k:=2) f2 (by rw[List.take_of_length_le (by rw[List.length_drop];omega)] at f3;exact f3)))⟩
end
end Ai
