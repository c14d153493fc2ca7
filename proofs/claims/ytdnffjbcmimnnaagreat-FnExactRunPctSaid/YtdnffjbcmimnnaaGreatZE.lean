import Derived.Test.YtdnffjbcmimnnaaGreatZD
import Derived.Shelf.Sort.Plain
import Derived.Shelf.Slices.In.SortNone
import Derived.Shelf.Slices.CompactI
import Derived.Ground.NamesProg
import Derived.Ground.Names2Prog
import Derived.Test.YtdnffjbcmimnnaaGreatProg
import Derived.WalkKit
set_option maxHeartbeats 8000000
set_option linter.unusedVariables false
set_option linter.unusedSimpArgs false
namespace Ai
set_option maxRecDepth 100000
open Go Go.Proofs
theorem dI (els:List (List D)) (sz k off:Nat) (xs:List D):(xF els sz k off xs).length=els.length:=by
 unfold xF
 cases Nat.beq off 0&&Nat.beq xs.length sz <;> simp
theorem tD {x:D}:∀ (c:List D) (off:Nat),off<c.length→(yD c off [x]).length=c.length
 | [],off,h=>by simp at h
 |c::cs,0,h=>by simp[yD]
 |c::cs,off+1,h=>by
  have:=tD (x:=x) cs off (by simpa using h)
  simp[yD,this]
theorem sN {els:List (List D)} {k off:Nat} {x:D} (h:∀ c∈els,c.length=4) (ho:off<4):∀ c∈xF els 4 k off [x],c.length=4:=by
 intro c hc
 unfold xF at hc
 rw[show Nat.beq ([x]:List D).length 4=false from rfl,Bool.and_false] at hc
 obtain⟨i,hi,rfl⟩:=List.mem_iff_getElem.1 hc
 have hil:i<els.length:=by simpa using hi
 have h4:=h _ (List.getElem_mem hil)
 simp only[cond_false,List.getElem_modify]
 split
 ·rw[tD _ _ (by omega)];exact h4
 ·exact h4
theorem markOpS_ok (els:List (List D)) (k:Int) (n:Nat) (hn:n=els.length) (hx:n≤1048576) (h4:∀ c∈els,c.length=4) (h0:0≤k) (h1:k≤1073741824) (H0:Key→Option Ob) (hH:H0 (.n 50)=some (.ds 183 4 els)) :
  IOCall EE 119 [.ref (.n 50) 0 n,i64 k] H0 (fun r H1=>r=i64 (k+4*n)∧∀ κ,H1 κ=none):=by
 refine xS (fn:=Tryz.f119) (c:=Tryz.f119.body.getD .skip) Tryz.func119 rfl (by kernel_rfl) rfl ?_
 have hat:At [(0,.ref (.n 50) 0 n),(1,i64 k)] [(.n 50,.ds 183 4 els)] [] ⟨fun i=>[AV.ref (.n 50) 0 n,i64 k].getD i .junk,H0⟩:=⟨⟨rfl,rfl,trivial⟩,⟨hH,trivial⟩,trivial⟩
 obtain⟨τ,H,hf⟩:=hat.form
 rw[hf]
 conv=>whnf
 refine yU (fun x:Nat × List (List D)=>[(0,.ref (.n 50) 0 n),(1,i64 (k+4*(x.1:Int))),(5,i64 x.1)]) (fun x=>[(.n 50,.ds 183 4 x.2)]) (fun x=>n - x.1) (fun x=>x.1≤n∧x.2.length=n∧∀ c∈x.2,c.length=4) (0,els)
  Weak.refl ⟨rfl,?_,rfl,trivial⟩ ⟨rfl,trivial⟩ ⟨Nat.zero_le _,hn.symm,h4⟩ ?_
 ·show i64 k=i64 (k+4*((0:Nat):Int))
  rw[show k+4*((0:Nat):Int)=k by omega]
 rintro⟨i,E⟩ τ H ⟨hi,hE,hE4⟩
 have hi:i≤n:=hi
 have hE:E.length=n:=hE
 have hE4:∀ c∈E,c.length=4:=hE4
 conv=>whnf
 refine kbi (fun h=>?_) (fun h=>?_)
 ·have hlt:i<n:=by simpa using h
  conv=>whnf
  refine⟨⟨by show 0≤(i:Int);omega,by show(i:Int)<n;omega⟩,?_⟩
  conv=>whnf
  refine⟨⟨by show 0≤(i:Int);omega,by show(i:Int)<n;omega⟩,?_⟩
  conv=>whnf
  refine⟨⟨by show 0≤(i:Int);omega,by show(i:Int)<n;omega⟩,?_⟩
  conv=>whnf
  refine⟨⟨by show 0≤(i:Int);omega,by show(i:Int)<n;omega⟩,?_⟩
  conv=>whnf
  refine⟨(i+1,xF (xF (xF (xF E 4 (0+(i:Int).toNat) (0+0) [.int .i64 (k+4*(i:Int))]) 4 (0+(i:Int).toNat) (0+1) [.int .i64 (IntKind.i64.wrap (k+4*(i:Int)+1))]) 4 (0+(i:Int).toNat) (0+2) [.int .i64 (IntKind.i64.wrap (IntKind.i64.wrap (k+4*(i:Int)+1)+1))]) 4 (0+(i:Int).toNat) (0+3) [.flt (FloatKind.f64.nearest (IntKind.i64.wrap (IntKind.i64.wrap (IntKind.i64.wrap (k+4*(i:Int)+1)+1)+1)))]),⟨by show i+1≤n;omega,?_,?_⟩,by show n - (i+1)<n - i;omega,⟨rfl,?_,?_,trivial⟩,⟨rfl,trivial⟩⟩
  ·dsimp only
   rw[dI,dI,dI,dI,hE]
  ·dsimp only
   refine sN (sN (sN (sN hE4 ?_) ?_) ?_) ?_ <;> omega
  ·show AV.d (.int .i64 (IntKind.i64.wrap (IntKind.i64.wrap (IntKind.i64.wrap (IntKind.i64.wrap ((k+4*(i:Int))+1)+1)+1)+1)))=i64 (k+4*((i+1:Nat):Int))
   rw[zF (n:=k+4*(i:Int)+1) (by omega) (by omega),zF (n:=k+4*(i:Int)+1+1) (by omega) (by omega),zF (n:=k+4*(i:Int)+1+1+1) (by omega) (by omega),zF (n:=k+4*(i:Int)+1+1+1+1) (by omega) (by omega)]
   exact congrArg i64 (by omega)
  ·show AV.d (.int .i64 (IntKind.i64.wrap ((i:Int)+1)))=i64 ((i+1:Nat):Int)
   rw[zF (by omega) (by omega)]
   rfl
 ·conv=>whnf
  have hkk:i=n:=by
   have:¬ i<n:=by simpa using h
   omega
  subst hkk
  refine⟨_,Weak.refl,?_⟩
  conv=>whnf
  exact⟨fun _=>false,rfl,fun κ=>rfl⟩
end Ai
namespace Ai
set_option maxRecDepth 100000
open Go Go.Proofs
theorem io_congr {g:FuncId} {xs ys:List AV} {H0:Key→Option Ob} {Post:AV→(Key→Option Ob)→Prop} (h:IOCall EE g xs H0 Post) (e:ys=xs):IOCall EE g ys H0 Post:=by rw[e];exact h
def dW (subs:List (List (List D))) (i j:Nat):List AV:=if j<i then [.junk] else [.ref (.s 903 j) 0 (subs.getD j []).length]
def wP (subs:List (List (List D))) (i:Nat):List (List AV):=(List.range subs.length).map (dW subs i)
def wU (subs:List (List (List D))) (i j:Nat):Option Ob:=if j<i then none else (subs[j]?).map (.ds 183 4)
theorem eU {subs:List (List (List D))} {i j:Nat} (h:j<subs.length):(wP subs i)[j]?=some (dW subs i j):=by simp[wP,h]
theorem nY {subs:List (List (List D))} {i i':Nat} (f:List AV→List AV) (h:∀ j,f (dW subs i j)=dW subs i' j):(wP subs i).map f=wP subs i':=by
 unfold wP
 rw[List.map_map]
 exact List.map_congr_left fun j _=>h j
theorem wM (f:Key→Key) (subs:List (List (List D))) (i j:Nat):(wU subs i j).map (renO f)=wU subs i j:=by
 unfold wU
 split
 ·rfl
 ·cases subs[j]? <;> rfl
theorem vH (p:Key→Bool) (subs:List (List (List D))) (i j:Nat):(wU subs i j).map (scrPO p)=wU subs i j:=by
 unfold wU
 split
 ·rfl
 ·cases subs[j]? <;> rfl
def tot (subs:List (List (List D))) (i:Nat):Nat:=((subs.take i).map List.length).sum
theorem tot_succ {subs:List (List (List D))} {i:Nat} (h:i<subs.length):tot subs (i+1)=tot subs i+subs[i].length:=by
 unfold tot
 rw[List.take_succ_eq_append_getElem h,List.map_append,List.sum_append]
 simp
theorem tot_le (subs:List (List (List D))) (i:Nat):tot subs i≤tot subs subs.length:=by
 unfold tot
 rw[List.take_length]
 have:∀ (l:List Nat) (i:Nat),(l.take i).sum≤l.sum:=by
  intro l
  induction l with
  |nil=>simp
  |cons x xs ih =>
   intro i
   cases i with
   |zero=>simp
   |succ i=>simp only[List.take_succ_cons,List.sum_cons];have:=ih i;omega
 rw[List.map_take]
 exact this _ i
theorem s5 (subs:List (List (List D))) (k:Int) (hx:subs.length≤1048576) (hs:∀ q∈subs,∀ c∈q,c.length=4) (ht:tot subs subs.length≤1048576) (h0:0≤k) (h1:k≤1048576) (H0:Key→Option Ob)
  (hH:H0 (.n 903)=some (.rs 157 1 (wP subs 0))) (hF:∀ j,H0 (.s 903 j)=wU subs 0 j) :
  IOCall EE 62 [.dref (.n 903) subs.length,i64 k] H0 (fun r H1=>r=i64 (k+4*tot subs subs.length)∧∀ κ,H1 κ=none):=by
 refine xS (fn:=Tryz.f62) (c:=Tryz.f62.body.getD .skip) Tryz.func62 rfl (by kernel_rfl) rfl ?_
 have hat:At [(0,.dref (.n 903) subs.length),(1,i64 k)] [(.n 903,.rs 157 1 (wP subs 0))] [(903,wU subs 0)] ⟨fun i=>[AV.dref (.n 903) subs.length,i64 k].getD i .junk,H0⟩:=⟨⟨rfl,rfl,trivial⟩,⟨hH,trivial⟩,⟨hF,trivial⟩⟩
 obtain⟨τ,H,hf⟩:=hat.form
 rw[hf]
 conv=>whnf
 refine mB (fun i:Nat=>[(0,.dref (.n 903) subs.length),(1,i64 (k+4*(tot subs i:Int))),(5,i64 i)]) (fun i=>[(.n 903,.rs 157 1 (wP subs i))]) (fun i=>[(903,wU subs i)]) (fun i=>subs.length - i) (fun i=>i≤subs.length) 0
  Weak.refl ⟨rfl,?_,rfl,trivial⟩ ⟨rfl,trivial⟩ ⟨fun j=>?_,trivial⟩ (Nat.zero_le _) ?_
 ·show i64 k=i64 (k+4*((tot subs 0:Nat):Int))
  rw[show k+4*((tot subs 0:Nat):Int)=k by simp[tot]]
 ·rfl
 intro i τ H hi
 have hi:i≤subs.length:=hi
 have hti:=tot_le subs i
 conv=>whnf
 refine kbi (fun h=>?_) (fun h=>?_)
 ·have hlt:i<subs.length:=by simpa using h
  conv=>whnf
  refine⟨⟨by omega,by omega⟩,?_⟩
  conv=>whnf
  have hgi:subs.getD i []=subs[i]:=by simp[List.getD_eq_getElem?_getD,hlt]
  have hrow:dW subs i i=[.ref (.s 903 i) 0 subs[i].length]:=by unfold dW;rw[if_neg (by omega),hgi]
  have hfi:wU subs i i=some (.ds 183 4 subs[i]):=by unfold wU;rw[if_neg (by omega),List.getElem?_eq_getElem hlt];rfl
  refine⟨[.ref (.s 903 i) 0 subs[i].length],⟨?_,Nat.le_refl _⟩,?_⟩
  ·rw[Int.toNat_natCast,eU hlt,hrow]
  conv=>whnf
  have hsw:swp (.n 50) (.s 903 i) (.s 903 i)=.n 50:=by simp[swp,Key.beq]
  have hts:=tot_succ hlt
  have hti2:=tot_le subs (i+1)
  split
  case' h_1=>conv=>whnf
  case' h_1=>refine .inr (.inr (.inr (.inl ?_)))
  case' h_2=>refine .inr (.inr (.inl ?_))
  all_goals
   refine⟨_,119,[],jV 50 903 i,rfl,999,0,isK (.n 50),(fun r H1=>r=i64 ((k+4*(tot subs i:Int))+4*(subs[i].length:Nat))∧∀ κ,H1 κ=none),?_,rfl,?_⟩
   ·refine io_congr (markOpS_ok subs[i] (k+4*(tot subs i:Int)) subs[i].length rfl (by omega) (hs _ (List.getElem_mem hlt)) (by omega) (by omega) _ ?_) ?_
    ·show Option.map _ (Option.map _ (Option.map _ (wU subs i i)))=_
     rw[hfi]
     rfl
    ·show[scrP _ (.ref (swp (.n 999) (.l 0) (swp (.n 50) (.s 903 i) (.s 903 i))) 0 subs[i].length),_]=_
     rw[hsw]
     rfl
   ·rintro r H1 ⟨rfl,q⟩
    refine⟨fun κ _=>q κ,fun n hn=>(by cases hn),?_⟩
    conv=>whnf
    have hne:∀ j,j≠i→swp (.n 50) (.s 903 i) (.s 903 j)=.s 903 j:=fun j hj=>by simp[swp,Key.beq,nbeq_ne hj]
    refine⟨i+1,_,jV 50 903 i,by show i+1≤subs.length;omega,by show subs.length - (i+1)<subs.length - i;omega,⟨rfl,?_,?_,trivial⟩,⟨?_,trivial⟩,⟨fun j=>?_,trivial⟩⟩
    ·show i64 (k+4*((tot subs i:Nat):Int)+4*((subs[i].length:Nat):Int))=i64 (k+4*((tot subs (i+1):Nat):Int))
     rw[hts]
     exact congrArg i64 (by omega)
    ·show AV.d (.int .i64 (IntKind.i64.wrap ((i:Int)+1)))=i64 ((i+1:Nat):Int)
     rw[zF (by omega) (by omega)]
     rfl
    ·show some (Ob.rs 157 1 ((((((wP subs i).map (renL (swp (.n 50) (.s 903 i)))).map (renL (swp (.n 999) (.l 0)))).map (scrPL (xG (isK (.n 50))))).map (renL (swp (.n 999) (.l 0)))).map (renL (swp (.n 50) (.s 903 i)))))=_
     rw[List.map_map,List.map_map,List.map_map,List.map_map]
     refine congrArg (fun x=>some (Ob.rs 157 1 x)) (nY _ fun j=>?_)
     by_cases hj:j=i
     ·subst hj
      rw[hrow]
      unfold dW
      rw[if_pos (by omega)]
      show renL _ (renL _ (scrPL _ (renL _ [AV.ref (swp (.n 50) (.s 903 j) (.s 903 j)) 0 _])))=_
      rw[hsw]
      rfl
     ·unfold dW
      by_cases hji:j<i
      ·rw[if_pos hji,if_pos (by omega)]
       rfl
      ·rw[if_neg hji,if_neg (by omega)]
       show renL _ (renL _ (scrPL _ (renL _ [AV.ref (swp (.n 50) (.s 903 i) (.s 903 j)) 0 _])))=_
       rw[hne j hj]
       show[AV.ref (swp (.n 50) (.s 903 i) (.s 903 j)) 0 _]=_
       rw[hne j hj]
    ·show(St.H _ (swp (.n 50) (.s 903 i) (.s 903 j))).map _=_
     by_cases hj:j=i
     ·subst hj
      rw[hsw]
      show Option.map _ (Option.map _ (H1 (.n 50)))=_
      rw[q]
      unfold wU
      rw[if_pos (by omega)]
      rfl
     ·rw[hne j hj]
      show Option.map _ (Option.map _ (Option.map _ (Option.map _ (Option.map _ (St.H _ (swp (.n 50) (.s 903 i) (.s 903 j)))))))=_
      rw[hne j hj]
      show Option.map _ (Option.map _ (Option.map _ (Option.map _ (Option.map _ (wU subs i j)))))=_
      rw[wM,wM,vH,wM,wM]
      unfold wU
      by_cases hji:j<i
      ·rw[if_pos hji,if_pos (by omega)]
      ·rw[if_neg hji,if_neg (by omega)]
 ·conv=>whnf
  have hkk:i=subs.length:=by
   have:¬ i<subs.length:=by simpa using h
   omega
  subst hkk
  refine⟨_,Weak.refl,?_⟩
  conv=>whnf
  exact⟨fun _=>false,rfl,fun κ=>rfl⟩
end Ai
namespace Ai
set_option maxRecDepth 100000
open Go Go.Proofs
def Th.stl (t:Th):Nat:=t.stack.length
structure StL.wf (s:StL):Prop where
 ths:s.ths.length≤9223372036854775807
 st:∀ t∈s.ths,t.stack.length≤9223372036854775807
 cells:s.cells.length≤9223372036854775807
 owner:s.owner.length≤9223372036854775807
def StL.size (s:StL):Nat:=gY Th.stl s.ths+(s.cells.length+s.owner.length)
structure RunT.wf (x:RunT):Prop where
 tr:x.tr.length≤9223372036854775807
 tk:x.tk.length≤9223372036854775807
 s:x.s.wf
def RunT.size (x:RunT):Nat:=x.tr.length+(x.tk.length+x.s.size)
end Ai
namespace Ai
set_option maxRecDepth 100000
open Go Go.Proofs
def cE:Key→Bool
 | .n k=>Nat.beq k 903
 | .s o _=>Nat.beq o 903
 | .l _=>false
theorem qJ {p:Key→Bool} (subs:List (List (List D))) (hp:∀ j,p (.s 903 j)=false):(wP subs 0).map (scrPL p)=wP subs 0 :=
 nY _ fun j=>by
  unfold dW
  rw[if_neg (by omega)]
  simp[scrPL,scrP,hp j]
theorem jW {f:Key→Key} (subs:List (List (List D))) (hf:∀ j,f (.s 903 j)=.s 903 j):(wP subs 0).map (renL f)=wP subs 0 :=
 nY _ fun j=>by
  unfold dW
  rw[if_neg (by omega)]
  simp[renL,ren,hf j]
theorem rL (c l d:Int) (subs:List (List (List D))) (k:Int) (hx:subs.length≤1048576) (hs:∀ q∈subs,∀ c∈q,c.length=4) (ht:tot subs subs.length≤1048576) (h0:0≤k) (h1:k≤1048576) (H0:Key→Option Ob)
  (hH:H0 (.n 903)=some (.rs 157 1 (wP subs 0))) (hF:∀ j,H0 (.s 903 j)=wU subs 0 j) :
  IOCall EE 17 [.agg [i64 c,i64 l,i64 d,.dref (.n 903) subs.length],i64 k] H0 (fun r H1=>r=i64 (k+4*tot subs subs.length)∧∀ κ,H1 κ=none):=by
 refine xS (fn:=Tryz.f17) (c:=Tryz.f17.body.getD .skip) Tryz.func17 rfl (by kernel_rfl) rfl ?_
 have hat:At [(0,.agg [i64 c,i64 l,i64 d,.dref (.n 903) subs.length]),(1,i64 k)] [(.n 903,.rs 157 1 (wP subs 0))] [(903,wU subs 0)] ⟨fun i=>[AV.agg [i64 c,i64 l,i64 d,.dref (.n 903) subs.length],i64 k].getD i .junk,H0⟩:=⟨⟨rfl,rfl,trivial⟩,⟨hH,trivial⟩,⟨hF,trivial⟩⟩
 obtain⟨τ,H,hf⟩:=hat.form
 rw[hf]
 conv=>whnf
 refine .inr (.inl ⟨999,0,cE,(fun r H1=>r=i64 (k+4*tot subs subs.length)∧∀ κ,H1 κ=none),?_,rfl,?_⟩)
 ·refine io_congr (s5 subs k hx hs ht h0 h1 _ ?_ fun j=>?_) rfl
  ·show some (Ob.rs 157 1 ((((wP subs 0).map (scrPL (isK (.n 2)))).map (renL (swp (.n 999) (.l 0)))).map (scrPL (fun o=>!cE o))))=_
   rw[qJ subs (fun j=>rfl),jW subs (fun j=>rfl),qJ subs (fun j=>rfl)]
  ·show Option.map _ (Option.map _ (Option.map _ (wU subs 0 j)))=_
   rw[vH,wM,vH]
 ·rintro r H1 ⟨rfl,q⟩
  refine⟨fun κ _=>q κ,fun n hn=>(by cases hn),?_⟩
  conv=>whnf
  refine⟨_,Weak.refl,?_⟩
  conv=>whnf
  exact⟨fun _=>false,rfl,fun κ=>rfl⟩
def kY (r:List OpL):List (List D):=r.map encOp
def zJ (p:ProgL):List (List (List D)):=p.rs.map kY
def aR (subs:List (List (List D))) (i j:Nat):List AV:=if j<i then [.ref (.s 900 j) 0 (subs.getD j []).length] else [.d .nil]
def vW (subs:List (List (List D))) (i:Nat):List (List AV):=(List.range subs.length).map (aR subs i)
def pT (subs:List (List (List D))) (i j:Nat):Option Ob:=if j<i then (subs[j]?).map (.ds 183 4) else none
theorem rowsT_zero (subs:List (List (List D))):vW subs 0=List.replicate subs.length [.d .nil]:=by
 apply List.ext_getElem?
 intro j
 simp only[vW,List.getElem?_map,List.getElem?_replicate,List.getElem?_range']
 by_cases h:j<subs.length
 ·rw[if_pos h,List.getElem?_eq_getElem (by simpa using h)]
  simp[aR]
 ·rw[if_neg h,List.getElem?_eq_none (by simpa using h)]
  rfl
theorem rowsT_map {subs:List (List (List D))} {i i':Nat} (f:List AV→List AV) (h:∀ j,f (aR subs i j)=aR subs i' j):(vW subs i).map f=vW subs i':=by
 unfold vW
 rw[List.map_map]
 exact List.map_congr_left fun j _=>h j
theorem eS {p:Key→Bool} (subs:List (List (List D))) (i:Nat) (hp:∀ j,p (.s 900 j)=false):(vW subs i).map (scrPL p)=vW subs i :=
 rowsT_map _ fun j=>by
  unfold aR
  split
  ·simp[scrPL,scrP,hp j]
  ·rfl
theorem famT_ren (f:Key→Key) (subs:List (List (List D))) (i j:Nat):(pT subs i j).map (renO f)=pT subs i j:=by
 unfold pT
 split
 ·cases subs[j]? <;> rfl
 ·rfl
theorem famT_scr (p:Key→Bool) (subs:List (List (List D))) (i j:Nat):(pT subs i j).map (scrPO p)=pT subs i j:=by
 unfold pT
 split
 ·cases subs[j]? <;> rfl
 ·rfl
theorem rowsT_put {subs:List (List (List D))} {k:Nat} (h:k<subs.length):((yP (vW subs k) 1 k 0 [.ref (.n 20) 0 subs[k].length]).map (renL (swp (.n 20) (.s 900 k))))=vW subs (k+1):=by
 have hlen:(vW subs k).length=subs.length:=by simp[vW]
 apply List.ext_getElem?
 intro j
 by_cases hj:j=k
 ·subst hj
  rw[List.getElem?_map,wE (c:=aR subs j j) (c':=[.ref (.n 20) 0 subs[j].length]) (by simp[vW,h]) rfl]
  simp only[vW,List.getElem?_map,List.getElem?_range h,Option.map_some,Option.some.injEq]
  unfold aR
  rw[if_pos (by omega)]
  have e:swp (.n 20) (.s 900 j) (.n 20)=.s 900 j:=by simp[swp,Key.beq]
  simp[renL,ren,e,List.getD_eq_getElem?_getD,h]
 ·by_cases hl:j<subs.length
  ·rw[List.getElem?_map,jS hj (c:=aR subs k j) (by simp[vW,hl])]
   simp only[vW,List.getElem?_map,List.getElem?_range hl,Option.map_some,Option.some.injEq]
   have e:swp (.n 20) (.s 900 k) (.s 900 j)=.s 900 j:=by simp[swp,Key.beq,nbeq_ne hj]
   unfold aR
   by_cases hjk:j<k
   ·rw[if_pos hjk,if_pos (by omega)]
    simp[renL,ren,e]
   ·rw[if_neg hjk,if_neg (by omega)]
    simp[renL,ren]
  ·rw[List.getElem?_eq_none (by simp[yP];simp[hlen];omega),List.getElem?_eq_none (by simp[vW];omega)]
def lend9:Key→Bool
 | .n k=>Nat.beq k 900
 | .s o _=>Nat.beq o 900
 | .l _=>false
theorem own1_n {x:AV} {q:Nat} (h:q≠900):ownH [x] (.n q)=none:=by
 unfold ownH
 cases hb:Nat.blt q 900 with
 |true=>simp only[hb,cond_true]
 |false =>
  have:¬ q<900:=by
   intro e
   have:Nat.blt q 900=true:=by simpa[Nat.blt_eq] using e
   rw[this] at hb;cases hb
  have:([x]:List AV)[q - 900]?=none:=List.getElem?_eq_none (by simp;omega)
  simp only[hb,cond_false,this]
theorem own1_s {x:AV} {q j:Nat} (h:q≠900):ownH [x] (.s q j)=none:=by
 unfold ownH
 cases hb:Nat.blt q 900 with
 |true=>simp only[hb,cond_true]
 |false =>
  have:¬ q<900:=by
   intro e
   have:Nat.blt q 900=true:=by simpa[Nat.blt_eq] using e
   rw[this] at hb;cases hb
  have:([x]:List AV)[q - 900]?=none:=List.getElem?_eq_none (by simp;omega)
  simp only[hb,cond_false,this]
theorem rowsT_own (xs:List (List OpL)):vW (xs.map kY) xs.length=ownRows 900 0 (xs.map fun _=>[.nil]) (xs.map kY):=by
 unfold ownRows vW
 apply List.ext_getElem?
 intro j
 by_cases h:j<xs.length
 ·have h2:j<(xs.map kY).length:=by simpa using h
  simp only[List.getElem?_map,List.getElem?_range h2,Option.map_some,List.getElem?_mapIdx,List.getElem?_eq_getElem h]
  unfold aR
  rw[if_pos h]
  rfl
 ·rw[List.getElem?_eq_none (by simp;omega),List.getElem?_eq_none (by simp;omega)]
theorem toOpSS_own (xs:List (List OpL)) (hx:xs.length≤1048576) (hx2:∀ x∈xs,x.length≤1048576):CallsTo EE 58 [sl (xs.map zX)] (·=.ownF 1 [.uqd 157 1 0 183 4 (xs.map fun _=>[.nil]) (xs.map kY)]):=by
 refine calls_of_io (fun v hv=>?_) ?_
 ·simp only[List.mem_cons,List.not_mem_nil,or_false] at hv
  subst hv
  show(xs.map _).length=(xs.map kY).length
  simp
 refine xS (fn:=Tryz.f58) (c:=Tryz.f58.body.getD .skip) Tryz.func58 rfl (by kernel_rfl) rfl ?_
 conv=>whnf
 refine⟨by simp;omega,?_⟩
 conv=>whnf
 refine mB (fun k:Nat=>[(0,sl (xs.map zX)),(3,.dref (.n 900) xs.length),(4,i64 k)]) (fun k=>[(.n 900,.rs 157 1 (vW (xs.map kY) k))]) (fun k=>[(900,pT (xs.map kY) k)]) (fun k=>xs.length - k) (fun k=>k≤xs.length) 0
  ((l0 (.n 7) rfl).trans (weak_sw 7 900)) ?_ ?_ ?_ (Nat.zero_le _) ?_
 ·exact⟨rfl,by show AV.dref (.n 900) (((xs.map zX).length:Nat):Int).toNat=_;simp,rfl,trivial⟩
 ·refine⟨?_,trivial⟩
  show some (Ob.rs 157 1 (((List.replicate (((xs.map zX).length:Nat):Int).toNat [D.nil]).map (List.map AV.d)).map (renL (swp (.n 7) (.n 900)))))=_
  rw[rowsT_zero]
  simp[renL,ren]
 ·refine⟨fun j=>?_,trivial⟩
  unfold pT
  rw[if_neg (by omega)]
  rfl
 intro k τ H hk
 have hk:k≤xs.length:=hk
 conv=>whnf
 refine kbi (fun h=>?_) (fun h=>?_)
 ·have hlt:=yS h
  have hlt2:k<(xs.map kY).length:=by simpa using hlt
  have hgk:(xs.map kY)[k]=xs[k].map encOp:=by simp[kY]
  conv=>whnf
  refine⟨zX xs[k],zV zX hlt rfl,?_⟩
  conv=>whnf
  refine⟨_,l9 xs[k] (hx2 _ (List.getElem_mem hlt)),?_⟩
  rintro r rfl
  refine .inr ⟨_,rfl,?_⟩
  conv=>whnf
  refine⟨⟨by omega,by omega⟩,?_⟩
  conv=>whnf
  refine⟨k+1,_,jV 20 900 k,by show k+1≤xs.length;omega,by show xs.length - (k+1)<xs.length - k;omega,⟨rfl,rfl,zN hlt (by omega),trivial⟩,⟨?_,trivial⟩,⟨fun j=>?_,trivial⟩⟩
  ·show some (Ob.rs 157 1 ((yP ((vW (xs.map kY) k).map (scrPL (isK (.n 20)))) 1 ((k:Int)).toNat 0 [.ref (.n 20) 0 (xs[k].map encOp).length]).map (renL (swp (.n 20) (.s 900 k)))))=_
   rw[eS _ _ (fun j=>rfl),Int.toNat_natCast,← hgk,rowsT_put hlt2]
  ·show(St.H _ (swp (.n 20) (.s 900 k) (.s 900 j))).map _=_
   by_cases hj:j=k
   ·subst hj
    have e:swp (.n 20) (.s 900 j) (.s 900 j)=.n 20:=by simp[swp,Key.beq]
    rw[e]
    unfold pT
    rw[if_pos (by omega),List.getElem?_eq_getElem hlt2,hgk]
    rfl
   ·have e:swp (.n 20) (.s 900 k) (.s 900 j)=.s 900 j:=by simp[swp,Key.beq,nbeq_ne hj]
    rw[e]
    show Option.map _ (Option.map _ (pT (xs.map kY) k j))=_
    rw[famT_scr,famT_ren]
    unfold pT
    by_cases hjk:j<k
    ·rw[if_pos hjk,if_pos (by omega)]
    ·rw[if_neg hjk,if_neg (by omega)]
 ·have hkk:k=xs.length:=by
   have:¬ k<xs.length:=by simpa using h
   omega
  subst hkk
  conv=>whnf
  refine⟨_,Weak.refl,?_⟩
  conv=>whnf
  refine⟨lend9,?_,fun κ hκ=>?_⟩
  ·show AV.dref (.n 900) xs.length=AV.dref (.n 900) (xs.map _).length
   rw[List.length_map]
  ·cases κ with
   |l n=>exact absurd rfl hκ
   |n q =>
    by_cases hq:q=900
    ·subst hq
     show some (Ob.rs 157 1 ((vW (xs.map kY) xs.length).map (scrPL (fun o=>!lend9 o))))=some (Ob.rs 157 1 (ownRows 900 0 (xs.map fun _=>[.nil]) (xs.map kY)))
     rw[eS _ _ (fun j=>rfl),rowsT_own]
    ·exact absurd (own1_n hq) hκ
   |s o j =>
    by_cases hq:o=900
    ·subst hq
     show Option.map _ (pT (xs.map kY) xs.length j)=((xs.map kY)[j]?).map (Ob.ds 183 4)
     rw[famT_scr]
     unfold pT
     by_cases hj:j<xs.length
     ·rw[if_pos hj]
     ·rw[if_neg hj,List.getElem?_eq_none (by simp;omega)]
      rfl
    ·exact absurd (own1_s hq) hκ
end Ai
namespace Ai
set_option maxRecDepth 100000
open Go Go.Proofs
structure StL.fit (s:StL):Prop where
 ths:s.ths.length≤1048576
 st:∀ t∈s.ths,t.stack.length≤1048576
 cells:s.cells.length≤1048576
 owner:s.owner.length≤1048576
structure RunT.fit (x:RunT):Prop where
 tr:x.tr.length≤1048576
 tk:x.tk.length≤1048576
 s:x.s.fit
end Ai
namespace Ai
set_option maxRecDepth 100000
open Go Go.Proofs
def wX (x:RunT):List AV:=[i64 x.c,.uq 128 5 (x.tr.map encEv),.uq 3 1 (x.tk.map encInt),.uqd 175 6 5 132 1 (x.s.ths.map vV) (x.s.ths.map stk),.uq 132 1 (x.s.cells.map encF),.uq 3 1 (x.s.owner.map encInt),.d (di x.s.fault)]
end Ai
namespace Ai
set_option maxRecDepth 100000
open Go Go.Proofs
def yC (xs:List Th) (i:Nat):Nat:=((xs.take i).map fun t=>5+t.stack.length).sum
theorem nR {xs:List Th} {i:Nat} (h:i<xs.length):yC xs (i+1)=yC xs i+(5+xs[i].stack.length):=by
 unfold yC
 rw[List.take_succ_eq_append_getElem h,List.map_append,List.sum_append]
 simp
theorem sM (xs:List Th) (i:Nat):yC xs i≤yC xs xs.length:=by
 unfold yC
 rw[List.take_length]
 have:∀ (l:List Nat) (i:Nat),(l.take i).sum≤l.sum:=by
  intro l
  induction l with
  |nil=>simp
  |cons x xs ih =>
   intro i
   cases i with
   |zero=>simp
   |succ i=>simp only[List.take_succ_cons,List.sum_cons];have:=ih i;omega
 rw[List.map_take]
 exact this _ i
def y1 (R:List (List AV)) (i:Nat) (v0 v1 v2 v3 v4:AV):List (List AV) :=
 yP (yP (yP (yP (yP R 6 (i:Int).toNat (0+0) [v0]) 6 (i:Int).toNat (0+1) [v1]) 6 (i:Int).toNat (0+2) [v2]) 6 (i:Int).toNat (0+3) [v3]) 6 (i:Int).toNat (0+4) [v4]
theorem put5_eq {R:List (List AV)} {i:Nat} {v0 v1 v2 v3 v4 a0 a1 a2 a3 a4 a5:AV} (h:R[i]?=some [a0,a1,a2,a3,a4,a5]):(y1 R i v0 v1 v2 v3 v4)[i]?=some [v0,v1,v2,v3,v4,a5]:=by
 unfold y1
 rw[Int.toNat_natCast]
 exact wE (wE (wE (wE (wE h rfl) rfl) rfl) rfl) rfl
theorem put5_ne {R:List (List AV)} {i j:Nat} {v0 v1 v2 v3 v4:AV} {c:List AV} (hj:j≠i) (h:R[j]?=some c):(y1 R i v0 v1 v2 v3 v4)[j]?=some c:=by
 unfold y1
 rw[Int.toNat_natCast]
 exact jS hj (jS hj (jS hj (jS hj (jS hj h))))
theorem bD {X:List (List AV)} {sz k off:Nat} {xs:List AV}:(yP X sz k off xs).length=X.length:=by
 unfold yP
 cases (Nat.beq off 0&&Nat.beq xs.length sz) <;> simp
theorem put5_len {R:List (List AV)} {i:Nat} {v0 v1 v2 v3 v4:AV}:(y1 R i v0 v1 v2 v3 v4).length=R.length:=by
 unfold y1
 rw[bD,bD,bD,bD,bD]
end Ai
namespace Ai
set_option maxRecDepth 100000
open Go Go.Proofs
theorem yE {l:List Th} {p:Key→Bool} (h:∀ j,p (.s 903 j)=false):(thRows 903 l).map (scrPL p)=thRows 903 l:=zZ fun j _=>h j
theorem zR {f:Key→Key} {o:Nat} {l:List Th} (h:∀ j,f (.s o j)=.s o j):(thRows o l).map (renL f)=thRows o l:=by
 apply List.ext_getElem?
 intro j
 rw[List.getElem?_map]
 by_cases hl:j<l.length
 ·rw[yO hl]
  show some [_,_,_,_,_,AV.ref (f (.s o j)) 0 _]=_
  rw[h j]
  rfl
 ·rw[List.getElem?_eq_none (by rw[zP];omega)]
  rfl
end Ai
namespace Ai
set_option maxRecDepth 100000
open Go Go.Proofs
def wQ:Key→Bool
 | .n k=>Nat.beq k 901 || Nat.beq k 902 || Nat.beq k 903 || Nat.beq k 904 || Nat.beq k 905
 | .s o _=>Nat.beq o 903
 | .l _=>false
def refRn (x:RunT):List AV:=[i64 x.c,.ref (.n 901) 0 x.tr.length,.ref (.n 902) 0 x.tk.length,.dref (.n 903) x.s.ths.length,.ref (.n 904) 0 x.s.cells.length,.ref (.n 905) 0 x.s.owner.length,i64 x.s.fault]
end Ai
namespace Ai
set_option maxRecDepth 100000
open Go Go.Proofs
theorem eqEvent_ok (x:Ev):CallsTo EE 149 [agg (encEv x),agg (encEv x)] (·=bv true):=by
 refine callsTo_of_AW (fn:=Tryz.f149) Tryz.func149 rfl (by kernel_rfl) rfl ?_
 conv=>whnf
 iterate 5
  refine⟨fun h=>(yJ _ h).elim,fun _=>?_⟩
  conv=>whnf
theorem eqEventS_ok (xs:List Ev) (hx:xs.length≤1048576):CallsTo EE 80 [sl (xs.map encEv),sl (xs.map encEv)] (·=bv true):=by
 refine callsTo_of_AW (fn:=Tryz.f80) Tryz.func80 rfl (by kernel_rfl) rfl ?_
 conv=>whnf
 refine⟨fun h=>(yJ _ h).elim,fun _=>?_⟩
 conv=>whnf
 refine yU (fun k:Nat=>[(0,sl (xs.map encEv)),(1,sl (xs.map encEv)),(5,i64 k)]) (fun k=>[]) (fun k=>xs.length - k) (fun k=>k≤xs.length) 0 .refl ⟨rfl,rfl,rfl,trivial⟩ trivial (Nat.zero_le _) ?_
 intro k τ H hk
 conv=>whnf
 refine⟨fun h=>?_,fun h=>?_⟩
 ·have hlt:=yS h
  conv=>whnf
  refine⟨by kernel_rfl,?_⟩
  conv=>whnf
  refine⟨encEv xs[k],zV encEv hlt rfl,?_⟩
  conv=>whnf
  refine⟨encEv xs[k],zV encEv hlt rfl,?_⟩
  conv=>whnf
  refine⟨_,eqEvent_ok xs[k],?_⟩
  conv=>whnf
  refine⟨k+1,by omega,by show xs.length - (k+1)<xs.length - k;omega,⟨rfl,rfl,zN hlt (by omega),trivial⟩,trivial⟩
 ·conv=>whnf
theorem rW (xs:List Nat) (hx:xs.length≤1048576):CallsTo EE 104 [sl (xs.map encF),sl (xs.map encF)] (·=bv true):=by
 refine callsTo_of_AW (fn:=Tryz.f104) Tryz.func104 rfl (by kernel_rfl) rfl ?_
 conv=>whnf
 refine⟨fun h=>(yJ _ h).elim,fun _=>?_⟩
 conv=>whnf
 refine yU (fun k:Nat=>[(0,sl (xs.map encF)),(1,sl (xs.map encF)),(5,i64 k)]) (fun k=>[]) (fun k=>xs.length - k) (fun k=>k≤xs.length) 0 .refl ⟨rfl,rfl,rfl,trivial⟩ trivial (Nat.zero_le _) ?_
 intro k τ H hk
 conv=>whnf
 refine⟨fun h=>?_,fun h=>?_⟩
 ·have hlt:=yS h
  conv=>whnf
  refine⟨by kernel_rfl,?_⟩
  conv=>whnf
  refine⟨encF xs[k],zV encF hlt rfl,?_⟩
  conv=>whnf
  refine⟨encF xs[k],zV encF hlt rfl,?_⟩
  conv=>whnf
  refine⟨_,mH xs[k],?_⟩
  conv=>whnf
  refine⟨k+1,by omega,by show xs.length - (k+1)<xs.length - k;omega,⟨rfl,rfl,zN hlt (by omega),trivial⟩,trivial⟩
 ·conv=>whnf
theorem eqThread_ok (x:Th) (hx:x.stack.length≤1048576):CallsTo EE 178 [agg (zH x),agg (zH x)] (·=bv true):=by
 refine callsTo_of_AW (fn:=Tryz.f178) Tryz.func178 rfl (by kernel_rfl) rfl ?_
 conv=>whnf
 iterate 5
  refine⟨fun h=>(yJ _ h).elim,fun _=>?_⟩
  conv=>whnf
 refine⟨_,rW x.stack hx,?_⟩
 rintro r rfl
 conv=>whnf
theorem q7 (xs:List Th) (hx:xs.length≤1048576) (h9:∀ t∈xs,t.stack.length≤1048576):CallsTo EE 103 [sl (xs.map zH),sl (xs.map zH)] (·=bv true):=by
 refine callsTo_of_AW (fn:=Tryz.f103) Tryz.func103 rfl (by kernel_rfl) rfl ?_
 conv=>whnf
 refine⟨fun h=>(yJ _ h).elim,fun _=>?_⟩
 conv=>whnf
 refine yU (fun k:Nat=>[(0,sl (xs.map zH)),(1,sl (xs.map zH)),(5,i64 k)]) (fun k=>[]) (fun k=>xs.length - k) (fun k=>k≤xs.length) 0 .refl ⟨rfl,rfl,rfl,trivial⟩ trivial (Nat.zero_le _) ?_
 intro k τ H hk
 conv=>whnf
 refine⟨fun h=>?_,fun h=>?_⟩
 ·have hlt:=yS h
  conv=>whnf
  refine⟨by kernel_rfl,?_⟩
  conv=>whnf
  refine⟨zH xs[k],zV zH hlt rfl,?_⟩
  conv=>whnf
  refine⟨zH xs[k],zV zH hlt rfl,?_⟩
  conv=>whnf
  refine⟨_,eqThread_ok xs[k] (h9 _ (List.getElem_mem hlt)),?_⟩
  conv=>whnf
  refine⟨k+1,by omega,by show xs.length - (k+1)<xs.length - k;omega,⟨rfl,rfl,zN hlt (by omega),trivial⟩,trivial⟩
 ·conv=>whnf
theorem eqState_ok (s:StL) (h:s.fit):CallsTo EE 48 [agg (yT s),agg (yT s)] (·=bv true):=by
 refine callsTo_of_AW (fn:=Tryz.f48) Tryz.func48 rfl (by kernel_rfl) rfl ?_
 conv=>whnf
 refine⟨_,q7 s.ths h.ths h.st,?_⟩
 rintro r rfl
 conv=>whnf
 refine⟨_,rW s.cells h.cells,?_⟩
 rintro r rfl
 conv=>whnf
 refine⟨_,dU s.owner h.owner,?_⟩
 rintro r rfl
 conv=>whnf
 refine⟨fun h=>(yJ _ h).elim,fun _=>?_⟩
 conv=>whnf
theorem gQ (x:RunT) (h:x.fit):CallsTo EE 29 [agg (xX x),agg (xX x)] (·=bv true):=by
 refine callsTo_of_AW (fn:=Tryz.f29) Tryz.func29 rfl (by kernel_rfl) rfl ?_
 conv=>whnf
 refine⟨fun h=>(yJ _ h).elim,fun _=>?_⟩
 conv=>whnf
 refine⟨_,eqEventS_ok x.tr h.tr,?_⟩
 rintro r rfl
 conv=>whnf
 refine⟨_,dU x.tk h.tk,?_⟩
 rintro r rfl
 conv=>whnf
 refine⟨_,eqState_ok x.s h.s,?_⟩
 rintro r rfl
 conv=>whnf
end Ai
namespace Ai
set_option maxRecDepth 100000
open Go Go.Proofs Cyc
def pB (rk en:List Int) (k:Nat):Int:=rk.getD (en.getD k 0).toNat 0
def yK (rk en:List Int):Nat→Nat
 | 0=>0
 |k+1=>if pB rk en k > pB rk en (yK rk en k) then k else yK rk en k
theorem qY (rk en:List Int) (h:en≠[]):∀ k,k≤en.length→yK rk en k<en.length
 | 0,_=>List.length_pos_iff.2 h
 |k+1,hk=>by
  have:=qY rk en h k (by omega)
  unfold yK
  split <;> omega
theorem l5Top_ok (rk en:List Int) (he:en≠[]) (hl:en.length≤1048576) (hr:∀ x∈en,0≤x∧x<rk.length):CallsTo EE 153 [sl (rk.map encInt),sl (en.map encInt)] (·=i64 (yK rk en en.length:Nat)):=by
 refine callsTo_of_AW (fn:=Tryz.f153) Tryz.func153 rfl (by kernel_rfl) rfl ?_
 conv=>whnf
 refine yU (fun k:Nat=>[(0,sl (rk.map encInt)),(1,sl (en.map encInt)),(5,i64 (yK rk en k:Nat)),(8,sl (en.map encInt)),(9,i64 (en.map encInt).length),(10,i64 k)]) (fun k=>[]) (fun k=>en.length - k) (fun k=>k≤en.length) 0
  Weak.refl ⟨rfl,rfl,rfl,rfl,rfl,rfl,trivial⟩ trivial (Nat.zero_le _) ?_
 intro k τ H hk
 have hk:k≤en.length:=hk
 have ht:=qY rk en he k hk
 conv=>whnf
 refine kbi (fun h=>?_) (fun h=>?_)
 ·have hlt:=yS h
  have h1:=hr _ (List.getElem_mem hlt)
  have h2:=hr _ (List.getElem_mem ht)
  have key:∀ j (hj:j<en.length) (h3:en[j].toNat<rk.length),pB rk en j=rk[en[j].toNat]:=by
   intro j hj h3
   unfold pB
   rw[List.getD_eq_getElem?_getD,List.getD_eq_getElem?_getD,List.getElem?_eq_getElem hj,Option.getD_some,List.getElem?_eq_getElem h3,Option.getD_some]
  have e1:=key k hlt (by omega)
  have e2:=key _ ht (by omega)
  conv=>whnf
  refine⟨encInt en[k],zV encInt hlt rfl,?_⟩
  conv=>whnf
  refine⟨by kernel_rfl,?_⟩
  conv=>whnf
  refine⟨encInt (rk[en[k].toNat]'(by omega)),⟨h1.1,by rw[List.getElem?_map,List.getElem?_eq_getElem (by omega)];rfl,rfl⟩,?_⟩
  conv=>whnf
  refine⟨encInt en[yK rk en k],zV encInt ht rfl,?_⟩
  conv=>whnf
  refine⟨encInt (rk[en[yK rk en k].toNat]'(by omega)),⟨h2.1,by rw[List.getElem?_map,List.getElem?_eq_getElem (by omega)];rfl,rfl⟩,?_⟩
  conv=>whnf
  refine kbi (fun g=>?_) (fun g=>?_)
  ·have g:rk[en[k].toNat]'(by omega) > rk[en[yK rk en k].toNat]'(by omega):=of_decide_eq_true g
   have hn:yK rk en (k+1)=k:=by
    show(if _ then _ else _)=_
    rw[if_pos (by rw[e1,e2];exact g)]
   conv=>whnf
   refine⟨k+1,by show k+1≤en.length;omega,by show en.length - (k+1)<en.length - k;omega,⟨rfl,rfl,?_,rfl,rfl,zN hlt (by omega),trivial⟩,trivial⟩
   show i64 (k:Int)=i64 (yK rk en (k+1):Nat)
   rw[hn]
  ·have g:¬ rk[en[k].toNat]'(by omega) > rk[en[yK rk en k].toNat]'(by omega):=fun e=>g (decide_eq_true e)
   have hn:yK rk en (k+1)=yK rk en k:=by
    show(if _ then _ else _)=_
    rw[if_neg (by rw[e1,e2];exact g)]
   conv=>whnf
   refine⟨k+1,by show k+1≤en.length;omega,by show en.length - (k+1)<en.length - k;omega,⟨rfl,rfl,?_,rfl,rfl,zN hlt (by omega),trivial⟩,trivial⟩
   show i64 (yK rk en k:Nat)=i64 (yK rk en (k+1):Nat)
   rw[hn]
 ·have hkk:k=en.length:=by
   have:¬ k<en.length:=by simpa using h
   omega
  subst hkk
  conv=>whnf
  try rfl
end Ai
namespace Ai
set_option maxRecDepth 100000
open Go Go.Proofs Cyc
def xO (l:List Nat):List Int:=l.map fun k=>((k:Nat):Int)
theorem r7 (l:List Nat):l.map wV=(xO l).map encInt:=by simp[xO,wV,encInt]
def yB (en:List Nat) (ch:List Int) (n:Nat) (rk:List Int) (k:Nat):Nat→List Int × Nat
 | 0=>(rk,k)
 |i+1=>if ch.getD i 0=(n:Int) then (((yB en ch n rk k i).1.set (en.getD (yB en ch n rk k i).2 0) (-1 - (i:Int))),yK ((yB en ch n rk k i).1.set (en.getD (yB en ch n rk k i).2 0) (-1 - (i:Int))) (xO en) en.length)
  else yB en ch n rk k i
noncomputable def lL (p:ProgL) (ch:List Int) (budget:Int):Nat→List Int→StL→List Ev→List Int→RunT
 | 0,rk,s,tr,tk=>⟨0,tr,tk,s⟩
 |n+1,rk,s,tr,tk =>
  if 0<xC p s tr.length budget then ⟨xC p s tr.length budget,tr,tk,s⟩
  else
   let x:=yB (zA p s) ch tr.length rk (yK rk (xO (zA p s)) (zA p s).length) ch.length
   let w:=(zA p s).getD x.2 0
   lL p ch budget n x.1 (zS p s w).1 (tr++[(zS p s w).2]) (tk++[(x.2:Int)])
def oP (p:ProgL) (pc:PctL) (rk:List Int) (s:StL) (tr:List Ev) (tk:List Int):List (Key × Ob):=[(.n 3,.vs 31 ((encProg p).map .d)),(.n 4,.vs 68 ((encPct pc).map .d)),(.n 6,.vs 56 [i64 0,.d .nil,.d .nil,.d .nil,.d .nil,.d .nil,i64 0]),
 (.n 8,.vs 56 [i64 0,.dref (.n 50) tr.length,.dref (.n 51) tk.length,sl (s.ths.map zH),sl (s.cells.map encF),sl (s.owner.map encInt),i64 s.fault]),(.n 17,.ds 3 1 (rk.map encInt)),(.n 50,.rs 128 5 (uZ tr)),(.n 51,.rs 3 1 (uY tk))]
theorem pJ (en:List Nat) (ch:List Int) (n:Nat) (rk:List Int) (k:Nat):∀ i,(yB en ch n rk k i).1.length=rk.length
 | 0=>rfl
 |i+1=>by
  unfold yB
  split
  ·simp[pJ en ch n rk k i]
  ·exact pJ en ch n rk k i
theorem tY (en:List Nat) (ch:List Int) (n:Nat) (rk:List Int) (k:Nat) (hk:k<en.length):∀ i,(yB en ch n rk k i).2<en.length
 | 0=>hk
 |i+1=>by
  unfold yB
  split
  ·have hne:xO en≠[]:=by intro e;simp[xO] at e;subst e;simp at hk
   have:=qY ((yB en ch n rk k i).1.set (en.getD (yB en ch n rk k i).2 0) (-1 - (i:Int))) (xO en) hne en.length (by simp[xO])
   simpa[xO] using this
  ·exact tY en ch n rk k hk i
theorem l5Run_ok (p:ProgL) (hp:p.wf) (h1:InR p.cells 0 1048576) (h2:InR p.locks 0 1048576) (Inv:StL→Prop) (hI0:Inv (xR p)) (hok:RunOK p Inv) (pc:PctL) (hrk:pc.ranks.length=5) (hch:pc.changes.length≤1000) (budget:Int) (hb:InR budget 0 1048576) :
  CallsTo EE 83 [agg (encProg p),agg (encPct pc),i64 budget] (·=agg (xX (lL p pc.changes budget (budget.toNat+1) pc.ranks (xR p) [] []))):=by
 refine callsTo_of_AW (fn:=Tryz.f83) Tryz.func83 rfl (by kernel_rfl) rfl ?_
 conv=>whnf
 refine⟨_,i4 pc.ranks (by omega),?_⟩
 rintro r rfl
 refine .inr ⟨_,rfl,?_⟩
 conv=>whnf
 refine⟨_,l3New_ok p h1 h2,?_⟩
 rintro r rfl
 conv=>whnf
 refine yU (fun x:List Int × StL × List Ev × List Int=>[(2,i64 budget),(3,.ptr (.n 3) 0),(4,.ptr (.n 4) 0),(6,.ptr (.n 6) 0),(7,.ref (.n 17) 0 5),(8,.ptr (.n 8) 0)]) (fun x=>oP p pc x.1 x.2.1 x.2.2.1 x.2.2.2) (fun x=>budget.toNat - x.2.2.1.length)
  (fun x=>x.1.length=5∧Inv x.2.1∧x.2.2.1.length=x.2.2.2.length∧(x.2.2.1.length:Int)≤budget∧lL p pc.changes budget (budget.toNat+1 - x.2.2.1.length) x.1 x.2.1 x.2.2.1 x.2.2.2=lL p pc.changes budget (budget.toNat+1) pc.ranks (xR p) [] []) (pc.ranks,xR p,[],[])
  ((gC (.n 8) (.n 50) 56 128 5 1 _ (by intro n h;cases h) (by intro h;cases h) rfl rfl).trans (gC (.n 8) (.n 51) 56 3 1 2 _ (by intro n h;cases h) (by intro h;cases h) rfl rfl))
  ⟨rfl,rfl,rfl,rfl,?_,rfl,trivial⟩ ⟨rfl,rfl,rfl,rfl,rfl,rfl,rfl,trivial⟩ ⟨hrk,hI0,rfl,hb.1,rfl⟩ ?_
 ·show AV.ref (.n 17) 0 (pc.ranks.map encInt).length=_
  rw[List.length_map,hrk]
 rintro⟨rk,s,tr,tk⟩ τ H ⟨hrl,hinv,hlen,hle,hrun⟩
 have hrl:rk.length=5:=hrl
 have hs:=hok.small s hinv
 conv=>whnf
 refine⟨_,l4Code_ok sZ nB p s tr.length budget hp hs.1 (hok.seen s hinv),?_⟩
 rintro r rfl
 have hfuel:budget.toNat+1 - tr.length=(budget.toNat - tr.length)+1:=by
  have:(tr.length:Int)≤budget:=hle
  omega
 have hrun:lL p pc.changes budget (budget.toNat+1 - tr.length) rk s tr tk=_:=hrun
 rw[hfuel] at hrun
 conv=>whnf
 refine kbi (fun hc=>?_) (fun hc=>?_)
 ·have hc:0<xC p s tr.length budget:=by simpa using hc
  conv=>whnf
  refine .inr (.inl ⟨agg (encRun (xC p s tr.length budget) tr tk s),⟨_,rfl,?_⟩,?_⟩)
  ·refine⟨di _,_,rfl,rfl,.sl (tr.map encEv),_,rfl,⟨_,rfl,eJ (rows:=uZ tr) (by rfl) (by simp) (by simp[uZ]) ?_⟩,.sl (tk.map encInt),_,rfl,⟨_,rfl,eJ (rows:=uY tk) (by rfl) (by simp) (by simp[uY]) ?_⟩,_,_,rfl,rfl,_,_,rfl,rfl,_,_,rfl,rfl,_,_,rfl,rfl,rfl⟩
   ·exact evRows_view
   ·exact i9
  ·rw[← hrun]
   simp only[lL,if_pos hc]
   rfl
 have hc:¬ 0<xC p s tr.length budget:=by simpa using hc
 obtain⟨hepos,hlb⟩:=en_ne hc
 conv=>whnf
 refine⟨_,nA sZ nB p s hp hs.1 (hok.seen s hinv),?_⟩
 rintro r rfl
 refine .inl ?_
 have hc0:xC p s tr.length budget=0:=by have:=codeL_nn p s tr.length budget;omega
 have hel:∀ k∈zA p s,k<s.ths.length:=fun k hk=>by have:=(List.mem_filter.1 hk).1;simpa using this
 have h5:(zA p s).length≤5:=Nat.le_trans vR hs.2
 have hth:=hs.2
 have hle':(tr.length:Int)≤budget:=hle
 have hlen':tr.length=tk.length:=hlen
 have hb2:=hb.2
 have hrun2:lL p pc.changes budget (budget.toNat - tr.length) (yB (zA p s) pc.changes tr.length rk (yK rk (xO (zA p s)) (zA p s).length) pc.changes.length).1 (zS p s ((zA p s).getD (yB (zA p s) pc.changes tr.length rk (yK rk (xO (zA p s)) (zA p s).length) pc.changes.length).2 0)).1 (tr++[(zS p s ((zA p s).getD (yB (zA p s) pc.changes tr.length rk (yK rk (xO (zA p s)) (zA p s).length) pc.changes.length).2 0)).2]) (tk++[((yB (zA p s) pc.changes tr.length rk (yK rk (xO (zA p s)) (zA p s).length) pc.changes.length).2:Int)])=lL p pc.changes budget (budget.toNat+1) pc.ranks (xR p) [] []:=by
  rw[← hrun];simp only[lL,if_neg hc]
 have hstep:=fun k=>hok.step s hinv k
 have hready:=fun k=>hok.ready s hinv k
 generalize zA p s=en at *
 have hne:xO en≠[]:=by intro e;simp[xO] at e;subst e;simp at hepos
 have hnl:(xO en).length=en.length:=by simp[xO]
 have hin:∀ (rk':List Int),rk'.length=5→∀ x∈xO en,0≤x∧x<rk'.length:=by
  intro rk' h x hx
  obtain⟨k,hk,rfl⟩:=List.mem_map.1 hx
  have:=hel k hk
  omega
 have htop:∀ (rk':List Int),rk'.length=5→CallsTo EE 153 [sl (((rk'.map encInt).drop 0).take 5),sl (en.map wV)] (·=i64 (yK rk' (xO en) en.length:Nat)):=by
  intro rk' h
  have:=l5Top_ok rk' (xO en) hne (by omega) (hin rk' h)
  rwa [hnl,← r7,show sl (rk'.map encInt)=sl (((rk'.map encInt).drop 0).take 5) by rw[List.drop_zero,List.take_of_length_le (by simp[h])]] at this
 have hk0:yK rk (xO en) en.length<en.length:=by have:=qY rk (xO en) hne en.length (by omega);omega
 conv=>whnf
 refine .inl ⟨_,htop rk hrl,?_⟩
 rintro r rfl
 refine⟨rfl,?_⟩
 generalize yK rk (xO en) en.length=k0 at hk0 hrun2 ⊢
 conv=>whnf
 refine yU (fun i:Nat=>[(2,i64 budget),(3,.ptr (.n 3) 0),(4,.ptr (.n 4) 0),(6,.ptr (.n 6) 0),(7,.ref (.n 17) 0 5),(8,.ptr (.n 8) 0),(9,sl (en.map wV)),(10,i64 ((yB en pc.changes tr.length rk k0 i).2:Nat)),(42,sl (pc.changes.map encInt)),(43,i64 (pc.changes.map encInt).length),(44,i64 i)])
  (fun i=>oP p pc (yB en pc.changes tr.length rk k0 i).1 s tr tk) (fun i=>pc.changes.length - i) (fun i=>i≤pc.changes.length) 0
  Weak.refl ⟨rfl,rfl,rfl,rfl,rfl,rfl,rfl,rfl,rfl,rfl,rfl,trivial⟩ ⟨rfl,rfl,rfl,?_,rfl,rfl,rfl,trivial⟩ (Nat.zero_le _) ?_
 ·show some (Ob.vs 56 [i64 (xC p s tr.length budget),_,_,_,_,_,_])=some (Ob.vs 56 [i64 0,_,_,_,_,_,_])
  rw[hc0]
 intro i τ H hi
 have hi:i≤pc.changes.length:=hi
 have hlk:=tY en pc.changes tr.length rk k0 hk0 i
 have hll:=pJ en pc.changes tr.length rk k0 i
 conv=>whnf
 refine kbi (fun h=>?_) (fun h=>?_)
 ·have hlt:=yS h
  conv=>whnf
  refine⟨encInt pc.changes[i],zV encInt hlt rfl,?_⟩
  have hgi:pc.changes.getD i 0=pc.changes[i]:=by rw[List.getD_eq_getElem?_getD,List.getElem?_eq_getElem hlt];rfl
  conv=>whnf
  refine kbi (fun hq=>?_) (fun hq=>?_)
  ·have hq:pc.changes[i]=(tr.length:Int):=by simpa using hq
   have hnx:yB en pc.changes tr.length rk k0 (i+1)=(((yB en pc.changes tr.length rk k0 i).1.set (en.getD (yB en pc.changes tr.length rk k0 i).2 0) (-1 - (i:Int))),yK ((yB en pc.changes tr.length rk k0 i).1.set (en.getD (yB en pc.changes tr.length rk k0 i).2 0) (-1 - (i:Int))) (xO en) en.length):=by
    show(if _ then _ else _)=_
    rw[if_pos (by rw[hgi];exact hq)]
   generalize yB en pc.changes tr.length rk k0 i=x at *
   have hkm:en.getD x.2 0∈en:=by rw[List.getD_eq_getElem?_getD,List.getElem?_eq_getElem hlk];exact List.getElem_mem hlk
   have hk5:=hel _ hkm
   have hw1:IntKind.i64.wrap (-1 - (i:Int))=-1 - (i:Int):=zF (by omega) (by omega)
   have hse:xF (x.1.map encInt) 1 (0+((en.getD x.2 0:Nat):Int).toNat) 0 [di (IntKind.i64.wrap (-1 - (i:Int)))]=(x.1.set (en.getD x.2 0) (-1 - (i:Int))).map encInt:=by rw[hw1,dH]
   have ht2:=htop (x.1.set (en.getD x.2 0) (-1 - (i:Int))) (by simp[hll,hrl])
   rw[← hse] at ht2
   conv=>whnf
   refine⟨wV (en.getD x.2 0),⟨by omega,q8 hlk,rfl⟩,?_⟩
   conv=>whnf
   refine⟨⟨by omega,by omega⟩,?_⟩
   conv=>whnf
   refine .inl ⟨_,ht2,?_⟩
   rintro r rfl
   refine⟨rfl,?_⟩
   conv=>whnf
   refine⟨i+1,by show i+1≤pc.changes.length;omega,by show pc.changes.length - (i+1)<pc.changes.length - i;omega,⟨rfl,rfl,rfl,rfl,rfl,rfl,rfl,?_,rfl,rfl,zN hlt (by omega),trivial⟩,⟨rfl,rfl,rfl,rfl,?_,rfl,rfl,trivial⟩⟩
   ·show i64 (yK _ (xO en) en.length:Nat)=i64 ((yB en pc.changes tr.length rk k0 (i+1)).2:Nat)
    rw[hnx]
   ·show some (Ob.ds 3 1 (xF (x.1.map encInt) 1 (0+((en.getD x.2 0:Nat):Int).toNat) 0 [di (IntKind.i64.wrap (-1 - (i:Int)))]))=some (Ob.ds 3 1 ((yB en pc.changes tr.length rk k0 (i+1)).1.map encInt))
    rw[hnx,hse]
  ·have hq:¬ pc.changes[i]=(tr.length:Int):=by simpa using hq
   have hnx:yB en pc.changes tr.length rk k0 (i+1)=yB en pc.changes tr.length rk k0 i:=by
    show(if _ then _ else _)=_
    rw[if_neg (by rw[hgi];exact hq)]
   conv=>whnf
   refine⟨i+1,by show i+1≤pc.changes.length;omega,by show pc.changes.length - (i+1)<pc.changes.length - i;omega,⟨rfl,rfl,rfl,rfl,rfl,rfl,rfl,?_,rfl,rfl,zN hlt (by omega),trivial⟩,⟨rfl,rfl,rfl,rfl,?_,rfl,rfl,trivial⟩⟩
   ·show i64 ((yB en pc.changes tr.length rk k0 i).2:Nat)=i64 ((yB en pc.changes tr.length rk k0 (i+1)).2:Nat)
    rw[hnx]
   ·show some (Ob.ds 3 1 ((yB en pc.changes tr.length rk k0 i).1.map encInt))=some (Ob.ds 3 1 ((yB en pc.changes tr.length rk k0 (i+1)).1.map encInt))
    rw[hnx]
 ·have hge:i=pc.changes.length:=by
   have:¬ i<pc.changes.length:=by simpa using h
   omega
  subst hge
  conv=>whnf
  have hll':(yB en pc.changes tr.length rk k0 pc.changes.length).1.length=5:=hll.trans hrl
  clear hll
  generalize yB en pc.changes tr.length rk k0 pc.changes.length=x at *
  have hmem:en.getD x.2 0∈en:=by rw[List.getD_eq_getElem?_getD,List.getElem?_eq_getElem hlk];exact List.getElem_mem hlk
  have hwl:=hel _ hmem
  refine .inr (.inl ⟨15,[],?_⟩)
  conv=>whnf
  refine⟨wV (en.getD x.2 0),⟨by omega,q8 hlk,rfl⟩,?_⟩
  conv=>whnf
  refine⟨_,l3Step_ok sZ p s (en.getD x.2 0) hp hwl hs.2 hs.1 (hready _ hmem hwl),?_⟩
  conv=>whnf
  refine⟨by kernel_rfl,?_⟩
  conv=>whnf
  generalize hst:zS p s (en.getD x.2 0)=st at *
  refine⟨⟨fun c hc'=>?_,by show(tr.length+1)*40≤_;omega,by show tr.length+1≤_;omega⟩,?_⟩
  ·have hc':c∈[(encEv st.2).map AV.d]:=hc'
   simp only[List.mem_singleton] at hc'
   subst hc';rfl
  conv=>whnf
  refine⟨⟨fun c hc'=>?_,by show(tk.length+1)*8≤_;omega,by show tk.length+1≤_;omega⟩,?_⟩
  ·have hc':c∈[[i64 (x.2:Int)]]:=hc'
   simp only[List.mem_singleton] at hc'
   subst hc';rfl
  conv=>whnf
  refine⟨(x.1,st.1,tr++[st.2],tk++[(x.2:Int)]),⟨hll',hst▸hstep _ hmem,by simp;exact hlen',by simp;omega,?_⟩,?_,⟨rfl,rfl,rfl,rfl,rfl,rfl,trivial⟩,⟨rfl,rfl,rfl,?_,rfl,?_,?_,trivial⟩⟩
  ·show lL p pc.changes budget (budget.toNat+1 - (tr++[st.2]).length) x.1 st.1 (tr++[st.2]) (tk++[(x.2:Int)])=_
   rw[show budget.toNat+1 - (tr++[st.2]).length=budget.toNat - tr.length by simp]
   exact hrun2
  ·show budget.toNat - (tr++[st.2]).length<budget.toNat - tr.length
   simp;omega
  ·show some (Ob.vs 56 [i64 0,.dref (.n 50) (tr.length+1),.dref (.n 51) (tk.length+1),_,_,_,_])=some (Ob.vs 56 [i64 0,.dref (.n 50) (tr++[st.2]).length,.dref (.n 51) (tk++[(x.2:Int)]).length,_,_,_,_])
   rw[List.length_append,List.length_append]
   rfl
  ·conv=>lhs;whnf
   refine congrArg some ?_
   repeat (refine xW ?_ (congrArg (Ob.rs 128 5) (lY _ _)))
   refine congrArg (Ob.rs 128 5) (ev_push (tr:=tr) (e:=st.2) ?_)
   repeat (first|rfl|refine ev_scr' ?_)
  ·conv=>lhs;whnf
   refine congrArg some ?_
   repeat (refine xW ?_ (congrArg (Ob.rs 3 1) (lU _ _)))
   refine congrArg (Ob.rs 3 1) (in_push (tk:=tk) (i:=(x.2:Int)) ?_)
   repeat (first|rfl|refine in_scr' ?_)
end Ai
namespace Ai
set_option maxRecDepth 100000
open Go Go.Proofs Cyc
theorem m8 {p:ProgL} (hg:p.goodS) (hv:p.flt) (ch:List Int) (budget:Int):∀ n rk s tr tk,AInv p s→TrOK s tr→tr.length=tk.length→(tr.length:Int)≤budget→budget.toNat+1 - tr.length≤n→(∀ i∈tk,0≤i∧i<5)→REnd p budget (lL p ch budget n rk s tr tk)
 | 0,rk,s,tr,tk,hi,ht,hl,hb,hn,hk=>by omega
 |n+1,rk,s,tr,tk,hi,ht,hl,hb,hn,hk=>by
  unfold lL
  split
  ·rename_i h
   exact⟨hi,ht,rfl,h,hl,hb,hk⟩
  ·rename_i h
   obtain⟨h1,h2⟩:=en_ne h
   have hne:xO (zA p s)≠[]:=by intro e;simp[xO] at e;rw[e] at h1;simp at h1
   have hk0:yK rk (xO (zA p s)) (zA p s).length<(zA p s).length:=by
    have:=qY rk (xO (zA p s)) hne (zA p s).length (by simp[xO])
    simpa[xO] using this
   have hkl:=tY (zA p s) ch tr.length rk _ hk0 ch.length
   have h5:(zA p s).length≤5:=Nat.le_trans (vR) hi.si.len
   generalize yB (zA p s) ch tr.length rk (yK rk (xO (zA p s)) (zA p s).length) ch.length=x at *
   have hmem:(zA p s).getD x.2 0∈zA p s:=by rw[List.getD_eq_getElem?_getD,List.getElem?_eq_getElem hkl];exact List.getElem_mem hkl
   refine m8 hg hv ch budget n _ _ _ _ (oK hg hv hmem hi) (tr_step hg hmem hi ht) (by simp;exact hl) (by simp;omega) (by simp;omega) fun i hx=>?_
   rcases List.mem_append.1 hx with e|e
   ·exact hk i e
   ·simp only[List.mem_cons,List.not_mem_nil,or_false] at e
    subst e
    omega
noncomputable def iC (p:ProgL) (pc:PctL) (budget:Int):RunT:=lL p pc.changes budget (budget.toNat+1) pc.ranks (xR p) [] []
theorem pctOf_end {p:ProgL} (hg:p.goodS) (hv:p.flt) (pc:PctL) (budget:Int) (hb:0≤budget):REnd p budget (iC p pc budget) :=
 m8 hg hv _ budget _ _ _ _ _ (ainv_new hg) ⟨fun e he=>(by cases he),fun h=>absurd rfl h⟩ rfl hb (by simp) fun i hi=>(by cases hi)
theorem l5Run_of (p:ProgL) (hp:p.wf) (hg:p.goodS) (pc:PctL) (hrk:pc.ranks.length=5) (hch:pc.changes.length≤1000) (budget:Int) (hb:InR budget 0 1048576) :
  CallsTo EE 83 [agg (encProg p),agg (encPct pc),i64 budget] (·=agg (xX (iC p pc budget))):=by
 obtain⟨b1,b2,b3,b4⟩:=hg.1
 exact l5Run_ok p hp ⟨b1.1,by have:=b1.2;omega⟩ ⟨b2.1,by have:=b2.2;omega⟩ (SInv p) (x6 hg) (eR hg) pc hrk hch budget hb
end Ai
namespace Ai
set_option maxRecDepth 100000
open Go Go.Proofs Cyc
noncomputable def pV (p:ProgL) (r:RunT) (k:Nat):Nat:=(zA p r.s).getD k 0
noncomputable def runBy (p:ProgL) (r:RunT) (k:Nat):RunT:=⟨0,r.tr++[(zS p r.s (pV p r k)).2],r.tk++[(k:Int)],(zS p r.s (pV p r k)).1⟩
def leaf (p:ProgL) (b:Int) (c:Int) (r:RunT):RunT:=⟨c,r.tr,r.tk,r.s⟩
noncomputable def sF (p:ProgL) (tr:List Ev):Nat→StL
 | 0=>xR p
 |i+1=>(zS p (sF p tr i) (tr.getD i pU).th.toNat).1
theorem tC (p:ProgL) (tr:List Ev) (e:Ev):∀ i,i≤tr.length→sF p (tr++[e]) i=sF p tr i
 | 0,_=>rfl
 |i+1,h=>by
  rw[sF,sF,tC p tr e i (by omega)]
  have:(tr++[e]).getD i pU=tr.getD i pU:=by
   rw[List.getD_eq_getElem?_getD,List.getD_eq_getElem?_getD,List.getElem?_append_left (by omega)]
  rw[this]
structure XR (p:ProgL) (b:Int) (r:RunT):Prop where
 inv:AInv p r.s
 tr:TrOK r.s r.tr
 len:r.tr.length=r.tk.length
 le:(r.tr.length:Int)≤b
 tk:∀ i∈r.tk,0≤i∧i<5
 at_:sF p r.tr r.tr.length=r.s
 en:∀ i,i<r.tr.length→(r.tr.getD i pU).th.toNat∈zA p (sF p r.tr i)∧0≤(r.tr.getD i pU).th
 run:∀ picks,r.tk <+: picks→runOf p picks b=runT p picks b (b.toNat+1 - r.tr.length) r.s r.tr r.tk
structure XEnd (p:ProgL) (b:Int) (x:RunT):Prop where
 fin:REnd p b x
 en:∀ i,i<x.tr.length→(x.tr.getD i pU).th.toNat∈zA p (sF p x.tr i)∧0≤(x.tr.getD i pU).th
 run:runOf p x.tk b=x
theorem XR.new {p:ProgL} (hg:p.goodS) {b:Int} (hb:0≤b):XR p b ⟨0,[],[],xR p⟩ :=
 ⟨ainv_new hg,⟨fun e he=>(by cases he),fun h=>absurd rfl h⟩,rfl,hb,fun i hi=>(by cases hi),rfl,fun i hi=>(by cases hi),fun picks h=>rfl⟩
theorem XR.mem {p:ProgL} {b:Int} {r:RunT} {k:Nat} (hk:k<(zA p r.s).length):pV p r k∈zA p r.s:=by
 unfold pV
 rw[List.getD_eq_getElem?_getD,List.getElem?_eq_getElem hk];exact List.getElem_mem hk
theorem XR.step {p:ProgL} (hg:p.goodS) (hv:p.flt) {b:Int} {r:RunT} (h:XR p b r) (hc:¬ 0<xC p r.s r.tr.length b) {k:Nat} (hk:k<(zA p r.s).length):XR p b (runBy p r k):=by
 have hm:=XR.mem (b:=b) hk
 have h5:(zA p r.s).length≤5:=Nat.le_trans (vR) h.inv.si.len
 have hlb:=(en_ne hc).2
 have hle:=h.le
 have hth:(zS p r.s (pV p r k)).2.th=(pV p r k:Nat):=(step_ev p r.s _).1
 refine⟨oK hg hv hm h.inv,tr_step hg hm h.inv h.tr,by simp[runBy,h.len],?_,fun i hi=>?_,?_,fun i hi=>?_,fun picks hp=>?_⟩
 ·show((r.tr++[_]).length:Int)≤b
  simp;omega
 ·rcases List.mem_append.1 hi with e|e
  ·exact h.tk i e
  ·simp only[List.mem_cons,List.not_mem_nil,or_false] at e
   subst e;omega
 ·show sF p (r.tr++[_]) (r.tr++[_]).length=(zS p r.s _).1
  rw[List.length_append]
  show sF p (r.tr++[_]) (r.tr.length+1)=_
  rw[sF,tC _ _ _ _ (Nat.le_refl _),h.at_]
  have:(r.tr++[(zS p r.s (pV p r k)).2]).getD r.tr.length pU=(zS p r.s (pV p r k)).2:=by simp[List.getD_eq_getElem?_getD]
  rw[this,hth]
  rfl
 ·have hi:i<(r.tr++[(zS p r.s (pV p r k)).2]).length:=hi
  show((r.tr++[_]).getD i pU).th.toNat∈zA p (sF p (r.tr++[_]) i)∧0≤((r.tr++[_]).getD i pU).th
  simp only[List.length_append,List.length_cons,List.length_nil] at hi
  rw[tC _ _ _ _ (by omega)]
  by_cases he:i=r.tr.length
  ·subst he
   have:(r.tr++[(zS p r.s (pV p r k)).2]).getD r.tr.length pU=(zS p r.s (pV p r k)).2:=by simp[List.getD_eq_getElem?_getD]
   rw[this,hth,h.at_]
   exact⟨by simpa using hm,by omega⟩
  ·have:(r.tr++[(zS p r.s (pV p r k)).2]).getD i pU=r.tr.getD i pU:=by
    rw[List.getD_eq_getElem?_getD,List.getD_eq_getElem?_getD,List.getElem?_append_left (by omega)]
   rw[this]
   exact h.en i (by omega)
 ·have hp:r.tk++[(k:Int)] <+: picks:=hp
  obtain⟨more,rfl⟩:=hp
  rw[h.run _ ⟨[(k:Int)]++more,by simp⟩]
  have hn:b.toNat+1 - r.tr.length=(b.toNat - r.tr.length)+1:=by omega
  rw[hn,runT,if_neg hc]
  have hpk:pickOf (r.tk++[(k:Int)]++more) r.tk (zA p r.s).length=(k:Int):=by
   unfold pickOf
   rw[if_pos (by simp)]
   have:(r.tk++[(k:Int)]++more).getD r.tk.length 0=(k:Int):=by simp[List.getD_eq_getElem?_getD]
   rw[this]
   exact Int.tmod_eq_of_lt (by omega) (by omega)
  simp only[hpk]
  show _=runT p _ b (b.toNat+1 - (r.tr++[_]).length) _ _ _
  rw[show b.toNat+1 - (r.tr++[(zS p r.s (pV p r k)).2]).length=b.toNat - r.tr.length by simp]
  rfl
theorem XR.leaf {p:ProgL} {b:Int} {r:RunT} (h:XR p b r) (hc:0<xC p r.s r.tr.length b):XEnd p b (leaf p b (xC p r.s r.tr.length b) r):=by
 refine⟨⟨h.inv,h.tr,rfl,hc,h.len,h.le,h.tk⟩,h.en,?_⟩
 show runOf p r.tk b=_
 rw[h.run _ (List.prefix_rfl)]
 have hle:=h.le
 have hn:b.toNat+1 - r.tr.length=(b.toNat - r.tr.length)+1:=by omega
 rw[hn,runT,if_pos hc]
 rfl
end Ai
namespace Ai
set_option maxRecDepth 100000
open Go Go.Proofs
def aW (xs:List Int) (n:Int):Option Nat:=xs.findIdx? (·==n)
theorem IdxA_ok (xs:List Int) (n:Int) (hx:xs.length≤1048576):CallsTo EE 162 [sl (xs.map encInt),i64 n] (·=i64 (aY (aW xs n))):=by
 refine callsTo_of_AW (fn:=Tryz.f162) Tryz.func162 rfl (by kernel_rfl) rfl ?_
 conv=>whnf
 refine yU (fun k:Nat=>[(0,sl (xs.map encInt)),(1,i64 n),(7,i64 (xs.map encInt).length),(8,i64 k)]) (fun k=>[]) (fun k=>xs.length - k) (fun k=>k≤xs.length∧∀ x∈xs.take k,(x==n)=false) 0 .refl ⟨rfl,rfl,rfl,rfl,trivial⟩ trivial ⟨Nat.zero_le _,gW⟩ ?_
 rintro k τ H ⟨hk,ih⟩
 conv=>whnf
 refine kbi (fun h=>?_) (fun h=>?_)
 ·have hlt:=yS h
  conv=>whnf
  refine⟨encInt xs[k],zV encInt hlt rfl,?_⟩
  conv=>whnf
  refine kbi (fun h=>?_) (fun h=>?_)
  ·conv=>whnf
   have h:n=xs[k]:=by simpa using h
   have:aW xs n=some k:=lW (f:=(·==n)) hlt ih (by simp[h])
   rw[this]
   rfl
  ·conv=>whnf
   have h:¬ n=xs[k]:=by simpa using h
   exact⟨k+1,⟨by omega,jR ih hlt (by simp;exact fun e=>h e.symm)⟩,by show xs.length - (k+1)<xs.length - k;omega,⟨rfl,rfl,rfl,zN hlt (by omega),trivial⟩,trivial⟩
 ·conv=>whnf
  have:aW xs n=none:=lX (f:=(·==n)) (gX ih (by simp at h;omega))
  rw[this]
  rfl
end Ai
namespace Ai
set_option maxRecDepth 100000
open Go Go.Proofs
def p6 (p:ProgL):List AV:=[i64 p.cells,i64 p.locks,i64 p.conds,.uqd 157 1 0 183 4 (p.rs.map fun _=>[.nil]) (zJ p)]
theorem pE (o:Nat) (p:ProgL):ownRows o 0 (p.rs.map fun _=>[.nil]) (zJ p)=(List.range p.rs.length).map fun j=>[.ref (.s o j) 0 ((zJ p).getD j []).length]:=by
 unfold ownRows
 apply List.ext_getElem?
 intro j
 by_cases h:j<p.rs.length
 ·simp[h]
 ·rw[List.getElem?_eq_none (by simp;omega),List.getElem?_eq_none (by simp;omega)]
theorem p5 {o o':Nat} {p:ProgL} (f:List AV→List AV) (h:∀ j n,f [.ref (.s o j) 0 n]=[.ref (.s o' j) 0 n]):(ownRows o 0 (p.rs.map fun _=>[.nil]) (zJ p)).map f=ownRows o' 0 (p.rs.map fun _=>[.nil]) (zJ p):=by
 rw[pE,pE,List.map_map]
 exact List.map_congr_left fun j _=>h j _
theorem ownRows_M (p:ProgL):ownRows 903 0 (p.rs.map fun _=>[.nil]) (zJ p)=wP (zJ p) 0:=by
 rw[pE]
 unfold wP
 rw[show(zJ p).length=p.rs.length by simp[zJ]]
 refine List.map_congr_left fun j _=>?_
 unfold dW
 rw[if_neg (by omega)]
theorem toProg_own (p:ProgL) (h:p.rs.length≤1048576∧∀ x∈p.rs,x.length≤1048576):CallsTo EE 13 [agg (encProg p)] (·=.own (p6 p)):=by
 refine callsTo_of_AW (fn:=Tryz.f13) Tryz.func13 rfl (by kernel_rfl) rfl ?_
 conv=>whnf
 refine⟨_,toOpSS_own _ h.1 h.2,?_⟩
 rintro r rfl
 conv=>whnf
 refine .inr (.inr ⟨p6 p,_,qT shA,rfl,?_,bI ⟨trivial,trivial,trivial,⟨?_,fun j q hq=>?_⟩,trivial⟩,rfl⟩)
 ·intro v hv
  simp only[p6,List.mem_cons,List.not_mem_nil,or_false] at hv
  rcases hv with rfl|rfl|rfl|rfl
  ·trivial
  ·trivial
  ·trivial
  ·show(p.rs.map _).length=(zJ p).length
   simp[zJ]
 ·show some (Ob.rs 157 1 ((ownRows 900 0 (p.rs.map fun _=>[.nil]) (zJ p)).map (renL shA.f)))=some (Ob.rs 157 1 (ownRows 903 0 (p.rs.map fun _=>[.nil]) (zJ p)))
  exact congrArg (fun x=>some (Ob.rs 157 1 x)) (p5 _ fun j n=>rfl)
 ·have hq:(zJ p)[j]?=some q:=hq
  have e:ownH [.uqd 157 1 0 183 4 (p.rs.map fun _=>[.nil]) (zJ p)] (.s 900 j)=some (.ds 183 4 q):=by
   show((zJ p)[j]?).map (Ob.ds 183 4)=_
   rw[hq]
   rfl
  show Option.map (renO shA.f) (match ownH [.uqd 157 1 0 183 4 (p.rs.map fun _=>[.nil]) (zJ p)] (.s 900 j) with|some ob=>some ob|none=>_)=_
  rw[e]
  rfl
end Ai
namespace Ai
set_option maxRecDepth 100000
open Go Go.Proofs Cyc
theorem ownPg_fam {p:ProgL} {j:Nat}:ownH (p6 p) (.s 903 j)=wU (zJ p) 0 j:=by
 show((zJ p)[j]?).map (Ob.ds 183 4)=_
 unfold wU
 rw[if_neg (by omega)]
theorem fz_own {p:ProgL} {S:St} {n:Nat} (h1:S.H (.n 903)=some (.rs 157 1 (wP (zJ p) 0))) (h2:∀ j,S.H (.s 903 j)=wU (zJ p) 0 j) (hn:n=p.rs.length) :
  FzC S [i64 p.cells,i64 p.locks,i64 p.conds,.dref (.n 903) n] (encProg p):=by
 subst hn
 refine⟨di p.cells,_,rfl,rfl,di p.locks,_,rfl,rfl,di p.conds,_,rfl,rfl,.sl (p.rs.map zX),_,rfl,⟨_,rfl,eJ h1 (by simp) (by simp[wP,zJ]) ?_⟩,rfl⟩
 intro j row d hr hd
 have hj:j<p.rs.length:=by
  have:=(List.getElem?_eq_some_iff.1 hd).1
  simpa using this
 have hjs:j<(zJ p).length:=by simpa[zJ] using hj
 rw[eU hjs] at hr
 rw[List.getElem?_map,List.getElem?_eq_getElem hj] at hd
 simp only[Option.map_some,Option.some.injEq] at hr hd
 subst hr hd
 have hg:(zJ p)[j]=p.rs[j].map encOp:=by simp[zJ,kY]
 have h3:=h2 j
 unfold wU at h3
 rw[if_neg (by omega),List.getElem?_eq_getElem hjs,hg] at h3
 unfold dW
 rw[if_neg (by omega)]
 simp[fz1s,fz1,h3,List.getD_eq_getElem?_getD,hjs,hg,zX,List.take_of_length_le]
theorem l8 {p:ProgL} (h:p.size≤1048576):tot (zJ p) (zJ p).length≤1048576:=by
 unfold ProgL.size gY at h
 unfold tot zJ
 rw[List.take_length,List.map_map]
 have e:(List.length ∘ kY:List OpL→Nat)=List.length:=by funext r;simp[kY]
 rw[e];omega
theorem ops4 (p:ProgL):∀ q∈zJ p,∀ c∈q,c.length=4:=by
 intro q hq c hc
 obtain⟨r,_,rfl⟩:=List.mem_map.1 hq
 obtain⟨y,_,rfl⟩:=List.mem_map.1 hc
 rfl
end Ai
namespace Ai
open Go Go.RowKit
def Snd (E:Env) (N:Nat) (c:Code) (Q:AX→St→Prop) (s:St):Prop:=∀ (A:Fr) (w0:World) (m:Own) (a:Act) (w:World),SRel E N A w0 m s a w→c.wp E.P (vN E N A w0 Q) a w
section
variable {E:Env} {N:Nat} {s:St} {Q:AX→St→Prop}
theorem nW {c:Code} (h:AW E N c Q s):Snd E N c Q s:=fun A w0 m a w hs=>nO c Q hs h
theorem snd_weak {c:Code} {s':St} (hw:Weak E N s s') (h:Snd E N c Q s'):Snd E N c Q s:=fun A w0 m a w hs=>by
 obtain⟨m',h'⟩:=hw A w0 m a w hs
 exact h A w0 m' a w h'
theorem snd_seq {x y:Code} {K:St→Prop} (h:AW E N x (bC K Q) s) (h2:∀ s,K s→Snd E N y Q s):Snd E N (.seq x y) Q s:=fun A w0 m a w hs=>by
 refine wp_seq (wp_mono (nO x _ hs h) fun e a' w' hq=>?_)
 cases e with
 |normal =>
  obtain⟨m',s',hS,hk⟩:=hq
  exact h2 s' hk A w0 m' a' w' hS
 |exit id=>exact hq
 |ret=>exact hq
 |goto l=>exact hq.elim
 |panic ch=>exact hq.elim
 |outgrown=>exact hq.elim
theorem snd_pre {K:St→Prop}:∀ (n:Nat) (c:Code) (s:St),sG E N K Q n c s→(∀ s,K s→Snd E N (dropC n c) Q s)→Snd E N c Q s
 | 0,c,s,h,h2=>by
  have:=h2 s h
  cases c <;> exact this
 |n+1,c,s,h,h2=>by
  cases c with
  |seq x y=>exact snd_seq (K:=sG E N K Q n y) h fun s' hk=>snd_pre n y s' hk h2
  | _=>exact nW h
theorem oV {c:Code} (n:Nat) (C:St→Prop) (h1:∀ K:St→Prop,(∀ s s',Weak E N s s'→C s'→K s)→sG E N K Q n c s) (h2:∀ s,C s→Snd E N (dropC n c) Q s):Snd E N c Q s :=
 snd_pre (K:=fun s=>∃ s',Weak E N s s'∧C s') n c s (h1 _ fun s s' hw hc=>⟨s',hw,hc⟩) fun s ⟨s',hw,hc⟩=>snd_weak hw (h2 s' hc)
end
section
variable {E:Env} {w:World}
theorem j3 {A:Nat→Prop} {f:FuncId} {fn:Func} {c:Code} {as1:List AV} {R:AV→Prop} {vs:Array Value} (hf:E.P.funcs[f]?=some fn) (hb:fn.body=some c) (hN:Nat.ble as1.length fn.ntmps=true)
  (h:Snd E fn.ntmps c (fW E fn R) (St.init as1)) (hI:E.I w) (hr:ARel w A as1 vs) :
  Calls E.P f vs w fun e w'=>∃ v,e=.returned v∧∃ r,R r∧Below w.heap.size w w'∧sL w w' A r v:=by
 have hN':as1.length≤fn.ntmps:=Nat.le_of_ble_eq_true hN
 have hsz:vs.size≤fn.ntmps:=by rw[← hr.1];exact hN'
 refine calls_of_wp hf hb ?_
 have hS:SRel E fn.ntmps ⟨fun b=>A b∨w.heap.size≤b,fun _=>False,fun _=>none,fun _=>none⟩ w (fun _=>none) (St.init as1) { tmps:=vs++Array.replicate (fn.ntmps - vs.size) undef,defers:=[] } w:=by
  refine⟨by simp;omega,rfl,Below.refl _ _,hI,fun i hi=>?_,fun o ob ho=>by simp[St.init] at ho,fun o o' p p' ho=>by simp[St.init] at ho,fun b hb=>.inl (.inr hb),fun b hb=>hb.elim,fun n hn=>absurd rfl hn⟩
  by_cases hlt:i<as1.length
  ·have h1:as1[i]?=some as1[i]:=List.getElem?_eq_getElem hlt
   have hlv:i<vs.size:=by rw[← hr.1];exact hlt
   have:=hr.2 i as1[i] vs[i] h1 (Array.getElem?_eq_getElem hlv)
   have e1:(St.init as1).τ i=as1[i]:=by simp[St.init,List.getD,h1]
   have e2:(vs++Array.replicate (fn.ntmps - vs.size) undef).getD i undef=vs[i]:=by
    rw[Array.getD_eq_getD_getElem?,Array.getElem?_append_left hlv,Array.getElem?_eq_getElem hlv];rfl
   rw[e1]
   show VRel _ _ _ _ _ ((vs++Array.replicate (fn.ntmps - vs.size) undef).getD i undef)
   rw[e2]
   exact this.lift fun b hb=>⟨hb.1,fun o ho=>by simp[St.init] at ho,.inl hb.2⟩
  ·have e1:(St.init as1).τ i=.junk:=by simp[St.init,List.getD,List.getElem?_eq_none (Nat.le_of_not_lt hlt)]
   rw[e1];exact .junk _
 refine wp_mono (h _ _ _ _ _ hS) fun e a' w' hq=>?_
 cases e with
 |normal =>
  obtain⟨m',s',hS',hk⟩:=hq
  refine⟨hS'.defers,?_⟩
  have fin:(match wZ E fn.ntmps s' fn.results.toList with|some r=>kv r R|none=>False)∨wY E fn.ntmps s' fn.results.toList R∨mL E fn.ntmps s' fn.results.toList R:=by
   have hk2:(match dY E fn.ntmps s' fn.results.toList with
    |some [.agg cs]=>bif zY cs then (match wZ E fn.ntmps s' fn.results.toList with|some r=>kv r R|none=>False)∨wY E fn.ntmps s' fn.results.toList R
      else (match wZ E fn.ntmps s' fn.results.toList with|some r=>kv r R|none=>wY E fn.ntmps s' fn.results.toList R)
    |some (v1::v2::vs)=>bif zY (v1::v2::vs) || kZ (v1::v2::vs) then (match wZ E fn.ntmps s' fn.results.toList with|some r=>kv r R|none=>wY E fn.ntmps s' fn.results.toList R)∨mL E fn.ntmps s' fn.results.toList R
      else (match wZ E fn.ntmps s' fn.results.toList with|some r=>kv r R|none=>wY E fn.ntmps s' fn.results.toList R)
    | _=>(match wZ E fn.ntmps s' fn.results.toList with|some r=>kv r R|none=>wY E fn.ntmps s' fn.results.toList R)):=hk
   have both:(match wZ E fn.ntmps s' fn.results.toList with|some r=>kv r R|none=>wY E fn.ntmps s' fn.results.toList R)→(match wZ E fn.ntmps s' fn.results.toList with|some r=>kv r R|none=>False)∨wY E fn.ntmps s' fn.results.toList R∨mL E fn.ntmps s' fn.results.toList R:=by
    intro h
    split at h
    ·exact .inl h
    ·exact .inr (.inl h)
   split at hk2
   ·rename_i cs _
    cases hq:zY cs with
    |true =>
     rw[hq] at hk2
     rcases hk2 with hk2|hk2
     ·exact .inl hk2
     ·exact .inr (.inl hk2)
    |false=>rw[hq] at hk2;exact both hk2
   ·rename_i v1 v2 vs _
    cases hq:zY (v1::v2::vs) || kZ (v1::v2::vs) with
    |true =>
     rw[hq] at hk2
     rcases hk2 with hk2|hk2
     ·exact both hk2
     ·exact .inr (.inr hk2)
    |false=>rw[hq] at hk2;exact both hk2
   ·exact both hk2
  rcases fin with hk2|hk2|hk2
  ·split at hk2
   ·rename_i r ho
    rw[yR] at hk2
    obtain⟨v,hv,hrr⟩:=mQ hS' (B:=A) (fun b hb=>hb) fn ho
    exact⟨v,hv,v,rfl,r,hk2,hS'.below,hrr⟩
   ·exact hk2.elim
  ·obtain⟨v,r,hv,hR,hrr⟩:=mM hS' (B:=A) (fun b hb=>hb) fn hk2
   exact⟨v,hv,v,rfl,r,hR,hS'.below,hrr⟩
  ·obtain⟨v,r,hv,hR,hrr⟩:=mK hS' (B:=A) (fun b hb=>hb) fn hk2
   exact⟨v,hv,v,rfl,r,hR,hS'.below,hrr⟩
 |ret =>
  obtain⟨m',s',hS',hk⟩:=hq
  refine⟨hS'.defers,?_⟩
  have fin:(match wZ E fn.ntmps s' fn.results.toList with|some r=>kv r R|none=>False)∨wY E fn.ntmps s' fn.results.toList R∨mL E fn.ntmps s' fn.results.toList R:=by
   have hk2:(match dY E fn.ntmps s' fn.results.toList with
    |some [.agg cs]=>bif zY cs then (match wZ E fn.ntmps s' fn.results.toList with|some r=>kv r R|none=>False)∨wY E fn.ntmps s' fn.results.toList R
      else (match wZ E fn.ntmps s' fn.results.toList with|some r=>kv r R|none=>wY E fn.ntmps s' fn.results.toList R)
    |some (v1::v2::vs)=>bif zY (v1::v2::vs) || kZ (v1::v2::vs) then (match wZ E fn.ntmps s' fn.results.toList with|some r=>kv r R|none=>wY E fn.ntmps s' fn.results.toList R)∨mL E fn.ntmps s' fn.results.toList R
      else (match wZ E fn.ntmps s' fn.results.toList with|some r=>kv r R|none=>wY E fn.ntmps s' fn.results.toList R)
    | _=>(match wZ E fn.ntmps s' fn.results.toList with|some r=>kv r R|none=>wY E fn.ntmps s' fn.results.toList R)):=hk
   have both:(match wZ E fn.ntmps s' fn.results.toList with|some r=>kv r R|none=>wY E fn.ntmps s' fn.results.toList R)→(match wZ E fn.ntmps s' fn.results.toList with|some r=>kv r R|none=>False)∨wY E fn.ntmps s' fn.results.toList R∨mL E fn.ntmps s' fn.results.toList R:=by
    intro h
    split at h
    ·exact .inl h
    ·exact .inr (.inl h)
   split at hk2
   ·rename_i cs _
    cases hq:zY cs with
    |true =>
     rw[hq] at hk2
     rcases hk2 with hk2|hk2
     ·exact .inl hk2
     ·exact .inr (.inl hk2)
    |false=>rw[hq] at hk2;exact both hk2
   ·rename_i v1 v2 vs _
    cases hq:zY (v1::v2::vs) || kZ (v1::v2::vs) with
    |true =>
     rw[hq] at hk2
     rcases hk2 with hk2|hk2
     ·exact both hk2
     ·exact .inr (.inr hk2)
    |false=>rw[hq] at hk2;exact both hk2
   ·exact both hk2
  rcases fin with hk2|hk2|hk2
  ·split at hk2
   ·rename_i r ho
    rw[yR] at hk2
    obtain⟨v,hv,hrr⟩:=mQ hS' (B:=A) (fun b hb=>hb) fn ho
    exact⟨v,hv,v,rfl,r,hk2,hS'.below,hrr⟩
   ·exact hk2.elim
  ·obtain⟨v,r,hv,hR,hrr⟩:=mM hS' (B:=A) (fun b hb=>hb) fn hk2
   exact⟨v,hv,v,rfl,r,hR,hS'.below,hrr⟩
  ·obtain⟨v,r,hv,hR,hrr⟩:=mK hS' (B:=A) (fun b hb=>hb) fn hk2
   exact⟨v,hv,v,rfl,r,hR,hS'.below,hrr⟩
 |exit i =>
  obtain⟨m',s',hS',hk⟩:=hq
  exact hk.elim
 |goto l=>exact hq.elim
 |panic ch=>exact hq.elim
 |outgrown=>exact hq.elim
theorem aB {f : FuncId} {fn : Func} {c : Code} {as1 : List AV} {R : AV → Prop} (hf : E.P.funcs[f]? = some fn) (hb : fn.body = some c) (hn : (fn.name == "runtime.NumGoroutine") = false) (hN : Nat.ble as1.length fn.ntmps = true)
  (h:Snd E fn.ntmps c (fW E fn R) (St.init as1)):CallsTo E f as1 R:=by
 intro w A vs hI hr
 have hrun:(callFunc f vs).run E.P w=.ok (.enter f vs) w:=by
  simp only[callFunc,Sem.run_bind,run_program,Result.andThen_ok,hf,hn,hb]
  rfl
 unfold Invokes
 rw[hrun]
 exact(j3 hf hb hN h hI hr).mono fun e w' ⟨v,he,hp⟩=>⟨v,he,hp⟩
end
end Ai
namespace Ai
set_option maxRecDepth 100000
open Go Go.Proofs Cyc
def numZ (k:Nat):Nat:=bif Nat.beq k 903 then 963 else bif Nat.beq k 963 then 903 else k
theorem numZ_numZ (k:Nat):numZ (numZ k)=k:=by
 by_cases h1:k=903
 ·subst h1;rfl
 by_cases h2:k=963
 ·subst h2;rfl
 have e:numZ k=k:=by unfold numZ;rw[nbeq_ne h1,nbeq_ne h2];rfl
 rw[e,e]
def shZ:Sh:=r8 numZ numZ_numZ
def uS (subs:List (List (List D))):List (List AV):=(List.range subs.length).map fun j=>[.ref (.s 963 j) 0 (subs.getD j []).length]
theorem rowsM_Z (subs:List (List (List D))):(wP subs 0).map (renL shZ.f)=uS subs:=by
 unfold wP uS
 rw[List.map_map]
 refine List.map_congr_left fun j _=>?_
 show renL _ (dW subs 0 j)=_
 unfold dW
 rw[if_neg (by omega)]
 rfl
theorem rowsZ_M (subs:List (List (List D))):(uS subs).map (renL shZ.f)=wP subs 0:=by
 unfold wP uS
 rw[List.map_map]
 refine List.map_congr_left fun j _=>?_
 show _=dW subs 0 j
 unfold dW
 rw[if_neg (by omega)]
 rfl
theorem gE {p:Key→Bool} (subs:List (List (List D))) (hp:∀ j,p (.s 963 j)=false):(uS subs).map (scrPL p)=uS subs:=by
 unfold uS
 rw[List.map_map]
 refine List.map_congr_left fun j _=>?_
 show scrPL p [_]=_
 simp[scrPL,scrP,hp j]
end Ai
namespace Ai
set_option maxRecDepth 100000
open Go Go.Proofs Go.Shelf Go.Sort Go.RowKit
theorem like_ds {s:St} {m:Own} {κ:Key} {e:TypeId} {sz:Nat} {els els':List (List D)} (hH:s.H κ=some (.ds e sz els)) (hl:els'.length=els.length):Like s.H (s.setH κ (.ds e sz els')).H m m:=by
 refine⟨fun o2 e2 cs2 h2=>?_,fun o2 e2 sz2 els2 h2=>?_,fun o2 e2 sz2 els2 h2=>?_,fun o2 ag2 ps2 h2=>?_⟩
 ·by_cases hne:o2=κ
  ·subst hne;rw[hH] at h2;cases h2
  ·exact⟨⟨cs2,by simp[St.setH,zB hne,h2]⟩,rfl⟩
 ·by_cases hne:o2=κ
  ·subst hne
   rw[hH] at h2;injection h2 with h2;injection h2 with i1 i2 i3;subst i1 i2 i3
   exact⟨⟨els',by simp[St.setH,zD],hl⟩,rfl⟩
  ·exact⟨⟨els2,by simp[St.setH,zB hne,h2],rfl⟩,rfl⟩
 ·by_cases hne:o2=κ
  ·subst hne;rw[hH] at h2;cases h2
  ·exact⟨⟨els2,by simp[St.setH,zB hne,h2],rfl⟩,rfl⟩
 ·by_cases hne:o2=κ
  ·subst hne;rw[hH] at h2;cases h2
  ·exact⟨⟨ps2,by simp[St.setH,zB hne,h2]⟩,rfl⟩
end Ai
namespace Go.Proofs
open Go.Shelf
def Tryz.laysSort_ren:Go.Shelf.Ren:=⟨fun|189=>213|125=>187|257=>260|128=>242|129=>243|294=>278|295=>279|296=>280|297=>281|298=>282|299=>283|216=>284|300=>285|301=>286|328=>298|329=>267|330=>268|331=>299|332=>300|215=>244|343=>307|n=>n,fun|28=>41|3=>3|46=>231|0=>0|51=>273|53=>275|4=>4|183=>267|182=>266|131=>195|5=>5|9=>9|218=>282|222=>286|228=>304|229=>250|n=>n,fun|n=>n⟩
theorem Tryz.laysSort:Go.Proofs.Lays.n189 Tryz.prog Tryz.laysSort_ren:={
 mixed:=by kernel_rfl
 f125:=Tryz.func187.trans (congrArg some (by kernel_rfl))
 f128:=Tryz.func242.trans (congrArg some (by kernel_rfl))
 f129:=Tryz.func243.trans (congrArg some (by kernel_rfl))
 f189:=Tryz.func213.trans (congrArg some (by kernel_rfl))
 f215:=Tryz.func244.trans (congrArg some (by kernel_rfl))
 f216:=Tryz.func284.trans (congrArg some (by kernel_rfl))
 f257:=Tryz.func260.trans (congrArg some (by kernel_rfl))
 f294:=Tryz.func278.trans (congrArg some (by kernel_rfl))
 f295:=Tryz.func279.trans (congrArg some (by kernel_rfl))
 f296:=Tryz.func280.trans (congrArg some (by kernel_rfl))
 f297:=Tryz.func281.trans (congrArg some (by kernel_rfl))
 f298:=Tryz.func282.trans (congrArg some (by kernel_rfl))
 f299:=Tryz.func283.trans (congrArg some (by kernel_rfl))
 f300:=Tryz.func285.trans (congrArg some (by kernel_rfl))
 f301:=Tryz.func286.trans (congrArg some (by kernel_rfl))
 f328:=Tryz.func298.trans (congrArg some (by kernel_rfl))
 f329:=Tryz.func267.trans (congrArg some (by kernel_rfl))
 f330:=Tryz.func268.trans (congrArg some (by kernel_rfl))
 f331:=Tryz.func299.trans (congrArg some (by kernel_rfl))
 f332:=Tryz.func300.trans (congrArg some (by kernel_rfl))
 f343:=Tryz.func307.trans (congrArg some (by kernel_rfl))
 t0:=Tryz.underlying0
 a0:=Tryz.isAgg0
 z0:=Tryz.sizeOf0
 v0:=Tryz.zeroValue0
 t3:=Tryz.underlying3
 a3:=Tryz.isAgg3
 z3:=Tryz.sizeOf3
 v3:=Tryz.zeroValue3
 t4:=Tryz.underlying4
 a4:=Tryz.isAgg4
 z4:=Tryz.sizeOf4
 v4:=Tryz.zeroValue4
 t5:=Tryz.underlying5
 a5:=Tryz.isAgg5
 z5:=Tryz.sizeOf5
 v5:=Tryz.zeroValue5
 t9:=Tryz.underlying9
 a9:=Tryz.isAgg9
 z9:=Tryz.sizeOf9
 v9:=Tryz.zeroValue9
 t28:=Tryz.underlying41
 a28:=Tryz.isAgg41
 z28:=Tryz.sizeOf41
 v28:=Tryz.zeroValue41
 t46:=Tryz.underlying231
 a46:=Tryz.isAgg231
 z46:=Tryz.sizeOf231
 v46:=Tryz.zeroValue231
 t51:=Tryz.underlying273
 a51:=Tryz.isAgg273
 z51:=Tryz.sizeOf273
 v51:=Tryz.zeroValue273
 t53:=Tryz.underlying275
 a53:=Tryz.isAgg275
 z53:=Tryz.sizeOf275
 v53:=Tryz.zeroValue275
 t131:=Tryz.underlying195
 a131:=Tryz.isAgg195
 z131:=Tryz.sizeOf195
 v131:=Tryz.zeroValue195
 t182:=Tryz.underlying266
 a182:=Tryz.isAgg266
 z182:=Tryz.sizeOf266
 v182:=Tryz.zeroValue266
 t183:=Tryz.underlying267
 a183:=Tryz.isAgg267
 z183:=Tryz.sizeOf267
 v183:=Tryz.zeroValue267
 t218:=Tryz.underlying282
 a218:=Tryz.isAgg282
 z218:=Tryz.sizeOf282
 v218:=Tryz.zeroValue282
 t222:=Tryz.underlying286
 a222:=Tryz.isAgg286
 z222:=Tryz.sizeOf286
 v222:=Tryz.zeroValue286
 t228:=Tryz.underlying304
 a228:=Tryz.isAgg304
 z228:=Tryz.sizeOf304
 v228:=Tryz.zeroValue304
 t229:=Tryz.underlying250
 a229:=Tryz.isAgg250
 z229:=Tryz.sizeOf250
 v229:=Tryz.zeroValue250 }
def Tryz.laysCompact_ren:Go.Shelf.Ren:=⟨fun|20=>214|n=>n,fun|22=>41|3=>3|4=>4|0=>0|n=>n,fun|n=>n⟩
theorem Tryz.laysCompact:Go.Proofs.Lays2.n20 Tryz.prog Tryz.laysCompact_ren:={
 mixed:=by kernel_rfl
 f20:=Tryz.func214.trans (congrArg some (by kernel_rfl))
 t0:=Tryz.underlying0
 a0:=Tryz.isAgg0
 z0:=Tryz.sizeOf0
 v0:=Tryz.zeroValue0
 t3:=Tryz.underlying3
 a3:=Tryz.isAgg3
 z3:=Tryz.sizeOf3
 v3:=Tryz.zeroValue3
 t4:=Tryz.underlying4
 a4:=Tryz.isAgg4
 z4:=Tryz.sizeOf4
 v4:=Tryz.zeroValue4
 t22:=Tryz.underlying41
 a22:=Tryz.isAgg41
 z22:=Tryz.sizeOf41
 v22:=Tryz.zeroValue41
 i3:=by kernel_rfl }
end Go.Proofs
namespace Ai
set_option maxRecDepth 100000
open Go Go.Proofs Go.Shelf Go.Sort Go.RowKit
set_option maxHeartbeats 1000000 in
theorem oZ (b cap:Nat) (zs:List Int) (w:World) (hH:Holds (Value.int .i64) w b 0 zs.toArray) (hb:b<w.heap.size) (hsz:zs.length≤1048576) (hcap:zs.length≤cap) :
  Calls Tryz.prog 157 #[.slice (some ⟨b,0,none⟩) zs.length cap] w fun e w'=>e=.returned (.slice (some ⟨b,0,none⟩) (Lib.compact (sorted zs)).length cap) ∧
   ∃ n m os q,w'=putRow (Value.int .i64) (Sort.ahead (grow (putRow (Value.int .i64) (Sort.ahead (w.drewN m) n) b 0 (sorted zs).toArray) os) q) b 0 (Lib.compact (sorted zs)++List.replicate ((sorted zs).length - (Lib.compact (sorted zs)).length) 0).toArray:=by
 have hS:∀ m,Calls Tryz.prog 213 #[.slice (some ⟨b,0,none⟩) zs.length cap] (w.drewN m) fun e w' =>
   e=.returned (.tuple #[])∧∃ n os,w'=grow (putRow (Value.int .i64) (Sort.ahead (w.drewN m) n) b 0 (sorted zs).toArray) os:=fun m=>Any.slices_Sort_int Tryz.laysSort b 0 cap zs (w.drewN m) hH hb (by omega)
 have hC:∀ m n os,Calls Tryz.prog 214 #[.slice (some ⟨b,0,none⟩) zs.length cap] (grow (putRow (Value.int .i64) (Sort.ahead (w.drewN m) n) b 0 (sorted zs).toArray) os) fun e w' =>
   e=.returned (.slice (some ⟨b,0,none⟩) (Lib.compact (sorted zs)).length cap)∧∃ q,w'=putRow (Value.int .i64) (Sort.ahead (grow (putRow (Value.int .i64) (Sort.ahead (w.drewN m) n) b 0 (sorted zs).toArray) os) q) b 0 (Lib.compact (sorted zs)++List.replicate ((sorted zs).length - (Lib.compact (sorted zs)).length) 0).toArray:=by
  intro m n os
  have h1:Holds (Value.int .i64) (grow (putRow (Value.int .i64) (Sort.ahead (w.drewN m) n) b 0 (sorted zs).toArray) os) b 0 (sorted zs).toArray :=
   holds_grow _ _ _ _ _ _ (by simpa[Sort.ahead,World.drewN] using hb) (holds_putRow _ _ _ _ zs.toArray _ hH (by simp[sorted_len]))
  have h2:=Any.slices_Compact_int Tryz.laysCompact b 0 cap (sorted zs) _ h1 (by rw[sorted_len];omega) (by rw[sorted_len];omega)
  rw[sorted_len] at h2
  rw[sorted_len]
  exact h2
 clear hH
 have e213:∀ args w,(callFunc 213 args).run Tryz.prog w=.ok (.enter 213 args) w:=enters_of Tryz.func213 (by kernel_rfl) rfl
 have e214:∀ args w,(callFunc 214 args).run Tryz.prog w=.ok (.enter 214 args) w:=enters_of Tryz.func214 (by kernel_rfl) rfl
 go_enter Tryz.func157,Tryz.ntmps157
 go_wp2_with (first
  |(go_at_call 213;refine(hS 0).mono ?_;rintro e w' ⟨rfl,n,os,rfl⟩)
  |(go_at_call 214;refine(hC 0 _ _).mono ?_;rintro e w' ⟨rfl,q,rfl⟩))
 go_ret
 exact⟨rfl,_,0,_,_,rfl⟩
set_option maxHeartbeats 1000000 in
theorem rising_nil (w:World):Calls Tryz.prog 157 #[.slice none 0 0] w fun e w'=>e=.returned (.slice none 0 0)∧w'=w:=by
 have hS:Calls Tryz.prog 213 #[.slice none 0 0] w fun e w'=>e=.returned (.tuple #[])∧w'=w:=Any.slices_Sort_int_none Tryz.laysSort none 0 w
 have hC:Calls Tryz.prog 214 #[.slice none 0 0] w fun e w'=>e=.returned (.slice none 0 0)∧w'=w:=Any.slices_Compact_int_empty Tryz.laysCompact none 0 w
 have e213:∀ args w,(callFunc 213 args).run Tryz.prog w=.ok (.enter 213 args) w:=enters_of Tryz.func213 (by kernel_rfl) rfl
 have e214:∀ args w,(callFunc 214 args).run Tryz.prog w=.ok (.enter 214 args) w:=enters_of Tryz.func214 (by kernel_rfl) rfl
 go_enter Tryz.func157,Tryz.ntmps157
 go_wp2_with (first
  |(go_at_call 213;refine hS.mono ?_;rintro e w' ⟨rfl,rfl⟩)
  |(go_at_call 214;refine hC.mono ?_;rintro e w' ⟨rfl,rfl⟩))
 go_ret
 exact⟨rfl,rfl⟩
theorem ent157:∀ args w,(callFunc 157 args).run Tryz.prog w=.ok (.enter 157 args) w:=enters_of Tryz.func157 (by kernel_rfl) rfl
def riseL (xs:List Int):List Int:=Lib.compact (sorted xs)
def riseRow (xs:List Int):List Int:=riseL xs++List.replicate (xs.length - (riseL xs).length) 0
theorem n4 (xs:List Int):(riseL xs).length≤xs.length:=by
 have:=compact_le (sorted xs)
 rwa [sorted_len] at this
theorem n0 (xs:List Int):(riseRow xs).length=xs.length:=by
 have:=n4 xs
 simp[riseRow];omega
theorem riseIO_ok (xs:List Int) (nn:Nat) (hnn:nn=xs.length) (hx:xs.length≤1048576) (H0:Key→Option Ob) (hH0:H0 (.n 77)=some (.ds 3 1 (xs.map encInt))) :
  IOCall EE 157 [.ref (.n 77) 0 nn] H0 (fun r H1=>r=.ref (.n 77) 0 (riseL xs).length∧H1=fun κ=>bif Key.beq κ (.n 77) then some (.ds 3 1 ((riseRow xs).map encInt)) else H0 κ):=by
 intro w0 A m w vs hHR hl hr
 have h1:vs.size=1:=hl.symm
 obtain⟨v,rfl⟩:∃ v,vs=#[v]:=⟨vs[0],by
  apply Array.ext (by simp[h1])
  intro i h2 h3
  simp at h3
  subst h3;rfl⟩
 have hv:=hr 0 _ v rfl rfl
 cases hv with
 |ref0 _ e2 sz2 hH hm =>
  rw[hH0] at hH
  injection hH with hH
  injection hH with i1 i2 i3
  have:xs=[]:=by cases xs with|nil=>rfl|cons a b=>simp at i3
  subst this
  have hnn0:riseL []=[]:=by simp[riseL,sorted,Lib.compact,Lib.compactUpTo]
  have e1:riseRow []=[]:=by simp[riseRow,hnn0]
  have eH:(fun κ=>bif Key.beq κ (.n 77) then some (Ob.ds 3 1 ((riseRow []).map encInt)) else H0 κ)=H0:=by
   funext κ
   cases h:Key.beq κ (.n 77) with
   |false=>rfl
   |true=>rw[xD h,hH0,e1];rfl
  unfold Invokes
  rw[show Sem.run EE.P (callFunc 157 #[Value.slice none 0 0]) w=_ from ent157 _ w]
  refine Calls.mono (show Calls Tryz.prog 157 _ _ _ from rising_nil w) ?_
  rintro e w' ⟨rfl,rfl⟩
  refine⟨_,rfl,_,_,m,⟨rfl,rfl⟩,?_,?_⟩
  ·rw[eH];exact hHR
  ·rw[eH,hnn0];exact .ref0 _ 3 1 hH0 hm
 |ref _ _ _ e2 sz2 els2 b full cap hH hn2 hm hcap hnc =>
  rw[hH0] at hH
  injection hH with hH
  injection hH with i1 i2 i3
  subst i1 i2 i3
  have hcf:=hcap rfl
  subst hcf
  rcases hHR.objs _ _ hH0 with ⟨hm2,_⟩|⟨b2,full2,cur,hm2,hbb,hcur,hlen,hmax,hsz,hc⟩
  ·rw[hm] at hm2;cases hm2
  rw[hm] at hm2
  injection hm2 with hm2
  injection hm2 with j1 j2
  subst j1 j2
  have hcl:xs.length≤cap:=by simpa using hlen
  have hcell:∀ t (ht:t<xs.length),cur[t]?=some (.int .i64 xs[t]):=by
   intro t ht
   obtain⟨u,hu,hrr⟩:=(hc t [di xs[t]] (by rw[List.getElem?_map,List.getElem?_eq_getElem ht];rfl)).2 0 _ rfl
   cases hrr
   simpa using hu
  have hHo:Holds (Value.int .i64) w b 0 xs.toArray:=by
   intro t ht2
   have ht2:t<xs.length:=by simpa using ht2
   constructor
   ·simp only[World.cell?,hcur,Nat.zero_add,hcell t ht2]
    simp[ht2]
   ·simp[World.frozen?,hcur]
  have hml:maxLen=9223372036854775807:=rfl
  have hbl:b<w.heap.size:=(Array.getElem?_eq_some_iff.1 hcur).1
  have hris:=oZ b cap xs w hHo hbl hx hcl
  rw[← hnn] at hris
  unfold Invokes
  rw[show Sem.run EE.P (callFunc 157 _) w=_ from ent157 _ w]
  refine Calls.mono (show Calls Tryz.prog 157 _ _ _ from hris) ?_
  rintro e w' ⟨rfl,n,k,os,q,rfl⟩
  have hsl:(sorted xs).length=xs.length:=sorted_len xs
  rw[hsl]
  have hfin:Lib.compact (sorted xs)++List.replicate (xs.length - (Lib.compact (sorted xs)).length) 0=riseRow xs:=rfl
  rw[hfin]
  have hw1:Below w.heap.size w (Sort.ahead (grow (Sort.ahead (w.drewN k) n) os) q):=⟨rfl,rfl,rfl,by simp[Sort.ahead,grow,World.drewN],fun j hj=>by
   show((Sort.ahead (w.drewN k) n).heap++os)[j]?=_
   rw[Array.getElem?_append_left (by simpa[Sort.ahead,World.drewN] using hj)];rfl⟩
  have hS1:=(hHR.toS).below' hw1
  have hsz2:(putRow (Value.int .i64) (Sort.ahead (grow (putRow (Value.int .i64) (Sort.ahead (w.drewN k) n) b 0 (sorted xs).toArray) os) q) b 0 (riseRow xs).toArray).heap.size=(Sort.ahead (grow (Sort.ahead (w.drewN k) n) os) q).heap.size:=by
   rw[size_putRow]
   show((putRow (Value.int .i64) (Sort.ahead (w.drewN k) n) b 0 (sorted xs).toArray).heap++os).size=((Sort.ahead (w.drewN k) n).heap++os).size
   rw[Array.size_append,Array.size_append,size_putRow]
  have hoth:∀ j,j≠b→(putRow (Value.int .i64) (Sort.ahead (grow (putRow (Value.int .i64) (Sort.ahead (w.drewN k) n) b 0 (sorted xs).toArray) os) q) b 0 (riseRow xs).toArray).heap[j]?=(Sort.ahead (grow (Sort.ahead (w.drewN k) n) os) q).heap[j]?:=by
   intro j hj
   rw[rF _ _ _ _ _ _ hj]
   show((putRow (Value.int .i64) (Sort.ahead (w.drewN k) n) b 0 (sorted xs).toArray).heap++os)[j]?=((Sort.ahead (w.drewN k) n).heap++os)[j]?
   rw[Array.getElem?_append,Array.getElem?_append,size_putRow,rF _ _ _ _ _ _ hj]
  have hcur1:(Sort.ahead (grow (putRow (Value.int .i64) (Sort.ahead (w.drewN k) n) b 0 (sorted xs).toArray) os) q).heap[b]?=some (.cells (putCells (Value.int .i64) 0 (sorted xs).toArray cur) 3 (0,0)):=by
   show((putRow (Value.int .i64) (Sort.ahead (w.drewN k) n) b 0 (sorted xs).toArray).heap++os)[b]?=_
   rw[Array.getElem?_append_left (by rw[size_putRow];exact hbl)]
   exact eZ _ _ _ _ hcur
  have hos:(putRow (Value.int .i64) (Sort.ahead (grow (putRow (Value.int .i64) (Sort.ahead (w.drewN k) n) b 0 (sorted xs).toArray) os) q) b 0 (riseRow xs).toArray).os=(Sort.ahead (grow (Sort.ahead (w.drewN k) n) os) q).os:=rfl
  have htp:(putRow (Value.int .i64) (Sort.ahead (grow (putRow (Value.int .i64) (Sort.ahead (w.drewN k) n) b 0 (sorted xs).toArray) os) q) b 0 (riseRow xs).toArray).tape=(Sort.ahead (grow (Sort.ahead (w.drewN k) n) os) q).tape:=rfl
  have hou:(putRow (Value.int .i64) (Sort.ahead (grow (putRow (Value.int .i64) (Sort.ahead (w.drewN k) n) b 0 (sorted xs).toArray) os) q) b 0 (riseRow xs).toArray).output=(Sort.ahead (grow (Sort.ahead (w.drewN k) n) os) q).output:=rfl
  have hcur2:=eZ (Sort.ahead (grow (putRow (Value.int .i64) (Sort.ahead (w.drewN k) n) b 0 (sorted xs).toArray) os) q) b (riseRow xs).toArray _ hcur1
  generalize putRow (Value.int .i64) (Sort.ahead (grow (putRow (Value.int .i64) (Sort.ahead (w.drewN k) n) b 0 (sorted xs).toArray) os) q) b 0 (riseRow xs).toArray=w' at *
  generalize hw1e:Sort.ahead (grow (Sort.ahead (w.drewN k) n) os) q=w1 at *
  have hrl:(riseRow xs).length=xs.length:=n0 xs
  have hS:=hS1.update (w':=w') (.n 77) _ (.ds 3 1 ((riseRow xs).map encInt)) hH0 (like_ds hH0 (by simp[hrl])) b cap hm
   ⟨hos.trans hS1.below.os,htp.trans hS1.below.tape,hou.trans hS1.below.output,by rw[hsz2];exact hS1.below.size,fun j hj=>(hoth j (by omega)).trans (hS1.below.block j hj)⟩ hsz2 hoth ?_ (fun _ _ h=>by cases h)
  ·refine⟨_,rfl,_,_,m,⟨rfl,rfl⟩,hS.toH,?_⟩
   have hle:=n4 xs
   exact VRel.ref (w:=w') (ok:=okB A.A (St.setH (.n 77) (.ds 3 1 ((riseRow xs).map encInt)) ⟨fun _=>.junk,H0⟩).H m w') (m:=m) (H:=(St.setH (.n 77) (.ds 3 1 ((riseRow xs).map encInt)) ⟨fun _=>.junk,H0⟩).H) (.n 77) 0 (riseL xs).length 3 1 ((riseRow xs).map encInt) b cap cap
    (by simp[St.setH,zD]) (by simp[hrl];exact hle) hm (fun _=>rfl) (by omega)
  ·refine .inr ⟨b,cap,_,hm,hbb,hcur2,by simp[hrl];omega,hmax,by simp[putCells,hsz],fun j c hj=>?_⟩
   rw[List.getElem?_map,Option.map_eq_some_iff] at hj
   obtain⟨x,hx2,rfl⟩:=hj
   refine⟨rfl,fun t d ht=>?_⟩
   match t,ht with
   | 0,ht =>
    simp only[encInt,List.getElem?_cons_zero,Option.some.injEq] at ht
    subst ht
    refine⟨.int .i64 x,?_,.int _ _⟩
    rw[Nat.mul_one,Nat.add_zero]
    have hxl:=(List.getElem?_eq_some_iff.1 hx2).1
    rw[z8 _ _ _ (by simpa using hxl) (by simp[putCells];omega)]
    rw[List.getElem?_eq_getElem hxl] at hx2
    injection hx2 with hx2
    rw[List.getElem_toArray,hx2]
   |t+1,ht=>simp[encInt] at ht
end Ai
namespace Ai
set_option maxRecDepth 100000
open Go Go.Proofs
theorem e8 (xs:List Int) (lo hi:Int) (hx:xs.length≤1048576):CallsTo EE 151 [sl (xs.map encInt),i64 lo,i64 hi] (·=bp (Rise xs lo hi)):=by
 refine callsTo_of_AW (fn:=Tryz.f151) Tryz.func151 rfl (by kernel_rfl) rfl ?_
 conv=>whnf
 refine yU (fun k:Nat=>[(0,sl (xs.map encInt)),(1,i64 lo),(2,i64 hi),(9,sl (xs.map encInt)),(10,i64 (xs.map encInt).length),(11,i64 k)]) (fun k=>[]) (fun k=>xs.length - k) (fun k=>k≤xs.length∧∀ (i:Nat) (h:i<xs.length),i<k→InR xs[i] lo hi∧∀ (j:Nat) (hj:j+1=i),xs[j]<xs[i]) 0 .refl ⟨rfl,rfl,rfl,rfl,rfl,rfl,trivial⟩ trivial ⟨Nat.zero_le _,by omega⟩ ?_
 rintro k τ H ⟨hk,ih⟩
 conv=>whnf
 refine kbi (fun h=>?_) (fun h=>?_)
 ·have hlt:=yS h
  conv=>whnf
  refine⟨encInt xs[k],zV encInt hlt rfl,?_⟩
  conv=>whnf
  refine ocase (qW _ _ _) (fun h=>?_) (fun h=>?_)
  ·conv=>whnf
   refine kbi (fun h2=>?_) (fun h2=>?_)
   ·simp at h2
    conv=>whnf
    have hlt2:k - 1<xs.length:=by omega
    have e:IntKind.i64.wrap ((k:Int) - 1)=((k - 1:Nat):Int):=by rw[zF (by omega) (by omega)];omega
    refine⟨encInt xs[k - 1],?_,?_⟩
    ·rw[e];exact zV encInt hlt2 rfl
    conv=>whnf
    refine kbi (fun h3=>?_) (fun h3=>?_)
    ·conv=>whnf
     refine bpf fun hm=>?_
     have:=(hm k hlt).2 (k - 1) (by omega)
     simp at h3
     omega
    ·simp at h3
     conv=>whnf
     refine⟨k+1,⟨by omega,fun i hi hik=>?_⟩,by show xs.length - (k+1)<xs.length - k;omega,⟨rfl,rfl,rfl,rfl,rfl,zN hlt (by omega),trivial⟩,trivial⟩
     rcases Nat.lt_or_ge i k with h'|h'
     ·exact ih i hi h'
     ·have:i=k:=by omega
      subst this
      refine⟨h,fun j hj=>?_⟩
      have:j=i - 1:=by omega
      subst this
      exact h3
   ·simp at h2
    conv=>whnf
    refine⟨k+1,⟨by omega,fun i hi hik=>?_⟩,by show xs.length - (k+1)<xs.length - k;omega,⟨rfl,rfl,rfl,rfl,rfl,zN hlt (by omega),trivial⟩,trivial⟩
    rcases Nat.lt_or_ge i k with h'|h'
    ·exact ih i hi h'
    ·have:i=k:=by omega
     subst this
     exact⟨h,fun j hj=>by omega⟩
  ·conv=>whnf
   exact bpf fun hm=>h (hm k hlt).1
 ·conv=>whnf
  refine bpt fun i hi=>ih i hi ?_
  simp at h;omega
theorem GoodPctS_ok (s:PctL) (hs:s.ranks.length≤1048576∧s.changes.length≤1048576):CallsTo EE 82 [agg (encPct s)] (·=bp s.goodS):=by
 refine callsTo_of_AW (fn:=Tryz.f82) Tryz.func82 rfl (by kernel_rfl) rfl ?_
 conv=>whnf
 refine kbi (fun h=>?_) (fun h=>?_)
 ·conv=>whnf
  refine bpf fun hm=>?_
  have:=hm.1
  simp[this] at h
 simp at h
 conv=>whnf
 refine ocase (l1All_ok s.ranks 0 4 hs.1) (fun h2=>?_) (fun h2=>?_)
 rotate_left
 ·conv=>whnf
  exact bpf fun hm=>h2 hm.2.1
 conv=>whnf
 refine yU (fun k:Nat=>[(1,.ptr 1 0),(16,sl (s.ranks.map encInt)),(17,i64 (s.ranks.map encInt).length),(18,i64 k)]) (fun k=>[(1,.vs 68 ((encPct s).map .d))]) (fun k=>s.ranks.length - k) (fun k=>k≤s.ranks.length∧∀ (i:Nat) (h:i<s.ranks.length),i<k→s.ranks[i] ∉ s.ranks.take i) 0 .refl ⟨rfl,rfl,rfl,rfl,trivial⟩ ⟨rfl,trivial⟩ ⟨Nat.zero_le _,by omega⟩ ?_
 rintro k τ H ⟨hk,ih⟩
 conv=>whnf
 refine kbi (fun h=>?_) (fun h=>?_)
 ·have hlt:=yS h
  conv=>whnf
  refine⟨encInt s.ranks[k],zV encInt hlt rfl,?_⟩
  conv=>whnf
  refine⟨⟨by omega,by omega,by simp;omega,?_⟩,?_⟩
  ·intro c hc
   simp only[List.mem_map] at hc
   obtain⟨x,_,rfl⟩:=hc
   rfl
  conv=>whnf
  refine ocase (l1Has_at _ (s.ranks.take k) _ (sl_take _ _ _) (by simp;omega)) (fun h3=>?_) (fun h3=>?_)
  ·conv=>whnf
   exact bpf fun hm=>hm.2.2.1 k hlt h3
  ·conv=>whnf
   refine⟨k+1,⟨by omega,fun i hi hik=>?_⟩,by show s.ranks.length - (k+1)<s.ranks.length - k;omega,⟨rfl,rfl,rfl,zN hlt (by omega),trivial⟩,⟨rfl,trivial⟩⟩
   rcases Nat.lt_or_ge i k with h'|h'
   ·exact ih i hi h'
   ·have:i=k:=by omega
    subst this
    exact h3
 ·have hge:s.ranks.length≤k:=by simpa using h
  conv=>whnf
  have hnd:∀ (k:Nat) (h:k<s.ranks.length),s.ranks[k] ∉ s.ranks.take k:=fun i hi=>ih i hi (by omega)
  refine kbi (fun h4=>?_) (fun h4=>?_)
  ·simp at h4
   conv=>whnf
   refine ocase (e8 s.changes 0 199 hs.2) (fun h5=>?_) (fun h5=>?_)
   ·conv=>whnf
    exact bpt ⟨by omega,h2,hnd,by omega,h5⟩
   ·conv=>whnf
    exact bpf fun hm=>h5 hm.2.2.2.2
  ·simp at h4
   conv=>whnf
   exact bpf fun hm=>by have:=hm.2.2.2.1;omega
theorem isRising_ok (xs:List Int) (hi:Int) (hx:xs.length≤1048576):CallsTo EE 158 [sl (xs.map encInt),i64 hi] (·=bp (Rise xs 0 hi)):=by
 refine callsTo_of_AW (fn:=Tryz.f158) Tryz.func158 rfl (by kernel_rfl) rfl ?_
 conv=>whnf
 refine yU (fun k:Nat=>[(0,sl (xs.map encInt)),(1,i64 hi),(7,sl (xs.map encInt)),(8,i64 (xs.map encInt).length),(9,i64 k)]) (fun k=>[]) (fun k=>xs.length - k) (fun k=>k≤xs.length∧∀ (i:Nat) (h:i<xs.length),i<k→InR xs[i] 0 hi∧∀ (j:Nat) (hj:j+1=i),xs[j]<xs[i]) 0 .refl ⟨rfl,rfl,rfl,rfl,rfl,trivial⟩ trivial ⟨Nat.zero_le _,by omega⟩ ?_
 rintro k τ H ⟨hk,ih⟩
 conv=>whnf
 refine kbi (fun h=>?_) (fun h=>?_)
 ·have hlt:=yS h
  conv=>whnf
  refine⟨encInt xs[k],zV encInt hlt rfl,?_⟩
  conv=>whnf
  refine ocase (in_ok _ _ _) (fun h=>?_) (fun h=>?_)
  ·conv=>whnf
   refine kbi (fun h2=>?_) (fun h2=>?_)
   ·simp at h2
    conv=>whnf
    have hlt2:k - 1<xs.length:=by omega
    have e:IntKind.i64.wrap ((k:Int) - 1)=((k - 1:Nat):Int):=by rw[zF (by omega) (by omega)];omega
    refine⟨encInt xs[k - 1],?_,?_⟩
    ·rw[e];exact zV encInt hlt2 rfl
    conv=>whnf
    refine kbi (fun h3=>?_) (fun h3=>?_)
    ·conv=>whnf
     refine bpf fun hm=>?_
     have:=(hm k hlt).2 (k - 1) (by omega)
     simp at h3
     omega
    ·simp at h3
     conv=>whnf
     refine⟨k+1,⟨by omega,fun i hi hik=>?_⟩,by show xs.length - (k+1)<xs.length - k;omega,⟨rfl,rfl,rfl,rfl,zN hlt (by omega),trivial⟩,trivial⟩
     rcases Nat.lt_or_ge i k with h'|h'
     ·exact ih i hi h'
     ·have:i=k:=by omega
      subst this
      refine⟨h,fun j hj=>?_⟩
      have:j=i - 1:=by omega
      subst this
      exact h3
   ·simp at h2
    conv=>whnf
    refine⟨k+1,⟨by omega,fun i hi hik=>?_⟩,by show xs.length - (k+1)<xs.length - k;omega,⟨rfl,rfl,rfl,rfl,zN hlt (by omega),trivial⟩,trivial⟩
    rcases Nat.lt_or_ge i k with h'|h'
    ·exact ih i hi h'
    ·have:i=k:=by omega
     subst this
     exact⟨h,fun j hj=>by omega⟩
  ·conv=>whnf
   exact bpf fun hm=>h (hm k hlt).1
 ·conv=>whnf
  refine bpt fun i hi=>ih i hi ?_
  simp at h;omega
theorem GoodPctI_ok (s : PctL) (hs : s.ranks.length ≤ 1048576 ∧ s.changes.length ≤ 1048576) : CallsTo EE 85 [agg (encPct s)] (· = bp s.goodI) := by
  have hcl : (Lib.compact (sorted s.ranks)).length ≤ 1048576 := Nat.le_trans (compact_le _) (by rw [sorted_len]; exact hs.1)
  refine callsTo_of_AW (fn := Tryz.f85) Tryz.func85 rfl (by kernel_rfl) rfl ?_
  conv => whnf
  refine ⟨_, Clone_ok _ hs.1, ?_⟩
  rintro r rfl
  refine .inr ⟨6, rfl, ?_⟩
  conv => whnf
  refine .inr (.inr (.inr (.inl ⟨_, 157, [], weak_sw 6 77, rfl, 999, 99, isK (.n 77), _, io_congr (riseIO_ok s.ranks (s.ranks.map encInt).length (by simp) hs.1 _ rfl) rfl, rfl, ?_⟩)))
  rintro r H1 ⟨rfl, rfl⟩
  refine ⟨fun κ hκ => by
    show (bif Key.beq κ (.n 77) then _ else lendH _ _ κ) = none
    have hκ : Key.beq κ (.n 77) = false := hκ
    rw [hκ]; exact lendH_f hκ, fun n hn => (by cases hn), ?_⟩
  have hrt : (((riseRow s.ranks).map encInt).drop 0).take (riseL s.ranks).length = (riseL s.ranks).map encInt := by
    unfold riseRow
    rw [List.drop_zero, List.map_append, List.take_left' (by simp)]
  conv => whnf
  refine kbi (fun h1 => ?_) (fun h1 => ?_)
  rotate_left
  · conv => whnf
    refine bpf fun hm => h1 ?_
    have := hm.1
    simp [this]
  conv => whnf
  refine kbi (fun h2 => ?_) (fun h2 => ?_)
  rotate_left
  · conv => whnf
    refine bpf fun hm => h2 ?_
    have : (riseL s.ranks).length = 5 := hm.2.1
    simp [this]
  conv => whnf
  have hr4 : CallsTo EE 158 [sl ((((riseRow s.ranks).map encInt).drop 0).take (riseL s.ranks).length), i64 4] (· = bp (Rise (riseL s.ranks) 0 4)) := by
    rw [hrt]; exact isRising_ok _ 4 hcl
  refine .inl (fcase hr4 (fun h3 => ?_) (fun h3 => ?_))
  rotate_left
  · conv => whnf
    exact bpf fun hm => h3 hm.2.2.1
  conv => whnf
  refine kbi (fun h4 => ?_) (fun h4 => ?_)
  rotate_left
  · conv => whnf
    refine bpf fun hm => ?_
    have := hm.2.2.2.1
    simp at h4
    omega
  conv => whnf
  refine ocase (isRising_ok _ 199 hs.2) (fun h5 => ?_) (fun h5 => ?_)
  rotate_left
  · conv => whnf
    exact bpf fun hm => h5 hm.2.2.2.2
  conv => whnf
  have h2 : (Lib.compact (sorted s.ranks)).length = 5 := by have h9 : ((riseL s.ranks).length : Int) = 5 := by simpa using h2
                                                            exact Int.ofNat_inj.1 h9
  simp at h1 h4
  exact bpt ⟨by omega, h2, h3, by omega, h5⟩
def Apart (t:List Int):Prop:=∀ (i:Nat) (h:i<t.length) (j:Nat) (hj:j+1=i),t[i]≠t[j]
theorem iR (t:List Int) (i:Nat) (h:i<t.length):Lib.keeps t.toArray i=true↔∀ (j:Nat) (hj:j+1=i),t[i]≠t[j]:=by
 unfold Lib.keeps
 rw[decide_eq_true_eq]
 constructor
 ·rintro h1 j hj
  have h2:i≠0:=by omega
  have h3:=h1.resolve_left h2
  have e:i - 1=j:=by omega
  rw[e,getElem!_pos _ i (by simpa using h),getElem!_pos _ j (by simp;omega)] at h3
  simpa using h3
 ·intro h1
  by_cases h0:i=0
  ·exact .inl h0
  ·right
   rw[getElem!_pos _ i (by simpa using h),getElem!_pos _ (i - 1) (by simp;omega)]
   have:=h1 (i - 1) (by omega)
   simpa using this
theorem bS (t:List Int) (h:Apart t):Lib.compact t=t:=by
 unfold Lib.compact
 rw[Lib.compactUpTo_all _ _ fun j hj=>(iR t j hj).2 fun k hk=>h j hj k hk]
 have:=Lib.range_map_get t.toArray
 simpa using this
theorem apart_of (t:List Int) (h:(Lib.compact t).length=t.length):Apart t:=by
 unfold Lib.compact Lib.compactUpTo at h
 rw[List.length_map] at h
 have h2:((List.range t.length).filter (Lib.keeps t.toArray)).length=(List.range t.length).length:=by simpa using h
 have h3:=List.length_filter_eq_length_iff.1 h2
 intro i hi j hj
 exact(iR t i hi).1 (h3 i (by simpa using hi)) j hj
theorem n7 (s:PctL):s.goodS↔s.goodI:=by
 have hp:=m4 s.ranks
 have hs:=m5 s.ranks
 have hl:=sorted_len s.ranks
 constructor
 ·rintro⟨h1,h2,h3,h4,h5⟩
  have hnd:s.ranks.Nodup:=by
   rw[List.nodup_iff_pairwise_ne,List.pairwise_iff_getElem]
   intro i j hi hj hij he
   refine h3 j hj ?_
   rw[← he]
   exact List.mem_take_iff_getElem.2 ⟨i,by omega,rfl⟩
  have hnd2:(sorted s.ranks).Nodup:=hp.nodup_iff.2 hnd
  have hap:Apart (sorted s.ranks):=by
   intro i hi j hj he
   have:=(List.pairwise_iff_getElem.1 (List.nodup_iff_pairwise_ne.1 hnd2)) j i (by omega) hi (by omega)
   exact this he.symm
  refine⟨h1,by rw[bS _ hap,hl];exact h1,?_,h4,h5⟩
  rw[bS _ hap]
  intro i hi
  refine⟨h2 _ (hp.mem_iff.1 (List.getElem_mem hi)),fun j hj=>?_⟩
  have h6:=(List.pairwise_iff_getElem.1 hs) j i (by omega) hi (by omega)
  have h7:=hap i hi j hj
  omega
 ·rintro⟨h1,h2,h3,h4,h5⟩
  have hap:=apart_of (sorted s.ranks) (by rw[h2,hl,h1])
  rw[bS _ hap] at h3
  have hlt:∀ (n i:Nat) (hi:i<(sorted s.ranks).length) (hj:i+n+1<(sorted s.ranks).length),(sorted s.ranks)[i]<(sorted s.ranks)[i+n+1]:=by
   intro n
   induction n with
   |zero=>intro i hi hj;exact(h3 (i+1) hj).2 i rfl
   |succ n ih =>
    intro i hi hj
    have h8:=ih i hi (by omega)
    have h9:=(h3 (i+(n+1)+1) hj).2 (i+n+1) (by omega)
    omega
  have hnd2:(sorted s.ranks).Nodup:=by
   rw[List.nodup_iff_pairwise_ne,List.pairwise_iff_getElem]
   intro i j hi hj hij
   have h10:=hlt (j - i - 1) i hi (by omega)
   have e:i+(j - i - 1)+1=j:=by omega
   simp only[e] at h10
   omega
  have hnd:s.ranks.Nodup:=hp.nodup_iff.1 hnd2
  refine⟨h1,?_,?_,h4,h5⟩
  ·intro x hx
   obtain⟨i,hi,rfl⟩:=List.getElem_of_mem (hp.mem_iff.2 hx)
   exact(h3 i hi).1
  ·intro k hk hm
   obtain⟨i,hi,he⟩:=List.mem_take_iff_getElem.1 hm
   have:=(List.pairwise_iff_getElem.1 (List.nodup_iff_pairwise_ne.1 hnd)) i k (by omega) hk (by omega)
   exact this he
end Ai
namespace Ai
set_option maxRecDepth 100000
open Go Go.Proofs Cyc
theorem best_ok (rk en:List Int) (he:en≠[]) (hl:en.length≤1048576) (hr:∀ x∈en,0≤x∧x<rk.length):CallsTo EE 159 [sl (en.map encInt),.fp [.sl (rk.map encInt)]] (·=i64 (yK rk en en.length:Nat)):=by
 refine callsTo_of_AW (fn:=Tryz.f159) Tryz.func159 rfl (by kernel_rfl) rfl ?_
 conv=>whnf
 refine yU (fun k:Nat=>[(0,sl (en.map encInt)),(1,.fp [.sl (rk.map encInt)]),(4,i64 (yK rk en k:Nat)),(7,sl (en.map encInt)),(8,i64 (en.map encInt).length),(9,i64 k)]) (fun k=>[]) (fun k=>en.length - k) (fun k=>k≤en.length) 0
  Weak.refl ⟨rfl,rfl,rfl,rfl,rfl,rfl,trivial⟩ trivial (Nat.zero_le _) ?_
 intro k τ H hk
 have hk:k≤en.length:=hk
 have ht:=qY rk en he k hk
 conv=>whnf
 refine kbi (fun h=>?_) (fun h=>?_)
 ·have hlt:=yS h
  have h1:=hr _ (List.getElem_mem hlt)
  have h2:=hr _ (List.getElem_mem ht)
  have key:∀ j (hj:j<en.length) (h3:en[j].toNat<rk.length),pB rk en j=rk[en[j].toNat]:=by
   intro j hj h3
   unfold pB
   rw[List.getD_eq_getElem?_getD,List.getD_eq_getElem?_getD,List.getElem?_eq_getElem hj,Option.getD_some,List.getElem?_eq_getElem h3,Option.getD_some]
  have e1:=key k hlt (by omega)
  have e2:=key _ ht (by omega)
  conv=>whnf
  refine⟨encInt en[k],zV encInt hlt rfl,?_⟩
  conv=>whnf
  refine⟨by kernel_rfl,?_⟩
  conv=>whnf
  refine⟨encInt (rk[en[k].toNat]'(by omega)),⟨h1.1,by rw[List.getElem?_map,List.getElem?_eq_getElem (by omega)];rfl,rfl⟩,?_⟩
  conv=>whnf
  refine⟨encInt en[yK rk en k],zV encInt ht rfl,?_⟩
  conv=>whnf
  refine⟨encInt (rk[en[yK rk en k].toNat]'(by omega)),⟨h2.1,by rw[List.getElem?_map,List.getElem?_eq_getElem (by omega)];rfl,rfl⟩,?_⟩
  conv=>whnf
  refine kbi (fun g=>?_) (fun g=>?_)
  ·have g:rk[en[k].toNat]'(by omega) > rk[en[yK rk en k].toNat]'(by omega):=of_decide_eq_true g
   have hn:yK rk en (k+1)=k:=by
    show(if _ then _ else _)=_
    rw[if_pos (by rw[e1,e2];exact g)]
   conv=>whnf
   refine⟨k+1,by show k+1≤en.length;omega,by show en.length - (k+1)<en.length - k;omega,⟨rfl,rfl,?_,rfl,rfl,zN hlt (by omega),trivial⟩,trivial⟩
   show i64 (k:Int)=i64 (yK rk en (k+1):Nat)
   rw[hn]
  ·have g:¬ rk[en[k].toNat]'(by omega) > rk[en[yK rk en k].toNat]'(by omega):=fun e=>g (decide_eq_true e)
   have hn:yK rk en (k+1)=yK rk en k:=by
    show(if _ then _ else _)=_
    rw[if_neg (by rw[e1,e2];exact g)]
   conv=>whnf
   refine⟨k+1,by show k+1≤en.length;omega,by show en.length - (k+1)<en.length - k;omega,⟨rfl,rfl,?_,rfl,rfl,zN hlt (by omega),trivial⟩,trivial⟩
   show i64 (yK rk en k:Nat)=i64 (yK rk en (k+1):Nat)
   rw[hn]
 ·have hkk:k=en.length:=by
   have:¬ k<en.length:=by simpa using h
   omega
  subst hkk
  conv=>whnf
  try rfl
def pkR (en:List Nat) (ch:List Int) (n:Nat) (rk:List Int):List Int × Nat :=
 match aW ch n with
 |some i=>(rk.set (en.getD (yK rk (xO en) en.length) 0) (-1 - (i:Int)),yK (rk.set (en.getD (yK rk (xO en) en.length) 0) (-1 - (i:Int))) (xO en) en.length)
 |none=>(rk,yK rk (xO en) en.length)
def dX (pc:PctL) (rk:List Int):Key→Option Ob
 | .l j=>bif Nat.beq j 20 then some (.vs 201 [.fn 159 [.ptr (.l 22) 0]]) else bif Nat.beq j 21 then some (.vs 68 ((encPct pc).map .d)) else bif Nat.beq j 22 then some (.vs 41 [.ref (.n 980) 0 5]) else none
 | .n j=>bif Nat.beq j 980 then some (.ds 3 1 (rk.map encInt)) else none
 | .s _ _=>none
def gO:Key→Bool
 | .l j=>Nat.beq j 20 || Nat.beq j 21 || Nat.beq j 22
 | .n j=>Nat.beq j 980
 | .s _ _=>false
theorem pC {pc:PctL} {rk:List Int}:∀ κ,gO κ=false→dX pc rk κ=none
 | .l j,h=>by
  have h:(Nat.beq j 20 || Nat.beq j 21 || Nat.beq j 22)=false:=h
  simp only[Bool.or_eq_false_iff] at h
  simp[dX,h.1.1,h.1.2,h.2]
 | .n j,h=>by have h:Nat.beq j 980=false:=h;simp[dX,h]
 | .s o j,h=>rfl
theorem cD {pc:PctL} {rk:List Int} {H:Key→Option Ob} (h0:H (.l 20)=some (.vs 201 [.fn 159 [.ptr (.l 22) 0]])) (h1:H (.l 21)=some (.vs 68 ((encPct pc).map .d))) (h2:H (.l 22)=some (.vs 41 [.ref (.n 980) 0 5])) (h3:H (.n 980)=some (.ds 3 1 (rk.map encInt))):lendH gO H=dX pc rk:=by
 funext κ
 cases hk:gO κ with
 |false=>rw[pC κ hk,lendH_f hk]
 |true =>
  rw[vB hk]
  cases κ with
  |l j =>
   have hk:(Nat.beq j 20 || Nat.beq j 21 || Nat.beq j 22)=true:=hk
   simp only[Bool.or_eq_true] at hk
   rcases hk with (hk|hk)|hk
   ·have:=Nat.eq_of_beq_eq_true hk
    subst this;rw[h0];rfl
   ·have:=Nat.eq_of_beq_eq_true hk
    subst this;rw[h1];rfl
   ·have:=Nat.eq_of_beq_eq_true hk
    subst this;rw[h2];rfl
  |n j =>
   have:=Nat.eq_of_beq_eq_true (show Nat.beq j 980=true from hk)
   subst this
   rw[h3];rfl
  |s o j=>cases hk
theorem pickR_ok (pc:PctL) (hch:pc.changes.length≤1000) (rk:List Int) (hrl:rk.length=5) (en:List Nat) (he:en≠[]) (h5:en.length≤5) (hel:∀ k∈en,k<5) (n:Nat) :
  IOCall EE 161 [sl (en.map wV),i64 n,.ptr (.l 20) 0,.ptr (.l 21) 0,.ptr (.l 22) 0] (dX pc rk) (fun r H1=>r=i64 ((pkR en pc.changes n rk).2:Nat)∧H1=dX pc (pkR en pc.changes n rk).1):=by
 have hne:xO en≠[]:=by intro e;simp[xO] at e;exact he e
 have hnl:(xO en).length=en.length:=by simp[xO]
 have hin:∀ (rk':List Int),rk'.length=5→∀ x∈xO en,0≤x∧x<rk'.length:=by
  intro rk' h x hx
  obtain⟨k,hk,rfl⟩:=List.mem_map.1 hx
  have:=hel k hk
  omega
 have htop:∀ (rk':List Int),rk'.length=5→CallsTo EE 159 [sl (en.map wV),.fp [.sl (((rk'.map encInt).drop 0).take 5)]] (·=i64 (yK rk' (xO en) en.length:Nat)):=by
  intro rk' h
  have:=best_ok rk' (xO en) hne (by omega) (hin rk' h)
  rwa [hnl,← r7,show rk'.map encInt=((rk'.map encInt).drop 0).take 5 by rw[List.drop_zero,List.take_of_length_le (by simp[h])]] at this
 have hk0:yK rk (xO en) en.length<en.length:=by have:=qY rk (xO en) hne en.length (by omega);omega
 have hidx:=IdxA_ok pc.changes (n:Int) (by omega)
 refine xS (fn:=Tryz.f161) (c:=Tryz.f161.body.getD .skip) Tryz.func161 rfl (by kernel_rfl) rfl ?_
 conv=>whnf
 refine .inl ⟨_,htop rk hrl,?_⟩
 rintro r rfl
 refine⟨rfl,?_⟩
 conv=>whnf
 refine⟨_,hidx,?_⟩
 rintro r rfl
 conv=>whnf
 unfold pkR
 cases hi:aW pc.changes n with
 |none =>
  refine kbi (fun h=>absurd h (by simp[hi,aY])) (fun _=>?_)
  conv=>whnf
  refine⟨_,Weak.refl,?_⟩
  conv=>whnf
  exact⟨gO,rfl,cD rfl rfl rfl rfl⟩
 |some i =>
  refine kbi (fun _=>?_) (fun h=>absurd h (by simp[hi,aY]))
  have hil:i<pc.changes.length:=by
   unfold aW at hi
   exact(List.findIdx?_eq_some_iff_getElem.1 hi).1
  generalize yK rk (xO en) en.length=k0 at *
  have hkm:en.getD k0 0∈en:=by rw[List.getD_eq_getElem?_getD,List.getElem?_eq_getElem hk0];exact List.getElem_mem hk0
  have hk5:=hel _ hkm
  have hw1:IntKind.i64.wrap (-1 - (i:Int))=-1 - (i:Int):=zF (by omega) (by omega)
  have hse:xF (rk.map encInt) 1 (0+((en.getD k0 0:Nat):Int).toNat) 0 [di (IntKind.i64.wrap (-1 - (i:Int)))]=(rk.set (en.getD k0 0) (-1 - (i:Int))).map encInt:=by rw[hw1,dH]
  have ht2:=htop (rk.set (en.getD k0 0) (-1 - (i:Int))) (by simp[hrl])
  rw[← hse] at ht2
  conv=>whnf
  refine .inr (.inl ⟨7,[],?_⟩)
  conv=>whnf
  refine⟨wV (en.getD k0 0),⟨by omega,q8 hk0,rfl⟩,?_⟩
  conv=>whnf
  refine⟨by kernel_rfl,?_⟩
  conv=>whnf
  refine⟨⟨by omega,by omega⟩,?_⟩
  conv=>whnf
  refine .inl ⟨_,ht2,?_⟩
  rintro r rfl
  refine⟨rfl,?_⟩
  conv=>whnf
  refine⟨_,Weak.refl,?_⟩
  conv=>whnf
  exact⟨gO,rfl,cD rfl rfl rfl (congrArg (fun x=>some (Ob.ds 3 1 x)) hse)⟩
end Ai
namespace Ai
set_option maxRecDepth 100000
open Go Go.Proofs
def pkV:AV:=.fn 161 [.ptr (.l 20) 0,.ptr (.l 21) 0,.ptr (.l 22) 0]
structure R13p (p:ProgL) (s s1:StL) (ev:Ev) (tr:List Ev) (tk:List Int) (kk:Int) (w:Nat) (budget:Int) (pc:PctL) (rk:List Int) (L:Nat→Bool) (S:St):Prop where
 u1:S.τ 1=i64 budget
 u2:S.τ 2=pkV
 u3:S.τ 3=.ptr (.n 3) 0
 u6:S.τ 6=.ptr (.n 6) 0
 u7:S.τ 7=bv false
 u8:S.τ 8=.ptr (.n 8) 0
 u9:S.τ 9=i64 tr.length
 u10:S.τ 10=sl ((zA p s).map wV)
 u11:S.τ 11=i64 kk
 h3:S.H (.n 3)=some (.vs 31 ((encProg p).map .d))
 h6:S.H (.n 6)=some (.vs 56 [i64 0,.d .nil,.d .nil,.d .nil,.d .nil,.d .nil,i64 0])
 x20:S.H (.l 20)=some (.vs 201 [.fn 159 [.ptr (.l 22) 0]])
 x21:S.H (.l 21)=some (.vs 68 ((encPct pc).map .d))
 x22:S.H (.l 22)=some (.vs 41 [.ref (.n 980) 0 5])
 x98:S.H (.n 980)=some (.ds 3 1 (rk.map encInt))
 h13:S.H (.n 13)=some (.ds 3 1 ((tk++[kk]).map encInt))
 c0:L 0=true→S.τ 50=.ptr (.n 8) (0+1)
 c1:L 1=true→L 10=false→S.τ 51=.ref (.n 12) 0 tr.length
 c2:L 2=true→S.τ 52=.ptr (.n 8) (0+3)
 c3:L 3=true→S.τ 53=agg (encProg p)
 c4:L 4=true→S.τ 54=sl ((zA p s).map wV)
 c5:L 5=true→S.τ 55=i64 kk
 c6:L 6=true→S.τ 56=.fp (wV w)
 c7:L 7=true→S.τ 57=i64 w
 c8:L 8=true→S.τ 58=agg (encEv ev)
 c9:L 9=true→L 10=false→S.τ 59=.ref (.n 59) 0 1
 c10:L 10=true→S.τ 60=.ref (.n 12) 0 (tr.length+1)
 c11:L 11=true→S.τ 61=.ptr (.n 8) (0+1)
 e9:L 9=true→L 10=false→S.H (.n 59)=some (.ds 128 5 [encEv ev])
 d12a:L 10=false→S.H (.n 12)=some (.ds 128 5 (tr.map encEv))
 d12b:L 10=true→S.H (.n 12)=some (.ds 128 5 ((tr++[ev]).map encEv))
 d8a:L 8=false→S.H (.n 8)=some (.vs 56 ([i64 0,.ref (.n 12) 0 tr.length,.ref (.n 13) 0 (tk.length+1)]++stRef s))
 d8b:L 8=true→L 10=false→S.H (.n 8)=some (.vs 56 ([i64 0,.ref (.n 12) 0 tr.length,.ref (.n 13) 0 (tk.length+1)]++stRef s1))
 d8c:L 10=true→L 12=false→S.H (.n 8)=some (.vs 56 ([i64 0,.junk,.ref (.n 13) 0 (tk.length+1)]++stRef s1))
 d8d:L 12=true→S.H (.n 8)=some (.vs 56 ([i64 0,.ref (.n 12) 0 (tr.length+1),.ref (.n 13) 0 (tk.length+1)]++stRef s1))
 sa0:L 8=false→S.H (.n 900)=some (.rs 175 6 (thRows 900 s.ths))
 saF:L 8=false→∀ j,S.H (.s 900 j)=zE s.ths j
 sa1:L 8=false→S.H (.n 901)=some (.ds 132 1 (s.cells.map encF))
 sa2:L 8=false→S.H (.n 902)=some (.ds 3 1 (s.owner.map encInt))
 sb0:L 8=true→S.H (.n 900)=some (.rs 175 6 (thRows 900 s1.ths))
 sbF:L 8=true→∀ j,S.H (.s 900 j)=zE s1.ths j
 sb1:L 8=true→S.H (.n 901)=some (.ds 132 1 (s1.cells.map encF))
 sb2:L 8=true→S.H (.n 902)=some (.ds 3 1 (s1.owner.map encInt))
 o1:L 10=true→L 8=true
 o2:L 12=true→L 10=true
 o3:L 10=true→L 1=true
 o4:L 10=true→L 9=true
theorem op13p_0 {p:ProgL} {s s1:StL} {ev:Ev} {tr:List Ev} {tk:List Int} {kk:Int} {w:Nat} {budget:Int} {pc:PctL} {rk:List Int} (L:Nat→Bool) (S:St) (r:R13p p s s1 ev tr tk kk w budget pc rk L S) (hL:L 0=false):aDo EE Tryz.f160.ntmps ops13 (ops13[0]'(by decide)) S (R13p p s s1 ev tr tk kk w budget pc rk (fun j=>L j || j==0)):=by
 have hat:At [(8,.ptr (.n 8) 0)] [] [] S:=⟨⟨r.u8,trivial⟩,trivial,trivial⟩
 obtain⟨τ,H,rfl⟩:=hat.form
 conv=>whnf
 exact {
  u1:=r.u1
  u2:=r.u2
  u3:=r.u3
  u6:=r.u6
  u7:=r.u7
  u8:=r.u8
  u9:=r.u9
  u10:=r.u10
  u11:=r.u11
  h3:=r.h3
  h6:=r.h6
  x20:=r.x20
  x21:=r.x21
  x22:=r.x22
  x98:=r.x98
  h13:=r.h13
  c0:=fun _=>rfl
  c1:=fun g0 g1=>r.c1 (by simpa using g0) (by simpa using g1)
  c2:=fun g0=>r.c2 (by simpa using g0)
  c3:=fun g0=>r.c3 (by simpa using g0)
  c4:=fun g0=>r.c4 (by simpa using g0)
  c5:=fun g0=>r.c5 (by simpa using g0)
  c6:=fun g0=>r.c6 (by simpa using g0)
  c7:=fun g0=>r.c7 (by simpa using g0)
  c8:=fun g0=>r.c8 (by simpa using g0)
  c9:=fun g0 g1=>r.c9 (by simpa using g0) (by simpa using g1)
  c10:=fun g0=>r.c10 (by simpa using g0)
  c11:=fun g0=>r.c11 (by simpa using g0)
  e9:=fun g0 g1=>r.e9 (by simpa using g0) (by simpa using g1)
  d12a:=fun g0=>r.d12a (by simpa using g0)
  d12b:=fun g0=>r.d12b (by simpa using g0)
  d8a:=fun g0=>r.d8a (by simpa using g0)
  d8b:=fun g0 g1=>r.d8b (by simpa using g0) (by simpa using g1)
  d8c:=fun g0 g1=>r.d8c (by simpa using g0) (by simpa using g1)
  d8d:=fun g0=>r.d8d (by simpa using g0)
  sa0:=fun g0=>r.sa0 (by simpa using g0)
  saF:=fun g0=>r.saF (by simpa using g0)
  sa1:=fun g0=>r.sa1 (by simpa using g0)
  sa2:=fun g0=>r.sa2 (by simpa using g0)
  sb0:=fun g0=>r.sb0 (by simpa using g0)
  sbF:=fun g0=>r.sbF (by simpa using g0)
  sb1:=fun g0=>r.sb1 (by simpa using g0)
  sb2:=fun g0=>r.sb2 (by simpa using g0)
  o1:=fun g0=>by have:=r.o1 (by simpa using g0);simp[this]
  o2:=fun g0=>by have:=r.o2 (by simpa using g0);simp[this]
  o3:=fun g0=>by have:=r.o3 (by simpa using g0);simp[this]
  o4:=fun g0=>by have:=r.o4 (by simpa using g0);simp[this] }
theorem op13p_2 {p:ProgL} {s s1:StL} {ev:Ev} {tr:List Ev} {tk:List Int} {kk:Int} {w:Nat} {budget:Int} {pc:PctL} {rk:List Int} (L:Nat→Bool) (S:St) (r:R13p p s s1 ev tr tk kk w budget pc rk L S) (hL:L 2=false):aDo EE Tryz.f160.ntmps ops13 (ops13[2]'(by decide)) S (R13p p s s1 ev tr tk kk w budget pc rk (fun j=>L j || j==2)):=by
 have hat:At [(8,.ptr (.n 8) 0)] [] [] S:=⟨⟨r.u8,trivial⟩,trivial,trivial⟩
 obtain⟨τ,H,rfl⟩:=hat.form
 conv=>whnf
 exact {
  u1:=r.u1
  u2:=r.u2
  u3:=r.u3
  u6:=r.u6
  u7:=r.u7
  u8:=r.u8
  u9:=r.u9
  u10:=r.u10
  u11:=r.u11
  h3:=r.h3
  h6:=r.h6
  x20:=r.x20
  x21:=r.x21
  x22:=r.x22
  x98:=r.x98
  h13:=r.h13
  c0:=fun g0=>r.c0 (by simpa using g0)
  c1:=fun g0 g1=>r.c1 (by simpa using g0) (by simpa using g1)
  c2:=fun _=>rfl
  c3:=fun g0=>r.c3 (by simpa using g0)
  c4:=fun g0=>r.c4 (by simpa using g0)
  c5:=fun g0=>r.c5 (by simpa using g0)
  c6:=fun g0=>r.c6 (by simpa using g0)
  c7:=fun g0=>r.c7 (by simpa using g0)
  c8:=fun g0=>r.c8 (by simpa using g0)
  c9:=fun g0 g1=>r.c9 (by simpa using g0) (by simpa using g1)
  c10:=fun g0=>r.c10 (by simpa using g0)
  c11:=fun g0=>r.c11 (by simpa using g0)
  e9:=fun g0 g1=>r.e9 (by simpa using g0) (by simpa using g1)
  d12a:=fun g0=>r.d12a (by simpa using g0)
  d12b:=fun g0=>r.d12b (by simpa using g0)
  d8a:=fun g0=>r.d8a (by simpa using g0)
  d8b:=fun g0 g1=>r.d8b (by simpa using g0) (by simpa using g1)
  d8c:=fun g0 g1=>r.d8c (by simpa using g0) (by simpa using g1)
  d8d:=fun g0=>r.d8d (by simpa using g0)
  sa0:=fun g0=>r.sa0 (by simpa using g0)
  saF:=fun g0=>r.saF (by simpa using g0)
  sa1:=fun g0=>r.sa1 (by simpa using g0)
  sa2:=fun g0=>r.sa2 (by simpa using g0)
  sb0:=fun g0=>r.sb0 (by simpa using g0)
  sbF:=fun g0=>r.sbF (by simpa using g0)
  sb1:=fun g0=>r.sb1 (by simpa using g0)
  sb2:=fun g0=>r.sb2 (by simpa using g0)
  o1:=fun g0=>by have:=r.o1 (by simpa using g0);simp[this]
  o2:=fun g0=>by have:=r.o2 (by simpa using g0);simp[this]
  o3:=fun g0=>by have:=r.o3 (by simpa using g0);simp[this]
  o4:=fun g0=>by have:=r.o4 (by simpa using g0);simp[this] }
theorem op13p_3 {p:ProgL} {s s1:StL} {ev:Ev} {tr:List Ev} {tk:List Int} {kk:Int} {w:Nat} {budget:Int} {pc:PctL} {rk:List Int} (L:Nat→Bool) (S:St) (r:R13p p s s1 ev tr tk kk w budget pc rk L S) (hL:L 3=false):aDo EE Tryz.f160.ntmps ops13 (ops13[3]'(by decide)) S (R13p p s s1 ev tr tk kk w budget pc rk (fun j=>L j || j==3)):=by
 have hat:At [(3,.ptr (.n 3) 0)] [(.n 3,.vs 31 ((encProg p).map .d))] [] S:=⟨⟨r.u3,trivial⟩,⟨r.h3,trivial⟩,trivial⟩
 obtain⟨τ,H,rfl⟩:=hat.form
 conv=>whnf
 exact {
  u1:=r.u1
  u2:=r.u2
  u3:=r.u3
  u6:=r.u6
  u7:=r.u7
  u8:=r.u8
  u9:=r.u9
  u10:=r.u10
  u11:=r.u11
  h3:=r.h3
  h6:=r.h6
  x20:=r.x20
  x21:=r.x21
  x22:=r.x22
  x98:=r.x98
  h13:=r.h13
  c0:=fun g0=>r.c0 (by simpa using g0)
  c1:=fun g0 g1=>r.c1 (by simpa using g0) (by simpa using g1)
  c2:=fun g0=>r.c2 (by simpa using g0)
  c3:=fun _=>rfl
  c4:=fun g0=>r.c4 (by simpa using g0)
  c5:=fun g0=>r.c5 (by simpa using g0)
  c6:=fun g0=>r.c6 (by simpa using g0)
  c7:=fun g0=>r.c7 (by simpa using g0)
  c8:=fun g0=>r.c8 (by simpa using g0)
  c9:=fun g0 g1=>r.c9 (by simpa using g0) (by simpa using g1)
  c10:=fun g0=>r.c10 (by simpa using g0)
  c11:=fun g0=>r.c11 (by simpa using g0)
  e9:=fun g0 g1=>r.e9 (by simpa using g0) (by simpa using g1)
  d12a:=fun g0=>r.d12a (by simpa using g0)
  d12b:=fun g0=>r.d12b (by simpa using g0)
  d8a:=fun g0=>r.d8a (by simpa using g0)
  d8b:=fun g0 g1=>r.d8b (by simpa using g0) (by simpa using g1)
  d8c:=fun g0 g1=>r.d8c (by simpa using g0) (by simpa using g1)
  d8d:=fun g0=>r.d8d (by simpa using g0)
  sa0:=fun g0=>r.sa0 (by simpa using g0)
  saF:=fun g0=>r.saF (by simpa using g0)
  sa1:=fun g0=>r.sa1 (by simpa using g0)
  sa2:=fun g0=>r.sa2 (by simpa using g0)
  sb0:=fun g0=>r.sb0 (by simpa using g0)
  sbF:=fun g0=>r.sbF (by simpa using g0)
  sb1:=fun g0=>r.sb1 (by simpa using g0)
  sb2:=fun g0=>r.sb2 (by simpa using g0)
  o1:=fun g0=>by have:=r.o1 (by simpa using g0);simp[this]
  o2:=fun g0=>by have:=r.o2 (by simpa using g0);simp[this]
  o3:=fun g0=>by have:=r.o3 (by simpa using g0);simp[this]
  o4:=fun g0=>by have:=r.o4 (by simpa using g0);simp[this] }
theorem op13p_4 {p:ProgL} {s s1:StL} {ev:Ev} {tr:List Ev} {tk:List Int} {kk:Int} {w:Nat} {budget:Int} {pc:PctL} {rk:List Int} (L:Nat→Bool) (S:St) (r:R13p p s s1 ev tr tk kk w budget pc rk L S) (hL:L 4=false):aDo EE Tryz.f160.ntmps ops13 (ops13[4]'(by decide)) S (R13p p s s1 ev tr tk kk w budget pc rk (fun j=>L j || j==4)):=by
 have hat:At [(10,sl ((zA p s).map wV))] [] [] S:=⟨⟨r.u10,trivial⟩,trivial,trivial⟩
 obtain⟨τ,H,rfl⟩:=hat.form
 conv=>whnf
 exact {
  u1:=r.u1
  u2:=r.u2
  u3:=r.u3
  u6:=r.u6
  u7:=r.u7
  u8:=r.u8
  u9:=r.u9
  u10:=r.u10
  u11:=r.u11
  h3:=r.h3
  h6:=r.h6
  x20:=r.x20
  x21:=r.x21
  x22:=r.x22
  x98:=r.x98
  h13:=r.h13
  c0:=fun g0=>r.c0 (by simpa using g0)
  c1:=fun g0 g1=>r.c1 (by simpa using g0) (by simpa using g1)
  c2:=fun g0=>r.c2 (by simpa using g0)
  c3:=fun g0=>r.c3 (by simpa using g0)
  c4:=fun _=>rfl
  c5:=fun g0=>r.c5 (by simpa using g0)
  c6:=fun g0=>r.c6 (by simpa using g0)
  c7:=fun g0=>r.c7 (by simpa using g0)
  c8:=fun g0=>r.c8 (by simpa using g0)
  c9:=fun g0 g1=>r.c9 (by simpa using g0) (by simpa using g1)
  c10:=fun g0=>r.c10 (by simpa using g0)
  c11:=fun g0=>r.c11 (by simpa using g0)
  e9:=fun g0 g1=>r.e9 (by simpa using g0) (by simpa using g1)
  d12a:=fun g0=>r.d12a (by simpa using g0)
  d12b:=fun g0=>r.d12b (by simpa using g0)
  d8a:=fun g0=>r.d8a (by simpa using g0)
  d8b:=fun g0 g1=>r.d8b (by simpa using g0) (by simpa using g1)
  d8c:=fun g0 g1=>r.d8c (by simpa using g0) (by simpa using g1)
  d8d:=fun g0=>r.d8d (by simpa using g0)
  sa0:=fun g0=>r.sa0 (by simpa using g0)
  saF:=fun g0=>r.saF (by simpa using g0)
  sa1:=fun g0=>r.sa1 (by simpa using g0)
  sa2:=fun g0=>r.sa2 (by simpa using g0)
  sb0:=fun g0=>r.sb0 (by simpa using g0)
  sbF:=fun g0=>r.sbF (by simpa using g0)
  sb1:=fun g0=>r.sb1 (by simpa using g0)
  sb2:=fun g0=>r.sb2 (by simpa using g0)
  o1:=fun g0=>by have:=r.o1 (by simpa using g0);simp[this]
  o2:=fun g0=>by have:=r.o2 (by simpa using g0);simp[this]
  o3:=fun g0=>by have:=r.o3 (by simpa using g0);simp[this]
  o4:=fun g0=>by have:=r.o4 (by simpa using g0);simp[this] }
theorem op13p_5 {p:ProgL} {s s1:StL} {ev:Ev} {tr:List Ev} {tk:List Int} {kk:Int} {w:Nat} {budget:Int} {pc:PctL} {rk:List Int} (L:Nat→Bool) (S:St) (r:R13p p s s1 ev tr tk kk w budget pc rk L S) (hL:L 5=false):aDo EE Tryz.f160.ntmps ops13 (ops13[5]'(by decide)) S (R13p p s s1 ev tr tk kk w budget pc rk (fun j=>L j || j==5)):=by
 have hat:At [(11,i64 kk)] [] [] S:=⟨⟨r.u11,trivial⟩,trivial,trivial⟩
 obtain⟨τ,H,rfl⟩:=hat.form
 conv=>whnf
 exact {
  u1:=r.u1
  u2:=r.u2
  u3:=r.u3
  u6:=r.u6
  u7:=r.u7
  u8:=r.u8
  u9:=r.u9
  u10:=r.u10
  u11:=r.u11
  h3:=r.h3
  h6:=r.h6
  x20:=r.x20
  x21:=r.x21
  x22:=r.x22
  x98:=r.x98
  h13:=r.h13
  c0:=fun g0=>r.c0 (by simpa using g0)
  c1:=fun g0 g1=>r.c1 (by simpa using g0) (by simpa using g1)
  c2:=fun g0=>r.c2 (by simpa using g0)
  c3:=fun g0=>r.c3 (by simpa using g0)
  c4:=fun g0=>r.c4 (by simpa using g0)
  c5:=fun _=>rfl
  c6:=fun g0=>r.c6 (by simpa using g0)
  c7:=fun g0=>r.c7 (by simpa using g0)
  c8:=fun g0=>r.c8 (by simpa using g0)
  c9:=fun g0 g1=>r.c9 (by simpa using g0) (by simpa using g1)
  c10:=fun g0=>r.c10 (by simpa using g0)
  c11:=fun g0=>r.c11 (by simpa using g0)
  e9:=fun g0 g1=>r.e9 (by simpa using g0) (by simpa using g1)
  d12a:=fun g0=>r.d12a (by simpa using g0)
  d12b:=fun g0=>r.d12b (by simpa using g0)
  d8a:=fun g0=>r.d8a (by simpa using g0)
  d8b:=fun g0 g1=>r.d8b (by simpa using g0) (by simpa using g1)
  d8c:=fun g0 g1=>r.d8c (by simpa using g0) (by simpa using g1)
  d8d:=fun g0=>r.d8d (by simpa using g0)
  sa0:=fun g0=>r.sa0 (by simpa using g0)
  saF:=fun g0=>r.saF (by simpa using g0)
  sa1:=fun g0=>r.sa1 (by simpa using g0)
  sa2:=fun g0=>r.sa2 (by simpa using g0)
  sb0:=fun g0=>r.sb0 (by simpa using g0)
  sbF:=fun g0=>r.sbF (by simpa using g0)
  sb1:=fun g0=>r.sb1 (by simpa using g0)
  sb2:=fun g0=>r.sb2 (by simpa using g0)
  o1:=fun g0=>by have:=r.o1 (by simpa using g0);simp[this]
  o2:=fun g0=>by have:=r.o2 (by simpa using g0);simp[this]
  o3:=fun g0=>by have:=r.o3 (by simpa using g0);simp[this]
  o4:=fun g0=>by have:=r.o4 (by simpa using g0);simp[this] }
theorem op13p_6 {p:ProgL} {s s1:StL} {ev:Ev} {tr:List Ev} {tk:List Int} {kk:Int} {w:Nat} {budget:Int} {pc:PctL} {rk:List Int} (hk0:0≤kk) (hen:((zA p s).map wV)[kk.toNat]?=some (wV w)) (L:Nat→Bool) (S:St) (r:R13p p s s1 ev tr tk kk w budget pc rk L S) (hL:L 6=false) (k4:L 4=true) (k5:L 5=true):aDo EE Tryz.f160.ntmps ops13 (ops13[6]'(by decide)) S (R13p p s s1 ev tr tk kk w budget pc rk (fun j=>L j || j==6)):=by
 have hat:At [(54,sl ((zA p s).map wV)),(55,i64 kk)] [] [] S:=⟨⟨r.c4 k4,r.c5 k5,trivial⟩,trivial,trivial⟩
 obtain⟨τ,H,rfl⟩:=hat.form
 conv=>whnf
 refine⟨wV w,⟨hk0,hen,rfl⟩,?_⟩
 conv=>whnf
 exact {
  u1:=r.u1
  u2:=r.u2
  u3:=r.u3
  u6:=r.u6
  u7:=r.u7
  u8:=r.u8
  u9:=r.u9
  u10:=r.u10
  u11:=r.u11
  h3:=r.h3
  h6:=r.h6
  x20:=r.x20
  x21:=r.x21
  x22:=r.x22
  x98:=r.x98
  h13:=r.h13
  c0:=fun g0=>r.c0 (by simpa using g0)
  c1:=fun g0 g1=>r.c1 (by simpa using g0) (by simpa using g1)
  c2:=fun g0=>r.c2 (by simpa using g0)
  c3:=fun g0=>r.c3 (by simpa using g0)
  c4:=fun g0=>r.c4 (by simpa using g0)
  c5:=fun g0=>r.c5 (by simpa using g0)
  c6:=fun _=>rfl
  c7:=fun g0=>r.c7 (by simpa using g0)
  c8:=fun g0=>r.c8 (by simpa using g0)
  c9:=fun g0 g1=>r.c9 (by simpa using g0) (by simpa using g1)
  c10:=fun g0=>r.c10 (by simpa using g0)
  c11:=fun g0=>r.c11 (by simpa using g0)
  e9:=fun g0 g1=>r.e9 (by simpa using g0) (by simpa using g1)
  d12a:=fun g0=>r.d12a (by simpa using g0)
  d12b:=fun g0=>r.d12b (by simpa using g0)
  d8a:=fun g0=>r.d8a (by simpa using g0)
  d8b:=fun g0 g1=>r.d8b (by simpa using g0) (by simpa using g1)
  d8c:=fun g0 g1=>r.d8c (by simpa using g0) (by simpa using g1)
  d8d:=fun g0=>r.d8d (by simpa using g0)
  sa0:=fun g0=>r.sa0 (by simpa using g0)
  saF:=fun g0=>r.saF (by simpa using g0)
  sa1:=fun g0=>r.sa1 (by simpa using g0)
  sa2:=fun g0=>r.sa2 (by simpa using g0)
  sb0:=fun g0=>r.sb0 (by simpa using g0)
  sbF:=fun g0=>r.sbF (by simpa using g0)
  sb1:=fun g0=>r.sb1 (by simpa using g0)
  sb2:=fun g0=>r.sb2 (by simpa using g0)
  o1:=fun g0=>by have:=r.o1 (by simpa using g0);simp[this]
  o2:=fun g0=>by have:=r.o2 (by simpa using g0);simp[this]
  o3:=fun g0=>by have:=r.o3 (by simpa using g0);simp[this]
  o4:=fun g0=>by have:=r.o4 (by simpa using g0);simp[this] }
theorem op13p_7 {p:ProgL} {s s1:StL} {ev:Ev} {tr:List Ev} {tk:List Int} {kk:Int} {w:Nat} {budget:Int} {pc:PctL} {rk:List Int} (L:Nat→Bool) (S:St) (r:R13p p s s1 ev tr tk kk w budget pc rk L S) (hL:L 7=false) (k6:L 6=true):aDo EE Tryz.f160.ntmps ops13 (ops13[7]'(by decide)) S (R13p p s s1 ev tr tk kk w budget pc rk (fun j=>L j || j==7)):=by
 have hat:At [(56,.fp (wV w))] [] [] S:=⟨⟨r.c6 k6,trivial⟩,trivial,trivial⟩
 obtain⟨τ,H,rfl⟩:=hat.form
 conv=>whnf
 exact {
  u1:=r.u1
  u2:=r.u2
  u3:=r.u3
  u6:=r.u6
  u7:=r.u7
  u8:=r.u8
  u9:=r.u9
  u10:=r.u10
  u11:=r.u11
  h3:=r.h3
  h6:=r.h6
  x20:=r.x20
  x21:=r.x21
  x22:=r.x22
  x98:=r.x98
  h13:=r.h13
  c0:=fun g0=>r.c0 (by simpa using g0)
  c1:=fun g0 g1=>r.c1 (by simpa using g0) (by simpa using g1)
  c2:=fun g0=>r.c2 (by simpa using g0)
  c3:=fun g0=>r.c3 (by simpa using g0)
  c4:=fun g0=>r.c4 (by simpa using g0)
  c5:=fun g0=>r.c5 (by simpa using g0)
  c6:=fun g0=>r.c6 (by simpa using g0)
  c7:=fun _=>rfl
  c8:=fun g0=>r.c8 (by simpa using g0)
  c9:=fun g0 g1=>r.c9 (by simpa using g0) (by simpa using g1)
  c10:=fun g0=>r.c10 (by simpa using g0)
  c11:=fun g0=>r.c11 (by simpa using g0)
  e9:=fun g0 g1=>r.e9 (by simpa using g0) (by simpa using g1)
  d12a:=fun g0=>r.d12a (by simpa using g0)
  d12b:=fun g0=>r.d12b (by simpa using g0)
  d8a:=fun g0=>r.d8a (by simpa using g0)
  d8b:=fun g0 g1=>r.d8b (by simpa using g0) (by simpa using g1)
  d8c:=fun g0 g1=>r.d8c (by simpa using g0) (by simpa using g1)
  d8d:=fun g0=>r.d8d (by simpa using g0)
  sa0:=fun g0=>r.sa0 (by simpa using g0)
  saF:=fun g0=>r.saF (by simpa using g0)
  sa1:=fun g0=>r.sa1 (by simpa using g0)
  sa2:=fun g0=>r.sa2 (by simpa using g0)
  sb0:=fun g0=>r.sb0 (by simpa using g0)
  sbF:=fun g0=>r.sbF (by simpa using g0)
  sb1:=fun g0=>r.sb1 (by simpa using g0)
  sb2:=fun g0=>r.sb2 (by simpa using g0)
  o1:=fun g0=>by have:=r.o1 (by simpa using g0);simp[this]
  o2:=fun g0=>by have:=r.o2 (by simpa using g0);simp[this]
  o3:=fun g0=>by have:=r.o3 (by simpa using g0);simp[this]
  o4:=fun g0=>by have:=r.o4 (by simpa using g0);simp[this] }
theorem op13p_11 {p:ProgL} {s s1:StL} {ev:Ev} {tr:List Ev} {tk:List Int} {kk:Int} {w:Nat} {budget:Int} {pc:PctL} {rk:List Int} (L:Nat→Bool) (S:St) (r:R13p p s s1 ev tr tk kk w budget pc rk L S) (hL:L 11=false):aDo EE Tryz.f160.ntmps ops13 (ops13[11]'(by decide)) S (R13p p s s1 ev tr tk kk w budget pc rk (fun j=>L j || j==11)):=by
 have hat:At [(8,.ptr (.n 8) 0)] [] [] S:=⟨⟨r.u8,trivial⟩,trivial,trivial⟩
 obtain⟨τ,H,rfl⟩:=hat.form
 conv=>whnf
 exact {
  u1:=r.u1
  u2:=r.u2
  u3:=r.u3
  u6:=r.u6
  u7:=r.u7
  u8:=r.u8
  u9:=r.u9
  u10:=r.u10
  u11:=r.u11
  h3:=r.h3
  h6:=r.h6
  x20:=r.x20
  x21:=r.x21
  x22:=r.x22
  x98:=r.x98
  h13:=r.h13
  c0:=fun g0=>r.c0 (by simpa using g0)
  c1:=fun g0 g1=>r.c1 (by simpa using g0) (by simpa using g1)
  c2:=fun g0=>r.c2 (by simpa using g0)
  c3:=fun g0=>r.c3 (by simpa using g0)
  c4:=fun g0=>r.c4 (by simpa using g0)
  c5:=fun g0=>r.c5 (by simpa using g0)
  c6:=fun g0=>r.c6 (by simpa using g0)
  c7:=fun g0=>r.c7 (by simpa using g0)
  c8:=fun g0=>r.c8 (by simpa using g0)
  c9:=fun g0 g1=>r.c9 (by simpa using g0) (by simpa using g1)
  c10:=fun g0=>r.c10 (by simpa using g0)
  c11:=fun _=>rfl
  e9:=fun g0 g1=>r.e9 (by simpa using g0) (by simpa using g1)
  d12a:=fun g0=>r.d12a (by simpa using g0)
  d12b:=fun g0=>r.d12b (by simpa using g0)
  d8a:=fun g0=>r.d8a (by simpa using g0)
  d8b:=fun g0 g1=>r.d8b (by simpa using g0) (by simpa using g1)
  d8c:=fun g0 g1=>r.d8c (by simpa using g0) (by simpa using g1)
  d8d:=fun g0=>r.d8d (by simpa using g0)
  sa0:=fun g0=>r.sa0 (by simpa using g0)
  saF:=fun g0=>r.saF (by simpa using g0)
  sa1:=fun g0=>r.sa1 (by simpa using g0)
  sa2:=fun g0=>r.sa2 (by simpa using g0)
  sb0:=fun g0=>r.sb0 (by simpa using g0)
  sbF:=fun g0=>r.sbF (by simpa using g0)
  sb1:=fun g0=>r.sb1 (by simpa using g0)
  sb2:=fun g0=>r.sb2 (by simpa using g0)
  o1:=fun g0=>by have:=r.o1 (by simpa using g0);simp[this]
  o2:=fun g0=>by have:=r.o2 (by simpa using g0);simp[this]
  o3:=fun g0=>by have:=r.o3 (by simpa using g0);simp[this]
  o4:=fun g0=>by have:=r.o4 (by simpa using g0);simp[this] }
theorem op13p_1 {p:ProgL} {s s1:StL} {ev:Ev} {tr:List Ev} {tk:List Int} {kk:Int} {w:Nat} {budget:Int} {pc:PctL} {rk:List Int} (L:Nat→Bool) (S:St) (r:R13p p s s1 ev tr tk kk w budget pc rk L S) (hL:L 1=false) (k0:L 0=true):aDo EE Tryz.f160.ntmps ops13 (ops13[1]'(by decide)) S (R13p p s s1 ev tr tk kk w budget pc rk (fun j=>L j || j==1)):=by
 have n10:L 10=false:=by
  cases h:L 10 with
  |false=>rfl
  |true=>exact absurd (r.o3 h) (by rw[hL];decide)
 obtain⟨st,hst⟩:∃ st,S.H (.n 8)=some (.vs 56 ([i64 0,.ref (.n 12) 0 tr.length,.ref (.n 13) 0 (tk.length+1)]++stRef st)):=by
  cases h8:L 8 with
  |false=>exact⟨_,r.d8a h8⟩
  |true=>exact⟨_,r.d8b h8 n10⟩
 have hat:At [(50,.ptr (.n 8) (0+1))] [(.n 8,.vs 56 ([i64 0,.ref (.n 12) 0 tr.length,.ref (.n 13) 0 (tk.length+1)]++stRef st))] [] S:=⟨⟨r.c0 k0,trivial⟩,⟨hst,trivial⟩,trivial⟩
 obtain⟨τ,H,rfl⟩:=hat.form
 conv=>whnf
 exact {
  u1:=r.u1
  u2:=r.u2
  u3:=r.u3
  u6:=r.u6
  u7:=r.u7
  u8:=r.u8
  u9:=r.u9
  u10:=r.u10
  u11:=r.u11
  h3:=r.h3
  h6:=r.h6
  x20:=r.x20
  x21:=r.x21
  x22:=r.x22
  x98:=r.x98
  h13:=r.h13
  c0:=fun g0=>r.c0 (by simpa using g0)
  c1:=fun _ _=>rfl
  c2:=fun g0=>r.c2 (by simpa using g0)
  c3:=fun g0=>r.c3 (by simpa using g0)
  c4:=fun g0=>r.c4 (by simpa using g0)
  c5:=fun g0=>r.c5 (by simpa using g0)
  c6:=fun g0=>r.c6 (by simpa using g0)
  c7:=fun g0=>r.c7 (by simpa using g0)
  c8:=fun g0=>r.c8 (by simpa using g0)
  c9:=fun g0 g1=>r.c9 (by simpa using g0) (by simpa using g1)
  c10:=fun g0=>r.c10 (by simpa using g0)
  c11:=fun g0=>r.c11 (by simpa using g0)
  e9:=fun g0 g1=>r.e9 (by simpa using g0) (by simpa using g1)
  d12a:=fun g0=>r.d12a (by simpa using g0)
  d12b:=fun g0=>r.d12b (by simpa using g0)
  d8a:=fun g0=>r.d8a (by simpa using g0)
  d8b:=fun g0 g1=>r.d8b (by simpa using g0) (by simpa using g1)
  d8c:=fun g0 g1=>r.d8c (by simpa using g0) (by simpa using g1)
  d8d:=fun g0=>r.d8d (by simpa using g0)
  sa0:=fun g0=>r.sa0 (by simpa using g0)
  saF:=fun g0=>r.saF (by simpa using g0)
  sa1:=fun g0=>r.sa1 (by simpa using g0)
  sa2:=fun g0=>r.sa2 (by simpa using g0)
  sb0:=fun g0=>r.sb0 (by simpa using g0)
  sbF:=fun g0=>r.sbF (by simpa using g0)
  sb1:=fun g0=>r.sb1 (by simpa using g0)
  sb2:=fun g0=>r.sb2 (by simpa using g0)
  o1:=fun g0=>by have:=r.o1 (by simpa using g0);simp[this]
  o2:=fun g0=>by have:=r.o2 (by simpa using g0);simp[this]
  o3:=fun g0=>by have:=r.o3 (by simpa using g0);simp[this]
  o4:=fun g0=>by have:=r.o4 (by simpa using g0);simp[this] }
theorem op13p_9 {p:ProgL} {s s1:StL} {ev:Ev} {tr:List Ev} {tk:List Int} {kk:Int} {w:Nat} {budget:Int} {pc:PctL} {rk:List Int} (L:Nat→Bool) (S:St) (r:R13p p s s1 ev tr tk kk w budget pc rk L S) (hL:L 9=false) (k8:L 8=true):aDo EE Tryz.f160.ntmps ops13 (ops13[9]'(by decide)) S (R13p p s s1 ev tr tk kk w budget pc rk (fun j=>L j || j==9)):=by
 have hat:At [(58,agg (encEv ev))] [] [] S:=⟨⟨r.c8 k8,trivial⟩,trivial,trivial⟩
 obtain⟨τ,H,rfl⟩:=hat.form
 conv=>whnf
 exact {
  u1:=(congrArg (scrP (isK (.n 59))) (r.u1)).trans rfl
  u2:=(congrArg (scrP (isK (.n 59))) (r.u2)).trans rfl
  u3:=(congrArg (scrP (isK (.n 59))) (r.u3)).trans rfl
  u6:=(congrArg (scrP (isK (.n 59))) (r.u6)).trans rfl
  u7:=(congrArg (scrP (isK (.n 59))) (r.u7)).trans rfl
  u8:=(congrArg (scrP (isK (.n 59))) (r.u8)).trans rfl
  u9:=(congrArg (scrP (isK (.n 59))) (r.u9)).trans rfl
  u10:=(congrArg (scrP (isK (.n 59))) (r.u10)).trans rfl
  u11:=(congrArg (scrP (isK (.n 59))) (r.u11)).trans rfl
  h3:=(congrArg (Option.map (scrPO (isK (.n 59)))) (r.h3)).trans rfl
  h6:=(congrArg (Option.map (scrPO (isK (.n 59)))) (r.h6)).trans rfl
  x20:=(congrArg (Option.map (scrPO (isK (.n 59)))) (r.x20)).trans rfl
  x21:=(congrArg (Option.map (scrPO (isK (.n 59)))) (r.x21)).trans rfl
  x22:=(congrArg (Option.map (scrPO (isK (.n 59)))) (r.x22)).trans rfl
  x98:=(congrArg (Option.map (scrPO (isK (.n 59)))) (r.x98)).trans rfl
  h13:=(congrArg (Option.map (scrPO (isK (.n 59)))) (r.h13)).trans rfl
  c0:=fun g0=>(congrArg (scrP (isK (.n 59))) (r.c0 (by simpa using g0))).trans rfl
  c1:=fun g0 g1=>(congrArg (scrP (isK (.n 59))) (r.c1 (by simpa using g0) (by simpa using g1))).trans rfl
  c2:=fun g0=>(congrArg (scrP (isK (.n 59))) (r.c2 (by simpa using g0))).trans rfl
  c3:=fun g0=>(congrArg (scrP (isK (.n 59))) (r.c3 (by simpa using g0))).trans rfl
  c4:=fun g0=>(congrArg (scrP (isK (.n 59))) (r.c4 (by simpa using g0))).trans rfl
  c5:=fun g0=>(congrArg (scrP (isK (.n 59))) (r.c5 (by simpa using g0))).trans rfl
  c6:=fun g0=>(congrArg (scrP (isK (.n 59))) (r.c6 (by simpa using g0))).trans rfl
  c7:=fun g0=>(congrArg (scrP (isK (.n 59))) (r.c7 (by simpa using g0))).trans rfl
  c8:=fun g0=>(congrArg (scrP (isK (.n 59))) (r.c8 (by simpa using g0))).trans rfl
  c9:=fun _ _=>rfl
  c10:=fun g0=>(congrArg (scrP (isK (.n 59))) (r.c10 (by simpa using g0))).trans rfl
  c11:=fun g0=>(congrArg (scrP (isK (.n 59))) (r.c11 (by simpa using g0))).trans rfl
  e9:=fun _ _=>rfl
  d12a:=fun g0=>(congrArg (Option.map (scrPO (isK (.n 59)))) (r.d12a (by simpa using g0))).trans rfl
  d12b:=fun g0=>(congrArg (Option.map (scrPO (isK (.n 59)))) (r.d12b (by simpa using g0))).trans rfl
  d8a:=fun g0=>(congrArg (Option.map (scrPO (isK (.n 59)))) (r.d8a (by simpa using g0))).trans rfl
  d8b:=fun g0 g1=>(congrArg (Option.map (scrPO (isK (.n 59)))) (r.d8b (by simpa using g0) (by simpa using g1))).trans rfl
  d8c:=fun g0 g1=>(congrArg (Option.map (scrPO (isK (.n 59)))) (r.d8c (by simpa using g0) (by simpa using g1))).trans rfl
  d8d:=fun g0=>(congrArg (Option.map (scrPO (isK (.n 59)))) (r.d8d (by simpa using g0))).trans rfl
  sa0:=fun g0=>(congrArg (Option.map (scrPO (isK (.n 59)))) (r.sa0 (by simpa using g0))).trans (congrArg (fun x=>some (Ob.rs 175 6 x)) (zZ fun _ _=>rfl))
  saF:=fun g0=>fun j=>(congrArg (Option.map (scrPO (isK (.n 59)))) (r.saF (by simpa using g0) j)).trans (zQ _ _ _)
  sa1:=fun g0=>(congrArg (Option.map (scrPO (isK (.n 59)))) (r.sa1 (by simpa using g0))).trans rfl
  sa2:=fun g0=>(congrArg (Option.map (scrPO (isK (.n 59)))) (r.sa2 (by simpa using g0))).trans rfl
  sb0:=fun g0=>(congrArg (Option.map (scrPO (isK (.n 59)))) (r.sb0 (by simpa using g0))).trans (congrArg (fun x=>some (Ob.rs 175 6 x)) (zZ fun _ _=>rfl))
  sbF:=fun g0=>fun j=>(congrArg (Option.map (scrPO (isK (.n 59)))) (r.sbF (by simpa using g0) j)).trans (zQ _ _ _)
  sb1:=fun g0=>(congrArg (Option.map (scrPO (isK (.n 59)))) (r.sb1 (by simpa using g0))).trans rfl
  sb2:=fun g0=>(congrArg (Option.map (scrPO (isK (.n 59)))) (r.sb2 (by simpa using g0))).trans rfl
  o1:=fun g0=>by have:=r.o1 (by simpa using g0);simp[this]
  o2:=fun g0=>by have:=r.o2 (by simpa using g0);simp[this]
  o3:=fun g0=>by have:=r.o3 (by simpa using g0);simp[this]
  o4:=fun g0=>by have:=r.o4 (by simpa using g0);simp[this] }
theorem op13p_10 {p:ProgL} {s s1:StL} {ev:Ev} {tr:List Ev} {tk:List Int} {kk:Int} {w:Nat} {budget:Int} {pc:PctL} {rk:List Int} (htr:tr.length≤1048576) (L:Nat→Bool) (S:St) (r:R13p p s s1 ev tr tk kk w budget pc rk L S) (hL:L 10=false) (k1:L 1=true) (k8:L 8=true) (k9:L 9=true):aDo EE Tryz.f160.ntmps ops13 (ops13[10]'(by decide)) S (R13p p s s1 ev tr tk kk w budget pc rk (fun j=>L j || j==10)):=by
 have hat:At [(51,.ref (.n 12) 0 tr.length),(59,.ref (.n 59) 0 1)] [(.n 12,.ds 128 5 (tr.map encEv)),(.n 59,.ds 128 5 [encEv ev])] [] S:=⟨⟨r.c1 k1 hL,r.c9 k9 hL,trivial⟩,⟨r.d12a hL,r.e9 k9 hL,trivial⟩,trivial⟩
 obtain⟨τ,H,rfl⟩:=hat.form
 conv=>whnf
 refine⟨⟨rfl,by show(tr.length+1)*40≤_;omega,by show tr.length+1≤_;omega⟩,?_⟩
 conv=>whnf
 exact {
  u1:=(congrArg (scrP (isK (.n 12))) (r.u1)).trans rfl
  u2:=(congrArg (scrP (isK (.n 12))) (r.u2)).trans rfl
  u3:=(congrArg (scrP (isK (.n 12))) (r.u3)).trans rfl
  u6:=(congrArg (scrP (isK (.n 12))) (r.u6)).trans rfl
  u7:=(congrArg (scrP (isK (.n 12))) (r.u7)).trans rfl
  u8:=(congrArg (scrP (isK (.n 12))) (r.u8)).trans rfl
  u9:=(congrArg (scrP (isK (.n 12))) (r.u9)).trans rfl
  u10:=(congrArg (scrP (isK (.n 12))) (r.u10)).trans rfl
  u11:=(congrArg (scrP (isK (.n 12))) (r.u11)).trans rfl
  h3:=(congrArg (Option.map (scrPO (isK (.n 12)))) (r.h3)).trans rfl
  h6:=(congrArg (Option.map (scrPO (isK (.n 12)))) (r.h6)).trans rfl
  x20:=(congrArg (Option.map (scrPO (isK (.n 12)))) (r.x20)).trans rfl
  x21:=(congrArg (Option.map (scrPO (isK (.n 12)))) (r.x21)).trans rfl
  x22:=(congrArg (Option.map (scrPO (isK (.n 12)))) (r.x22)).trans rfl
  x98:=(congrArg (Option.map (scrPO (isK (.n 12)))) (r.x98)).trans rfl
  h13:=(congrArg (Option.map (scrPO (isK (.n 12)))) (r.h13)).trans rfl
  c0:=fun g0=>(congrArg (scrP (isK (.n 12))) (r.c0 (by simpa using g0))).trans rfl
  c1:=fun g0 g1=>absurd g1 (by simp)
  c2:=fun g0=>(congrArg (scrP (isK (.n 12))) (r.c2 (by simpa using g0))).trans rfl
  c3:=fun g0=>(congrArg (scrP (isK (.n 12))) (r.c3 (by simpa using g0))).trans rfl
  c4:=fun g0=>(congrArg (scrP (isK (.n 12))) (r.c4 (by simpa using g0))).trans rfl
  c5:=fun g0=>(congrArg (scrP (isK (.n 12))) (r.c5 (by simpa using g0))).trans rfl
  c6:=fun g0=>(congrArg (scrP (isK (.n 12))) (r.c6 (by simpa using g0))).trans rfl
  c7:=fun g0=>(congrArg (scrP (isK (.n 12))) (r.c7 (by simpa using g0))).trans rfl
  c8:=fun g0=>(congrArg (scrP (isK (.n 12))) (r.c8 (by simpa using g0))).trans rfl
  c9:=fun g0 g1=>absurd g1 (by simp)
  c10:=fun _=>rfl
  c11:=fun g0=>(congrArg (scrP (isK (.n 12))) (r.c11 (by simpa using g0))).trans rfl
  e9:=fun g0 g1=>absurd g1 (by simp)
  d12a:=fun g0=>absurd g0 (by simp)
  d12b:=fun _=>by
   show some (Ob.ds 128 5 ((tr.map encEv).take tr.length++[encEv ev]))=_
   rw[List.take_of_length_le (by simp)]
   simp
  d8a:=fun g0=>absurd g0 (by simp[k8])
  d8b:=fun g0 g1=>absurd g1 (by simp)
  d8c:=fun _ _=>(congrArg (Option.map (scrPO (isK (.n 12)))) (r.d8b k8 hL)).trans rfl
  d8d:=fun g0=>absurd (r.o2 (by simpa using g0)) (by rw[hL];decide)
  sa0:=fun g0=>(congrArg (Option.map (scrPO (isK (.n 12)))) (r.sa0 (by simpa using g0))).trans (congrArg (fun x=>some (Ob.rs 175 6 x)) (zZ fun _ _=>rfl))
  saF:=fun g0=>fun j=>(congrArg (Option.map (scrPO (isK (.n 12)))) (r.saF (by simpa using g0) j)).trans (zQ _ _ _)
  sa1:=fun g0=>(congrArg (Option.map (scrPO (isK (.n 12)))) (r.sa1 (by simpa using g0))).trans rfl
  sa2:=fun g0=>(congrArg (Option.map (scrPO (isK (.n 12)))) (r.sa2 (by simpa using g0))).trans rfl
  sb0:=fun g0=>(congrArg (Option.map (scrPO (isK (.n 12)))) (r.sb0 (by simpa using g0))).trans (congrArg (fun x=>some (Ob.rs 175 6 x)) (zZ fun _ _=>rfl))
  sbF:=fun g0=>fun j=>(congrArg (Option.map (scrPO (isK (.n 12)))) (r.sbF (by simpa using g0) j)).trans (zQ _ _ _)
  sb1:=fun g0=>(congrArg (Option.map (scrPO (isK (.n 12)))) (r.sb1 (by simpa using g0))).trans rfl
  sb2:=fun g0=>(congrArg (Option.map (scrPO (isK (.n 12)))) (r.sb2 (by simpa using g0))).trans rfl
  o1:=fun _=>by simp[k8]
  o2:=fun g0=>by have:=r.o2 (by simpa using g0);simp[this]
  o3:=fun _=>by simp[k1]
  o4:=fun _=>by simp[k9] }
theorem op13p_12 {p:ProgL} {s s1:StL} {ev:Ev} {tr:List Ev} {tk:List Int} {kk:Int} {w:Nat} {budget:Int} {pc:PctL} {rk:List Int} (L:Nat→Bool) (S:St) (r:R13p p s s1 ev tr tk kk w budget pc rk L S) (hL:L 12=false) (k10:L 10=true) (k11:L 11=true):aDo EE Tryz.f160.ntmps ops13 (ops13[12]'(by decide)) S (R13p p s s1 ev tr tk kk w budget pc rk (fun j=>L j || j==12)):=by
 have hat:At [(61,.ptr (.n 8) (0+1)),(60,.ref (.n 12) 0 (tr.length+1))] [(.n 8,.vs 56 ([i64 0,.junk,.ref (.n 13) 0 (tk.length+1)]++stRef s1))] [] S:=⟨⟨r.c11 k11,r.c10 k10,trivial⟩,⟨r.d8c k10 hL,trivial⟩,trivial⟩
 obtain⟨τ,H,rfl⟩:=hat.form
 conv=>whnf
 exact {
  u1:=r.u1
  u2:=r.u2
  u3:=r.u3
  u6:=r.u6
  u7:=r.u7
  u8:=r.u8
  u9:=r.u9
  u10:=r.u10
  u11:=r.u11
  h3:=r.h3
  h6:=r.h6
  x20:=r.x20
  x21:=r.x21
  x22:=r.x22
  x98:=r.x98
  h13:=r.h13
  c0:=fun g0=>r.c0 (by simpa using g0)
  c1:=fun g0 g1=>r.c1 (by simpa using g0) (by simpa using g1)
  c2:=fun g0=>r.c2 (by simpa using g0)
  c3:=fun g0=>r.c3 (by simpa using g0)
  c4:=fun g0=>r.c4 (by simpa using g0)
  c5:=fun g0=>r.c5 (by simpa using g0)
  c6:=fun g0=>r.c6 (by simpa using g0)
  c7:=fun g0=>r.c7 (by simpa using g0)
  c8:=fun g0=>r.c8 (by simpa using g0)
  c9:=fun g0 g1=>r.c9 (by simpa using g0) (by simpa using g1)
  c10:=fun g0=>r.c10 (by simpa using g0)
  c11:=fun g0=>r.c11 (by simpa using g0)
  e9:=fun g0 g1=>r.e9 (by simpa using g0) (by simpa using g1)
  d12a:=fun g0=>r.d12a (by simpa using g0)
  d12b:=fun g0=>r.d12b (by simpa using g0)
  d8a:=fun g0=>absurd g0 (by simp[r.o1 k10])
  d8b:=fun _ g1=>absurd g1 (by simp[k10])
  d8c:=fun g0 g1=>absurd g1 (by simp)
  d8d:=fun _=>rfl
  sa0:=fun g0=>r.sa0 (by simpa using g0)
  saF:=fun g0=>r.saF (by simpa using g0)
  sa1:=fun g0=>r.sa1 (by simpa using g0)
  sa2:=fun g0=>r.sa2 (by simpa using g0)
  sb0:=fun g0=>r.sb0 (by simpa using g0)
  sbF:=fun g0=>r.sbF (by simpa using g0)
  sb1:=fun g0=>r.sb1 (by simpa using g0)
  sb2:=fun g0=>r.sb2 (by simpa using g0)
  o1:=fun g0=>by have:=r.o1 (by simpa using g0);simp[this]
  o2:=fun _=>by simp[k10]
  o3:=fun g0=>by have:=r.o3 (by simpa using g0);simp[this]
  o4:=fun g0=>by have:=r.o4 (by simpa using g0);simp[this] }
theorem op13p_8 {p:ProgL} {s s1:StL} {ev:Ev} {tr:List Ev} {tk:List Int} {kk:Int} {w:Nat} {budget:Int} {pc:PctL} {rk:List Int} (hst:∀ (v0 v1:Value) (H0:Key→Option Ob),AtC 56 [i64 0,.lit v0,.lit v1] s H0→IOCall EE 92 [.ptr (.l 0) 3,agg (encProg p),i64 w] H0 (fun r H1=>r=agg (encEv ev)∧H1=stHC 56 [i64 0,.lit v0,.lit v1] s1)) (L:Nat→Bool) (S:St) (r:R13p p s s1 ev tr tk kk w budget pc rk L S) (hL:L 8=false) (k2:L 2=true) (k3:L 3=true) (k7:L 7=true):aDo EE Tryz.f160.ntmps ops13 (ops13[8]'(by decide)) S (R13p p s s1 ev tr tk kk w budget pc rk (fun j=>L j || j==8)):=by
 have n10:L 10=false:=by
  cases h:L 10 with
  |false=>rfl
  |true=>exact absurd (r.o1 h) (by rw[hL];decide)
 have hat:At [(52,.ptr (.n 8) (0+3)),(53,agg (encProg p)),(57,i64 w)] [(.n 8,.vs 56 ([i64 0,.ref (.n 12) 0 tr.length,.ref (.n 13) 0 (tk.length+1)]++stRef s)),(.n 900,.rs 175 6 (thRows 900 s.ths)),(.n 901,.ds 132 1 (s.cells.map encF)),(.n 902,.ds 3 1 (s.owner.map encInt))] [(900,zE s.ths)] S:=⟨⟨r.c2 k2,r.c3 k3,r.c7 k7,trivial⟩,⟨r.d8a hL,r.sa0 hL,r.sa1 hL,r.sa2 hL,trivial⟩,⟨r.saF hL,trivial⟩⟩
 obtain⟨τ,H,rfl⟩:=hat.form
 conv=>whnf
 refine .inr (.inr (.inr (.inl ⟨_,92,[],8,0,xT,56,[i64 0,.ref (.n 12) 0 tr.length,.ref (.n 13) 0 (tk.length+1)]++stRef s,[.ref (.n 12) 0 tr.length,.ref (.n 13) 0 (tk.length+1)],fun lam=>[i64 0,.lit (lam 0),.lit (lam 1)]++stRef s,fun lam r H1=>r=agg (encEv ev)∧H1=stHC 56 [i64 0,.lit (lam 0),.lit (lam 1)] s1,Weak.refl,rfl,⟨rfl,rfl,rfl⟩,?_,fun lam=>litC13 _ _ _ _ rfl lam,fun lam=>hst (lam 0) (lam 1) _ ⟨rfl,rfl,?_,fun j=>?_,rfl,rfl⟩,?_⟩)))
 ·intro c hc
  simp only[List.mem_cons,List.not_mem_nil,or_false] at hc
  rcases hc with rfl|rfl
  ·exact⟨rfl,by simp⟩
  ·exact⟨rfl,by simp⟩
 ·show some (Ob.rs 175 6 (((thRows 900 s.ths).map (renL (swp (.n 8) (.l 0)))).map (scrPL fun o=>!xT o)))=_
  rw[jA]
  exact congrArg (fun x=>some (Ob.rs 175 6 x)) (zZ fun _ _=>rfl)
 ·show((zE s.ths j).map (renO _)).map (scrPO _)=_
  rw[thFam_ren,zQ]
 rintro lam rr H1 ⟨rfl,rfl⟩
 refine⟨stHC_none,?_,[i64 0,.lit (lam 0),.lit (lam 1)]++stRef s1,[i64 0,.ref (.n 12) 0 tr.length,.ref (.n 13) 0 (tk.length+1)]++stRef s1,rfl,litB13 _ _ _ _,?_⟩
 ·intro n hn
  have:n=0:=by simpa[xT] using hn
  subst this
  exact⟨56,_,_,rfl,rfl⟩
 exact {
  u1:=(congrArg (fun x=>ren (swp (.n 8) (.l 0)) (scrP (xG xT) (ren (swp (.n 8) (.l 0)) x))) (r.u1)).trans rfl
  u2:=(congrArg (fun x=>ren (swp (.n 8) (.l 0)) (scrP (xG xT) (ren (swp (.n 8) (.l 0)) x))) (r.u2)).trans rfl
  u3:=(congrArg (fun x=>ren (swp (.n 8) (.l 0)) (scrP (xG xT) (ren (swp (.n 8) (.l 0)) x))) (r.u3)).trans rfl
  u6:=(congrArg (fun x=>ren (swp (.n 8) (.l 0)) (scrP (xG xT) (ren (swp (.n 8) (.l 0)) x))) (r.u6)).trans rfl
  u7:=(congrArg (fun x=>ren (swp (.n 8) (.l 0)) (scrP (xG xT) (ren (swp (.n 8) (.l 0)) x))) (r.u7)).trans rfl
  u8:=(congrArg (fun x=>ren (swp (.n 8) (.l 0)) (scrP (xG xT) (ren (swp (.n 8) (.l 0)) x))) (r.u8)).trans rfl
  u9:=(congrArg (fun x=>ren (swp (.n 8) (.l 0)) (scrP (xG xT) (ren (swp (.n 8) (.l 0)) x))) (r.u9)).trans rfl
  u10:=(congrArg (fun x=>ren (swp (.n 8) (.l 0)) (scrP (xG xT) (ren (swp (.n 8) (.l 0)) x))) (r.u10)).trans rfl
  u11:=(congrArg (fun x=>ren (swp (.n 8) (.l 0)) (scrP (xG xT) (ren (swp (.n 8) (.l 0)) x))) (r.u11)).trans rfl
  h3:=(congrArg (fun x=>(((x.map (renO (swp (.n 8) (.l 0)))).map (scrPO (xG xT))).map (renO (swp (.n 8) (.l 0))))) (r.h3)).trans rfl
  h6:=(congrArg (fun x=>(((x.map (renO (swp (.n 8) (.l 0)))).map (scrPO (xG xT))).map (renO (swp (.n 8) (.l 0))))) (r.h6)).trans rfl
  x20:=(congrArg (fun x=>(((x.map (renO (swp (.n 8) (.l 0)))).map (scrPO (xG xT))).map (renO (swp (.n 8) (.l 0))))) (r.x20)).trans rfl
  x21:=(congrArg (fun x=>(((x.map (renO (swp (.n 8) (.l 0)))).map (scrPO (xG xT))).map (renO (swp (.n 8) (.l 0))))) (r.x21)).trans rfl
  x22:=(congrArg (fun x=>(((x.map (renO (swp (.n 8) (.l 0)))).map (scrPO (xG xT))).map (renO (swp (.n 8) (.l 0))))) (r.x22)).trans rfl
  x98:=(congrArg (fun x=>(((x.map (renO (swp (.n 8) (.l 0)))).map (scrPO (xG xT))).map (renO (swp (.n 8) (.l 0))))) (r.x98)).trans rfl
  h13:=(congrArg (fun x=>(((x.map (renO (swp (.n 8) (.l 0)))).map (scrPO (xG xT))).map (renO (swp (.n 8) (.l 0))))) (r.h13)).trans rfl
  c0:=fun g0=>(congrArg (fun x=>ren (swp (.n 8) (.l 0)) (scrP (xG xT) (ren (swp (.n 8) (.l 0)) x))) (r.c0 (by simpa using g0))).trans rfl
  c1:=fun g0 g1=>(congrArg (fun x=>ren (swp (.n 8) (.l 0)) (scrP (xG xT) (ren (swp (.n 8) (.l 0)) x))) (r.c1 (by simpa using g0) (by simpa using g1))).trans rfl
  c2:=fun g0=>(congrArg (fun x=>ren (swp (.n 8) (.l 0)) (scrP (xG xT) (ren (swp (.n 8) (.l 0)) x))) (r.c2 (by simpa using g0))).trans rfl
  c3:=fun g0=>(congrArg (fun x=>ren (swp (.n 8) (.l 0)) (scrP (xG xT) (ren (swp (.n 8) (.l 0)) x))) (r.c3 (by simpa using g0))).trans rfl
  c4:=fun g0=>(congrArg (fun x=>ren (swp (.n 8) (.l 0)) (scrP (xG xT) (ren (swp (.n 8) (.l 0)) x))) (r.c4 (by simpa using g0))).trans rfl
  c5:=fun g0=>(congrArg (fun x=>ren (swp (.n 8) (.l 0)) (scrP (xG xT) (ren (swp (.n 8) (.l 0)) x))) (r.c5 (by simpa using g0))).trans rfl
  c6:=fun g0=>(congrArg (fun x=>ren (swp (.n 8) (.l 0)) (scrP (xG xT) (ren (swp (.n 8) (.l 0)) x))) (r.c6 (by simpa using g0))).trans rfl
  c7:=fun g0=>(congrArg (fun x=>ren (swp (.n 8) (.l 0)) (scrP (xG xT) (ren (swp (.n 8) (.l 0)) x))) (r.c7 (by simpa using g0))).trans rfl
  c8:=fun _=>j6 _ _
  c9:=fun g0 g1=>(congrArg (fun x=>ren (swp (.n 8) (.l 0)) (scrP (xG xT) (ren (swp (.n 8) (.l 0)) x))) (r.c9 (by simpa using g0) (by simpa using g1))).trans rfl
  c10:=fun g0=>(congrArg (fun x=>ren (swp (.n 8) (.l 0)) (scrP (xG xT) (ren (swp (.n 8) (.l 0)) x))) (r.c10 (by simpa using g0))).trans rfl
  c11:=fun g0=>(congrArg (fun x=>ren (swp (.n 8) (.l 0)) (scrP (xG xT) (ren (swp (.n 8) (.l 0)) x))) (r.c11 (by simpa using g0))).trans rfl
  e9:=fun g0 g1=>(congrArg (fun x=>(((x.map (renO (swp (.n 8) (.l 0)))).map (scrPO (xG xT))).map (renO (swp (.n 8) (.l 0))))) (r.e9 (by simpa using g0) (by simpa using g1))).trans rfl
  d12a:=fun g0=>(congrArg (fun x=>(((x.map (renO (swp (.n 8) (.l 0)))).map (scrPO (xG xT))).map (renO (swp (.n 8) (.l 0))))) (r.d12a (by simpa using g0))).trans rfl
  d12b:=fun g0=>(congrArg (fun x=>(((x.map (renO (swp (.n 8) (.l 0)))).map (scrPO (xG xT))).map (renO (swp (.n 8) (.l 0))))) (r.d12b (by simpa using g0))).trans rfl
  d8a:=fun g0=>absurd g0 (by simp)
  d8b:=fun _ _=>rfl
  d8c:=fun g0=>absurd g0 (by simp[n10])
  d8d:=fun g0=>absurd (r.o2 (by simpa using g0)) (by rw[n10];decide)
  sa0:=fun g0=>absurd g0 (by simp)
  saF:=fun g0=>absurd g0 (by simp)
  sa1:=fun g0=>absurd g0 (by simp)
  sa2:=fun g0=>absurd g0 (by simp)
  sb0:=fun _=>congrArg (fun x=>some (Ob.rs 175 6 x)) (jA 8 0 900 s1.ths)
  sbF:=fun _ j=>thFam_ren _ _ _
  sb1:=fun _=>rfl
  sb2:=fun _=>rfl
  o1:=fun _=>by simp
  o2:=fun g0=>by have:=r.o2 (by simpa using g0);simp[this]
  o3:=fun g0=>by have:=r.o3 (by simpa using g0);simp[this]
  o4:=fun g0=>by have:=r.o4 (by simpa using g0);simp[this] }
end Ai
namespace Ai
set_option maxRecDepth 100000
open Go Go.Proofs Cyc
theorem draw13p {p:ProgL} {s s1:StL} {ev:Ev} {tr:List Ev} {tk:List Int} {kk:Int} {w:Nat} {budget:Int} {pc:PctL} {rk:List Int} (hk0:0≤kk) (hen:((zA p s).map wV)[kk.toNat]?=some (wV w)) (htr:tr.length≤1048576)
  (hst:∀ (v0 v1:Value) (H0:Key→Option Ob),AtC 56 [i64 0,.lit v0,.lit v1] s H0→IOCall EE 92 [.ptr (.l 0) 3,agg (encProg p),i64 w] H0 (fun r H1=>r=agg (encEv ev)∧H1=stHC 56 [i64 0,.lit v0,.lit v1] s1))
  (Q:AX→St→Prop) (S:St) (h:R13p p s s1 ev tr tk kk w budget pc rk (fun _=>false) S) (hQ:∀ L S',(∀ i,i<13→L i=true)→R13p p s s1 ev tr tk kk w budget pc rk L S'→Q .normal S'):ADrawI EE Tryz.f160.ntmps ops13 Q S:=by
 refine⟨R13p p s s1 ev tr tk kk w budget pc rk,h,?_,fun L S' hL hS=>hQ L S' hL hS,by kernel_rfl,trivial⟩
 intro i o ho L S hL hd hI
 match i,ho,hL with
 | 0,ho,hL =>
  obtain rfl:ops13[0]'(by decide)=o:=Option.some.inj (show some (ops13[0]'(by decide))=some o from ho)
  exact op13p_0 L S hI hL
 | 1,ho,hL =>
  obtain rfl:ops13[1]'(by decide)=o:=Option.some.inj (show some (ops13[1]'(by decide))=some o from ho)
  have k0:L 0=true:=hd _ (Array.getElem_mem (i:=0) (by decide)) rfl
  exact op13p_1 L S hI hL k0
 | 2,ho,hL =>
  obtain rfl:ops13[2]'(by decide)=o:=Option.some.inj (show some (ops13[2]'(by decide))=some o from ho)
  exact op13p_2 L S hI hL
 | 3,ho,hL =>
  obtain rfl:ops13[3]'(by decide)=o:=Option.some.inj (show some (ops13[3]'(by decide))=some o from ho)
  exact op13p_3 L S hI hL
 | 4,ho,hL =>
  obtain rfl:ops13[4]'(by decide)=o:=Option.some.inj (show some (ops13[4]'(by decide))=some o from ho)
  exact op13p_4 L S hI hL
 | 5,ho,hL =>
  obtain rfl:ops13[5]'(by decide)=o:=Option.some.inj (show some (ops13[5]'(by decide))=some o from ho)
  exact op13p_5 L S hI hL
 | 6,ho,hL =>
  obtain rfl:ops13[6]'(by decide)=o:=Option.some.inj (show some (ops13[6]'(by decide))=some o from ho)
  have k4:L 4=true:=hd _ (Array.getElem_mem (i:=0) (by decide)) rfl
  have k5:L 5=true:=hd _ (Array.getElem_mem (i:=1) (by decide)) rfl
  exact op13p_6 hk0 hen L S hI hL k4 k5
 | 7,ho,hL =>
  obtain rfl:ops13[7]'(by decide)=o:=Option.some.inj (show some (ops13[7]'(by decide))=some o from ho)
  have k6:L 6=true:=hd _ (Array.getElem_mem (i:=0) (by decide)) rfl
  exact op13p_7 L S hI hL k6
 | 8,ho,hL =>
  obtain rfl:ops13[8]'(by decide)=o:=Option.some.inj (show some (ops13[8]'(by decide))=some o from ho)
  have k2:L 2=true:=hd _ (Array.getElem_mem (i:=0) (by decide)) rfl
  have k3:L 3=true:=hd _ (Array.getElem_mem (i:=1) (by decide)) rfl
  have k7:L 7=true:=hd _ (Array.getElem_mem (i:=2) (by decide)) rfl
  exact op13p_8 hst L S hI hL k2 k3 k7
 | 9,ho,hL =>
  obtain rfl:ops13[9]'(by decide)=o:=Option.some.inj (show some (ops13[9]'(by decide))=some o from ho)
  have k8:L 8=true:=hd _ (Array.getElem_mem (i:=0) (by decide)) rfl
  exact op13p_9 L S hI hL k8
 | 10,ho,hL =>
  obtain rfl:ops13[10]'(by decide)=o:=Option.some.inj (show some (ops13[10]'(by decide))=some o from ho)
  have k1:L 1=true:=hd _ (Array.getElem_mem (i:=0) (by decide)) rfl
  have k8:L 8=true:=hd _ (Array.getElem_mem (i:=2) (by decide)) rfl
  have k9:L 9=true:=hd _ (Array.getElem_mem (i:=1) (by decide)) rfl
  exact op13p_10 htr L S hI hL k1 k8 k9
 | 11,ho,hL =>
  obtain rfl:ops13[11]'(by decide)=o:=Option.some.inj (show some (ops13[11]'(by decide))=some o from ho)
  exact op13p_11 L S hI hL
 | 12,ho,hL =>
  obtain rfl:ops13[12]'(by decide)=o:=Option.some.inj (show some (ops13[12]'(by decide))=some o from ho)
  have k10:L 10=true:=hd _ (Array.getElem_mem (i:=1) (by decide)) rfl
  have k11:L 11=true:=hd _ (Array.getElem_mem (i:=0) (by decide)) rfl
  exact op13p_12 L S hI hL k10 k11
 |n+13,ho,hL =>
  have h1:n+13<ops13.size:=(Array.getElem?_eq_some_iff.1 ho).1
  have h2:ops13.size=13:=by decide
  omega
noncomputable def jJ (p:ProgL) (ch:List Int) (budget:Int):Nat→List Int→StL→List Ev→List Int→RunT × List Int
 | 0,rk,s,tr,tk=>(⟨0,tr,tk,s⟩,rk)
 |n+1,rk,s,tr,tk =>
  if xC p s tr.length budget≠0 then (⟨xC p s tr.length budget,tr,tk,s⟩,rk)
  else jJ p ch budget n (pkR (zA p s) ch tr.length rk).1 (zS p s ((zA p s).getD (pkR (zA p s) ch tr.length rk).2 0)).1 (tr++[(zS p s ((zA p s).getD (pkR (zA p s) ch tr.length rk).2 0)).2]) (tk++[((pkR (zA p s) ch tr.length rk).2:Int)])
def oRP (p:ProgL) (pc:PctL) (rk:List Int) (s:StL) (tr:List Ev) (tk:List Int):List (Key × Ob):=[(.n 3,.vs 31 ((encProg p).map .d)),(.n 6,.vs 56 [i64 0,.d .nil,.d .nil,.d .nil,.d .nil,.d .nil,i64 0]),
 (.n 8,.vs 56 ([i64 0,.ref (.n 12) 0 tr.length,.ref (.n 13) 0 tk.length]++stRef s)),(.n 12,.ds 128 5 (tr.map encEv)),(.n 13,.ds 3 1 (tk.map encInt)),(.n 900,.rs 175 6 (thRows 900 s.ths)),(.n 901,.ds 132 1 (s.cells.map encF)),(.n 902,.ds 3 1 (s.owner.map encInt)),
 (.l 20,.vs 201 [.fn 159 [.ptr (.l 22) 0]]),(.l 21,.vs 68 ((encPct pc).map .d)),(.l 22,.vs 41 [.ref (.n 980) 0 5]),(.n 980,.ds 3 1 (rk.map encInt))]
theorem pickR_at {pc:PctL} {rk:List Int} {H:Key→Option Ob} (h0:H (.l 20)=some (.vs 201 [.fn 159 [.ptr (.l 22) 0]])) (h1:H (.l 21)=some (.vs 68 ((encPct pc).map .d))) (h2:H (.l 22)=some (.vs 41 [.ref (.n 980) 0 5])) (h3:H (.n 980)=some (.ds 3 1 (rk.map encInt)))
  (hch:pc.changes.length≤1000) (hrl:rk.length=5) (en:List Nat) (he:en≠[]) (h5:en.length≤5) (hel:∀ k∈en,k<5) (n:Nat) :
  IOCall EE 161 [sl (en.map wV),i64 n,.ptr (.l 20) 0,.ptr (.l 21) 0,.ptr (.l 22) 0] (lendH gO H) (fun r H1=>r=i64 ((pkR en pc.changes n rk).2:Nat)∧H1=dX pc (pkR en pc.changes n rk).1):=by
 rw[cD h0 h1 h2 h3];exact pickR_ok pc hch rk hrl en he h5 hel n
theorem pkR_len {en:List Nat} {ch:List Int} {n:Nat} {rk:List Int}:(pkR en ch n rk).1.length=rk.length:=by
 unfold pkR;split <;> simp
theorem pkR_lt {en:List Nat} {ch:List Int} {n:Nat} {rk:List Int} (he:en≠[]):(pkR en ch n rk).2<en.length:=by
 have hne:xO en≠[]:=by intro e;simp[xO] at e;exact he e
 have hnl:(xO en).length=en.length:=by simp[xO]
 have ht:∀ rk',yK rk' (xO en) en.length<en.length:=fun rk'=>by have:=qY rk' (xO en) hne en.length (by omega);omega
 unfold pkR;split <;> exact ht _
end Ai
namespace Ai
set_option maxRecDepth 100000
open Go Go.Proofs Cyc
def fL (x:RunT) (H:Key→Option Ob):Key→Option Ob:=fun κ=>match ownH (wX x) κ with
 |some ob=>some ob
 |none=>H κ
theorem ownRn_n {x:RunT} {q:Nat} (h:wQ (.n q)=false):ownH (wX x) (.n q)=none:=by
 show(bif Nat.blt q 900 then none else _)=_
 cases hb:Nat.blt q 900 with
 |true=>rfl
 |false =>
  have hq:900≤q:=by
   rcases Nat.lt_or_ge q 900 with h1|h1
   ·rw[show Nat.blt q 900=true by simpa[Nat.blt_eq] using h1] at hb;cases hb
   ·exact h1
  obtain⟨k,rfl⟩:∃ k,q=900+k:=⟨q - 900,by omega⟩
  show(match (wX x)[900+k - 900]? with|some (.uq e sz els)=>some (Ob.ds e sz els)|some (.uqd e sz c _ _ rows subs)=>some (.rs e sz (ownRows (900+k) c rows subs))|_=>none)=none
  rw[Nat.add_sub_cancel_left]
  match k,h with
  | 0,_=>rfl
  | 1,h=>cases h
  | 2,h=>cases h
  | 3,h=>cases h
  | 4,h=>cases h
  | 5,h=>cases h
  | 6,_=>rfl
  |k+7,_=>rfl
theorem ownRn_s {x:RunT} {q j:Nat} (h:q≠903):ownH (wX x) (.s q j)=none:=by
 show(bif Nat.blt q 900 then none else _)=_
 cases hb:Nat.blt q 900 with
 |true=>rfl
 |false =>
  have hq:900≤q:=by
   rcases Nat.lt_or_ge q 900 with h1|h1
   ·rw[show Nat.blt q 900=true by simpa[Nat.blt_eq] using h1] at hb;cases hb
   ·exact h1
  obtain⟨k,rfl⟩:∃ k,q=900+k:=⟨q - 900,by omega⟩
  show(match (wX x)[900+k - 900]? with|some (.uqd _ _ _ e2 sz2 _ subs)=>(subs[j]?).map (Ob.ds e2 sz2)|_=>none)=none
  rw[Nat.add_sub_cancel_left]
  match k,h with
  | 0,_=>rfl
  | 1,_=>rfl
  | 2,_=>rfl
  | 3,h=>exact absurd rfl h
  | 4,_=>rfl
  | 5,_=>rfl
  | 6,_=>rfl
  |k+7,_=>rfl
theorem dM {x:RunT} {j:Nat}:ownH (wX x) (.s 903 j)=zE x.s.ths j:=by
 show((x.s.ths.map stk)[j]?).map (Ob.ds 132 1)=_
 unfold zE
 rw[List.getElem?_map,Option.map_map]
 rfl
theorem uO {x:RunT} {H:Key→Option Ob} {κ:Key} (h:wQ κ=false):fL x H κ=H κ:=by
 unfold fL
 have:ownH (wX x) κ=none:=by
  cases κ with
  |n q=>exact ownRn_n h
  |s o j=>exact ownRn_s (fun e=>by subst e;cases h)
  |l j=>rfl
 rw[this]
theorem lend_X {x:RunT} {K:Key→Bool} {G H:Key→Option Ob} (hG:∀ κ,wQ κ=false→lendH (fun κ=>K κ || wQ κ) H κ=G κ) (hGs:∀ j,G (.s 903 j)=none)
  (hE:H (.n 901)=some (.ds 128 5 (x.tr.map encEv))) (hT:H (.n 902)=some (.ds 3 1 (x.tk.map encInt)))
  (hH:H (.n 903)=some (.rs 175 6 (thRows 903 x.s.ths))) (hF:∀ j,H (.s 903 j)=zE x.s.ths j) (hC:H (.n 904)=some (.ds 132 1 (x.s.cells.map encF))) (hO:H (.n 905)=some (.ds 3 1 (x.s.owner.map encInt))) :
  lendH (fun κ=>K κ || wQ κ) H=fL x G:=by
 funext κ
 cases hk:wQ κ with
 |false=>rw[uO hk,hG κ hk]
 |true =>
  rw[vB (show(K κ || wQ κ)=true by rw[hk,Bool.or_true])]
  cases κ with
  |l j=>cases hk
  |s o j =>
   have:o=903:=Nat.eq_of_beq_eq_true hk
   subst this
   unfold fL
   rw[dM,hF]
   cases hq:zE x.s.ths j with
   |none =>
    exact(hGs j).symm
   |some ob =>
    show Option.map _ (some ob)=some ob
    rw[← hq,zQ]
  |n q =>
   have hk:(Nat.beq q 901 || Nat.beq q 902 || Nat.beq q 903 || Nat.beq q 904 || Nat.beq q 905)=true:=hk
   simp only[Bool.or_eq_true] at hk
   rcases hk with (((hk|hk)|hk)|hk)|hk
   all_goals have:=Nat.eq_of_beq_eq_true hk;subst this
   ·rw[hE];rfl
   ·rw[hT];rfl
   ·rw[hH]
    show some (Ob.rs 175 6 ((thRows 903 x.s.ths).map (scrPL _)))=some (Ob.rs 175 6 (thRows 903 x.s.ths))
    rw[yE fun j=>by show(!(K (.s 903 j) || true))=false;rw[Bool.or_true];rfl]
   ·rw[hC];rfl
   ·rw[hO];rfl
theorem lend_pctX {pc:PctL} {rk:List Int} {H:Key→Option Ob} (h0:H (.l 20)=some (.vs 201 [.fn 159 [.ptr (.l 22) 0]])) (h1:H (.l 21)=some (.vs 68 ((encPct pc).map .d))) (h2:H (.l 22)=some (.vs 41 [.ref (.n 980) 0 5])) (h3:H (.n 980)=some (.ds 3 1 (rk.map encInt))) :
  ∀ κ,wQ κ=false→lendH (fun κ=>gO κ || wQ κ) H κ=dX pc rk κ:=by
 intro κ hx
 cases hk:gO κ with
 |false=>rw[pC κ hk,lendH_f (show(gO κ || wQ κ)=false by rw[hk,hx];rfl)]
 |true =>
  rw[vB (show(gO κ || wQ κ)=true by rw[hk];rfl)]
  cases κ with
  |l j =>
   have hk:(Nat.beq j 20 || Nat.beq j 21 || Nat.beq j 22)=true:=hk
   simp only[Bool.or_eq_true] at hk
   rcases hk with (hk|hk)|hk
   all_goals have:=Nat.eq_of_beq_eq_true hk;subst this
   ·rw[h0];rfl
   ·rw[h1];rfl
   ·rw[h2];rfl
  |n j =>
   have:=Nat.eq_of_beq_eq_true hk
   subst this;rw[h3];rfl
  |s o j=>cases hk
theorem runQ_own (hI:xH) (p:ProgL) (hp:p.wf) (h1:InR p.cells 0 1048576) (h2:InR p.locks 0 1048576) (Inv:StL→Prop) (hI0:Inv (xR p)) (hok:RunI p Inv) (budget:Int) (hb:InR budget 0 1048576) (pc:PctL) (hrk0:pc.ranks.length=5) (hch:pc.changes.length≤1000) :
  IOCall EE 160 [agg (encProg p),i64 budget,pkV] (dX pc pc.ranks) (fun r H1=>∃ rk',r=.tup [.agg (refRn (jJ p pc.changes budget (budget.toNat+1) pc.ranks (xR p) [] []).1),bv true]∧H1=fL (jJ p pc.changes budget (budget.toNat+1) pc.ranks (xR p) [] []).1 (dX pc rk')):=by
 refine xS (fn:=Tryz.f160) (c:=Tryz.f160.body.getD .skip) Tryz.func160 rfl (by kernel_rfl) rfl ?_
 conv=>whnf
 refine⟨_,start_ok p h1 h2,?_⟩
 rintro r rfl
 conv=>whnf
 refine mB (fun x:List Int × StL × List Ev × List Int=>[(1,i64 budget),(2,pkV),(3,.ptr (.n 3) 0),(6,.ptr (.n 6) 0),(7,bv false),(8,.ptr (.n 8) 0),(9,i64 x.2.2.1.length)]) (fun x=>oRP p pc x.1 x.2.1 x.2.2.1 x.2.2.2) (fun x=>[(900,zE x.2.1.ths)]) (fun x=>budget.toNat - x.2.2.1.length)
  (fun x=>x.1.length=5∧Inv x.2.1∧x.2.2.1.length=x.2.2.2.length∧(x.2.2.1.length:Int)≤budget∧jJ p pc.changes budget (budget.toNat+1 - x.2.2.1.length) x.1 x.2.1 x.2.2.1 x.2.2.2=jJ p pc.changes budget (budget.toNat+1) pc.ranks (xR p) [] []) (pc.ranks,xR p,[],[])
  Weak.refl ?_ ?_ ?_ ⟨hrk0,hI0,rfl,hb.1,rfl⟩ ?_
 ·exact⟨rfl,rfl,rfl,rfl,rfl,rfl,rfl,trivial⟩
 ·refine⟨rfl,rfl,?_,rfl,rfl,?_,?_,?_,rfl,rfl,rfl,rfl,trivial⟩
  ·show some (Ob.vs 56 [i64 0,.ref (.n 12) 0 0,.ref (.n 13) 0 0,.dref (.n 900) ((xR p).ths.map vV).length,.ref (.n 901) 0 ((xR p).cells.map encF).length,.ref (.n 902) 0 ((xR p).owner.map encInt).length,i64 0])=some (Ob.vs 56 [i64 0,.ref (.n 12) 0 0,.ref (.n 13) 0 0,.dref (.n 900) (xR p).ths.length,.ref (.n 901) 0 (xR p).cells.length,.ref (.n 902) 0 (xR p).owner.length,i64 0])
   rw[List.length_map,List.length_map,List.length_map]
  ·conv=>lhs;whnf
   refine congrArg some ?_
   repeat (first|exact rfl|refine xW ?_ (congrArg (Ob.rs 175 6) (zZ fun _ _=>rfl)))
  ·rfl
  ·rfl
 ·refine⟨fun j=>?_,trivial⟩
  conv=>lhs;whnf
  repeat (first|exact own_fam (xR p) j|(refine hscrO ?_ (zQ _ _ _);conv=>lhs;whnf))
 rintro⟨rk,s,tr,tk⟩ τ H ⟨hrl,hinv,hlen,hle,hrun⟩
 have hrl:rk.length=5:=hrl
 have hs:=hok.small s hinv
 conv=>whnf
 refine .inl ⟨[.fp (yT s),agg (encProg p)],[],_,⟨_,_,rfl,fz_run (x0:=i64 0) (x1:=.ref (.n 12) 0 tr.length) (x2:=.ref (.n 13) 0 tk.length) rfl ⟨rfl,fun j hj=>thFam_self hj,rfl,rfl⟩,_,_,rfl,sP p,rfl⟩,rfl,enabledI_ok hI p s hp hs.1 (hok.seen s hinv),?_⟩
 rintro r rfl
 refine⟨?_,.inl ?_⟩
 ·intro c hc
  obtain⟨y,_,rfl⟩:=List.mem_map.1 hc
  rfl
 conv=>whnf
 refine .inl ⟨[agg (encProg p),.fp (yT s),sl ((zA p s).map wV),i64 tr.length,i64 budget],[],_,⟨_,_,rfl,sP p,_,_,rfl,fz_run (x0:=i64 0) (x1:=.ref (.n 12) 0 tr.length) (x2:=.ref (.n 13) 0 tk.length) rfl ⟨rfl,fun j hj=>thFam_self hj,rfl,rfl⟩,_,_,rfl,rfl,_,_,rfl,rfl,_,_,rfl,rfl,rfl⟩,rfl,codeOf_ok p s tr.length budget hs.1,?_⟩
 rintro r rfl
 refine⟨rfl,?_⟩
 conv=>whnf
 have hfuel:budget.toNat+1 - tr.length=(budget.toNat - tr.length)+1:=by
  have:(tr.length:Int)≤budget:=hle
  omega
 have hrun:jJ p pc.changes budget (budget.toNat+1 - tr.length) rk s tr tk=_:=hrun
 rw[hfuel] at hrun
 refine kbi (fun hc=>?_) (fun hc=>?_)
 ·have hc:xC p s tr.length budget≠0:=by simpa using hc
  conv=>whnf
  refine .inl ⟨[agg (yT s)],[],_,⟨_,_,rfl,⟨yT s,rfl,fz_st ⟨rfl,fun j hj=>thFam_self hj,rfl,rfl⟩ rfl rfl rfl⟩,rfl⟩,rfl,copied_ok s hs.1,?_⟩
  rintro r rfl
  refine⟨ownSt_flat s,?_⟩
  conv=>whnf
  refine⟨_,(qT shA).trans (qT shB),?_⟩
  conv=>whnf
  have hX:(jJ p pc.changes budget (budget.toNat+1) pc.ranks (xR p) [] []).1=⟨xC p s tr.length budget,tr,tk,s⟩:=by
   rw[← hrun]
   simp only[jJ,if_pos hc]
  rw[hX]
  refine⟨fun κ=>gO κ || wQ κ,rk,?_,?_⟩
  ·show AV.tup [AV.agg [i64 (xC p s tr.length budget),.ref (.n 901) 0 tr.length,.ref (.n 902) 0 tk.length,.dref (.n 903) (s.ths.map vV).length,.ref (.n 904) 0 (s.cells.map encF).length,.ref (.n 905) 0 (s.owner.map encInt).length,i64 s.fault],bv true]=_
   rw[List.length_map,List.length_map,List.length_map]
   rfl
  ·refine lend_X (K:=gO) (lend_pctX rfl rfl rfl rfl) (fun j=>rfl) rfl rfl ?_ (fun j=>?_) rfl rfl
   ·conv=>lhs;whnf
    show some (Ob.rs 175 6 (((thRows 900 s.ths).map (renL (r8 numA iG).f)).map (renL (r8 numB iF).f)))=some (Ob.rs 175 6 (thRows 903 s.ths))
    rw[eK,eK]
    rfl
   ·have e:∀ X:Option Ob,X=zE s.ths j→(X.map (renO shA.f)).map (renO shB.f)=zE s.ths j:=by
     rintro _ rfl
     rw[thFam_ren,thFam_ren]
    refine e _ ?_
    show(match ownH (jB s) (.s 900 j) with|some ob=>some ob|none=>_)=zE s.ths j
    show(match ((s.ths.map stk)[j]?).map (Ob.ds 132 1) with|some ob=>some ob|none=>_)=_
    rw[List.getElem?_map,zE]
    cases hj:s.ths[j]? with
    |none =>
     show Option.map _ (zE s.ths j)=none
     rw[zE,hj];rfl
    |some u=>rfl
 have hc:¬ xC p s tr.length budget≠0:=by simpa using hc
 have hc:xC p s tr.length budget=0:=by simpa using hc
 conv=>whnf
 have hen:zA p s≠[]:=by
  intro he
  have:=hc
  unfold xC at this
  by_cases hf:s.fault≠0
  ·rw[if_pos hf] at this;exact absurd this (by decide)
  ·rw[if_neg hf,if_pos he] at this;split at this <;> exact absurd this (by decide)
 have h5e:(zA p s).length≤5:=Nat.le_trans vR hs.2
 have hel:∀ k∈zA p s,k<5:=fun k hk=>by have h9:=(List.mem_filter.1 hk).1;have h9:k<s.ths.length:=(by simpa using h9);have:=hs.2;omega
 refine .inr (.inl ⟨999,99,gO,_,io_congr (pickR_at (pc:=pc) (rk:=rk) rfl rfl rfl rfl hch hrl (zA p s) hen h5e hel tr.length) rfl,rfl,?_⟩)
 rintro r H1 ⟨rfl,rfl⟩
 refine⟨pC,fun n hn=>?_,?_⟩
 ·have hn:(Nat.beq n 20 || Nat.beq n 21 || Nat.beq n 22)=true:=hn
  simp only[Bool.or_eq_true] at hn
  rcases hn with (hn|hn)|hn
  all_goals
   have:=Nat.eq_of_beq_eq_true hn
   subst this
   exact⟨_,_,_,rfl,rfl⟩
 conv=>whnf
 have hlb:(tr.length:Int)≠budget:=by
  intro he
  have:=hc
  unfold xC at this
  by_cases hf:s.fault≠0
  ·rw[if_pos hf] at this;exact absurd this (by decide)
  ·rw[if_neg hf,if_neg hen,if_pos he] at this;exact absurd this (by decide)
 have hk2:=pkR_lt (ch:=pc.changes) (n:=tr.length) (rk:=rk) hen
 have hpl:=pkR_len (en:=zA p s) (ch:=pc.changes) (n:=tr.length) (rk:=rk)
 have hrun2:jJ p pc.changes budget (budget.toNat - tr.length) (pkR (zA p s) pc.changes tr.length rk).1 (zS p s ((zA p s).getD (pkR (zA p s) pc.changes tr.length rk).2 0)).1 (tr++[(zS p s ((zA p s).getD (pkR (zA p s) pc.changes tr.length rk).2 0)).2]) (tk++[((pkR (zA p s) pc.changes tr.length rk).2:Int)])=jJ p pc.changes budget (budget.toNat+1) pc.ranks (xR p) [] []:=by
  rw[← hrun];simp only[jJ,hc];rfl
 generalize hkv:pkR (zA p s) pc.changes tr.length rk=kr at *
 obtain⟨rk2,kN⟩:=kr
 have hk2:kN<(zA p s).length:=hk2
 have hrun2:jJ p pc.changes budget (budget.toNat - tr.length) rk2 (zS p s ((zA p s).getD ((kN:Nat):Int).toNat 0)).1 (tr++[(zS p s ((zA p s).getD ((kN:Nat):Int).toNat 0)).2]) (tk++[(kN:Int)])=jJ p pc.changes budget (budget.toNat+1) pc.ranks (xR p) [] []:=hrun2
 have hpl:rk2.length=rk.length:=hpl
 have hk1:(0:Int)≤(kN:Int):=by omega
 have hkl:((kN:Nat):Int).toNat<(zA p s).length:=by omega
 have hmem:(zA p s).getD ((kN:Nat):Int).toNat 0∈zA p s:=by rw[List.getD_eq_getElem?_getD,List.getElem?_eq_getElem hkl];exact List.getElem_mem hkl
 have hwl:(zA p s).getD ((kN:Nat):Int).toNat 0<s.ths.length:=by have:=(List.mem_filter.1 hmem).1;simpa using this
 conv=>whnf
 refine kbi (fun hk=>?_) (fun hk=>?_)
 ·have hk:(kN:Int)<0:=of_decide_eq_true hk
  omega
 conv=>whnf
 have hlen':tr.length=tk.length:=hlen
 have hle':(tr.length:Int)≤budget:=hle
 have hb2:=hb.2
 refine⟨⟨rfl,by show(tk.length+1)*8≤_;omega,by show tk.length+1≤_;omega⟩,?_⟩
 conv=>whnf
 generalize hwd:(zA p s).getD ((kN:Nat):Int).toNat 0=w at *
 have hen13:((zA p s).map wV)[((kN:Nat):Int).toNat]?=some (wV w):=by rw[← hwd];exact q8 hkl
 have htr:tr.length≤1048576:=by omega
 refine .inr (.inr (.inl (draw13p (p:=p) (s:=s) (s1:=(zS p s w).1) (ev:=(zS p s w).2) (tr:=tr) (tk:=tk) (kk:=(kN:Int)) (w:=w) (budget:=budget) (pc:=pc) (rk:=rk2) hk1 hen13 htr
  (fun v0 v1 H0 hH=>stepI_ok hI 56 (i64 0) (.lit v0) (.lit v1) (inert_d _) (iU _) (iU _) p s w hp hwl hs.2 hs.1 (hok.ready s hinv w hmem hwl) (hok.awake s hinv w hmem hwl) (hok.flt s hinv _ (List.getElem_mem hwl)) (hok.joins s hinv w hmem hwl) H0 hH) _ _ ?_ ?_)))
 ·exact {
   u1:=rfl
   u2:=rfl
   u3:=rfl
   u6:=rfl
   u7:=rfl
   u8:=rfl
   u9:=rfl
   u10:=rfl
   u11:=rfl
   h3:=rfl
   h6:=rfl
   x20:=rfl
   x21:=rfl
   x22:=rfl
   x98:=rfl
   h13:=by
    show some (Ob.ds 3 1 ((tk.map encInt).take tk.length++[encInt (kN:Int)]))=_
    rw[List.take_of_length_le (by simp)]
    simp
   c0:=fun h=>by cases h
   c1:=fun h=>by cases h
   c2:=fun h=>by cases h
   c3:=fun h=>by cases h
   c4:=fun h=>by cases h
   c5:=fun h=>by cases h
   c6:=fun h=>by cases h
   c7:=fun h=>by cases h
   c8:=fun h=>by cases h
   c9:=fun h=>by cases h
   c10:=fun h=>by cases h
   c11:=fun h=>by cases h
   e9:=fun h=>by cases h
   d12a:=fun _=>rfl
   d12b:=fun h=>by cases h
   d8a:=fun _=>by
    show some (Ob.vs 56 ([i64 (xC p s tr.length budget),.ref (.n 12) 0 tr.length,.ref (.n 13) 0 (tk.length+1)]++stRef s))=_
    rw[hc]
   d8b:=fun h=>by cases h
   d8c:=fun h=>by cases h
   d8d:=fun h=>by cases h
   sa0:=fun _=>by
    conv=>lhs;whnf
    refine congrArg some ?_
    repeat (first|exact rfl|refine xW ?_ (congrArg (Ob.rs 175 6) (zZ fun _ _=>rfl))|refine o8 ?_ (congrArg (Ob.rs 175 6) (jA _ _ _ _)))
   saF:=fun _ j=>by
    repeat (first|exact rfl|refine hscrO ?_ (zQ _ _ _)|refine o7 ?_ (thFam_ren _ _ _)|conv=>lhs;whnf)
   sa1:=fun _=>rfl
   sa2:=fun _=>rfl
   sb0:=fun h=>by cases h
   sbF:=fun h=>by cases h
   sb1:=fun h=>by cases h
   sb2:=fun h=>by cases h
   o1:=fun h=>by cases h
   o2:=fun h=>by cases h
   o3:=fun h=>by cases h
   o4:=fun h=>by cases h }
 intro L S' hL r
 have hat:At [(1,i64 budget),(2,pkV),(3,.ptr (.n 3) 0),(6,.ptr (.n 6) 0),(7,bv false),(8,.ptr (.n 8) 0),(9,i64 tr.length)]
  [(.n 3,.vs 31 ((encProg p).map .d)),(.n 6,.vs 56 [i64 0,.d .nil,.d .nil,.d .nil,.d .nil,.d .nil,i64 0]),(.n 8,.vs 56 ([i64 0,.ref (.n 12) 0 (tr.length+1),.ref (.n 13) 0 (tk.length+1)]++stRef (zS p s w).1)),(.n 12,.ds 128 5 ((tr++[(zS p s w).2]).map encEv)),(.n 13,.ds 3 1 ((tk++[(kN:Int)]).map encInt)),
   (.n 900,.rs 175 6 (thRows 900 (zS p s w).1.ths)),(.n 901,.ds 132 1 ((zS p s w).1.cells.map encF)),(.n 902,.ds 3 1 ((zS p s w).1.owner.map encInt)),(.l 20,.vs 201 [.fn 159 [.ptr (.l 22) 0]]),(.l 21,.vs 68 ((encPct pc).map .d)),(.l 22,.vs 41 [.ref (.n 980) 0 5]),(.n 980,.ds 3 1 (rk2.map encInt))] [(900,zE (zS p s w).1.ths)] S' :=
  ⟨⟨r.u1,r.u2,r.u3,r.u6,r.u7,r.u8,r.u9,trivial⟩,⟨r.h3,r.h6,r.d8d (hL 12 (by decide)),r.d12b (hL 10 (by decide)),r.h13,r.sb0 (hL 8 (by decide)),r.sb1 (hL 8 (by decide)),r.sb2 (hL 8 (by decide)),r.x20,r.x21,r.x22,r.x98,trivial⟩,⟨r.sbF (hL 8 (by decide)),trivial⟩⟩
 obtain⟨τ',H',rfl⟩:=hat.form
 clear r hat
 have hrun2:=hrun2
 generalize hst:zS p s w=st at *
 have ew:IntKind.i64.wrap ((tr.length:Int)+1)=(((tr++[st.2]).length:Nat):Int):=by rw[zF (by omega) (by omega)];simp
 conv=>whnf
 refine⟨(rk2,st.1,tr++[st.2],tk++[(kN:Int)]),_,Weak.refl,⟨hpl.trans hrl,hst▸hok.step s hinv w hmem,by simp;exact hlen',by simp;omega,?_⟩,?_,⟨rfl,rfl,rfl,rfl,rfl,rfl,?_,trivial⟩,⟨rfl,rfl,?_,rfl,rfl,rfl,rfl,rfl,rfl,rfl,rfl,rfl,trivial⟩,⟨fun j=>rfl,trivial⟩⟩
 ·show jJ p pc.changes budget (budget.toNat+1 - (tr++[st.2]).length) rk2 st.1 (tr++[st.2]) (tk++[(kN:Int)])=_
  rw[show budget.toNat+1 - (tr++[st.2]).length=budget.toNat - tr.length by simp]
  exact hrun2
 ·show budget.toNat - (tr++[st.2]).length<budget.toNat - tr.length
  simp;omega
 ·show AV.d (.int .i64 (IntKind.i64.wrap ((tr.length:Int)+1)))=i64 ((tr++[st.2]).length:Nat)
  rw[ew]
 ·show some (Ob.vs 56 ([i64 0,.ref (.n 12) 0 (tr.length+1),.ref (.n 13) 0 (tk.length+1)]++stRef st.1))=some (Ob.vs 56 ([i64 0,.ref (.n 12) 0 (tr++[st.2]).length,.ref (.n 13) 0 (tk++[(kN:Int)]).length]++stRef st.1))
  rw[List.length_append,List.length_append]
  rfl
end Ai
namespace Ai
set_option maxRecDepth 100000
open Go Go.Proofs Cyc
theorem swp_l {a b n:Nat} (h:n≠b):swp (.n a) (.l b) (.l n)=.l n:=by simp[swp,Key.beq,nbeq_ne h]
theorem swp_lb {a b:Nat}:swp (.n a) (.l b) (.l b)=.n a:=by simp[swp,Key.beq]
theorem IOCall.low {E:Env} {g:FuncId} {xs:List AV} {H0:Key→Option Ob} {Post:AV→(Key→Option Ob)→Prop} (a b:Nat) (h:IOCall E g xs H0 Post) (hn:∀ r H1,Post r H1→H1 (.n a)=none) :
  IOCall E g (xs.map (ren (swp (.n a) (.l b)))) (swH (.n a) (.l b) H0) (fun r H1=>Post (ren (swp (.n a) (.l b)) r) (swH (.n a) (.l b) H1)):=by
 intro w0 A m w vs hH hl hrel
 have hH':HRel E ⟨A.A,A.X,A.h,fun n=>if n=b then some (m (.n a)) else A.pin n⟩ w0 (swM (.n a) (.l b) m) H0 w:=by
  have h1:=(hH.toS).noPin.sw (.n a) (.l b) (fun n hn=>absurd rfl hn)
  have h2:=h1.toH
  have e:(St.swap (.n a) (.l b) ⟨fun _=>.junk,swH (.n a) (.l b) H0⟩).H=H0:=swH_swH _ _ _
  rw[e] at h2
  refine⟨h2.below,h2.inv,h2.objs,h2.inj,h2.hA,h2.fr,fun n hp hs=>?_⟩
  show some (m (swp (.n a) (.l b) (.l n)))=if n=b then some (m (.n a)) else A.pin n
  by_cases hnb:n=b
  ·subst hnb;rw[if_pos rfl,swp_lb]
  ·rw[if_neg hnb,swp_l hnb]
   have hp:(if n=b then some (m (.n a)) else A.pin n)≠none:=hp
   rw[if_neg hnb] at hp
   refine hH.pin n hp ?_
   simp only[swH,swp_l hnb]
   intro hh;exact hs (by cases hq:H0 (.l n) with|none=>rfl|some o=>rw[hq] at hh;cases hh)
 refine(h w0 _ (swM (.n a) (.l b) m) w vs hH' (by simpa using hl) fun i c v hc hv=>?_).mono ?_
 ·have:=(hrel i (ren (swp (.n a) (.l b)) c) v (by rw[List.getElem?_map,hc];rfl) hv).ren (x:=.n a) (y:=.l b) (ok':=okB A (swH (.n a) (.l b) (swH (.n a) (.l b) H0)) (swM (.n a) (.l b) m) w) fun b hb=>pH hb
  rw[ren_ren,swH_swH] at this
  exact this
 ·rintro v w' ⟨r,H1,m1,hP,hH1,hv⟩
  have h3:HRel E A w0 (swM (.n a) (.l b) m1) (swH (.n a) (.l b) H1) w':=by
   have h1:=(hH1.toS).noPin.sw (.n a) (.l b) (fun n hn=>absurd rfl hn)
   have h2:=h1.toH
   refine⟨h2.below,h2.inv,h2.objs,h2.inj,h2.hA,h2.fr,fun n hp hs=>?_⟩
   by_cases hnb:n=b
   ·subst hnb
    exact absurd (by simp only[swH,swp_lb,hn r H1 hP];rfl) hs
   ·show some (m1 (swp (.n a) (.l b) (.l n)))=A.pin n
    rw[swp_l hnb]
    have hs:swH (.n a) (.l b) H1 (.l n)≠none:=hs
    simp only[swH,swp_l hnb] at hs
    have:=hH1.pin n (by show(if n=b then _ else A.pin n)≠none;rw[if_neg hnb];exact hp) (fun hh=>hs (by rw[hh];rfl))
    have e:(if n=b then some (m (.n a)) else A.pin n)=A.pin n:=if_neg hnb
    exact this.trans e
  refine⟨ren (swp (.n a) (.l b)) r,swH (.n a) (.l b) H1,swM (.n a) (.l b) m1,?_,h3,hv.ren fun b hb=>pH hb⟩
  show Post (ren (swp (.n a) (.l b)) (ren (swp (.n a) (.l b)) r)) (swH (.n a) (.l b) (swH (.n a) (.l b) H1))
  rw[ren_ren,swH_swH];exact hP
def sH (pc:PctL) (rk:List Int):Key→Option Ob
 | .n j=>bif Nat.beq j 920 then some (.vs 201 [.fn 159 [.ptr (.n 922) 0]]) else bif Nat.beq j 921 then some (.vs 68 ((encPct pc).map .d)) else bif Nat.beq j 922 then some (.vs 41 [.ref (.n 980) 0 5]) else bif Nat.beq j 980 then some (.ds 3 1 (rk.map encInt)) else none
 | _=>none
def lS:Key→Bool
 | .n j=>Nat.beq j 920 || Nat.beq j 921 || Nat.beq j 922 || Nat.beq j 980
 | _=>false
def s7 (H:Key→Option Ob):Key→Option Ob:=swH (.n 922) (.l 22) (swH (.n 921) (.l 21) (swH (.n 920) (.l 20) H))
theorem s6 (pc:PctL) (rk:List Int):s7 (dX pc rk)=sH pc rk:=by
 funext κ
 cases κ with
 |n j =>
  by_cases h1:j=920
  ·subst h1;rfl
  by_cases h2:j=921
  ·subst h2;rfl
  by_cases h3:j=922
  ·subst h3;rfl
  by_cases h4:j=980
  ·subst h4;rfl
  simp[s7,swH,swp,Key.beq,nbeq_ne h1,nbeq_ne h2,nbeq_ne h3,nbeq_ne h4,dX,sH]
 |l j =>
  by_cases h1:j=20
  ·subst h1;rfl
  by_cases h2:j=21
  ·subst h2;rfl
  by_cases h3:j=22
  ·subst h3;rfl
  simp[s7,swH,swp,Key.beq,nbeq_ne h1,nbeq_ne h2,nbeq_ne h3,dX,sH]
 |s o j=>rfl
theorem iB {pc:PctL} {rk:List Int}:∀ κ,lS κ=false→sH pc rk κ=none
 | .l j,h=>rfl
 | .n j,h=>by
  have h:(Nat.beq j 920 || Nat.beq j 921 || Nat.beq j 922 || Nat.beq j 980)=false:=h
  simp only[Bool.or_eq_false_iff] at h
  simp[sH,h.1.1.1,h.1.1.2,h.1.2,h.2]
 | .s o j,h=>rfl
end Ai
namespace Ai
set_option maxRecDepth 100000
open Go Go.Proofs Cyc
theorem low_idx (en:List Nat) (ch:List Int) (n:Nat) (rk:List Int) (k:Nat) (hnd:ch.Nodup):∀ j,j≤ch.length→yB en ch n rk k j=(match aW ch n with
  |some i=>if i<j then (rk.set (en.getD k 0) (-1 - (i:Int)),yK (rk.set (en.getD k 0) (-1 - (i:Int))) (xO en) en.length) else (rk,k)
  |none=>(rk,k))
 | 0,_=>by
  cases aW ch n with
  |none=>rfl
  |some i=>simp[yB]
 |j+1,hj=>by
  have ih:=low_idx en ch n rk k hnd j (by omega)
  have hg:ch.getD j 0=ch[j]'(by omega):=by rw[List.getD_eq_getElem?_getD,List.getElem?_eq_getElem (by omega)];rfl
  unfold yB
  rw[ih,hg]
  cases hi:aW ch n with
  |none =>
   have h:=List.findIdx?_eq_none_iff.1 hi _ (List.getElem_mem (show j<ch.length by omega))
   have h:¬ ch[j]'(by omega)=(n:Int):=by simpa using h
   simp only[if_neg h]
  |some i =>
   obtain⟨hil,h1,h2⟩:=List.findIdx?_eq_some_iff_getElem.1 hi
   have h1:ch[i]=(n:Int):=by simpa using h1
   by_cases he:ch[j]'(by omega)=(n:Int)
   ·have hij:i=j:=by
     rcases Nat.lt_trichotomy i j with h|h|h
     ·exact absurd (h1.trans he.symm) (List.pairwise_iff_getElem.1 hnd i j hil (by omega) h)
     ·exact h
     ·exact absurd he (by simpa using h2 j h)
    subst hij
    rw[if_pos he]
    simp
   ·have hij:i≠j:=fun e=>he (by subst e;exact h1)
    simp only[if_neg he]
    by_cases hlt:i<j
    ·rw[if_pos hlt,if_pos (by omega)]
    ·rw[if_neg hlt,if_neg (by omega)]
theorem pkR_low (en:List Nat) (ch:List Int) (n:Nat) (rk:List Int) (hnd:ch.Nodup):pkR en ch n rk=yB en ch n rk (yK rk (xO en) en.length) ch.length:=by
 rw[low_idx en ch n rk _ hnd _ (Nat.le_refl _)]
 unfold pkR
 cases hi:aW ch n with
 |none=>rfl
 |some i =>
  have hil:=(List.findIdx?_eq_some_iff_getElem.1 hi).1
  simp only[if_pos hil]
theorem runQ_P (p:ProgL) (ch:List Int) (b:Int) (hnd:ch.Nodup):∀ n rk s tr tk,(jJ p ch b n rk s tr tk).1=lL p ch b n rk s tr tk
 | 0,_,_,_,_=>rfl
 |n+1,rk,s,tr,tk=>by
  have:=codeL_nn p s tr.length b
  unfold jJ lL
  by_cases hc:xC p s tr.length b=0
  ·rw[if_neg (by simp[hc]),if_neg (by omega)]
   rw[runQ_P p ch b hnd n,pkR_low _ _ _ _ hnd]
  ·rw[if_pos hc,if_pos (by omega)]
end Ai
namespace Ai
set_option maxRecDepth 100000
open Go Go.Proofs Cyc
theorem swp_ne {a b κ:Key} (h1:κ≠a) (h2:κ≠b):swp a b κ=κ:=by
 unfold swp;rw[zB h1,zB h2];rfl
theorem sw_own {x:RunT} {a b κ:Key} {ob:Ob} (ha:wQ a=false) (hb:wQ b=false) (h:ownH (wX x) κ=some ob):renO (swp a b) ob=ob:=by
 have hf:∀ j,swp a b (.s 903 j)=.s 903 j:=fun j=>swp_ne (fun e=>by subst e;cases ha) (fun e=>by subst e;cases hb)
 have hk:wQ κ=true:=by
  cases hk:wQ κ with
  |true=>rfl
  |false =>
   have:=uO (x:=x) (H:=fun _=>none) hk
   unfold fL at this
   rw[h] at this
   cases this
 cases κ with
 |l j=>cases hk
 |s o j =>
  have:o=903:=Nat.eq_of_beq_eq_true hk
  subst this
  rw[dM] at h
  have:=thFam_ren (swp a b) x.s.ths j
  rw[h] at this
  exact Option.some.inj this
 |n q =>
  have hk:(Nat.beq q 901 || Nat.beq q 902 || Nat.beq q 903 || Nat.beq q 904 || Nat.beq q 905)=true:=hk
  simp only[Bool.or_eq_true] at hk
  rcases hk with (((hk|hk)|hk)|hk)|hk
  all_goals have:=Nat.eq_of_beq_eq_true hk;subst this
  ·cases h;rfl
  ·cases h;rfl
  ·have h:some (Ob.rs 175 6 (thRows 903 x.s.ths))=some ob:=h
   cases h
   show Ob.rs 175 6 ((thRows 903 x.s.ths).map (renL (swp a b)))=_
   rw[zR hf]
  ·cases h;rfl
  ·cases h;rfl
theorem dG {x:RunT} {H:Key→Option Ob} {a b:Key} (ha:wQ a=false) (hb:wQ b=false):swH a b (fL x H)=fL x (swH a b H):=by
 funext κ
 cases hk:wQ κ with
 |false =>
  rw[uO hk]
  show((fL x H) (swp a b κ)).map _=(H (swp a b κ)).map _
  rw[uO]
  unfold swp
  cases Key.beq κ a with
  |true=>exact hb
  |false =>
   cases Key.beq κ b with
   |true=>exact ha
   |false=>exact hk
 |true =>
  have e:swp a b κ=κ:=swp_ne (fun e=>by rw[e] at hk;rw[hk] at ha;cases ha) (fun e=>by rw[e] at hk;rw[hk] at hb;cases hb)
  show((fL x H) (swp a b κ)).map _=fL x (swH a b H) κ
  rw[e]
  unfold fL
  cases ho:ownH (wX x) κ with
  |none=>show _=(H (swp a b κ)).map _;rw[e]
  |some ob=>show some (renO _ ob)=some ob;rw[sw_own ha hb ho]
theorem low3_X {x:RunT} {H:Key→Option Ob}:s7 (fL x H)=fL x (s7 H):=by
 unfold s7
 rw[dG rfl rfl,dG rfl rfl,dG rfl rfl]
theorem runQ_lowO (hI:xH) (p:ProgL) (hp:p.wf) (h1:InR p.cells 0 1048576) (h2:InR p.locks 0 1048576) (Inv:StL→Prop) (hI0:Inv (xR p)) (hok:RunI p Inv) (budget:Int) (hb:InR budget 0 1048576) (pc:PctL) (hrk0:pc.ranks.length=5) (hch:pc.changes.length≤1000) :
  IOCall EE 160 [agg (encProg p),i64 budget,.fn 161 [.ptr (.n 920) 0,.ptr (.n 921) 0,.ptr (.n 922) 0]] (sH pc pc.ranks) (fun r H1=>r=.tup [.agg (refRn (jJ p pc.changes budget (budget.toNat+1) pc.ranks (xR p) [] []).1),bv true]∧∃ rk',H1=fL (jJ p pc.changes budget (budget.toNat+1) pc.ranks (xR p) [] []).1 (sH pc rk')):=by
 have h:=runQ_own hI p hp h1 h2 Inv hI0 hok budget hb pc hrk0 hch
 generalize (jJ p pc.changes budget (budget.toNat+1) pc.ranks (xR p) [] []).1=X at h ⊢
 have l1:=IOCall.low 920 20 h (by rintro r H1 ⟨rk',_,rfl⟩;rw[uO rfl];rfl)
 have l2:=IOCall.low 921 21 l1 (by
  rintro r H1 ⟨rk',_,hH⟩
  have:H1=swH (.n 920) (.l 20) (fL X (dX pc rk')):=by rw[← hH,swH_swH]
  rw[this,dG rfl rfl,uO rfl];rfl)
 have l3:=IOCall.low 922 22 l2 (by
  rintro r H1 ⟨rk',_,hH⟩
  have:H1=swH (.n 921) (.l 21) (swH (.n 920) (.l 20) (fL X (dX pc rk'))):=by rw[← hH,swH_swH,swH_swH]
  rw[this,dG rfl rfl,dG rfl rfl,uO rfl];rfl)
 have e0:swH (.n 922) (.l 22) (swH (.n 921) (.l 21) (swH (.n 920) (.l 20) (dX pc pc.ranks)))=sH pc pc.ranks:=s6 pc pc.ranks
 rw[e0] at l3
 have e1:(((([agg (encProg p),i64 budget,pkV].map (ren (swp (.n 920) (.l 20)))).map (ren (swp (.n 921) (.l 21)))).map (ren (swp (.n 922) (.l 22)))))=[agg (encProg p),i64 budget,.fn 161 [.ptr (.n 920) 0,.ptr (.n 921) 0,.ptr (.n 922) 0]]:=by
  simp only[List.map_cons,List.map_nil,j6];rfl
 rw[e1] at l3
 refine IOCall.mono l3 ?_
 rintro r H1 ⟨rk',hr,hH⟩
 refine⟨?_,rk',?_⟩
 ·have h3:=congrArg (fun x=>ren (swp (.n 922) (.l 22)) (ren (swp (.n 921) (.l 21)) (ren (swp (.n 920) (.l 20)) x))) hr
  simp only[ren_ren] at h3
  exact h3
 ·have h3:=congrArg s7 hH
  rw[low3_X,s6] at h3
  simp only[s7,swH_swH] at h3
  exact h3
end Ai
namespace Ai
set_option maxRecDepth 100000
open Go Go.Proofs Cyc
def x4 (κ:Key):Bool:=lS κ || wQ κ
theorem pctQ_x {pc:PctL} {rk:List Int} {κ:Key} (h:wQ κ=true):sH pc rk κ=none:=by
 cases κ with
 |l j=>rfl
 |s o j=>rfl
 |n q =>
  have h:(Nat.beq q 901 || Nat.beq q 902 || Nat.beq q 903 || Nat.beq q 904 || Nat.beq q 905)=true:=h
  simp only[Bool.or_eq_true] at h
  rcases h with (((hk|hk)|hk)|hk)|hk
  all_goals have:=Nat.eq_of_beq_eq_true hk;subst this;rfl
theorem lend_pctQX {pc:PctL} {rk:List Int} {H:Key→Option Ob} (h0:H (.n 920)=some (.vs 201 [.fn 159 [.ptr (.n 922) 0]])) (h1:H (.n 921)=some (.vs 68 ((encPct pc).map .d))) (h2:H (.n 922)=some (.vs 41 [.ref (.n 980) 0 5])) (h3:H (.n 980)=some (.ds 3 1 (rk.map encInt)))
  (hn:∀ κ,wQ κ=true→H κ=none):lendH x4 H=sH pc rk:=by
 funext κ
 cases hx:wQ κ with
 |true =>
  rw[vB (show(lS κ || wQ κ)=true by rw[hx,Bool.or_true]),hn κ hx,pctQ_x hx];rfl
 |false =>
  cases hk:lS κ with
  |false=>rw[iB κ hk,lendH_f (show(lS κ || wQ κ)=false by rw[hk,hx];rfl)]
  |true =>
   rw[vB (show(lS κ || wQ κ)=true by rw[hk];rfl)]
   cases κ with
   |n j =>
    have hk:(Nat.beq j 920 || Nat.beq j 921 || Nat.beq j 922 || Nat.beq j 980)=true:=hk
    simp only[Bool.or_eq_true] at hk
    rcases hk with ((hk|hk)|hk)|hk
    all_goals have:=Nat.eq_of_beq_eq_true hk;subst this
    ·rw[h0];rfl
    ·rw[h1];rfl
    ·rw[h2];rfl
    ·rw[h3];rfl
   |l j=>cases hk
   |s o j=>cases hk
theorem addX_out {x:RunT} {pc:PctL} {rk:List Int}:∀ κ,x4 κ=false→fL x (sH pc rk) κ=none:=by
 intro κ h
 have h:(lS κ || wQ κ)=false:=h
 simp only[Bool.or_eq_false_iff] at h
 rw[uO h.2,iB κ h.1]
theorem runQ_atO {H:Key→Option Ob} (p:ProgL) (hp:p.wf) (hg:p.goodS) (hv:p.flt) (budget:Int) (hb:InR budget 0 1048576) (pc:PctL) (hrk0:pc.ranks.length=5) (hch:pc.changes.length≤1000)
  (h0:H (.n 920)=some (.vs 201 [.fn 159 [.ptr (.n 922) 0]])) (h1:H (.n 921)=some (.vs 68 ((encPct pc).map .d))) (h2:H (.n 922)=some (.vs 41 [.ref (.n 980) 0 5])) (h3:H (.n 980)=some (.ds 3 1 (pc.ranks.map encInt))) (hn:∀ κ,wQ κ=true→H κ=none) :
  IOCall EE 160 [agg (encProg p),i64 budget,.fn 161 [.ptr (.n 920) 0,.ptr (.n 921) 0,.ptr (.n 922) 0]] (lendH x4 H) (fun r H1=>r=.tup [.agg (refRn (jJ p pc.changes budget (budget.toNat+1) pc.ranks (xR p) [] []).1),bv true]∧∃ rk',H1=fL (jJ p pc.changes budget (budget.toNat+1) pc.ranks (xR p) [] []).1 (sH pc rk')):=by
 rw[lend_pctQX h0 h1 h2 h3 hn]
 obtain⟨b1,b2,b3,b4⟩:=hg.1
 exact runQ_lowO toIndexI p hp ⟨b1.1,by have:=b1.2;omega⟩ ⟨b2.1,by have:=b2.2;omega⟩ _ ⟨x6 hg,flt_new p⟩ (runI hg hv) budget hb pc hrk0 hch
theorem runPct_own (p:ProgL) (hp:p.wf) (hg:p.goodS) (hv:p.flt) (budget:Int) (hb:InR budget 0 1048576) (pc:PctL) (hrk0:pc.ranks.length=5) (hch:pc.changes.length≤1000) :
  CallsTo EE 87 [agg (encProg p),agg (encPct pc),i64 budget] (·=.own (wX (jJ p pc.changes budget (budget.toNat+1) pc.ranks (xR p) [] []).1)):=by
 refine callsTo_of_AW (fn:=Tryz.f87) Tryz.func87 rfl (by kernel_rfl) rfl ?_
 conv=>whnf
 refine⟨_,Clone_ok pc.ranks (by omega),?_⟩
 rintro r rfl
 refine .inr ⟨_,rfl,?_⟩
 conv=>whnf
 refine .inr (.inr (.inl ⟨_,160,[],(weak_sw 8 920).trans ((weak_sw 4 921).trans ((weak_sw 7 922).trans (weak_sw 13 980))),rfl,999,99,x4,_,io_congr (runQ_atO p hp hg hv budget hb pc hrk0 hch rfl rfl ?_ rfl (fun κ hκ=>?_)) rfl,rfl,?_⟩))
 ·show some (Ob.vs 41 [.ref (.n 980) 0 (pc.ranks.map encInt).length])=_
  rw[List.length_map,hrk0]
 ·cases κ with
  |l j=>cases hκ
  |s o j =>
   have:o=903:=Nat.eq_of_beq_eq_true hκ
   subst this
   rfl
  |n q =>
   have h:(Nat.beq q 901 || Nat.beq q 902 || Nat.beq q 903 || Nat.beq q 904 || Nat.beq q 905)=true:=hκ
   simp only[Bool.or_eq_true] at h
   rcases h with (((hk|hk)|hk)|hk)|hk
   all_goals have:=Nat.eq_of_beq_eq_true hk;subst this;rfl
 generalize (jJ p pc.changes budget (budget.toNat+1) pc.ranks (xR p) [] []).1=x
 rintro r H1 ⟨rfl,rk',rfl⟩
 refine⟨addX_out,fun n hn=>(by cases hn),?_⟩
 conv=>whnf
 refine .inr (.inr ⟨wX x,_,Weak.refl,?_,?_,bI ⟨trivial,?_,?_,⟨?_,fun j q hq=>?_⟩,?_,?_,trivial,trivial⟩,rfl⟩)
 ·show some [AV.agg [i64 x.c,.ref (.n 901) 0 x.tr.length,.ref (.n 902) 0 x.tk.length,.dref (.n 903) x.s.ths.length,.ref (.n 904) 0 x.s.cells.length,.ref (.n 905) 0 x.s.owner.length,i64 x.s.fault]]=some [AV.agg [i64 x.c,.ref (.n 901) 0 (x.tr.map encEv).length,.ref (.n 902) 0 (x.tk.map encInt).length,.dref (.n 903) (x.s.ths.map vV).length,.ref (.n 904) 0 (x.s.cells.map encF).length,.ref (.n 905) 0 (x.s.owner.map encInt).length,.d (di x.s.fault)]]
  simp only[List.length_map]
 ·intro v hv
  simp only[wX,List.mem_cons,List.not_mem_nil,or_false] at hv
  rcases hv with rfl|rfl|rfl|rfl|rfl|rfl|rfl
  all_goals first|trivial|(show(x.s.ths.map vV).length=(x.s.ths.map stk).length;simp)
 ·rfl
 ·rfl
 ·show some (Ob.rs 175 6 (((thRows 903 x.s.ths).map (renL (swp (.n 999) (.l 99)))).map (scrPL (isK (.n 9)))))=some (Ob.rs 175 6 (thRows 903 x.s.ths))
  rw[zR (fun j=>rfl),yE (fun j=>rfl)]
 ·have hq:(x.s.ths.map stk)[j]?=some q:=hq
  have e:ownH (wX x) (.s 903 j)=some (.ds 132 1 q):=by
   show((x.s.ths.map stk)[j]?).map (Ob.ds 132 1)=_
   rw[hq];rfl
  show Option.map _ (Option.map _ (match ownH (wX x) (.s 903 j) with|some ob=>some ob|none=>_))=_
  rw[e];rfl
 ·rfl
 ·rfl
end Ai
namespace Ai
set_option maxRecDepth 100000
open Go Go.Proofs Cyc
def PctL.fit (s:PctL):Prop:=s.ranks.length≤1048576∧s.changes.length≤1048576
theorem szPct_ok (s:PctL) (left:Int) (h0:0≤left) (h1:left≤1048576) (hs:s.wf):CallsTo EE 33 [agg (encPct s),i64 left] (szR left s.size):=by
 refine callsTo_of_AW (fn:=Tryz.f33) Tryz.func33 rfl (by kernel_rfl) rfl ?_
 conv=>whnf
 refine⟨_,eN _ left h0 h1 (by simpa using hs.1),?_⟩
 rintro r ⟨n,rfl,hn1,hn2,hn3⟩
 conv=>whnf
 refine⟨fun h=>?_,fun h=>?_⟩
 ·conv=>whnf
  exact⟨-1,rfl,by omega,by omega,by omega⟩
 ·simp at h
  have h9:=hn3 (by omega)
  simp at h9
  conv=>whnf
  refine⟨_,eN _ n (by omega) (by omega) (by simpa using hs.2),?_⟩
  rintro r ⟨n2,rfl,hm1,hm2,hm3⟩
  conv=>whnf
  refine⟨fun h=>?_,fun h=>?_⟩
  ·conv=>whnf
   exact⟨-1,rfl,by omega,by omega,by omega⟩
  ·simp at h
   have h8:=hm3 (by omega)
   simp at h8
   conv=>whnf
   exact⟨_,rfl,by omega,by omega,fun _=>by unfold PctL.size;omega⟩
theorem bB (x:PctL) (h:x.fit):CallsTo EE 35 [agg (encPct x)] (·=agg (encPct x)):=by
 refine callsTo_of_AW (fn:=Tryz.f35) Tryz.func35 rfl (by kernel_rfl) rfl ?_
 conv=>whnf
 refine⟨_,dC _ h.1,?_⟩
 rintro r rfl
 refine .inl ?_
 conv=>whnf
 refine⟨_,dC _ h.2,?_⟩
 rintro r rfl
 refine .inl ?_
 conv=>whnf
 try rfl
def ownPc (x:PctL):List AV:=[.uq 3 1 (x.ranks.map encInt),.uq 3 1 (x.changes.map encInt)]
theorem toPct_own (x:PctL) (h:x.fit):CallsTo EE 35 [agg (encPct x)] (·=.own (ownPc x)):=by
 refine callsTo_of_AW (fn:=Tryz.f35) Tryz.func35 rfl (by kernel_rfl) rfl ?_
 conv=>whnf
 refine⟨_,dC _ h.1,?_⟩
 rintro r rfl
 refine .inr ⟨_,rfl,?_⟩
 conv=>whnf
 refine⟨_,dC _ h.2,?_⟩
 rintro r rfl
 refine .inr ⟨_,rfl,?_⟩
 conv=>whnf
 refine .inr (.inr ⟨ownPc x,_,(weak_sw 6 900).trans (weak_sw 10 901),rfl,?_,bI ⟨rfl,rfl,trivial⟩,rfl⟩)
 intro v hv
 simp only[ownPc,List.mem_cons,List.not_mem_nil,or_false] at hv
 rcases hv with rfl|rfl <;> trivial
theorem eqPct_ok (x:PctL) (h:x.fit):CallsTo EE 37 [agg (encPct x),agg (encPct x)] (·=bv true):=by
 refine callsTo_of_AW (fn:=Tryz.f37) Tryz.func37 rfl (by kernel_rfl) rfl ?_
 conv=>whnf
 refine⟨_,dU _ h.1,?_⟩
 rintro r rfl
 conv=>whnf
 refine⟨_,dU _ h.2,?_⟩
 rintro r rfl
 conv=>whnf
theorem tX (x:PctL) (k:Int) (h:x.fit) (h0:0≤k) (h1:k≤16777216) (H0:Key→Option Ob) (hR:H0 (.n 900)=some (.ds 3 1 (x.ranks.map encInt))) (hC:H0 (.n 901)=some (.ds 3 1 (x.changes.map encInt))) :
  IOCall EE 38 [.agg [.ref (.n 900) 0 x.ranks.length,.ref (.n 901) 0 x.changes.length],i64 k] H0 (fun r H1=>(∃ n:Int,r=i64 n∧0≤n∧n≤268435456)∧∀ κ,H1 κ=none):=by
 have hl1:=h.1
 have hl2:=h.2
 refine xS (fn:=Tryz.f38) (c:=Tryz.f38.body.getD .skip) Tryz.func38 rfl (by kernel_rfl) rfl ?_
 have hat:At [(0,.agg [.ref (.n 900) 0 x.ranks.length,.ref (.n 901) 0 x.changes.length]),(1,i64 k)] [(.n 900,.ds 3 1 (x.ranks.map encInt)),(.n 901,.ds 3 1 (x.changes.map encInt))] [] ⟨fun i=>[AV.agg [.ref (.n 900) 0 x.ranks.length,.ref (.n 901) 0 x.changes.length],i64 k].getD i .junk,H0⟩:=⟨⟨rfl,rfl,trivial⟩,⟨hR,hC,trivial⟩,trivial⟩
 obtain⟨τ,H,hf⟩:=hat.form
 rw[hf]
 conv=>whnf
 refine .inr (.inl ⟨900,77,isK (.l 77),_,io_congr (kS (.l 77) (.inr rfl) x.ranks k hl1 h0 (by omega) _ rfl) rfl,rfl,?_⟩)
 rintro r H3 ⟨rfl,e1,q3⟩
 refine⟨q3,fun n hn=>⟨.ds 3 1 (x.ranks.map encInt),?_,(uU k x.ranks.length).map encInt,?_,by simp[wT]⟩,?_⟩
 ·have:n=77:=Nat.eq_of_beq_eq_true hn
  subst this;rfl
 ·have:n=77:=Nat.eq_of_beq_eq_true hn
  subst this;exact e1
 conv=>whnf
 refine .inr (.inl ⟨901,77,isK (.l 77),_,io_congr (kS (.l 77) (.inr rfl) x.changes (k+(x.ranks.length:Nat)) hl2 (by omega) (by omega) _ rfl) rfl,rfl,?_⟩)
 rintro r H4 ⟨rfl,e2,q4⟩
 refine⟨q4,fun n hn=>⟨.ds 3 1 (x.changes.map encInt),?_,(uU (k+(x.ranks.length:Nat)) x.changes.length).map encInt,?_,by simp[wT]⟩,?_⟩
 ·have:n=77:=Nat.eq_of_beq_eq_true hn
  subst this;rfl
 ·have:n=77:=Nat.eq_of_beq_eq_true hn
  subst this;exact e2
 conv=>whnf
 refine⟨_,Weak.refl,?_⟩
 conv=>whnf
 exact⟨fun _=>false,⟨_,rfl,by omega,by omega⟩,fun κ=>rfl⟩
end Ai
namespace Ai
set_option maxRecDepth 100000
open Go Go.Proofs Cyc
def run0:RunT:=⟨0,[],[],⟨[],[],[],0⟩⟩
open Classical in
/-- the answer of RunPct -/
noncomputable def kA (p:ProgL) (pc:PctL) (b:Int):RunT × Bool:=if p.goodS∧pc.goodS∧InR b 0 200 then (iC p pc b,true) else (run0,false)
theorem PctS_ok (p:ProgL) (hp:p.wf) (hs:p.rs.length≤1048576∧∀ x∈p.rs,x.length≤1048576) (hv:p.flt) (pc:PctL) (hpc:pc.fit) (b:Int) :
  CallsTo EE 34 [agg (encProg p),agg (encPct pc),i64 b] (·=.tup [agg (xX (kA p pc b).1),bv (kA p pc b).2]):=by
 unfold kA
 refine callsTo_of_AW (fn:=Tryz.f34) Tryz.func34 rfl (by kernel_rfl) rfl ?_
 conv=>whnf
 refine ocase (d4 p hs hv) (fun hg=>?_) (fun hg=>?_)
 rotate_left 1
 ·rw[if_neg fun e=>hg e.1]
  conv=>whnf
  rfl
 conv=>whnf
 refine ocase (GoodPctS_ok pc hpc) (fun h1=>?_) (fun h1=>?_)
 rotate_left 1
 ·rw[if_neg fun e=>h1 e.2.1]
  conv=>whnf
  rfl
 conv=>whnf
 refine ocase (qW b 0 200) (fun h2=>?_) (fun h2=>?_)
 rotate_left 1
 ·rw[if_neg fun e=>h2 e.2.2]
  conv=>whnf
  rfl
 rw[if_pos ⟨hg,h1,h2⟩]
 conv=>whnf
 refine⟨_,l5Run_of p hp hg pc h1.1 (by have:=h1.2.2.2.1;omega) b ⟨h2.1,by have:=h2.2;omega⟩,?_⟩
 rintro r rfl
 conv=>whnf
 rfl
theorem rise_nodup {xs:List Int} {lo hi:Int} (h:Rise xs lo hi):xs.Nodup:=by
 rw[List.nodup_iff_pairwise_ne,List.pairwise_iff_getElem]
 have key:∀ (n i:Nat) (hi:i<xs.length) (hj:i+n+1<xs.length),xs[i]<xs[i+n+1]:=by
  intro n
  induction n with
  |zero=>intro i hi hj;exact(h (i+1) hj).2 i rfl
  |succ n ih =>
   intro i hi hj
   have h8:=ih i hi (by omega)
   have h9:=(h (i+(n+1)+1) hj).2 (i+n+1) (by omega)
   omega
 intro i j hi hj hij he
 have h10:=key (j - i - 1) i hi (by omega)
 have e:i+(j - i - 1)+1=j:=by omega
 simp only[e] at h10
 omega
theorem b7 (p:ProgL) (hp:p.wf) (hs:p.rs.length≤1048576∧∀ x∈p.rs,x.length≤1048576) (hv:p.flt) (pc:PctL) (hpc:pc.fit) (b:Int) :
  CallsTo EE 36 [agg (encProg p),agg (encPct pc),i64 b] (fun r=>(∃ x,kA p pc b=(x,true)∧r=.ownF 8 (wX x++[bv true]))∨(kA p pc b=(run0,false)∧r=.tup [agg (xX run0),bv false])):=by
 classical
 have hno:∀ e:¬ (p.goodS∧pc.goodS∧InR b 0 200),kA p pc b=(run0,false):=fun e=>if_neg e
 refine callsTo_of_AW (fn:=Tryz.f36) Tryz.func36 rfl (by kernel_rfl) rfl ?_
 conv=>whnf
 refine ocase (d5 p hs) (fun hg=>?_) (fun hg=>?_)
 rotate_left 1
 ·conv=>whnf
  exact .inr ⟨hno fun e=>hg ((iA p).1 e.1),rfl⟩
 have hg:p.goodS:=(iA p).2 hg
 conv=>whnf
 refine ocase (GoodPctI_ok pc hpc) (fun h1=>?_) (fun h1=>?_)
 rotate_left 1
 ·conv=>whnf
  exact .inr ⟨hno fun e=>h1 ((n7 pc).1 e.2.1),rfl⟩
 have h1:pc.goodS:=(n7 pc).2 h1
 conv=>whnf
 refine ocase (in_ok b 0 200) (fun h2=>?_) (fun h2=>?_)
 rotate_left 1
 ·conv=>whnf
  exact .inr ⟨hno fun e=>h2 e.2.2,rfl⟩
 have hyes:kA p pc b=((jJ p pc.changes b (b.toNat+1) pc.ranks (xR p) [] []).1,true):=by
  rw[runQ_P p pc.changes b (rise_nodup h1.2.2.2.2)]
  exact if_pos ⟨hg,h1,h2⟩
 conv=>whnf
 refine⟨_,runPct_own p hp hg hv b ⟨h2.1,by have:=h2.2;omega⟩ pc h1.1 (by have:=h1.2.2.2.1;omega),?_⟩
 generalize (jJ p pc.changes b (b.toNat+1) pc.ranks (xR p) [] []).1=x at hyes
 rintro r rfl
 conv=>whnf
 refine .inr ⟨8,wX x++[bv true],_,[.agg (refRn x),bv true],Weak.refl,?_,by simp,?_,?_,bI ⟨trivial,?_,?_,⟨?_,fun j q hq=>?_⟩,?_,?_,trivial,trivial,trivial⟩,.inl ⟨x,hyes,rfl⟩⟩
 ·show some [AV.agg [i64 x.c,.ref (.n 901) 0 (x.tr.map encEv).length,.ref (.n 902) 0 (x.tk.map encInt).length,.dref (.n 903) (x.s.ths.map vV).length,.ref (.n 904) 0 (x.s.cells.map encF).length,.ref (.n 905) 0 (x.s.owner.map encInt).length,i64 x.s.fault],bv true]=_
  simp only[List.length_map]
  rfl
 ·show AV.tup [AV.agg [i64 x.c,.ref (.n 901) 0 (x.tr.map encEv).length,.ref (.n 902) 0 (x.tk.map encInt).length,.dref (.n 903) (x.s.ths.map vV).length,.ref (.n 904) 0 (x.s.cells.map encF).length,.ref (.n 905) 0 (x.s.owner.map encInt).length,i64 x.s.fault],bv true]=_
  simp only[List.length_map]
  rfl
 ·intro v hv
  simp only[wX,List.mem_append,List.mem_cons,List.not_mem_nil,or_false] at hv
  rcases hv with (rfl|rfl|rfl|rfl|rfl|rfl|rfl)|rfl
  all_goals first|trivial|(show(x.s.ths.map vV).length=(x.s.ths.map stk).length;simp)
 ·rfl
 ·rfl
 ·show some (Ob.rs 175 6 (thRows 903 x.s.ths))=some (Ob.rs 175 6 (thRows 903 x.s.ths))
  rfl
 ·have hq:(x.s.ths.map stk)[j]?=some q:=hq
  have e:ownH (wX x) (.s 903 j)=some (.ds 132 1 q):=by
   show((x.s.ths.map stk)[j]?).map (Ob.ds 132 1)=_
   rw[hq];rfl
  show(match ownH (wX x) (.s 903 j) with|some ob=>some ob|none=>_)=_
  rw[e]
 ·rfl
 ·rfl
end Ai
namespace Ai
set_option maxRecDepth 100000
open Go Go.Proofs
theorem near_ne (n:Int):fcmp .neq (FloatKind.f64.nearest n) (FloatKind.f64.nearest n)=false:=by
 rw[sS,eql_refl (x:=FloatKind.f64.nearest n) (kX (.number (n<0) n.natAbs 0) rfl)];rfl
theorem setEl_m {els:List (List D)} {k off:Nat} {x:D}:xF els 5 k off [x]=els.modify k fun c=>yD c off [x]:=by
 unfold xF
 rw[show Nat.beq ([x]:List D).length 5=false from rfl,Bool.and_false]
 rfl
theorem set5 {E:List (List D)} {i:Nat} {v0 v1 v2 v3 v4:D} (h:i<E.length) (h5:∀ c∈E,c.length=5) :
  xF (xF (xF (xF (xF E 5 (0+(i:Int).toNat) (0+0) [v0]) 5 (0+(i:Int).toNat) (0+1) [v1]) 5 (0+(i:Int).toNat) (0+2) [v2]) 5 (0+(i:Int).toNat) (0+3) [v3]) 5 (0+(i:Int).toNat) (0+4) [v4]=E.set i [v0,v1,v2,v3,v4]:=by
 rw[Int.toNat_natCast,Nat.zero_add]
 simp only[setEl_m]
 apply List.ext_getElem?
 intro j
 simp only[List.getElem?_modify,List.getElem?_set]
 by_cases hj:i=j
 ·subst hj
  have hl:=h5 _ (List.getElem_mem h)
  rw[List.getElem?_eq_getElem h]
  generalize E[i]=c at hl
  match c,hl with
  | [a0,a1,a2,a3,a4],_=>simp[h];rfl
 ·simp[hj]
end Ai
namespace Ai
set_option maxRecDepth 100000
open Go Go.Proofs
def uV (k:Int) (j:Nat):Ev:=⟨k+5*(j:Int),k+5*(j:Int)+1,k+5*(j:Int)+2,k+5*(j:Int)+3,k+5*(j:Int)+4⟩
def vU (k:Int) (n:Nat):List Ev:=(List.range n).map (uV k)
def wH (k:Int) (n:Nat):List Nat:=(List.range n).map fun (j:Nat)=>FloatKind.f64.nearest (k+(j:Int))
theorem fC (k:Int) (n:Nat):(vU k n).length=n:=by simp[vU]
theorem uC (k:Int) (n:Nat):(wH k n).length=n:=by simp[wH]
theorem setEl_1 {els:List (List D)} {k:Nat} {x:D}:xF els 1 k 0 [x]=els.set k [x]:=by
 unfold xF
 rw[show Nat.beq ([x]:List D).length 1=true from rfl,show Nat.beq 0 0=true from rfl]
 rfl
def fB {α:Type} (enc:α→List D) (ms:Nat→List α) (els:List (List D)) (n:Nat):List (List D):=(ms n).map enc++els.drop n
theorem iL {α:Type} {enc:α→List D} {f:Nat→α} {els:List (List D)} {n:Nat} (h:n<els.length):(fB enc (fun n=>(List.range n).map f) els n).set n (enc (f n))=fB enc (fun n=>(List.range n).map f) els (n+1):=by
 unfold fB
 rw[List.drop_eq_getElem_cons h,List.set_append_right _ _ (by simp),List.length_map,List.length_map,List.length_range,Nat.sub_self,List.set_cons_zero]
 show((List.range n).map f).map enc++enc (f n)::_=((List.range (n+1)).map f).map enc++_
 rw[List.range_succ,List.map_append,List.map_append]
 simp
theorem mkTo_len {α:Type} {enc:α→List D} {f:Nat→α} {els:List (List D)} {n:Nat} (h:n≤els.length):(fB enc (fun n=>(List.range n).map f) els n).length=els.length:=by simp[fB];omega
theorem mkTo_k {α:Type} {enc:α→List D} {ms:Nat→List α} {els:List (List D)} {n z:Nat} (h5:∀ c∈els,c.length=z) (he:∀ x,(enc x).length=z):∀ c∈fB enc ms els n,c.length=z:=by
 intro c hc
 rcases List.mem_append.1 hc with h|h
 ·obtain⟨j,_,rfl⟩:=List.mem_map.1 h;exact he j
 ·exact h5 c (List.mem_of_mem_drop h)
def bK (k:Int) (xs:List Th) (j:Nat):Th:=⟨k+(yC xs j:Int),k+(yC xs j:Int)+1,k+(yC xs j:Int)+2,k+(yC xs j:Int)+3,k+(yC xs j:Int)+4,wH (k+(yC xs j:Int)+5) (xs.getD j th0).stack.length⟩
def wO (k:Int) (xs:List Th):List Th:=(List.range xs.length).map (bK k xs)
theorem aU (els:List (List D)) (n:Nat) (k:Int) (hn:n=els.length) (h5:∀ c∈els,c.length=5) (hx:n≤1048576) (h0:0≤k) (h1:k≤1073741824) (H0:Key→Option Ob) (hH:H0 (.l 77)=some (.ds 128 5 els)) :
  IOCall EE 81 [.ref (.l 77) 0 n,i64 k] H0 (fun r H1=>r=i64 (k+5*(n:Int))∧H1 (.l 77)=some (.ds 128 5 ((vU k n).map encEv))∧∀ κ',isK (.l 77) κ'=false→H1 κ'=none):=by
 refine xS (fn:=Tryz.f81) (c:=Tryz.f81.body.getD .skip) Tryz.func81 rfl (by kernel_rfl) rfl ?_
 have hat:At [(0,.ref (.l 77) 0 n),(1,i64 k)] [(.l 77,.ds 128 5 els)] [] ⟨fun i=>[AV.ref (.l 77) 0 n,i64 k].getD i .junk,H0⟩:=⟨⟨rfl,rfl,trivial⟩,⟨hH,trivial⟩,trivial⟩
 obtain⟨τ,H,hf⟩:=hat.form
 rw[hf]
 conv=>whnf
 refine yU (fun i:Nat=>[(0,.ref (.l 77) 0 n),(1,i64 (k+5*(i:Int))),(5,i64 i)]) (fun i=>[(.l 77,.ds 128 5 (fB encEv (vU k) els i))]) (fun i=>n - i) (fun i=>i≤n) 0
  Weak.refl ⟨rfl,?_,rfl,trivial⟩ ⟨rfl,trivial⟩ (Nat.zero_le _) ?_
 ·show i64 k=i64 (k+5*((0:Nat):Int))
  rw[show k+5*((0:Nat):Int)=k by omega]
 intro i τ H hi
 have hi:i≤n:=hi
 conv=>whnf
 refine kbi (fun h=>?_) (fun h=>?_)
 ·have hlt:i<n:=by simpa using h
  have w1:IntKind.i64.wrap (k+5*(i:Int)+1)=k+5*(i:Int)+1:=zF (by omega) (by omega)
  have w2:IntKind.i64.wrap (k+5*(i:Int)+1+1)=k+5*(i:Int)+2:=by rw[zF (by omega) (by omega)];omega
  have w3:IntKind.i64.wrap (k+5*(i:Int)+2+1)=k+5*(i:Int)+3:=by rw[zF (by omega) (by omega)];omega
  have w4:IntKind.i64.wrap (k+5*(i:Int)+3+1)=k+5*(i:Int)+4:=by rw[zF (by omega) (by omega)];omega
  have w5:IntKind.i64.wrap (k+5*(i:Int)+4+1)=k+5*(i:Int)+5:=by rw[zF (by omega) (by omega)];omega
  have hE:(fB encEv (vU k) els i).length=els.length:=mkTo_len (by omega)
  have hset:=set5 (E:=fB encEv (vU k) els i) (i:=i) (v0:=di (k+5*(i:Int))) (v1:=di (k+5*(i:Int)+1)) (v2:=di (k+5*(i:Int)+2)) (v3:=di (k+5*(i:Int)+3)) (v4:=di (k+5*(i:Int)+4)) (by omega) (mkTo_k h5 fun _=>rfl)
  have hs2:(fB encEv (vU k) els i).set i (encEv (uV k i))=fB encEv (vU k) els (i+1):=iL (by omega)
  rw[show[di (k+5*(i:Int)),di (k+5*(i:Int)+1),di (k+5*(i:Int)+2),di (k+5*(i:Int)+3),di (k+5*(i:Int)+4)]=encEv (uV k i) from rfl,hs2] at hset
  conv=>whnf
  iterate 5
   refine⟨⟨by show 0≤(i:Int);omega,by show(i:Int)<n;omega⟩,?_⟩
   conv=>whnf
  rw[w1,w2,w3,w4,w5]
  refine⟨i+1,by show i+1≤n;omega,by show n - (i+1)<n - i;omega,⟨rfl,?_,?_,trivial⟩,⟨?_,trivial⟩⟩
  ·show i64 (k+5*(i:Int)+5)=i64 (k+5*((i+1:Nat):Int))
   exact congrArg i64 (by omega)
  ·show AV.d (.int .i64 (IntKind.i64.wrap ((i:Int)+1)))=i64 ((i+1:Nat):Int)
   rw[zF (by omega) (by omega)]
   rfl
  ·exact congrArg (fun x=>some (Ob.ds 128 5 x)) hset
 ·conv=>whnf
  have hkk:i=n:=by
   have:¬ i<n:=by simpa using h
   omega
  subst hkk
  refine⟨_,Weak.refl,?_⟩
  conv=>whnf
  refine⟨isK (.l 77),rfl,?_,fun κ hκ=>?_⟩
  ·show some (Ob.ds 128 5 (fB encEv (vU k) els i))=_
   unfold fB
   rw[hn,List.drop_length,List.append_nil]
  ·unfold lendH
   rw[hκ];rfl
theorem lD (els:List (List D)) (n:Nat) (k:Int) (hn:n=els.length) (hx:n≤1048576) (h0:0≤k) (h1:k≤1073741824) (H0:Key→Option Ob) (hH:H0 (.l 77)=some (.ds 132 1 els)) :
  IOCall EE 106 [.ref (.l 77) 0 n,i64 k] H0 (fun r H1=>r=i64 (k+(n:Int))∧H1 (.l 77)=some (.ds 132 1 ((wH k n).map encF))∧∀ κ',isK (.l 77) κ'=false→H1 κ'=none):=by
 refine xS (fn:=Tryz.f106) (c:=Tryz.f106.body.getD .skip) Tryz.func106 rfl (by kernel_rfl) rfl ?_
 have hat:At [(0,.ref (.l 77) 0 n),(1,i64 k)] [(.l 77,.ds 132 1 els)] [] ⟨fun i=>[AV.ref (.l 77) 0 n,i64 k].getD i .junk,H0⟩:=⟨⟨rfl,rfl,trivial⟩,⟨hH,trivial⟩,trivial⟩
 obtain⟨τ,H,hf⟩:=hat.form
 rw[hf]
 conv=>whnf
 refine yU (fun i:Nat=>[(0,.ref (.l 77) 0 n),(1,i64 (k+(i:Int))),(5,i64 i)]) (fun i=>[(.l 77,.ds 132 1 (fB encF (wH k) els i))]) (fun i=>n - i) (fun i=>i≤n) 0
  Weak.refl ⟨rfl,?_,rfl,trivial⟩ ⟨rfl,trivial⟩ (Nat.zero_le _) ?_
 ·show i64 k=i64 (k+((0:Nat):Int))
  rw[show k+((0:Nat):Int)=k by omega]
 intro i τ H hi
 have hi:i≤n:=hi
 conv=>whnf
 refine kbi (fun h=>?_) (fun h=>?_)
 ·have hlt:i<n:=by simpa using h
  have hs2:(fB encF (wH k) els i).set i (encF (FloatKind.f64.nearest (k+(i:Int))))=fB encF (wH k) els (i+1):=iL (f:=fun (j:Nat)=>FloatKind.f64.nearest (k+(j:Int))) (by omega)
  conv=>whnf
  refine⟨⟨by show 0≤(i:Int);omega,by show(i:Int)<n;omega⟩,?_⟩
  conv=>whnf
  refine⟨i+1,by show i+1≤n;omega,by show n - (i+1)<n - i;omega,⟨rfl,?_,?_,trivial⟩,⟨?_,trivial⟩⟩
  ·show AV.d (.int .i64 (IntKind.i64.wrap (k+(i:Int)+1)))=i64 (k+((i+1:Nat):Int))
   rw[zF (by omega) (by omega)]
   exact congrArg i64 (by omega)
  ·show AV.d (.int .i64 (IntKind.i64.wrap ((i:Int)+1)))=i64 ((i+1:Nat):Int)
   rw[zF (by omega) (by omega)]
   rfl
  ·show some (Ob.ds 132 1 (xF (fB encF (wH k) els i) 1 (0+(i:Int).toNat) 0 [.flt (FloatKind.f64.nearest (k+(i:Int)))]))=_
   rw[setEl_1,Int.toNat_natCast,Nat.zero_add]
   exact congrArg (fun x=>some (Ob.ds 132 1 x)) hs2
 ·conv=>whnf
  have hkk:i=n:=by
   have:¬ i<n:=by simpa using h
   omega
  subst hkk
  refine⟨_,Weak.refl,?_⟩
  conv=>whnf
  refine⟨isK (.l 77),rfl,?_,fun κ hκ=>?_⟩
  ·show some (Ob.ds 132 1 (fB encF (wH k) els i))=_
   unfold fB
   rw[hn,List.drop_length,List.append_nil]
  ·unfold lendH
   rw[hκ];rfl
end Ai
namespace Ai
set_option maxRecDepth 100000
open Go Go.Proofs
def jL (k:Int) (xs:List Th) (i:Nat):List Th:=(List.range i).map (bK k xs)++xs.drop i
theorem dP {k:Int} {xs:List Th} {i j:Nat} (h:j<i):(jL k xs i)[j]?=some (bK k xs j):=by
 unfold jL
 rw[List.getElem?_append_left (by simpa using h)]
 simp[h]
theorem mU {k:Int} {xs:List Th} {i j:Nat} (h:i≤j):(jL k xs i)[j]?=xs[j]?:=by
 unfold jL
 rw[List.getElem?_append_right (by simpa using h),List.length_map,List.length_range,List.getElem?_drop]
 congr 1;omega
theorem mixT_end {k:Int} {xs:List Th}:jL k xs xs.length=wO k xs:=by simp[jL,wO]
theorem nT {o:Nat} {l:List Th} {j:Nat}:(thRows o l)[j]?=(l[j]?).map (thRow o j):=nS o l j
def e6:Key→Bool
 | .l k=>Nat.beq k 76
 | .s o _=>Nat.beq o 903
 | .n _=>false
theorem pin_s {i:Nat}:∀ n,isK (.l 77) (swp (.s 903 i) (.l 77) (.l n))=true→∃ n',swp (.s 903 i) (.l 77) (.l n)=.l n':=by
 intro n hn
 unfold swp at hn ⊢
 have e0:Key.beq (.l n) (.s 903 i)=false:=rfl
 rw[e0] at hn ⊢
 simp only[cond_false] at hn ⊢
 cases hb:Key.beq (.l n) (.l 77) with
 |true=>rw[hb] at hn;cases hn
 |false=>exact⟨n,rfl⟩
theorem tW (xs:List Th) (k:Int) (hx:xs.length≤1048576) (hs:∀ t∈xs,t.stack.length≤1048576) (ht:yC xs xs.length≤8388608) (h0:0≤k) (h1:k≤67108864) (H0:Key→Option Ob)
  (hH:H0 (.l 76)=some (.rs 175 6 (thRows 903 xs))) (hF:∀ j,H0 (.s 903 j)=zE xs j) :
  IOCall EE 105 [.dref (.l 76) xs.length,i64 k] H0 (fun r H1=>r=i64 (k+yC xs xs.length)∧H1 (.l 76)=some (.rs 175 6 (thRows 903 (wO k xs)))∧(∀ j,H1 (.s 903 j)=zE (wO k xs) j)∧∀ κ,e6 κ=false→H1 κ=none):=by
 refine xS (fn:=Tryz.f105) (c:=Tryz.f105.body.getD .skip) Tryz.func105 rfl (by kernel_rfl) rfl ?_
 have hat:At [(0,.dref (.l 76) xs.length),(1,i64 k)] [(.l 76,.rs 175 6 (thRows 903 xs))] [(903,zE xs)] ⟨fun i=>[AV.dref (.l 76) xs.length,i64 k].getD i .junk,H0⟩:=⟨⟨rfl,rfl,trivial⟩,⟨hH,trivial⟩,⟨fun j=>(hF j).trans rfl,trivial⟩⟩
 obtain⟨τ,H,hf⟩:=hat.form
 rw[hf]
 conv=>whnf
 refine mB (fun i:Nat=>[(0,.dref (.l 76) xs.length),(1,i64 (k+(yC xs i:Int))),(5,i64 i)]) (fun i=>[(.l 76,.rs 175 6 (thRows 903 (jL k xs i)))]) (fun i=>[(903,zE (jL k xs i))]) (fun i=>xs.length - i) (fun i=>i≤xs.length) 0
  Weak.refl ⟨rfl,?_,rfl,trivial⟩ ⟨?_,trivial⟩ ⟨fun j=>?_,trivial⟩ (Nat.zero_le _) ?_
 ·show i64 k=i64 (k+((yC xs 0:Nat):Int))
  rw[show k+((yC xs 0:Nat):Int)=k by simp[yC]]
 ·rfl
 ·rfl
 intro i τ H hi
 have hi:i≤xs.length:=hi
 have hti:=sM xs i
 conv=>whnf
 refine kbi (fun h=>?_) (fun h=>?_)
 ·have hlt:i<xs.length:=by simpa using h
  have hgi:(jL k xs i)[i]?=some xs[i]:=by rw[mU (Nat.le_refl _),List.getElem?_eq_getElem hlt]
  have hrow:(thRows 903 (jL k xs i))[i]?=some (thRow 903 i xs[i]):=by rw[nT,hgi];rfl
  have hfi:zE (jL k xs i) i=some (.ds 132 1 (stk xs[i])):=by unfold zE;rw[hgi];rfl
  have w1:IntKind.i64.wrap (k+(yC xs i:Int)+1)=k+(yC xs i:Int)+1:=zF (by omega) (by omega)
  have w2:IntKind.i64.wrap (k+(yC xs i:Int)+1+1)=k+(yC xs i:Int)+2:=by rw[zF (by omega) (by omega)];omega
  have w3:IntKind.i64.wrap (k+(yC xs i:Int)+2+1)=k+(yC xs i:Int)+3:=by rw[zF (by omega) (by omega)];omega
  have w4:IntKind.i64.wrap (k+(yC xs i:Int)+3+1)=k+(yC xs i:Int)+4:=by rw[zF (by omega) (by omega)];omega
  have w5:IntKind.i64.wrap (k+(yC xs i:Int)+4+1)=k+(yC xs i:Int)+5:=by rw[zF (by omega) (by omega)];omega
  conv=>whnf
  iterate 5
   refine⟨⟨by omega,by omega⟩,?_⟩
   conv=>whnf
  refine⟨⟨by omega,by omega⟩,?_⟩
  conv=>whnf
  have hget:(y1 (thRows 903 (jL k xs i)) i (i64 (k+(yC xs i:Int))) (i64 (k+(yC xs i:Int)+1)) (i64 (k+(yC xs i:Int)+2)) (i64 (k+(yC xs i:Int)+3)) (i64 (k+(yC xs i:Int)+4)))[i]?=some [i64 (k+(yC xs i:Int)),i64 (k+(yC xs i:Int)+1),i64 (k+(yC xs i:Int)+2),i64 (k+(yC xs i:Int)+3),i64 (k+(yC xs i:Int)+4),.ref (.s 903 i) 0 xs[i].stack.length] :=
   put5_eq hrow
  rw[w1,w2,w3,w4,w5]
  refine⟨[i64 (k+(yC xs i:Int)),i64 (k+(yC xs i:Int)+1),i64 (k+(yC xs i:Int)+2),i64 (k+(yC xs i:Int)+3),i64 (k+(yC xs i:Int)+4),.ref (.s 903 i) 0 xs[i].stack.length],⟨?_,by show 0+5+1≤6;omega⟩,?_⟩
  ·rw[← hget,Int.toNat_natCast];rfl
  conv=>whnf
  have hsw:swp (.s 903 i) (.l 77) (.s 903 i)=.l 77:=by simp[swp,Key.beq]
  have hswl:swp (.s 903 i) (.l 77) (.l 77)=.s 903 i:=by simp[swp,Key.beq]
  have hne:∀ j,j≠i→swp (.s 903 i) (.l 77) (.s 903 j)=.s 903 j:=fun j hj=>by simp[swp,Key.beq,nbeq_ne hj]
  have hts:=nR hlt
  have hti2:=sM xs (i+1)
  have hst:=hs _ (List.getElem_mem hlt)
  have hmk:bK k xs i=⟨k+(yC xs i:Int),k+(yC xs i:Int)+1,k+(yC xs i:Int)+2,k+(yC xs i:Int)+3,k+(yC xs i:Int)+4,wH (k+(yC xs i:Int)+5) xs[i].stack.length⟩:=by
   unfold bK;simp[List.getD_eq_getElem?_getD,hlt]
  split
  case' h_1=>conv=>whnf
  case' h_1=>refine .inr (.inr (.inr (.inr (.inr ?_))))
  case' h_2=>refine .inr (.inr (.inr (.inr ?_)))
  all_goals
   refine⟨_,106,[],swp (.s 903 i) (.l 77),Weak.refl,rfl,wS _ _,isK (.l 77),_,io_congr (lD (stk xs[i]) xs[i].stack.length (k+(yC xs i:Int)+5) (by simp[stk]) hst (by omega) (by omega) _ ?_) ?_,pin_s,?_⟩
   ·show Option.map _ (Option.map _ (zE (jL k xs i) i))=_
    rw[hfi]
    rfl
   ·show[scrP _ (.ref (swp (.s 903 i) (.l 77) (.s 903 i)) 0 xs[i].stack.length),_]=_
    rw[hsw]
    rfl
   ·rintro r H1 ⟨rfl,e1,q2⟩
    refine⟨q2,fun n hn=>⟨.ds 132 1 (stk xs[i]),?_,(wH (k+(yC xs i:Int)+5) xs[i].stack.length).map encF,?_,by simp[uC,stk]⟩,?_⟩
    ·have:n=77:=Nat.eq_of_beq_eq_true hn
     subst this
     show Option.map _ (zE (jL k xs i) i)=_
     rw[hfi];rfl
    ·have:n=77:=Nat.eq_of_beq_eq_true hn
     subst this;exact e1
    conv=>whnf
    refine⟨i+1,_,Weak.refl,by show i+1≤xs.length;omega,by show xs.length - (i+1)<xs.length - i;omega,⟨rfl,?_,?_,trivial⟩,⟨?_,trivial⟩,⟨fun j=>?_,trivial⟩⟩
    ·show i64 (k+((yC xs i:Nat):Int)+5+((xs[i].stack.length:Nat):Int))=i64 (k+((yC xs (i+1):Nat):Int))
     rw[hts]
     exact congrArg i64 (by omega)
    ·show AV.d (.int .i64 (IntKind.i64.wrap ((i:Int)+1)))=i64 ((i+1:Nat):Int)
     rw[zF (by omega) (by omega)]
     rfl
    ·show some (Ob.rs 175 6 ((((y1 (thRows 903 (jL k xs i)) i (i64 (k+(yC xs i:Int))) (i64 (k+(yC xs i:Int)+1)) (i64 (k+(yC xs i:Int)+2)) (i64 (k+(yC xs i:Int)+3)) (i64 (k+(yC xs i:Int)+4))).map (renL (swp (.s 903 i) (.l 77)))).map (scrPL (xG (isK (.l 77))))).map (renL (swp (.s 903 i) (.l 77)))))=some (Ob.rs 175 6 (thRows 903 (jL k xs (i+1))))
     rw[List.map_map,List.map_map]
     refine congrArg (fun x=>some (Ob.rs 175 6 x)) (List.ext_getElem? fun j=>?_)
     rw[List.getElem?_map,nT]
     by_cases hj:j=i
     ·subst hj
      rw[hget,dP (by omega),hmk]
      show some (renL _ (scrPL _ [_,_,_,_,_,AV.ref (swp (.s 903 j) (.l 77) (.s 903 j)) 0 _]))=_
      rw[hsw]
      show some [_,_,_,_,_,AV.ref (swp (.s 903 j) (.l 77) (.l 77)) 0 _]=some [_,_,_,_,_,AV.ref (.s 903 j) 0 (wH _ xs[j].stack.length).length]
      rw[hswl,uC]
      rfl
     ·have hmx:(jL k xs (i+1))[j]?=(jL k xs i)[j]?:=by
       rcases Nat.lt_or_ge j i with h1|h1
       ·rw[dP (by omega),dP h1]
       ·rw[mU (by omega),mU h1]
      rw[hmx]
      cases hq:(jL k xs i)[j]? with
      |none =>
       have:(y1 (thRows 903 (jL k xs i)) i (i64 (k+(yC xs i:Int))) (i64 (k+(yC xs i:Int)+1)) (i64 (k+(yC xs i:Int)+2)) (i64 (k+(yC xs i:Int)+3)) (i64 (k+(yC xs i:Int)+4)))[j]?=none:=by
        rw[List.getElem?_eq_none_iff] at hq ⊢
        rw[put5_len,zP];exact hq
       rw[this];rfl
      |some t =>
       rw[put5_ne hj (show(thRows 903 (jL k xs i))[j]?=some (thRow 903 j t) by rw[nT,hq];rfl)]
       show some (renL _ (scrPL _ [_,_,_,_,_,AV.ref (swp (.s 903 i) (.l 77) (.s 903 j)) 0 _]))=_
       rw[hne j hj]
       show some [_,_,_,_,_,AV.ref (swp (.s 903 i) (.l 77) (.s 903 j)) 0 _]=_
       rw[hne j hj]
       rfl
    ·by_cases hj:j=i
     ·subst hj
      have hm2:zE (jL k xs (j+1)) j=some (.ds 132 1 ((wH (k+(yC xs j:Int)+5) xs[j].stack.length).map encF)):=by
       unfold zE;rw[dP (by omega),hmk];rfl
      show Option.map _ (St.H _ (swp (.s 903 j) (.l 77) (.s 903 j)))=_
      rw[hsw,hm2]
      show Option.map _ (H1 (.l 77))=_
      rw[e1];rfl
     ·have hmx:zE (jL k xs (i+1)) j=zE (jL k xs i) j:=by
       unfold zE
       rcases Nat.lt_or_ge j i with h1|h1
       ·rw[dP (by omega),dP h1]
       ·rw[mU (by omega),mU h1]
      show Option.map _ (St.H _ (swp (.s 903 i) (.l 77) (.s 903 j)))=_
      rw[hne j hj,hmx]
      show Option.map _ (Option.map _ (Option.map _ (St.H _ (swp (.s 903 i) (.l 77) (.s 903 j)))))=_
      rw[hne j hj]
      show Option.map _ (Option.map _ (Option.map _ (zE (jL k xs i) j)))=_
      rw[thFam_ren,zQ,thFam_ren]
 ·conv=>whnf
  have hkk:i=xs.length:=by
   have:¬ i<xs.length:=by simpa using h
   omega
  subst hkk
  rw[mixT_end]
  refine⟨_,Weak.refl,?_⟩
  conv=>whnf
  refine⟨e6,rfl,?_,fun j=>?_,fun κ hκ=>?_⟩
  ·show some (Ob.rs 175 6 ((thRows 903 (wO k xs)).map (scrPL (fun o=>!e6 o))))=_
   rw[yE (fun j=>rfl)]
  ·show Option.map _ (zE (wO k xs) j)=_
   exact zQ _ _ _
  ·exact lendH_f hκ
end Ai
namespace Ai
set_option maxRecDepth 100000
open Go Go.Proofs
theorem aX (k:Int) (n:Nat) (hx:n≤1048576) (h0:0≤k) (h1:k≤1073741824):CallsTo EE 88 [sl ((vU k n).map encEv),i64 k] (·=i64 (k+5*(n:Int))):=by
 have hml:=fC k n
 refine callsTo_of_AW (fn:=Tryz.f88) Tryz.func88 rfl (by kernel_rfl) rfl ?_
 conv=>whnf
 refine yU (fun j:Nat=>[(0,sl ((vU k n).map encEv)),(1,i64 (k+5*(j:Int))),(5,i64 j)]) (fun j=>[]) (fun j=>n - j) (fun j=>j≤n) 0
  Weak.refl ⟨rfl,?_,rfl,trivial⟩ trivial (Nat.zero_le _) ?_
 ·show i64 k=i64 (k+5*((0:Nat):Int))
  rw[show k+5*((0:Nat):Int)=k by omega]
 intro j τ H hj
 have hj:j≤n:=hj
 conv=>whnf
 refine kbi (fun h=>?_) (fun h=>?_)
 ·have hlt:=yS h
  rw[hml] at hlt
  have hgt:((vU k n).map encEv)[(j:Int).toNat]?=some (encEv (uV k j)):=by simp[vU,hlt]
  have w1:IntKind.i64.wrap (k+5*(j:Int)+1)=k+5*(j:Int)+1:=zF (by omega) (by omega)
  have w2:IntKind.i64.wrap (k+5*(j:Int)+1+1)=k+5*(j:Int)+2:=by rw[zF (by omega) (by omega)];omega
  have w3:IntKind.i64.wrap (k+5*(j:Int)+2+1)=k+5*(j:Int)+3:=by rw[zF (by omega) (by omega)];omega
  have w4:IntKind.i64.wrap (k+5*(j:Int)+3+1)=k+5*(j:Int)+4:=by rw[zF (by omega) (by omega)];omega
  have w5:IntKind.i64.wrap (k+5*(j:Int)+4+1)=k+5*(j:Int)+5:=by rw[zF (by omega) (by omega)];omega
  conv=>whnf
  refine⟨encEv (uV k j),⟨by omega,hgt,rfl⟩,?_⟩
  conv=>whnf
  refine kbi (fun h=>absurd h (by simp[uV])) (fun _=>?_)
  conv=>whnf
  rw[w1]
  refine⟨encEv (uV k j),⟨by omega,hgt,rfl⟩,?_⟩
  conv=>whnf
  refine kbi (fun h=>absurd h (by simp[uV])) (fun _=>?_)
  conv=>whnf
  rw[w2]
  refine⟨encEv (uV k j),⟨by omega,hgt,rfl⟩,?_⟩
  conv=>whnf
  refine kbi (fun h=>absurd h (by simp[uV])) (fun _=>?_)
  conv=>whnf
  rw[w3]
  refine⟨encEv (uV k j),⟨by omega,hgt,rfl⟩,?_⟩
  conv=>whnf
  refine kbi (fun h=>absurd h (by simp[uV])) (fun _=>?_)
  conv=>whnf
  rw[w4]
  refine⟨encEv (uV k j),⟨by omega,hgt,rfl⟩,?_⟩
  conv=>whnf
  refine kbi (fun h=>absurd h (by simp[uV])) (fun _=>?_)
  conv=>whnf
  rw[w5]
  refine⟨j+1,by show j+1≤n;omega,by show n - (j+1)<n - j;omega,⟨rfl,?_,?_,trivial⟩,trivial⟩
  ·show i64 (k+5*(j:Int)+5)=i64 (k+5*((j+1:Nat):Int))
   exact congrArg i64 (by omega)
  ·show AV.d (.int .i64 (IntKind.i64.wrap ((j:Int)+1)))=i64 ((j+1:Nat):Int)
   rw[zF (by omega) (by omega)]
   rfl
 ·have hkk:j=n:=by
   have:¬ j<n:=by simpa[vU] using h
   omega
  subst hkk
  conv=>whnf
theorem lF (k:Int) (n:Nat) (hx:n≤1048576) (h0:0≤k) (h1:k≤1073741824):CallsTo EE 108 [sl ((wH k n).map encF),i64 k] (·=i64 (k+(n:Int))):=by
 have hml:=uC k n
 refine callsTo_of_AW (fn:=Tryz.f108) Tryz.func108 rfl (by kernel_rfl) rfl ?_
 conv=>whnf
 refine yU (fun j:Nat=>[(0,sl ((wH k n).map encF)),(1,i64 (k+(j:Int))),(5,i64 j)]) (fun j=>[]) (fun j=>n - j) (fun j=>j≤n) 0
  Weak.refl ⟨rfl,?_,rfl,trivial⟩ trivial (Nat.zero_le _) ?_
 ·show i64 k=i64 (k+((0:Nat):Int))
  rw[show k+((0:Nat):Int)=k by omega]
 intro j τ H hj
 have hj:j≤n:=hj
 conv=>whnf
 refine kbi (fun h=>?_) (fun h=>?_)
 ·have hlt:=yS h
  rw[hml] at hlt
  have hgt:((wH k n).map encF)[(j:Int).toNat]?=some (encF (FloatKind.f64.nearest (k+(j:Int)))):=by simp[wH,hlt]
  conv=>whnf
  refine⟨encF (FloatKind.f64.nearest (k+(j:Int))),⟨by omega,hgt,rfl⟩,?_⟩
  conv=>whnf
  refine kbi (fun g=>absurd g (by rw[near_ne];simp)) (fun _=>?_)
  conv=>whnf
  refine⟨j+1,by show j+1≤n;omega,by show n - (j+1)<n - j;omega,⟨rfl,?_,?_,trivial⟩,trivial⟩
  ·show AV.d (.int .i64 (IntKind.i64.wrap (k+(j:Int)+1)))=i64 (k+((j+1:Nat):Int))
   rw[zF (by omega) (by omega)]
   exact congrArg i64 (by omega)
  ·show AV.d (.int .i64 (IntKind.i64.wrap ((j:Int)+1)))=i64 ((j+1:Nat):Int)
   rw[zF (by omega) (by omega)]
   rfl
 ·have hkk:j=n:=by
   have:¬ j<n:=by simpa[wH] using h
   omega
  subst hkk
  conv=>whnf
theorem cL (xs:List Th) (k:Int) (hx:xs.length≤1048576) (hs:∀ t∈xs,t.stack.length≤1048576) (ht:yC xs xs.length≤8388608) (h0:0≤k) (h1:k≤67108864) :
  CallsTo EE 107 [sl ((wO k xs).map zH),i64 k] (·=i64 (k+yC xs xs.length)):=by
 have hml:(wO k xs).length=xs.length:=by simp[wO]
 refine callsTo_of_AW (fn:=Tryz.f107) Tryz.func107 rfl (by kernel_rfl) rfl ?_
 conv=>whnf
 refine yU (fun j:Nat=>[(0,sl ((wO k xs).map zH)),(1,i64 (k+(yC xs j:Int))),(5,i64 j)]) (fun j=>[]) (fun j=>xs.length - j) (fun j=>j≤xs.length) 0
  Weak.refl ⟨rfl,?_,rfl,trivial⟩ trivial (Nat.zero_le _) ?_
 ·show i64 k=i64 (k+((yC xs 0:Nat):Int))
  rw[show k+((yC xs 0:Nat):Int)=k by simp[yC]]
 intro i τ H hi
 have hi:i≤xs.length:=hi
 conv=>whnf
 refine kbi (fun h=>?_) (fun h=>?_)
 ·have hlt:=yS h
  rw[hml] at hlt
  have hmk:bK k xs i=⟨k+(yC xs i:Int),k+(yC xs i:Int)+1,k+(yC xs i:Int)+2,k+(yC xs i:Int)+3,k+(yC xs i:Int)+4,wH (k+(yC xs i:Int)+5) xs[i].stack.length⟩:=by
   unfold bK;simp[List.getD_eq_getElem?_getD,hlt]
  have hgt:((wO k xs).map zH)[(i:Int).toNat]?=some (zH (bK k xs i)):=by simp[wO,hlt]
  rw[hmk] at hgt
  have hti:=sM xs i
  have hts:=nR hlt
  have hti2:=sM xs (i+1)
  have hst:=hs _ (List.getElem_mem hlt)
  generalize yC xs i=T at *
  have w1:IntKind.i64.wrap (k+(T:Int)+1)=k+(T:Int)+1:=zF (by omega) (by omega)
  have w2:IntKind.i64.wrap (k+(T:Int)+1+1)=k+(T:Int)+2:=by rw[zF (by omega) (by omega)];omega
  have w3:IntKind.i64.wrap (k+(T:Int)+2+1)=k+(T:Int)+3:=by rw[zF (by omega) (by omega)];omega
  have w4:IntKind.i64.wrap (k+(T:Int)+3+1)=k+(T:Int)+4:=by rw[zF (by omega) (by omega)];omega
  have w5:IntKind.i64.wrap (k+(T:Int)+4+1)=k+(T:Int)+5:=by rw[zF (by omega) (by omega)];omega
  conv=>whnf
  refine⟨_,⟨by omega,hgt,rfl⟩,?_⟩
  conv=>whnf
  refine kbi (fun h=>absurd h (by simp)) (fun _=>?_)
  conv=>whnf
  rw[w1]
  refine⟨_,⟨by omega,hgt,rfl⟩,?_⟩
  conv=>whnf
  refine kbi (fun h=>absurd h (by simp)) (fun _=>?_)
  conv=>whnf
  rw[w2]
  refine⟨_,⟨by omega,hgt,rfl⟩,?_⟩
  conv=>whnf
  refine kbi (fun h=>absurd h (by simp)) (fun _=>?_)
  conv=>whnf
  rw[w3]
  refine⟨_,⟨by omega,hgt,rfl⟩,?_⟩
  conv=>whnf
  refine kbi (fun h=>absurd h (by simp)) (fun _=>?_)
  conv=>whnf
  rw[w4]
  refine⟨_,⟨by omega,hgt,rfl⟩,?_⟩
  conv=>whnf
  refine kbi (fun h=>absurd h (by simp)) (fun _=>?_)
  conv=>whnf
  rw[w5]
  refine⟨_,⟨by omega,hgt,rfl⟩,?_⟩
  conv=>whnf
  refine⟨_,lF (k+(T:Int)+5) xs[i].stack.length hst (by omega) (by omega),?_⟩
  rintro r rfl
  conv=>whnf
  refine kbi (fun h=>absurd h (by simp;omega)) (fun _=>?_)
  conv=>whnf
  refine⟨i+1,by show i+1≤xs.length;omega,by show xs.length - (i+1)<xs.length - i;omega,⟨rfl,?_,?_,trivial⟩,trivial⟩
  ·show i64 (k+(T:Int)+5+(xs[i].stack.length:Nat))=i64 (k+((yC xs (i+1):Nat):Int))
   rw[hts]
   exact congrArg i64 (by omega)
  ·show AV.d (.int .i64 (IntKind.i64.wrap ((i:Int)+1)))=i64 ((i+1:Nat):Int)
   rw[zF (by omega) (by omega)]
   rfl
 ·have hkk:i=xs.length:=by
   have:¬ i<xs.length:=by simpa[wO] using h
   omega
  subst hkk
  conv=>whnf
end Ai
namespace Ai
set_option maxRecDepth 100000
open Go Go.Proofs
def jM (s:StL) (k:Int):StL:=⟨wO k s.ths,wH (k+(yC s.ths s.ths.length:Int)) s.cells.length,uU (k+(yC s.ths s.ths.length:Int)+(s.cells.length:Int)) s.owner.length,s.fault⟩
def rX (s:StL) (k:Int):Int:=k+(yC s.ths s.ths.length:Int)+(s.cells.length:Int)+(s.owner.length:Int)
def xA (x:RunT) (k:Int):RunT:=⟨x.c,vU k x.tr.length,uU (k+5*(x.tr.length:Int)) x.tk.length,jM x.s (k+5*(x.tr.length:Int)+(x.tk.length:Int))⟩
def fS (x:RunT) (k:Int):Int:=rX x.s (k+5*(x.tr.length:Int)+(x.tk.length:Int))
theorem x9 (s:StL) (k:Int) (h:s.fit) (ht:yC s.ths s.ths.length≤8388608) (h0:0≤k) (h1:k≤67108864) :
  CallsTo EE 50 [agg (yT (jM s k)),i64 k] (·=i64 (rX s k)):=by
 have hc:=h.cells
 have ho:=h.owner
 refine callsTo_of_AW (fn:=Tryz.f50) Tryz.func50 rfl (by kernel_rfl) rfl ?_
 conv=>whnf
 refine⟨_,cL s.ths k h.ths h.st ht h0 h1,?_⟩
 rintro r rfl
 conv=>whnf
 refine kbi (fun h=>absurd h (by simp;omega)) (fun _=>?_)
 conv=>whnf
 refine⟨_,lF _ _ hc (by omega) (by omega),?_⟩
 rintro r rfl
 conv=>whnf
 refine kbi (fun h=>absurd h (by simp;omega)) (fun _=>?_)
 conv=>whnf
 refine⟨_,rU _ _ ho (by omega) (by omega),?_⟩
 rintro r rfl
 conv=>whnf
 refine kbi (fun h=>absurd h (by simp;omega)) (fun _=>?_)
 conv=>whnf
 try rfl
theorem lV (x:RunT) (k:Int) (h:x.fit) (ht:yC x.s.ths x.s.ths.length≤8388608) (h0:0≤k) (h1:k≤8388608) :
  CallsTo EE 39 [agg (xX (xA x k)),i64 k] (·=i64 (fS x k)):=by
 have hc:=h.tr
 have ho:=h.tk
 have hcl:=h.s.cells
 have hol:=h.s.owner
 refine callsTo_of_AW (fn:=Tryz.f39) Tryz.func39 rfl (by kernel_rfl) rfl ?_
 conv=>whnf
 refine⟨_,aX k x.tr.length hc h0 (by omega),?_⟩
 rintro r rfl
 conv=>whnf
 refine kbi (fun h=>absurd h (by simp;omega)) (fun _=>?_)
 conv=>whnf
 refine⟨_,rU _ _ ho (by omega) (by omega),?_⟩
 rintro r rfl
 conv=>whnf
 refine kbi (fun h=>absurd h (by simp;omega)) (fun _=>?_)
 conv=>whnf
 refine⟨_,x9 x.s _ h.s ht (by omega) (by omega),?_⟩
 rintro r rfl
 conv=>whnf
 refine kbi (fun h=>absurd h (by unfold rX;simp;omega)) (fun _=>?_)
 conv=>whnf
 try rfl
end Ai
namespace Ai
set_option maxRecDepth 100000
open Go Go.Proofs
theorem tP {K:Key→Bool} {a b:Nat}:∀ n,K (swp (.l a) (.l b) (.l n))=true→∃ n',swp (.l a) (.l b) (.l n)=.l n':=by
 intro n hn
 clear hn
 unfold swp
 cases Key.beq (.l n) (.l a) with
 |true=>exact⟨b,rfl⟩
 |false =>
  cases Key.beq (.l n) (.l b) with
  |true=>exact⟨a,rfl⟩
  |false=>exact⟨n,rfl⟩
def lendSt:Key→Bool
 | .l k=>Nat.beq k 73 || Nat.beq k 74 || Nat.beq k 75
 | .s o _=>Nat.beq o 903
 | .n _=>false
structure StAtL (s:StL) (H:Key→Option Ob):Prop where
 hH:H (.l 73)=some (.rs 175 6 (thRows 903 s.ths))
 hF:∀ j,H (.s 903 j)=zE s.ths j
 hC:H (.l 74)=some (.ds 132 1 (s.cells.map encF))
 hO:H (.l 75)=some (.ds 3 1 (s.owner.map encInt))
theorem aT (s:StL) (k:Int) (h:s.fit) (ht:yC s.ths s.ths.length≤8388608) (h0:0≤k) (h1:k≤67108864) (H0:Key→Option Ob) (hS:StAtL s H0) :
  IOCall EE 49 [.agg [.dref (.l 73) s.ths.length,.ref (.l 74) 0 s.cells.length,.ref (.l 75) 0 s.owner.length,i64 s.fault],i64 k] H0 (fun r H1=>r=i64 (rX s k)∧StAtL (jM s k) H1∧∀ κ,lendSt κ=false→H1 κ=none):=by
 have hc:=h.cells
 have ho:=h.owner
 refine xS (fn:=Tryz.f49) (c:=Tryz.f49.body.getD .skip) Tryz.func49 rfl (by kernel_rfl) rfl ?_
 have hat:At [(0,.agg [.dref (.l 73) s.ths.length,.ref (.l 74) 0 s.cells.length,.ref (.l 75) 0 s.owner.length,i64 s.fault]),(1,i64 k)] [(.l 73,.rs 175 6 (thRows 903 s.ths)),(.l 74,.ds 132 1 (s.cells.map encF)),(.l 75,.ds 3 1 (s.owner.map encInt))] [(903,zE s.ths)] ⟨fun i=>[AV.agg [.dref (.l 73) s.ths.length,.ref (.l 74) 0 s.cells.length,.ref (.l 75) 0 s.owner.length,i64 s.fault],i64 k].getD i .junk,H0⟩:=⟨⟨rfl,rfl,trivial⟩,⟨hS.hH,hS.hC,hS.hO,trivial⟩,⟨hS.hF,trivial⟩⟩
 obtain⟨τ,H,hf⟩:=hat.form
 rw[hf]
 conv=>whnf
 refine .inr (.inr (.inr (.inr ⟨_,105,[],swp (.l 73) (.l 76),Weak.refl,rfl,wS _ _,e6,_,io_congr (tW s.ths k h.ths h.st ht h0 h1 _ ?_ fun j=>?_) rfl,tP,?_⟩)))
 ·show some (Ob.rs 175 6 ((((thRows 903 s.ths).map (scrPL (isK (.n 2)))).map (renL (swp (.l 73) (.l 76)))).map (scrPL (fun o=>!e6 o))))=_
  rw[yE (fun j=>rfl),zR (fun j=>rfl),yE (fun j=>rfl)]
 ·show Option.map _ (Option.map _ (Option.map _ (zE s.ths j)))=_
  rw[zQ,thFam_ren,zQ]
 rintro r H1 ⟨rfl,e1,e2,q⟩
 refine⟨q,fun n hn=>⟨.rs 175 6 (thRows 903 s.ths),?_,thRows 903 (wO k s.ths),?_,by simp[zP,wO]⟩,?_⟩
 ·have:n=76:=Nat.eq_of_beq_eq_true hn
  subst this
  show some (Ob.rs 175 6 (((thRows 903 s.ths).map (scrPL (isK (.n 2)))).map (renL (swp (.l 73) (.l 76)))))=_
  rw[yE (fun j=>rfl),zR (fun j=>rfl)]
 ·have:n=76:=Nat.eq_of_beq_eq_true hn
  subst this;exact e1
 generalize hT:yC s.ths s.ths.length=T at ht
 conv=>whnf
 refine .inr (.inr (.inr (.inr (.inr ⟨_,106,[],swp (.l 74) (.l 77),Weak.refl,rfl,wS _ _,isK (.l 77),_,io_congr (lD (s.cells.map encF) s.cells.length (k+(T:Int)) (by simp) hc (by omega) (by omega) _ rfl) rfl,tP,?_⟩))))
 rintro r H2 ⟨rfl,e3,q3⟩
 refine⟨q3,fun n hn=>⟨.ds 132 1 (s.cells.map encF),?_,(wH (k+(T:Int)) s.cells.length).map encF,?_,by simp[uC]⟩,?_⟩
 ·have:n=77:=Nat.eq_of_beq_eq_true hn
  subst this;rfl
 ·have:n=77:=Nat.eq_of_beq_eq_true hn
  subst this;exact e3
 conv=>whnf
 refine .inr (.inr (.inr (.inr (.inr ⟨_,31,[],swp (.l 75) (.l 77),Weak.refl,rfl,wS _ _,isK (.l 77),_,io_congr (kS (.l 77) (.inr rfl) s.owner (k+(T:Int)+(s.cells.length:Nat)) ho (by omega) (by omega) _ rfl) rfl,tP,?_⟩))))
 rintro r H3 ⟨rfl,e4,q4⟩
 refine⟨q4,fun n hn=>⟨.ds 3 1 (s.owner.map encInt),?_,(uU (k+(T:Int)+(s.cells.length:Nat)) s.owner.length).map encInt,?_,by simp[wT]⟩,?_⟩
 ·have:n=77:=Nat.eq_of_beq_eq_true hn
  subst this;rfl
 ·have:n=77:=Nat.eq_of_beq_eq_true hn
  subst this;exact e4
 conv=>whnf
 refine⟨_,Weak.refl,?_⟩
 conv=>whnf
 refine⟨lendSt,?_,⟨?_,fun j=>?_,?_,?_⟩,fun κ hκ=>lendH_f hκ⟩
 ·show i64 (k+(T:Int)+(s.cells.length:Nat)+(s.owner.length:Nat))=i64 (rX s k)
  unfold rX
  rw[hT]
 ·show Option.map _ (Option.map _ (Option.map _ (Option.map _ (Option.map _ (Option.map _ (Option.map _ (Option.map _ (H1 (.l 76)))))))))= _
  rw[e1]
  show some (Ob.rs 175 6 (((((((((thRows 903 (wO k s.ths)).map (renL _)).map (renL _)).map (scrPL _)).map (renL _)).map (renL _)).map (scrPL _)).map (renL _)).map (scrPL _)))=some (Ob.rs 175 6 (thRows 903 (wO k s.ths)))
  rw[zR (fun j=>rfl),zR (fun j=>rfl),yE (fun j=>rfl),zR (fun j=>rfl),zR (fun j=>rfl),yE (fun j=>rfl),zR (fun j=>rfl),yE (fun j=>rfl)]
 ·show Option.map _ (Option.map _ (Option.map _ (Option.map _ (Option.map _ (Option.map _ (Option.map _ (Option.map _ (H1 (.s 903 j)))))))))= _
  rw[e2,thFam_ren,thFam_ren,zQ,thFam_ren,thFam_ren,zQ,thFam_ren,zQ]
  rfl
 ·show Option.map _ (Option.map _ (Option.map _ (Option.map _ (Option.map _ (H2 (.l 77))))))=some (Ob.ds 132 1 ((wH (k+(yC s.ths s.ths.length:Int)) s.cells.length).map encF))
  rw[e3,hT];rfl
 ·show Option.map _ (Option.map _ (H3 (.l 77)))=some (Ob.ds 3 1 ((uU (k+(yC s.ths s.ths.length:Int)+(s.cells.length:Int)) s.owner.length).map encInt))
  rw[e4,hT];rfl
def pK:Key→Bool
 | .l k=>Nat.beq k 71 || Nat.beq k 72 || Nat.beq k 73 || Nat.beq k 74 || Nat.beq k 75
 | .s o _=>Nat.beq o 903
 | .n _=>false
structure RnAtL (x:RunT) (H:Key→Option Ob):Prop where
 hE:H (.l 71)=some (.ds 128 5 (x.tr.map encEv))
 hT:H (.l 72)=some (.ds 3 1 (x.tk.map encInt))
 hS:StAtL x.s H
def refL (x:RunT):List AV:=[i64 x.c,.ref (.l 71) 0 x.tr.length,.ref (.l 72) 0 x.tk.length,.dref (.l 73) x.s.ths.length,.ref (.l 74) 0 x.s.cells.length,.ref (.l 75) 0 x.s.owner.length,i64 x.s.fault]
theorem r9 (x:RunT) (k:Int) (h:x.fit) (ht:yC x.s.ths x.s.ths.length≤8388608) (h0:0≤k) (h1:k≤8388608) (H0:Key→Option Ob) (hR:RnAtL x H0) :
  IOCall EE 30 [.agg (refL x),i64 k] H0 (fun r H1=>r=i64 (fS x k)∧RnAtL (xA x k) H1∧∀ κ,pK κ=false→H1 κ=none):=by
 have he:=h.tr
 have hk:=h.tk
 refine xS (fn:=Tryz.f30) (c:=Tryz.f30.body.getD .skip) Tryz.func30 rfl (by kernel_rfl) rfl ?_
 have hat:At [(0,.agg (refL x)),(1,i64 k)] [(.l 71,.ds 128 5 (x.tr.map encEv)),(.l 72,.ds 3 1 (x.tk.map encInt)),(.l 73,.rs 175 6 (thRows 903 x.s.ths)),(.l 74,.ds 132 1 (x.s.cells.map encF)),(.l 75,.ds 3 1 (x.s.owner.map encInt))] [(903,zE x.s.ths)] ⟨fun i=>[AV.agg (refL x),i64 k].getD i .junk,H0⟩:=⟨⟨rfl,rfl,trivial⟩,⟨hR.hE,hR.hT,hR.hS.hH,hR.hS.hC,hR.hS.hO,trivial⟩,⟨hR.hS.hF,trivial⟩⟩
 obtain⟨τ,H,hf⟩:=hat.form
 rw[hf]
 conv=>whnf
 refine .inr (.inr (.inr (.inr (.inr ⟨_,81,[],swp (.l 71) (.l 77),Weak.refl,rfl,wS _ _,isK (.l 77),_,io_congr (aU (x.tr.map encEv) x.tr.length k (by simp) (fun c hc=>by obtain⟨e,_,rfl⟩:=List.mem_map.1 hc;rfl) he h0 (by omega) _ rfl) rfl,tP,?_⟩))))
 rintro r H1 ⟨rfl,e1,q1⟩
 refine⟨q1,fun n hn=>⟨.ds 128 5 (x.tr.map encEv),?_,(vU k x.tr.length).map encEv,?_,by simp[fC]⟩,?_⟩
 ·have:n=77:=Nat.eq_of_beq_eq_true hn
  subst this;rfl
 ·have:n=77:=Nat.eq_of_beq_eq_true hn
  subst this;exact e1
 conv=>whnf
 refine .inr (.inr (.inr (.inr (.inr ⟨_,31,[],swp (.l 72) (.l 77),Weak.refl,rfl,wS _ _,isK (.l 77),_,io_congr (kS (.l 77) (.inr rfl) x.tk (k+5*(x.tr.length:Int)) hk (by omega) (by omega) _ rfl) rfl,tP,?_⟩))))
 rintro r H2 ⟨rfl,e2,q2⟩
 refine⟨q2,fun n hn=>⟨.ds 3 1 (x.tk.map encInt),?_,(uU (k+5*(x.tr.length:Int)) x.tk.length).map encInt,?_,by simp[wT]⟩,?_⟩
 ·have:n=77:=Nat.eq_of_beq_eq_true hn
  subst this;rfl
 ·have:n=77:=Nat.eq_of_beq_eq_true hn
  subst this;exact e2
 conv=>whnf
 refine .inr (.inr (.inr (.inr ⟨_,49,[],fun κ=>κ,Weak.refl,rfl,fun _=>rfl,lendSt,_,io_congr (aT x.s (k+5*(x.tr.length:Int)+(x.tk.length:Int)) h.s ht (by omega) (by omega) _ ⟨?_,fun j=>?_,?_,?_⟩) ?_,fun n _=>⟨n,rfl⟩,?_⟩)))
 ·show some (Ob.rs 175 6 ((((((((((thRows 903 x.s.ths).map (scrPL _)).map (renL _)).map (scrPL _)).map (renL _)).map (renL _)).map (scrPL _)).map (renL _)).map (renL _)).map (scrPL _)))=_
  rw[yE (fun j=>rfl),zR (fun j=>rfl),yE (fun j=>rfl),zR (fun j=>rfl),zR (fun j=>rfl),yE (fun j=>rfl),zR (fun j=>rfl),zR (fun j=>rfl),yE (fun j=>rfl)]
 ·show Option.map _ (Option.map _ (Option.map _ (Option.map _ (Option.map _ (Option.map _ (Option.map _ (Option.map _ (Option.map _ (zE x.s.ths j)))))))))=_
  rw[zQ,thFam_ren,zQ,thFam_ren,thFam_ren,zQ,thFam_ren,thFam_ren,zQ]
 ·rfl
 ·rfl
 ·rfl
 rintro r H3 ⟨rfl,e3,q3⟩
 refine⟨q3,fun n hn=>?_,?_⟩
 ·have hn:(Nat.beq n 73 || Nat.beq n 74 || Nat.beq n 75)=true:=hn
  simp only[Bool.or_eq_true] at hn
  rcases hn with (hn|hn)|hn
  ·have:=Nat.eq_of_beq_eq_true hn
   subst this
   refine⟨.rs 175 6 (thRows 903 x.s.ths),?_,thRows 903 (jM x.s (k+5*(x.tr.length:Int)+(x.tk.length:Int))).ths,e3.hH,by simp[zP,jM,wO]⟩
   show some (Ob.rs 175 6 (((((((((thRows 903 x.s.ths).map (scrPL _)).map (renL _)).map (scrPL _)).map (renL _)).map (renL _)).map (scrPL _)).map (renL _)).map (renL _)))=_
   rw[yE (fun j=>rfl),zR (fun j=>rfl),yE (fun j=>rfl),zR (fun j=>rfl),zR (fun j=>rfl),yE (fun j=>rfl),zR (fun j=>rfl),zR (fun j=>rfl)]
  ·have:=Nat.eq_of_beq_eq_true hn
   subst this
   exact⟨.ds 132 1 (x.s.cells.map encF),rfl,_,e3.hC,by simp[jM,uC]⟩
  ·have:=Nat.eq_of_beq_eq_true hn
   subst this
   exact⟨.ds 3 1 (x.s.owner.map encInt),rfl,_,e3.hO,by simp[jM,wT]⟩
 conv=>whnf
 refine⟨_,Weak.refl,?_⟩
 conv=>whnf
 refine⟨pK,rfl,⟨?_,?_,⟨?_,fun j=>?_,?_,?_⟩⟩,fun κ hκ=>lendH_f hκ⟩
 ·show Option.map _ (Option.map _ (Option.map _ (Option.map _ (Option.map _ (Option.map _ (Option.map _ (Option.map _ (H1 (.l 77)))))))))=_
  rw[e1];rfl
 ·show Option.map _ (Option.map _ (Option.map _ (Option.map _ (Option.map _ (H2 (.l 77))))))=_
  rw[e2];rfl
 ·show Option.map _ (Option.map _ (H3 (.l 73)))=_
  rw[e3.hH]
  show some (Ob.rs 175 6 (((thRows 903 (jM x.s (k+5*(x.tr.length:Int)+(x.tk.length:Int))).ths).map (renL _)).map (scrPL _)))=_
  rw[zR (fun j=>rfl),yE (fun j=>rfl)]
  rfl
 ·show Option.map _ (Option.map _ (H3 (.s 903 j)))=_
  rw[e3.hF,thFam_ren,zQ]
  rfl
 ·show Option.map _ (Option.map _ (H3 (.l 74)))=_
  rw[e3.hC];rfl
 ·show Option.map _ (Option.map _ (H3 (.l 75)))=_
  rw[e3.hO];rfl
end Ai
namespace Ai
set_option maxRecDepth 100000
open Go Go.Proofs Cyc
def kM (o:Nat) (x:RunT):List AV:=[i64 x.c,.ref (.n (o+1)) 0 x.tr.length,.ref (.n (o+2)) 0 x.tk.length,.dref (.n (o+3)) x.s.ths.length,.ref (.n (o+4)) 0 x.s.cells.length,.ref (.n (o+5)) 0 x.s.owner.length,i64 x.s.fault]
structure RnAt (o:Nat) (x:RunT) (S:St):Prop where
 h1:S.H (.n (o+1))=some (.ds 128 5 (x.tr.map encEv))
 h2:S.H (.n (o+2))=some (.ds 3 1 (x.tk.map encInt))
 h3:S.H (.n (o+3))=some (.rs 175 6 (thRows (o+3) x.s.ths))
 h4:∀ j,S.H (.s (o+3) j)=zE x.s.ths j
 h5:S.H (.n (o+4))=some (.ds 132 1 (x.s.cells.map encF))
 h6:S.H (.n (o+5))=some (.ds 3 1 (x.s.owner.map encInt))
theorem sQ {o:Nat} {x:RunT} {S:St} (h:RnAt o x S):FzC S (kM o x) (xX x):=by
 obtain⟨h1,h2,h3,h4,h5,h6⟩:=h
 refine⟨di x.c,_,rfl,rfl,.sl (x.tr.map encEv),_,rfl,?_,.sl (x.tk.map encInt),_,rfl,?_,.sl (x.s.ths.map zH),_,rfl,⟨_,rfl,?_⟩,.sl (x.s.cells.map encF),_,rfl,?_,.sl (x.s.owner.map encInt),_,rfl,?_,di x.s.fault,[],rfl,rfl,rfl⟩
 ·simp[FzD,fz1,h1,List.take_of_length_le]
 ·simp[FzD,fz1,h2,List.take_of_length_le]
 ·unfold kK
  rw[h3]
  refine⟨by simp,fun j row hj hr=>?_⟩
  rw[yO hj] at hr
  simp only[Option.some.injEq] at hr
  subst hr
  exact⟨zH x.s.ths[j],by simp[hj],fz_row ((h4 j).trans (thFam_self hj))⟩
 ·simp[FzD,fz1,h5,List.take_of_length_le]
 ·simp[FzD,fz1,h6,List.take_of_length_le]
theorem fz_ownZ {p:ProgL} {S:St} {n:Nat} (h1:S.H (.n 963)=some (.rs 157 1 (uS (zJ p)))) (h2:∀ j,S.H (.s 963 j)=wU (zJ p) 0 j) (hn:n=p.rs.length) :
  FzC S [i64 p.cells,i64 p.locks,i64 p.conds,.dref (.n 963) n] (encProg p):=by
 subst hn
 refine⟨di p.cells,_,rfl,rfl,di p.locks,_,rfl,rfl,di p.conds,_,rfl,rfl,.sl (p.rs.map zX),_,rfl,⟨_,rfl,eJ h1 (by simp) (by simp[uS,zJ]) ?_⟩,rfl⟩
 intro j row d hr hd
 have hj:j<p.rs.length:=by
  have:=(List.getElem?_eq_some_iff.1 hd).1
  simpa using this
 have hjs:j<(zJ p).length:=by simpa[zJ] using hj
 have hr0:(uS (zJ p))[j]?=some [.ref (.s 963 j) 0 ((zJ p).getD j []).length]:=by simp[uS,hjs]
 rw[hr0] at hr
 rw[List.getElem?_map,List.getElem?_eq_getElem hj] at hd
 simp only[Option.map_some,Option.some.injEq] at hr hd
 subst hr hd
 have hg:(zJ p)[j]=p.rs[j].map encOp:=by simp[zJ,kY]
 have h3:=h2 j
 unfold wU at h3
 rw[if_neg (by omega),List.getElem?_eq_getElem hjs,hg] at h3
 simp[fz1s,fz1,h3,List.getD_eq_getElem?_getD,hjs,hg,zX,List.take_of_length_le]
def numY (k:Nat):Nat:=bif Nat.beq k 900 then 960 else bif Nat.beq k 960 then 900 else bif Nat.beq k 901 then 961 else bif Nat.beq k 961 then 901 else k
theorem numY_numY (k:Nat):numY (numY k)=k:=by
 by_cases h1:k=900
 ·subst h1;rfl
 by_cases h2:k=960
 ·subst h2;rfl
 by_cases h3:k=901
 ·subst h3;rfl
 by_cases h4:k=961
 ·subst h4;rfl
 have e:numY k=k:=by unfold numY;rw[nbeq_ne h1,nbeq_ne h2,nbeq_ne h3,nbeq_ne h4];rfl
 rw[e,e]
def shY:Sh:=r8 numY numY_numY
def numV (k:Nat):Nat:=bif Nat.ble 901 k&&Nat.ble k 905 then k+20 else bif Nat.ble 921 k&&Nat.ble k 925 then k - 20 else k
theorem numV_numV (k:Nat):numV (numV k)=k:=by
 by_cases h1:901≤k∧k≤905
 ·have:k=901∨k=902∨k=903∨k=904∨k=905:=by omega
  rcases this with rfl|rfl|rfl|rfl|rfl <;> rfl
 by_cases h2:921≤k∧k≤925
 ·have:k=921∨k=922∨k=923∨k=924∨k=925:=by omega
  rcases this with rfl|rfl|rfl|rfl|rfl <;> rfl
 have e:numV k=k:=by
  unfold numV
  have a:(Nat.ble 901 k&&Nat.ble k 905)=false:=by
   rw[Bool.and_eq_false_iff]
   by_cases h:901≤k
   ·right;rw[Bool.eq_false_iff];intro e;exact h1 ⟨h,Nat.le_of_ble_eq_true e⟩
   ·left;rw[Bool.eq_false_iff];intro e;exact h (Nat.le_of_ble_eq_true e)
  have b:(Nat.ble 921 k&&Nat.ble k 925)=false:=by
   rw[Bool.and_eq_false_iff]
   by_cases h:921≤k
   ·right;rw[Bool.eq_false_iff];intro e;exact h2 ⟨h,Nat.le_of_ble_eq_true e⟩
   ·left;rw[Bool.eq_false_iff];intro e;exact h (Nat.le_of_ble_eq_true e)
  rw[a,b];rfl
 rw[e,e]
def shV:Sh:=r8 numV numV_numV
def zL (κ:Key):Key :=
 match κ with
 | .n k=>bif Nat.ble 921 k&&Nat.ble k 925 then .l (k - 850) else .n k
 | .l k=>bif Nat.ble 71 k&&Nat.ble k 75 then .n (k+850) else .l k
 | .s o j=>bif Nat.beq o 923 then .s 903 j else bif Nat.beq o 903 then .s 923 j else .s o j
theorem zL_zL (κ:Key):zL (zL κ)=κ:=by
 cases κ with
 |n k =>
  by_cases h:921≤k∧k≤925
  ·have:k=921∨k=922∨k=923∨k=924∨k=925:=by omega
   rcases this with rfl|rfl|rfl|rfl|rfl <;> rfl
  ·have a:(Nat.ble 921 k&&Nat.ble k 925)=false:=by
    rw[Bool.and_eq_false_iff]
    by_cases h1:921≤k
    ·right;rw[Bool.eq_false_iff];intro e;exact h ⟨h1,Nat.le_of_ble_eq_true e⟩
    ·left;rw[Bool.eq_false_iff];intro e;exact h1 (Nat.le_of_ble_eq_true e)
   have e:zL (.n k)=.n k:=by show(bif Nat.ble 921 k&&Nat.ble k 925 then _ else _)=_;rw[a];rfl
   rw[e,e]
 |l k =>
  by_cases h:71≤k∧k≤75
  ·have:k=71∨k=72∨k=73∨k=74∨k=75:=by omega
   rcases this with rfl|rfl|rfl|rfl|rfl <;> rfl
  ·have a:(Nat.ble 71 k&&Nat.ble k 75)=false:=by
    rw[Bool.and_eq_false_iff]
    by_cases h1:71≤k
    ·right;rw[Bool.eq_false_iff];intro e;exact h ⟨h1,Nat.le_of_ble_eq_true e⟩
    ·left;rw[Bool.eq_false_iff];intro e;exact h1 (Nat.le_of_ble_eq_true e)
   have e:zL (.l k)=.l k:=by show(bif Nat.ble 71 k&&Nat.ble k 75 then _ else _)=_;rw[a];rfl
   rw[e,e]
 |s o j =>
  by_cases h1:o=923
  ·subst h1;rfl
  by_cases h2:o=903
  ·subst h2;rfl
  have e:zL (.s o j)=.s o j:=by show(bif Nat.beq o 923 then _ else bif Nat.beq o 903 then _ else _)=_;rw[nbeq_ne h1,nbeq_ne h2];rfl
  rw[e,e]
theorem zL_pin:∀ n,pK (zL (.l n))=true→∃ n',zL (.l n)=.l n':=by
 intro n hn
 by_cases h:71≤n∧n≤75
 ·have:n=71∨n=72∨n=73∨n=74∨n=75:=by omega
  rcases this with rfl|rfl|rfl|rfl|rfl <;> cases hn
 ·have a:(Nat.ble 71 n&&Nat.ble n 75)=false:=by
   rw[Bool.and_eq_false_iff]
   by_cases h1:71≤n
   ·right;rw[Bool.eq_false_iff];intro e;exact h ⟨h1,Nat.le_of_ble_eq_true e⟩
   ·left;rw[Bool.eq_false_iff];intro e;exact h1 (Nat.le_of_ble_eq_true e)
  exact⟨n,by show(bif Nat.ble 71 n&&Nat.ble n 75 then _ else _)=_;rw[a];rfl⟩
theorem dD {f:Key→Key} {o o':Nat} {l:List Th} (h:∀ j,f (.s o j)=.s o' j):(thRows o l).map (renL f)=thRows o' l:=by
 apply List.ext_getElem?
 intro j
 rw[List.getElem?_map]
 by_cases hl:j<l.length
 ·rw[yO hl,yO hl]
  show some [_,_,_,_,_,AV.ref (f (.s o j)) 0 _]=_
  rw[h j]
  rfl
 ·rw[List.getElem?_eq_none (by rw[zP];omega),List.getElem?_eq_none (by rw[zP];omega)]
  rfl
def encPcO (o:Nat) (x:PctL):List AV:=[.ref (.n o) 0 x.ranks.length,.ref (.n (o+1)) 0 x.changes.length]
theorem fz_pct {o:Nat} {x:PctL} {S:St} (h1:S.H (.n o)=some (.ds 3 1 (x.ranks.map encInt))) (h2:S.H (.n (o+1))=some (.ds 3 1 (x.changes.map encInt))):FzC S (encPcO o x) (encPct x):=by
 refine⟨.sl (x.ranks.map encInt),_,rfl,?_,.sl (x.changes.map encInt),[],rfl,?_,rfl⟩
 ·simp[FzD,fz1,h1,List.take_of_length_le]
 ·simp[FzD,fz1,h2,List.take_of_length_le]
structure SmP (p:ProgL) (pc:PctL):Prop where
 hs:p.rs.length≤1048576∧∀ x∈p.rs,x.length≤1048576
 hz:p.size≤1048576
 hx:pc.fit
end Ai
namespace Ai
set_option maxRecDepth 100000
open Go Go.Proofs Cyc
def dwF (p:ProgL):List (Nat × (Nat→Option Ob)):=[(963,wU (zJ p) 0),(903,fun _=>none)]
end Ai
namespace Ai
set_option maxRecDepth 100000
open Go Go.Proofs Cyc
def qA (b:Int) (v:AV):List (Nat × AV):=[(2,i64 b),(3,.ptr (.n 3) 0),(4,.ptr (.n 4) 0),(8,.ptr (.n 8) 0),(9,v),(10,.ptr (.n 10) 0)]
def qAo (p:ProgL) (pc:PctL) (X:RunT):List (Key × Ob):=[(.n 3,.vs 24 ((encProg p).map .d)),(.n 4,.vs 64 ((encPct pc).map .d)),(.n 8,.vs 56 ((xX X).map .d)),(.n 10,.vs 31 [i64 p.cells,i64 p.locks,i64 p.conds,.dref (.n 963) p.rs.length]),(.n 963,.rs 157 1 (uS (zJ p)))]
def qB (b:Int) (v:AV):List (Nat × AV):=[(2,i64 b),(3,.ptr (.n 3) 0),(4,.ptr (.n 4) 0),(8,.ptr (.n 8) 0),(9,v),(10,.ptr (.n 10) 0),(11,.ptr (.n 11) 0)]
def qBo (p:ProgL) (pc:PctL) (X:RunT):List (Key × Ob):=[(.n 3,.vs 24 ((encProg p).map .d)),(.n 4,.vs 64 ((encPct pc).map .d)),(.n 8,.vs 56 ((xX X).map .d)),(.n 10,.vs 31 [i64 p.cells,i64 p.locks,i64 p.conds,.dref (.n 963) p.rs.length]),(.n 963,.rs 157 1 (uS (zJ p))),
 (.n 11,.vs 68 (encPcO 960 pc)),(.n 960,.ds 3 1 (pc.ranks.map encInt)),(.n 961,.ds 3 1 (pc.changes.map encInt))]
theorem tJ {f:Key→Key} {subs:List (List (List D))} (hf:∀ j,f (.s 963 j)=.s 963 j):(uS subs).map (renL f)=uS subs:=by
 unfold uS
 rw[List.map_map]
 refine List.map_congr_left fun j _=>?_
 show renL f [_]=_
 simp[renL,ren,hf j]
theorem lawPct1 (p:ProgL) (hp:p.wf) (hv:p.flt) (pc:PctL) (hx:pc.wf) (b:Int)
  (hL:SmP p pc→∀ S,At (qB b (bv (kA p pc b).2)) (qBo p pc (kA p pc b).1) (dwF p) S→Snd EE Tryz.f7.ntmps (dropC 9 (Tryz.f7.body.getD .skip)) (fW EE Tryz.f7 (·=bv true)) S) :
  CallsTo EE 7 [agg (encProg p),agg (encPct pc),i64 b] (·=bv true):=by
 refine aB (fn:=Tryz.f7) (c:=Tryz.f7.body.getD .skip) Tryz.func7 rfl (by kernel_rfl) rfl ?_
 refine oV 8 (fun S=>SmP p pc∧At (qA b (bv (kA p pc b).2)) (qAo p pc (kA p pc b).1) (dwF p) S) (fun K hK=>?_) (fun S hS=>?_)
 ·conv=>whnf
  refine⟨_,szProg_ok p 1048576 (by omega) (by omega) hp,?_⟩
  rintro r ⟨n,rfl,hn1,hn2,hn3⟩
  conv=>whnf
  refine kbi (fun _=>?_) (fun h=>?_)
  ·conv=>whnf
   try rfl
  have h0:0≤n:=by simp at h;omega
  have hsz:p.size≤1048576:=by have:=hn3 h0;omega
  have hs:=size_le List.length p.rs 1048576 hsz
  conv=>whnf
  refine⟨_,szPct_ok pc n h0 (by omega) hx,?_⟩
  rintro r ⟨n2,rfl,hm1,hm2,hm3⟩
  conv=>whnf
  refine kbi (fun _=>?_) (fun h=>?_)
  ·conv=>whnf
   try rfl
  have hft:pc.fit:=by
   have h:¬ n2<0:=fun e=>h (decide_eq_true e)
   have h9:=hm3 (by omega)
   unfold PctL.size at h9
   exact⟨by omega,by omega⟩
  have cS:=PctS_ok p hp hs hv pc hft b
  conv=>whnf
  refine .inr (.inl ⟨12,[],?_⟩)
  conv=>whnf
  refine⟨_,gD p hs,?_⟩
  conv=>whnf
  refine⟨_,bB pc hft,?_⟩
  conv=>whnf
  refine⟨_,cS,?_⟩
  conv=>whnf
  refine⟨by kernel_rfl,?_⟩
  conv=>whnf
  refine⟨_,toProg_own p hs,?_⟩
  rintro r rfl
  conv=>whnf
  refine hK _ _ (qT shZ) ⟨⟨hs,hsz,hft⟩,⟨rfl,rfl,rfl,rfl,rfl,rfl,trivial⟩,⟨?_,?_,?_,?_,?_,trivial⟩,⟨fun j=>?_,fun j=>rfl,trivial⟩⟩
  ·rfl
  ·rfl
  ·rfl
  ·show some (Ob.vs 31 [i64 p.cells,i64 p.locks,i64 p.conds,.dref (.n 963) (p.rs.map fun _=>[D.nil]).length])=_
   rw[List.length_map]
  ·show some (Ob.rs 157 1 (((ownRows 903 0 (p.rs.map fun _=>[.nil]) (zJ p)).map (scrPL (isK (.n 10)))).map (renL shZ.f)))=_
   rw[ownRows_M,qJ _ (fun j=>rfl),rowsM_Z]
  ·show Option.map _ (Option.map _ (match ownH (p6 p) (.s 903 j) with|some ob=>some ob|none=>_))=_
   rw[ownPg_fam]
   cases hq:wU (zJ p) 0 j with
   |none=>rfl
   |some ob =>
    show Option.map _ (Option.map _ (some ob))=some ob
    rw[← hq,vH,wM]
 refine oV 1 (fun S=>SmP p pc∧At (qB b (bv (kA p pc b).2)) (qBo p pc (kA p pc b).1) (dwF p) S) (fun K hK=>?_) (fun S hS=>hL hS.1 S hS.2)
 obtain⟨hSm,hat⟩:=hS
 obtain⟨τ,H,rfl⟩:=hat.form
 clear hat
 conv=>whnf
 refine⟨_,toPct_own pc hSm.hx,?_⟩
 rintro r rfl
 conv=>whnf
 refine hK _ _ (qT shY) ⟨hSm,⟨rfl,rfl,rfl,rfl,rfl,rfl,rfl,trivial⟩,⟨?_,?_,?_,?_,?_,?_,?_,?_,trivial⟩,⟨fun j=>?_,fun j=>?_,trivial⟩⟩
 ·rfl
 ·rfl
 ·rfl
 ·rfl
 ·show some (Ob.rs 157 1 ((((uS (zJ p)).map (scrPL fun κ=>(ownH (ownPc pc) κ).isSome)).map (scrPL (isK (.n 11)))).map (renL shY.f)))=_
  rw[gE _ (fun j=>rfl),gE _ (fun j=>rfl),tJ (fun j=>rfl)]
 ·show some (Ob.vs 68 [.ref (.n 960) 0 (pc.ranks.map encInt).length,.ref (.n 961) 0 (pc.changes.map encInt).length])=_
  rw[List.length_map,List.length_map]
  rfl
 ·rfl
 ·rfl
 ·show Option.map _ (Option.map _ (Option.map _ (wU (zJ p) 0 j)))=_
  rw[vH,vH,wM]
 ·rfl
end Ai
namespace Ai
set_option maxRecDepth 100000
open Go Go.Proofs Cyc
def qC (b:Int) (v:AV):List (Nat × AV):=[(2,i64 b),(3,.ptr (.n 3) 0),(4,.ptr (.n 4) 0),(8,.ptr (.n 8) 0),(9,v),(10,.ptr (.n 10) 0),(11,.ptr (.n 11) 0),(12,.ptr (.n 12) 0),(13,v)]
def qCo (p:ProgL) (pc:PctL) (X:RunT) (r:List AV) (more:List (Key × Ob)):List (Key × Ob):=[(.n 3,.vs 24 ((encProg p).map .d)),(.n 4,.vs 64 ((encPct pc).map .d)),(.n 8,.vs 56 ((xX X).map .d)),(.n 10,.vs 31 [i64 p.cells,i64 p.locks,i64 p.conds,.dref (.n 903) p.rs.length]),(.n 903,.rs 157 1 (wP (zJ p) 0)),
 (.n 11,.vs 68 (encPcO 900 pc)),(.n 900,.ds 3 1 (pc.ranks.map encInt)),(.n 901,.ds 3 1 (pc.changes.map encInt)),(.n 12,.vs 56 r)]++more
def jX (x:RunT):List (Key × Ob):=[(.n 921,.ds 128 5 (x.tr.map encEv)),(.n 922,.ds 3 1 (x.tk.map encInt)),(.n 923,.rs 175 6 (thRows 923 x.s.ths)),(.n 924,.ds 132 1 (x.s.cells.map encF)),(.n 925,.ds 3 1 (x.s.owner.map encInt))]
theorem ownRn_flat (x:RunT):nN (.ownF 8 (wX x++[bv true])):=by
 intro c hc
 simp only[wX,List.mem_append,List.mem_cons,List.not_mem_nil,or_false] at hc
 rcases hc with (rfl|rfl|rfl|rfl|rfl|rfl|rfl)|rfl
 ·rfl
 ·intro c hc
  obtain⟨y,_,rfl⟩:=List.mem_map.1 hc;rfl
 ·intro c hc
  obtain⟨y,_,rfl⟩:=List.mem_map.1 hc;rfl
 ·refine⟨fun c hc=>?_,fun q hq c hc=>?_⟩
  ·obtain⟨t,_,rfl⟩:=List.mem_map.1 hc;rfl
  ·obtain⟨t,_,rfl⟩:=List.mem_map.1 hq
   obtain⟨y,_,rfl⟩:=List.mem_map.1 hc;rfl
 ·intro c hc
  obtain⟨y,_,rfl⟩:=List.mem_map.1 hc;rfl
 ·intro c hc
  obtain⟨y,_,rfl⟩:=List.mem_map.1 hc;rfl
 ·rfl
 ·rfl
theorem run0_flat:nN (.tup [agg (xX run0),bv false]):=by
 intro c hc
 simp only[List.mem_cons,List.not_mem_nil,or_false] at hc
 rcases hc with rfl|rfl
 ·exact .inr ⟨xX run0,rfl,rfl⟩
 ·exact .inl ⟨_,rfl,rfl⟩
theorem lawPct2 (p:ProgL) (hp:p.wf) (hv:p.flt) (pc:PctL) (b:Int) (h:SmP p pc)
  (hT:∀ x,kA p pc b=(x,true)→∀ S,At (qC b (bv true)) (qCo p pc x (kM 920 x) (jX x)) [(903,wU (zJ p) 0),(923,zE x.s.ths)] S→Snd EE Tryz.f7.ntmps (dropC 10 (Tryz.f7.body.getD .skip)) (fW EE Tryz.f7 (·=bv true)) S)
  (hF:kA p pc b=(run0,false)→∀ S,At (qC b (bv false)) (qCo p pc run0 ((xX run0).map .d) []) [(903,wU (zJ p) 0)] S→Snd EE Tryz.f7.ntmps (dropC 10 (Tryz.f7.body.getD .skip)) (fW EE Tryz.f7 (·=bv true)) S)
  {S:St} (hS:At (qB b (bv (kA p pc b).2)) (qBo p pc (kA p pc b).1) (dwF p) S):Snd EE Tryz.f7.ntmps (dropC 9 (Tryz.f7.body.getD .skip)) (fW EE Tryz.f7 (·=bv true)) S:=by
 have cI:=b7 p hp h.hs hv pc h.hx b
 refine oV 1 (fun S=>(∃ x,kA p pc b=(x,true)∧At (qC b (bv true)) (qCo p pc x (kM 920 x) (jX x)) [(903,wU (zJ p) 0),(923,zE x.s.ths)] S)∨(kA p pc b=(run0,false)∧At (qC b (bv false)) (qCo p pc run0 ((xX run0).map .d) []) [(903,wU (zJ p) 0)] S)) (fun K hK=>?_) (fun S hS=>?_)
 rotate_left 1
 ·rcases hS with ⟨x,hx,hS⟩|hS
  ·exact hT x hx S hS
  ·exact hF hS.1 S hS.2
 obtain⟨τ,H,rfl⟩:=hS.form
 clear hS hT hF
 conv=>whnf
 refine .inl ⟨[agg (encProg p),agg (encPct pc),i64 b],[],_,⟨_,_,rfl,⟨_,rfl,fz_ownZ rfl (fun j=>rfl) rfl⟩,_,_,rfl,⟨_,rfl,fz_pct (o:=960) rfl rfl⟩,_,_,rfl,rfl,rfl⟩,rfl,cI,?_⟩
 rintro r (⟨x,hx,rfl⟩|⟨hx,rfl⟩)
 ·refine⟨ownRn_flat x,?_⟩
  rw[hx]
  conv=>whnf
  refine hK _ _ ((qT shV).trans ((qT shZ).trans (qT shY))) (.inl ⟨x,hx,⟨rfl,rfl,rfl,rfl,rfl,rfl,rfl,rfl,rfl,trivial⟩,⟨?_,?_,?_,?_,?_,?_,?_,?_,?_,?_,?_,?_,?_,?_,trivial⟩,⟨fun j=>?_,fun j=>?_,trivial⟩⟩)
  ·rfl
  ·rfl
  ·rfl
  ·rfl
  ·show some (Ob.rs 157 1 ((((((uS (zJ p)).map (scrPL _)).map (scrPL (isK (.n 12)))).map (renL shV.f)).map (renL shZ.f)).map (renL shY.f)))=_
   rw[gE _ (fun j=>rfl),gE _ (fun j=>rfl),tJ (fun j=>rfl),rowsZ_M,jW _ (fun j=>rfl)]
  ·rfl
  ·rfl
  ·rfl
  ·show some (Ob.vs 56 [i64 x.c,.ref (.n 921) 0 (x.tr.map encEv).length,.ref (.n 922) 0 (x.tk.map encInt).length,.dref (.n 923) (x.s.ths.map vV).length,.ref (.n 924) 0 (x.s.cells.map encF).length,.ref (.n 925) 0 (x.s.owner.map encInt).length,i64 x.s.fault])=_
   simp only[List.length_map]
   rfl
  ·rfl
  ·rfl
  ·show some (Ob.rs 175 6 (((((thRows 903 x.s.ths).map (scrPL (isK (.n 12)))).map (renL shV.f)).map (renL shZ.f)).map (renL shY.f)))=_
   rw[yE (fun j=>rfl),dD (o':=923) (fun j=>rfl),zR (o:=923) (fun j=>rfl),zR (o:=923) (fun j=>rfl)]
  ·rfl
  ·rfl
  ·show Option.map _ (Option.map _ (Option.map _ (Option.map _ (Option.map _ (wU (zJ p) 0 j)))))=_
   rw[vH,vH,wM,wM,wM]
  ·have e:ownH (wX x++[bv true]) (.s 903 j)=zE x.s.ths j:=dM
   show Option.map _ (Option.map _ (Option.map _ (Option.map _ (match ownH (wX x++[bv true]) (.s 903 j) with|some ob=>some ob|none=>_))))=_
   rw[e]
   cases hq:zE x.s.ths j with
   |none=>rfl
   |some ob =>
    show Option.map _ (Option.map _ (Option.map _ (Option.map _ (some ob))))=some ob
    rw[← hq,zQ,thFam_ren,thFam_ren,thFam_ren]
 ·refine⟨run0_flat,?_⟩
  rw[hx]
  conv=>whnf
  refine hK _ _ ((qT shZ).trans (qT shY)) (.inr ⟨hx,⟨rfl,rfl,rfl,rfl,rfl,rfl,rfl,rfl,rfl,trivial⟩,⟨?_,?_,?_,?_,?_,?_,?_,?_,?_,trivial⟩,⟨fun j=>?_,trivial⟩⟩)
  ·rfl
  ·rfl
  ·rfl
  ·rfl
  ·show some (Ob.rs 157 1 ((((uS (zJ p)).map (scrPL (isK (.n 12)))).map (renL shZ.f)).map (renL shY.f)))=_
   rw[gE _ (fun j=>rfl),rowsZ_M,jW _ (fun j=>rfl)]
  ·rfl
  ·rfl
  ·rfl
  ·rfl
  ·show Option.map _ (Option.map _ (Option.map _ (wU (zJ p) 0 j)))=_
   rw[vH,wM,wM]
end Ai
namespace Ai
set_option maxRecDepth 100000
open Go Go.Proofs Cyc
theorem v6 {S:St} (x:RunT):FzA S (agg (xX x)) (agg (xX x)):=⟨xX x,rfl,_,_,rfl,rfl,_,_,rfl,rfl,_,_,rfl,rfl,_,_,rfl,rfl,_,_,rfl,rfl,_,_,rfl,rfl,_,_,rfl,rfl,rfl⟩
end Ai
namespace Ai
set_option maxRecDepth 100000
open Go Go.Proofs Cyc
theorem totT_of {xs:List Th} {m:Nat} (h:∀ t∈xs,t.stack.length≤m):∀ i,yC xs i≤i*(5+m)
 | 0=>by simp[yC]
 |i+1=>by
  have ih:=totT_of h i
  rcases Nat.lt_or_ge i xs.length with h1|h1
  ·rw[nR h1]
   have:=h _ (List.getElem_mem h1)
   rw[Nat.add_mul];omega
  ·have e:yC xs (i+1)=yC xs i:=by
    unfold yC
    rw[List.take_of_length_le (by omega),List.take_of_length_le h1]
   rw[e,Nat.add_mul];omega
theorem pctV_fit {p:ProgL} (hv:p.flt) {pc:PctL} {b:Int} {x:RunT} (h:kA p pc b=(x,true)):x.fit∧yC x.s.ths x.s.ths.length≤8388608:=by
 classical
 unfold kA at h
 split at h
 ·rename_i hc
  have hx:iC p pc b=x:=congrArg Prod.fst h
  subst hx
  have he:=pctOf_end hc.1 hv pc b hc.2.2.1
  have hs:=((eR hc.1).small _ he.inv.si).1
  have hl:=he.inv.si.len
  have h1:=he.le
  have h2:=he.len
  have h3:=hc.2.2.2
  refine⟨⟨by omega,by omega,⟨hs.1,hs.2.1,hs.2.2.1,hs.2.2.2⟩⟩,?_⟩
  have:=totT_of hs.2.1 (iC p pc b).s.ths.length
  have h5:(iC p pc b).s.ths.length*(5+1048576)≤5*(5+1048576):=Nat.mul_le_mul_right _ hl
  omega
 ·cases h
theorem lawPct3 (p:ProgL) (pc:PctL) (b:Int) (h:SmP p pc) (x:RunT) (hx:x.fit)
  (hL:∀ S,At (qC b (bv true)) (qCo p pc x (kM 920 x) (jX x)) [(903,wU (zJ p) 0),(923,zE x.s.ths)] S→AW EE Tryz.f7.ntmps (dropC 13 (Tryz.f7.body.getD .skip)) (fW EE Tryz.f7 (·=bv true)) S)
  {S:St} (hS:At (qC b (bv true)) (qCo p pc x (kM 920 x) (jX x)) [(903,wU (zJ p) 0),(923,zE x.s.ths)] S):AW EE Tryz.f7.ntmps (dropC 10 (Tryz.f7.body.getD .skip)) (fW EE Tryz.f7 (·=bv true)) S:=by
 refine dA 3 (At (qC b (bv true)) (qCo p pc x (kM 920 x) (jX x)) [(903,wU (zJ p) 0),(923,zE x.s.ths)]) (fun K hK=>?_) hL
 obtain⟨τ,H,rfl⟩:=hS.form
 clear hS hL
 conv=>whnf
 refine .inl ⟨[agg (xX x),agg (xX x)],[],_,⟨_,_,rfl,⟨_,rfl,sQ (o:=920) ⟨rfl,rfl,rfl,fun j=>rfl,rfl,rfl⟩⟩,_,_,rfl,v6 x,rfl⟩,rfl,gQ x hx,?_⟩
 rintro r rfl
 refine⟨rfl,?_⟩
 conv=>whnf
 refine kbi (fun h=>absurd h (by simp)) (fun _=>?_)
 conv=>whnf
 refine⟨by kernel_rfl,?_⟩
 conv=>whnf
 refine⟨_,gD p h.hs,?_⟩
 conv=>whnf
 refine⟨[agg (encProg p),agg (encProg p)],[],bv true,⟨_,_,rfl,⟨_,rfl,fz_own rfl (fun j=>rfl) rfl⟩,_,_,rfl,sP p,rfl⟩,rfl,oE p h.hs,rfl,?_⟩
 conv=>whnf
 refine⟨by kernel_rfl,?_⟩
 conv=>whnf
 refine⟨_,bB pc h.hx,?_⟩
 conv=>whnf
 have e37:CallsTo EE 37 ([AV.agg (List.map AV.d [D.sl (List.take pc.ranks.length (List.drop 0 (List.map encInt pc.ranks))),D.sl (List.take pc.changes.length (List.drop 0 (List.map encInt pc.changes)))]),agg (encPct pc)]++[]) (·=bv true):=by
  rw[List.drop_zero,List.drop_zero,List.take_of_length_le (by simp),List.take_of_length_le (by simp)]
  exact eqPct_ok pc h.hx
 refine⟨_,e37,rfl,?_⟩
 conv=>whnf
 refine hK _ ⟨⟨rfl,rfl,rfl,rfl,rfl,rfl,rfl,rfl,rfl,trivial⟩,⟨rfl,rfl,rfl,rfl,?_,rfl,rfl,rfl,rfl,rfl,rfl,?_,rfl,rfl,trivial⟩,⟨fun j=>?_,fun j=>?_,trivial⟩⟩
 ·first|rfl|(show some (Ob.rs 157 1 ((wP (zJ p) 0).map (scrPL _)))=_;rw[qJ _ fun j=>rfl])
 ·first|rfl|(show some (Ob.rs 175 6 ((thRows 923 x.s.ths).map (scrPL _)))=_;rw[zZ fun _ _=>rfl])
 ·first|rfl|(show Option.map _ (wU (zJ p) 0 j)=_;exact vH _ _ _ _)
 ·first|rfl|(show Option.map _ (zE x.s.ths j)=_;exact zQ _ _ _)
end Ai
namespace Ai
set_option maxRecDepth 100000
open Go Go.Proofs Cyc
def qD (b:Int) (v:AV) (k:Int):List (Nat × AV):=[(2,i64 b),(3,.ptr (.n 3) 0),(4,.ptr (.n 4) 0),(8,.ptr (.n 8) 0),(9,v),(12,.ptr (.n 12) 0),(13,v),(14,i64 k)]
def qDo (p:ProgL) (pc:PctL) (X:RunT) (r:List AV) (more:List (Key × Ob)):List (Key × Ob):=[(.n 3,.vs 24 ((encProg p).map .d)),(.n 4,.vs 64 ((encPct pc).map .d)),(.n 8,.vs 56 ((xX X).map .d)),(.n 12,.vs 56 r)]++more
def lendPc:Key→Bool
 | .n k=>Nat.beq k 900 || Nat.beq k 901
 | _=>false
theorem lawPct4 (p:ProgL) (pc:PctL) (b:Int) (h:SmP p pc) (x:RunT) (hx:x.fit)
  (hL:∀ S,(∃ k:Int,0≤k∧At (qD b (bv true) k) (qDo p pc x (kM 920 x) (jX x)) [(923,zE x.s.ths)] S)→AW EE Tryz.f7.ntmps (dropC 16 (Tryz.f7.body.getD .skip)) (fW EE Tryz.f7 (·=bv true)) S)
  {S:St} (hS:At (qC b (bv true)) (qCo p pc x (kM 920 x) (jX x)) [(903,wU (zJ p) 0),(923,zE x.s.ths)] S):AW EE Tryz.f7.ntmps (dropC 13 (Tryz.f7.body.getD .skip)) (fW EE Tryz.f7 (·=bv true)) S:=by
 refine dA 3 (fun S=>∃ k:Int,0≤k∧At (qD b (bv true) k) (qDo p pc x (kM 920 x) (jX x)) [(923,zE x.s.ths)] S) (fun K hK=>?_) hL
 obtain⟨τ,H,rfl⟩:=hS.form
 clear hS hL
 have hsl:(zJ p).length=p.rs.length:=by simp[zJ]
 have ht:=l8 h.hz
 conv=>whnf
 refine .inr (.inr (.inl ⟨_,17,[],Weak.refl,rfl,999,0,cE,(fun r H1=>r=i64 (1+4*tot (zJ p) (zJ p).length)∧∀ κ,H1 κ=none),?_,rfl,?_⟩))
 ·refine io_congr (rL p.cells p.locks p.conds (zJ p) 1 (by rw[hsl];exact h.hs.1) (ops4 p) ht (by omega) (by omega) _ ?_ fun j=>?_) ?_
  ·show some (Ob.rs 157 1 (((wP (zJ p) 0).map (renL (swp (.n 999) (.l 0)))).map (scrPL (fun o=>!cE o))))=_
   rw[jW _ (fun j=>rfl),qJ _ (fun j=>rfl)]
  ·show Option.map _ (Option.map _ (wU (zJ p) 0 j))=_
   rw[wM,vH]
  ·rw[hsl];rfl
 rintro r H1 ⟨rfl,q⟩
 refine⟨fun κ _=>q κ,fun n hn=>(by cases hn),?_⟩
 generalize tot (zJ p) (zJ p).length=T at ht ⊢
 conv=>whnf
 refine .inr (.inr (.inr (.inl ⟨_,38,[],Weak.refl,rfl,999,0,lendPc,(fun r H1=>(∃ n:Int,r=i64 n∧0≤n∧n≤268435456)∧∀ κ,H1 κ=none),?_,rfl,?_⟩)))
 ·refine io_congr (tX pc (1+4*(T:Int)) h.hx (by omega) (by omega) _ ?_ ?_) ?_
  ·rfl
  ·rfl
  ·rfl
 rintro r H2 ⟨⟨n,rfl,hn1,hn2⟩,q2⟩
 refine⟨fun κ _=>q2 κ,fun n hn=>(by cases hn),?_⟩
 conv=>whnf
 refine hK _ ⟨n,hn1,⟨rfl,rfl,rfl,rfl,rfl,rfl,rfl,rfl,trivial⟩,⟨rfl,rfl,rfl,rfl,rfl,rfl,?_,rfl,rfl,trivial⟩,⟨fun j=>?_,trivial⟩⟩
 ·show some (Ob.rs 175 6 ((((((((thRows 923 x.s.ths).map (renL (swp (.n 999) (.l 0)))).map (scrPL (xG cE))).map (renL (swp (.n 999) (.l 0)))).map (renL (swp (.n 999) (.l 0)))).map (scrPL (xG lendPc))).map (renL (swp (.n 999) (.l 0))))))=_
  rw[zR (o:=923) (fun j=>rfl),zZ (o:=923) (fun _ _=>rfl),zR (o:=923) (fun j=>rfl),zR (o:=923) (fun j=>rfl),zZ (o:=923) (fun _ _=>rfl),zR (o:=923) (fun j=>rfl)]
 ·show Option.map _ (Option.map _ (Option.map _ (Option.map _ (Option.map _ (Option.map _ (zE x.s.ths j))))))=_
  rw[thFam_ren,zQ,thFam_ren,thFam_ren,zQ,thFam_ren]
end Ai
namespace Ai
set_option maxRecDepth 100000
open Go Go.Proofs Cyc
def qE (b:Int) (v:AV) (m:Int):List (Nat × AV):=[(2,i64 b),(3,.ptr (.n 3) 0),(4,.ptr (.n 4) 0),(8,.ptr (.n 8) 0),(9,v),(12,.ptr (.n 12) 0),(13,v),(15,i64 m)]
theorem lawPct5 (p:ProgL) (pc:PctL) (b:Int) (h:SmP p pc) (x:RunT) (hx:x.fit) (ht:yC x.s.ths x.s.ths.length≤8388608)
  (hL:∀ S,At (qE b (bv true) (fS x 1)) (qDo p pc x (kM 920 x) (jX (xA x 1))) [(923,zE (xA x 1).s.ths)] S→AW EE Tryz.f7.ntmps (dropC 19 (Tryz.f7.body.getD .skip)) (fW EE Tryz.f7 (·=bv true)) S)
  {S:St} (hS:∃ k:Int,0≤k∧At (qD b (bv true) k) (qDo p pc x (kM 920 x) (jX x)) [(923,zE x.s.ths)] S):AW EE Tryz.f7.ntmps (dropC 16 (Tryz.f7.body.getD .skip)) (fW EE Tryz.f7 (·=bv true)) S:=by
 refine dA 3 (At (qE b (bv true) (fS x 1)) (qDo p pc x (kM 920 x) (jX (xA x 1))) [(923,zE (xA x 1).s.ths)]) (fun K hK=>?_) hL
 obtain⟨k,hk,hS⟩:=hS
 obtain⟨τ,H,rfl⟩:=hS.form
 clear hS hL
 conv=>whnf
 refine⟨fun h=>absurd h (by simp;omega),fun _=>?_⟩
 conv=>whnf
 refine .inl ⟨[agg (xX x),agg (xX x)],[],_,⟨_,_,rfl,⟨_,rfl,sQ (o:=920) ⟨rfl,rfl,rfl,fun j=>rfl,rfl,rfl⟩⟩,_,_,rfl,v6 x,rfl⟩,rfl,gQ x hx,?_⟩
 rintro r rfl
 refine⟨rfl,?_⟩
 conv=>whnf
 refine kbi (fun h=>absurd h (by simp)) (fun _=>?_)
 conv=>whnf
 refine .inr (.inr (.inr (.inr ⟨_,30,[],zL,Weak.refl,rfl,zL_zL,pK,_,io_congr (r9 x 1 hx ht (by omega) (by omega) _ ⟨?_,?_,⟨?_,fun j=>?_,?_,?_⟩⟩) ?_,zL_pin,?_⟩)))
 ·rfl
 ·rfl
 ·show some (Ob.rs 175 6 (((thRows 923 x.s.ths).map (renL zL)).map (scrPL (fun o=>!pK o))))=_
  rw[dD (o':=903) (fun j=>rfl),yE (fun j=>rfl)]
 ·show Option.map _ (Option.map _ (zE x.s.ths j))=_
  rw[thFam_ren,zQ]
 ·rfl
 ·rfl
 ·rfl
 rintro r H1 ⟨rfl,e,q⟩
 refine⟨q,fun n hn=>?_,?_⟩
 ·simp only[pK,Bool.or_eq_true] at hn
  rcases hn with (((hn|hn)|hn)|hn)|hn
  ·have:=Nat.eq_of_beq_eq_true hn
   subst this
   exact⟨.ds 128 5 (x.tr.map encEv),rfl,_,e.hE,by simp[xA,fC]⟩
  ·have:=Nat.eq_of_beq_eq_true hn
   subst this
   exact⟨.ds 3 1 (x.tk.map encInt),rfl,_,e.hT,by simp[xA,wT]⟩
  ·have:=Nat.eq_of_beq_eq_true hn
   subst this
   refine⟨.rs 175 6 (thRows 903 x.s.ths),?_,thRows 903 (xA x 1).s.ths,e.hS.hH,by simp[zP,xA,jM,wO]⟩
   show some (Ob.rs 175 6 ((thRows 923 x.s.ths).map (renL zL)))=_
   rw[dD (o':=903) (fun j=>rfl)]
  ·have:=Nat.eq_of_beq_eq_true hn
   subst this
   exact⟨.ds 132 1 (x.s.cells.map encF),rfl,_,e.hS.hC,by simp[xA,jM,uC]⟩
  ·have:=Nat.eq_of_beq_eq_true hn
   subst this
   exact⟨.ds 3 1 (x.s.owner.map encInt),rfl,_,e.hS.hO,by simp[xA,jM,wT]⟩
 conv=>whnf
 refine hK _ ⟨⟨rfl,rfl,rfl,rfl,rfl,rfl,rfl,?_,trivial⟩,⟨rfl,rfl,rfl,?_,?_,?_,?_,?_,?_,trivial⟩,⟨fun j=>?_,trivial⟩⟩
 ·rfl
 ·rfl
 ·show Option.map _ (H1 (.l 71))=_
  rw[e.hE];rfl
 ·show Option.map _ (H1 (.l 72))=_
  rw[e.hT];rfl
 ·show Option.map _ (H1 (.l 73))=_
  rw[e.hS.hH]
  show some (Ob.rs 175 6 ((thRows 903 (xA x 1).s.ths).map (renL zL)))=_
  rw[dD (o':=923) (fun j=>rfl)]
 ·show Option.map _ (H1 (.l 74))=_
  rw[e.hS.hC];rfl
 ·show Option.map _ (H1 (.l 75))=_
  rw[e.hS.hO];rfl
 ·show Option.map _ (H1 (.s 903 j))=_
  rw[e.hS.hF,thFam_ren]
end Ai
namespace Ai
set_option maxRecDepth 100000
open Go Go.Proofs Cyc
theorem refO_mark (o:Nat) (x:RunT) (k:Int):kM o (xA x k)=kM o x:=by
 simp[kM,xA,jM,fC,wT,uC,wO]
theorem fz_mark {S:St} (x:RunT) (k:Int) (h:RnAt 920 (xA x k) S):FzC S (kM 920 x) (xX (xA x k)):=by
 have:=sQ h
 rw[refO_mark] at this
 exact this
def refM (o:Nat) (x:RunT):List AV:=[i64 x.c,.ref (.n (o+1)) 0 (x.tr.map encEv).length,.ref (.n (o+2)) 0 (x.tk.map encInt).length,.dref (.n (o+3)) (x.s.ths.map vV).length,.ref (.n (o+4)) 0 (x.s.cells.map encF).length,.ref (.n (o+5)) 0 (x.s.owner.map encInt).length,i64 x.s.fault]
theorem fz_ownM {o:Nat} {x:RunT} {S:St} (h:RnAt o x S):FzC S (refM o x) (xX x):=by
 have e:refM o x=kM o x:=by simp only[refM,kM,List.length_map]
 rw[e]
 exact sQ h
theorem rZ {E:Env} {g:FuncId} {xs:List AV} {R R':AV→Prop} (h:CallsTo E g xs R) (hr:∀ r,R r→R' r):CallsTo E g xs R' :=
 fun w A vs hI ha=>(h w A vs hI ha).mono fun _ _ ⟨r,h1,h2,h3⟩=>⟨r,hr r h1,h2,h3⟩
theorem lawPct6 (p:ProgL) (pc:PctL) (b:Int) (h:SmP p pc) (x:RunT) (hx:x.fit) (ht:yC x.s.ths x.s.ths.length≤8388608)
  (hL:∀ S,At (qE b (bv true) (fS x 1)) (qDo p pc x (kM 920 x) (jX (xA x 1))) [(923,zE (xA x 1).s.ths)] S→AW EE Tryz.f7.ntmps (dropC 23 (Tryz.f7.body.getD .skip)) (fW EE Tryz.f7 (·=bv true)) S)
  {S:St} (hS:At (qE b (bv true) (fS x 1)) (qDo p pc x (kM 920 x) (jX (xA x 1))) [(923,zE (xA x 1).s.ths)] S):AW EE Tryz.f7.ntmps (dropC 19 (Tryz.f7.body.getD .skip)) (fW EE Tryz.f7 (·=bv true)) S:=by
 refine dA 4 (At (qE b (bv true) (fS x 1)) (qDo p pc x (kM 920 x) (jX (xA x 1))) [(923,zE (xA x 1).s.ths)]) (fun K hK=>?_) hL
 obtain⟨τ,H,rfl⟩:=hS.form
 clear hS hL
 have he:0≤fS x 1:=by unfold fS rX;omega
 conv=>whnf
 refine .inl ⟨[agg (xX (xA x 1)),i64 1],[],_,⟨_,_,rfl,⟨_,rfl,fz_mark x 1 ⟨rfl,rfl,rfl,fun j=>rfl,rfl,rfl⟩⟩,_,_,rfl,rfl,rfl⟩,rfl,lV x 1 hx ht (by omega) (by omega),?_⟩
 rintro r rfl
 refine⟨rfl,?_⟩
 conv=>whnf
 refine kbi (fun h=>absurd h (by simp;try omega)) (fun _=>?_)
 conv=>whnf
 refine⟨fun h=>absurd h (by simp),fun _=>?_⟩
 conv=>whnf
 refine hK _ ⟨⟨rfl,rfl,rfl,rfl,rfl,rfl,rfl,rfl,trivial⟩,⟨rfl,rfl,rfl,rfl,rfl,rfl,?_,rfl,rfl,trivial⟩,⟨fun j=>?_,trivial⟩⟩
 ·first|rfl|(show some (Ob.rs 175 6 ((thRows 923 (xA x 1).s.ths).map (scrPL _)))=_;rw[zZ fun _ _=>rfl])
 ·first|rfl|(show Option.map _ (zE (xA x 1).s.ths j)=_;exact zQ _ _ _)
theorem lawPct7 (p:ProgL) (hp:p.wf) (hv:p.flt) (pc:PctL) (b:Int) (h:SmP p pc) (x:RunT) (hx:x.fit) (ht:yC x.s.ths x.s.ths.length≤8388608) (hq:kA p pc b=(x,true))
  {S:St} (hS:At (qE b (bv true) (fS x 1)) (qDo p pc x (kM 920 x) (jX (xA x 1))) [(923,zE (xA x 1).s.ths)] S):AW EE Tryz.f7.ntmps (dropC 23 (Tryz.f7.body.getD .skip)) (fW EE Tryz.f7 (·=bv true)) S:=by
 have cI:CallsTo EE 36 [agg (encProg p),agg (encPct pc),i64 b] (·=.ownF 8 (wX x++[bv true])):=by
  refine rZ (b7 p hp h.hs hv pc h.hx b) ?_
  rintro r (⟨y,hy,rfl⟩|⟨hy,rfl⟩)
  ·rw[hq] at hy
   cases hy;rfl
  ·rw[hq] at hy
   cases hy
 obtain⟨τ,H,rfl⟩:=hS.form
 clear hS
 have he:0≤fS x 1:=by unfold fS rX;omega
 conv=>whnf
 refine .inr (.inl ⟨12,[2703,2706,2709,2710,2712,2715],?_⟩)
 conv=>whnf
 refine⟨_,gD p h.hs,?_⟩
 conv=>whnf
 refine⟨_,bB pc h.hx,?_⟩
 conv=>whnf
 refine⟨_,cI,?_⟩
 conv=>whnf
 refine⟨by kernel_rfl,?_⟩
 conv=>whnf
 refine .inl ⟨[agg (xX x),agg (xX x)],[],_,⟨_,_,rfl,⟨_,rfl,fz_ownM (o:=900) ⟨?_,?_,?_,fun j=>?_,?_,?_⟩⟩,_,_,rfl,v6 x,rfl⟩,rfl,gQ x hx,?_⟩
 ·rfl
 ·rfl
 ·first|rfl|(show some (Ob.rs 175 6 ((thRows 903 x.s.ths).map (scrPL _)))=_;rw[zZ fun _ _=>rfl])
 ·have e:ownH (wX x++[bv true]) (.s 903 j)=zE x.s.ths j:=dM
  show(match ownH (wX x++[bv true]) (.s 903 j) with|some ob=>some ob|none=>_)=_
  rw[e]
  cases hq:zE x.s.ths j with
  |none=>rfl
  |some ob=>rfl
 ·rfl
 ·rfl
 rintro r rfl
 refine⟨rfl,?_⟩
 conv=>whnf
 refine kbi (fun h=>absurd h (by simp)) (fun _=>?_)
 conv=>whnf
 refine .inl ⟨[agg (xX (xA x 1)),i64 1],[],_,⟨_,_,rfl,⟨_,rfl,fz_mark x 1 ⟨?_,?_,?_,fun j=>?_,?_,?_⟩⟩,_,_,rfl,rfl,rfl⟩,rfl,lV x 1 hx ht (by omega) (by omega),?_⟩
 ·rfl
 ·rfl
 ·first|rfl|(show some (Ob.rs 175 6 ((thRows 923 (xA x 1).s.ths).map (scrPL _)))=_;rw[zZ fun _ _=>rfl])
 ·first|rfl|(show Option.map _ (zE (xA x 1).s.ths j)=_;exact zQ _ _ _)
 ·rfl
 ·rfl
 rintro r rfl
 refine⟨rfl,?_⟩
 conv=>whnf
 refine kbi (fun h=>absurd h (by simp;try omega)) (fun _=>?_)
 conv=>whnf
 refine⟨fun h=>absurd h (by simp),fun _=>?_⟩
 conv=>whnf
end Ai
namespace Ai
set_option maxRecDepth 100000
open Go Go.Proofs Cyc
theorem markI0 (m:Int):CallsTo EE 31 [sl [],i64 m] (·=i64 m):=by
 refine callsTo_of_AW (fn:=Tryz.f31) Tryz.func31 rfl (by kernel_rfl) rfl ?_
 conv=>whnf
 refine yU (fun k:Nat=>[(0,sl []),(1,i64 m),(5,i64 0)]) (fun k=>[]) (fun _=>0) (fun _=>True) 0 .refl ⟨rfl,rfl,rfl,trivial⟩ trivial trivial ?_
 intro k τ H hk
 conv=>whnf
 refine⟨fun h=>absurd h (by simp),fun _=>?_⟩
 conv=>whnf
theorem markF0 (m:Int):CallsTo EE 106 [sl [],i64 m] (·=i64 m):=by
 refine callsTo_of_AW (fn:=Tryz.f106) Tryz.func106 rfl (by kernel_rfl) rfl ?_
 conv=>whnf
 refine yU (fun k:Nat=>[(0,sl []),(1,i64 m),(5,i64 0)]) (fun k=>[]) (fun _=>0) (fun _=>True) 0 .refl ⟨rfl,rfl,rfl,trivial⟩ trivial trivial ?_
 intro k τ H hk
 conv=>whnf
 refine⟨fun h=>absurd h (by simp),fun _=>?_⟩
 conv=>whnf
theorem markE0 (m:Int):CallsTo EE 81 [sl [],i64 m] (·=i64 m):=by
 refine callsTo_of_AW (fn:=Tryz.f81) Tryz.func81 rfl (by kernel_rfl) rfl ?_
 conv=>whnf
 refine yU (fun k:Nat=>[(0,sl []),(1,i64 m),(5,i64 0)]) (fun k=>[]) (fun _=>0) (fun _=>True) 0 .refl ⟨rfl,rfl,rfl,trivial⟩ trivial trivial ?_
 intro k τ H hk
 conv=>whnf
 refine⟨fun h=>absurd h (by simp),fun _=>?_⟩
 conv=>whnf
theorem markT0 (m:Int):CallsTo EE 105 [sl [],i64 m] (·=i64 m):=by
 refine callsTo_of_AW (fn:=Tryz.f105) Tryz.func105 rfl (by kernel_rfl) rfl ?_
 conv=>whnf
 refine yU (fun k:Nat=>[(0,sl []),(1,i64 m),(5,i64 0)]) (fun k=>[]) (fun _=>0) (fun _=>True) 0 .refl ⟨rfl,rfl,rfl,trivial⟩ trivial trivial ?_
 intro k τ H hk
 conv=>whnf
 refine⟨fun h=>absurd h (by simp),fun _=>?_⟩
 conv=>whnf
theorem markSt0 (m:Int):CallsTo EE 49 [agg (yT ⟨[],[],[],0⟩),i64 m] (·=i64 m):=by
 refine callsTo_of_AW (fn:=Tryz.f49) Tryz.func49 rfl (by kernel_rfl) rfl ?_
 conv=>whnf
 refine⟨_,markT0 m,?_⟩
 rintro r rfl
 conv=>whnf
 refine⟨_,markF0 m,?_⟩
 rintro r rfl
 conv=>whnf
 refine⟨_,markI0 m,?_⟩
 rintro r rfl
 conv=>whnf
theorem markRun0 (m:Int):CallsTo EE 30 [agg (xX run0),i64 m] (·=i64 m):=by
 refine callsTo_of_AW (fn:=Tryz.f30) Tryz.func30 rfl (by kernel_rfl) rfl ?_
 conv=>whnf
 refine⟨_,markE0 m,?_⟩
 rintro r rfl
 conv=>whnf
 refine⟨_,markI0 m,?_⟩
 rintro r rfl
 conv=>whnf
 refine⟨_,markSt0 m,?_⟩
 rintro r rfl
 conv=>whnf
theorem mI:run0.fit:=by
 refine⟨by simp[run0],by simp[run0],⟨by simp[run0],by simp[run0],by simp[run0],by simp[run0]⟩⟩
theorem lawPctF (p:ProgL) (hp:p.wf) (hv:p.flt) (pc:PctL) (b:Int) (h:SmP p pc) (hq:kA p pc b=(run0,false))
  {S:St} (hS:At (qC b (bv false)) (qCo p pc run0 ((xX run0).map .d) []) [(903,wU (zJ p) 0)] S):AW EE Tryz.f7.ntmps (dropC 10 (Tryz.f7.body.getD .skip)) (fW EE Tryz.f7 (·=bv true)) S:=by
 have cI:CallsTo EE 36 [agg (encProg p),agg (encPct pc),i64 b] (·=.tup [agg (xX run0),bv false]):=by
  refine rZ (b7 p hp h.hs hv pc h.hx b) ?_
  rintro r (⟨y,hy,rfl⟩|⟨hy,rfl⟩)
  ·rw[hq] at hy
   cases hy
  ·rfl
 obtain⟨τ,H,rfl⟩:=hS.form
 clear hS
 have hsl:(zJ p).length=p.rs.length:=by simp[zJ]
 have ht:=l8 h.hz
 conv=>whnf
 refine⟨_,gQ run0 mI,?_⟩
 rintro r rfl
 conv=>whnf
 refine kbi (fun h=>absurd h (by simp)) (fun _=>?_)
 conv=>whnf
 refine⟨by kernel_rfl,?_⟩
 conv=>whnf
 refine⟨_,gD p h.hs,?_⟩
 conv=>whnf
 refine⟨[agg (encProg p),agg (encProg p)],[],bv true,⟨_,_,rfl,⟨_,rfl,fz_own rfl (fun j=>rfl) rfl⟩,_,_,rfl,sP p,rfl⟩,rfl,oE p h.hs,rfl,?_⟩
 conv=>whnf
 refine⟨by kernel_rfl,?_⟩
 conv=>whnf
 refine⟨_,bB pc h.hx,?_⟩
 conv=>whnf
 have e37:CallsTo EE 37 ([AV.agg (List.map AV.d [D.sl (List.take pc.ranks.length (List.drop 0 (List.map encInt pc.ranks))),D.sl (List.take pc.changes.length (List.drop 0 (List.map encInt pc.changes)))]),agg (encPct pc)]++[]) (·=bv true):=by
  rw[List.drop_zero,List.drop_zero,List.take_of_length_le (by simp),List.take_of_length_le (by simp)]
  exact eqPct_ok pc h.hx
 refine⟨_,e37,rfl,?_⟩
 conv=>whnf
 refine .inr (.inr (.inl ⟨_,17,[],Weak.refl,rfl,999,0,cE,(fun r H1=>r=i64 (1+4*tot (zJ p) (zJ p).length)∧∀ κ,H1 κ=none),?_,rfl,?_⟩))
 ·refine io_congr (rL p.cells p.locks p.conds (zJ p) 1 (by rw[hsl];exact h.hs.1) (ops4 p) ht (by omega) (by omega) _ ?_ fun j=>?_) ?_
  ·show some (Ob.rs 157 1 (((wP (zJ p) 0).map (renL (swp (.n 999) (.l 0)))).map (scrPL (fun o=>!cE o))))=_
   rw[jW _ (fun j=>rfl),qJ _ (fun j=>rfl)]
  ·show Option.map _ (Option.map _ (wU (zJ p) 0 j))=_
   rw[wM,vH]
  ·rw[hsl];rfl
 rintro r H1 ⟨rfl,q⟩
 refine⟨fun κ _=>q κ,fun n hn=>(by cases hn),?_⟩
 generalize tot (zJ p) (zJ p).length=T at ht ⊢
 conv=>whnf
 refine .inr (.inr (.inr (.inl ⟨_,38,[],Weak.refl,rfl,999,0,lendPc,(fun r H1=>(∃ n:Int,r=i64 n∧0≤n∧n≤268435456)∧∀ κ,H1 κ=none),?_,rfl,?_⟩)))
 ·refine io_congr (tX pc (1+4*(T:Int)) h.hx (by omega) (by omega) _ ?_ ?_) ?_
  ·rfl
  ·rfl
  ·rfl
 rintro r H2 ⟨⟨n,rfl,hn1,hn2⟩,q2⟩
 refine⟨fun κ _=>q2 κ,fun n hn=>(by cases hn),?_⟩
 conv=>whnf
 refine⟨fun h=>absurd h (by simp;omega),fun _=>?_⟩
 conv=>whnf
 refine⟨_,gQ run0 mI,?_⟩
 rintro r rfl
 conv=>whnf
 refine kbi (fun h=>absurd h (by simp)) (fun _=>?_)
 conv=>whnf
 refine⟨_,markRun0 1,?_⟩
 rintro r rfl
 conv=>whnf
 have hh:CallsTo EE 39 [agg (xX run0),i64 1] (·=i64 1):=lV run0 1 mI (by simp[run0,yC]) (by omega) (by omega)
 refine⟨_,hh,?_⟩
 rintro r rfl
 conv=>whnf
 refine⟨fun h=>absurd h (by simp),fun _=>?_⟩
 conv=>whnf
 refine⟨fun h=>absurd h (by simp),fun _=>?_⟩
 conv=>whnf
 refine .inr (.inl ⟨12,[],?_⟩)
 conv=>whnf
 refine⟨_,gD p h.hs,?_⟩
 conv=>whnf
 refine⟨_,bB pc h.hx,?_⟩
 conv=>whnf
 refine⟨_,cI,?_⟩
 conv=>whnf
 refine⟨by kernel_rfl,?_⟩
 conv=>whnf
 refine⟨_,gQ run0 mI,?_⟩
 rintro r rfl
 conv=>whnf
 refine kbi (fun h=>absurd h (by simp)) (fun _=>?_)
 conv=>whnf
 refine⟨_,hh,?_⟩
 rintro r rfl
 conv=>whnf
 refine⟨fun h=>absurd h (by simp),fun _=>?_⟩
 conv=>whnf
 refine⟨fun h=>absurd h (by simp),fun _=>?_⟩
 conv=>whnf
theorem lawPct (p:ProgL) (hp:p.wf) (hv:p.flt) (pc:PctL) (hx:pc.wf) (b:Int):CallsTo EE 7 [agg (encProg p),agg (encPct pc),i64 b] (·=bv true):=by
 refine lawPct1 p hp hv pc hx b fun h S hS=>?_
 refine lawPct2 p hp hv pc b h (fun x hq S hS=>nW ?_) (fun hq S hS=>nW (lawPctF p hp hv pc b h hq hS)) hS
 obtain⟨hx,ht⟩:=pctV_fit hv hq
 exact lawPct3 p pc b h x hx (fun S hS=>lawPct4 p pc b h x hx (fun S hS=>lawPct5 p pc b h x hx ht (fun S hS=>lawPct6 p pc b h x hx ht (fun S hS=>lawPct7 p hp hv pc b h x hx ht hq hS) hS) hS) hS) hS
end Ai
namespace Ai
set_option maxRecDepth 100000
open Go Go.Proofs Go.Deep
section
variable {H:Type} {enc':TypeId × Value→H} {w:World} {sp:Nat→Bool} {held:Bool}
theorem rd_pct {n:Nat} {cs:List Value} {x:DataW H × List MemPlace} (h:DataW.trod enc' Tryz.prog w 0 sp held n 64 cs=some x):∃ o:PctL,o.wf∧Fits w (encPct o) cs:=by
 obtain⟨xs,m,_,_,hcl,hxl,hf⟩:=DataW.trod_struct Tryz.underlying64 h
 have c41:Tryz.prog.cellsOf 41=1:=by kernel_rfl
 have c64:Tryz.prog.cellsOf 64=2:=by kernel_rfl
 have hxl4:xs.length=2:=hxl
 have g0:DataW.trod enc' Tryz.prog w 0 sp held m 41 ((cs.drop 0).take (Tryz.prog.cellsOf 41))=xs[0]?:=hf 0 _ rfl
 have g1:DataW.trod enc' Tryz.prog w 0 sp held m 41 ((cs.drop 1).take (Tryz.prog.cellsOf 41))=xs[1]?:=hf 1 _ rfl
 simp only[c41] at g0 g1
 rw[List.getElem?_eq_getElem (by omega)] at g0 g1
 obtain⟨k0,w0,f0⟩:=rd_ints g0
 obtain⟨k1,w1,f1⟩:=rd_ints g1
 exact⟨⟨k0,k1⟩,⟨w0,w1⟩,vK (k:=0) f0 (vK (k:=1) f1 (cQ (by omega)))⟩
end
end Ai
