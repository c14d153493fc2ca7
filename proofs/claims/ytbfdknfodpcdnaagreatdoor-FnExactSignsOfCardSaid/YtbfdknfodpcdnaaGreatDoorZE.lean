import Derived.Test.YtbfdknfodpcdnaaGreatDoorZD
import Derived.WalkKit
set_option maxHeartbeats 8000000
set_option linter.unusedVariables false
set_option linter.unusedSimpArgs false
namespace Ai
set_option maxRecDepth 100000
open Go Go.Proofs Cyc
noncomputable def ops12:Array Oper:=(bI 12 (Tryz.f109.body.getD .skip)).getD #[]
theorem lA {S:St} {A:AV} {o:Key} {T:Nat} {out:List Nat} {k:Nat} (hA:A=.ptr o (0+k*1)) (hH:S.H o=some (.vs T ((arr out).map .d))) (hk:k<out.length):vQ S A 1=some [i64 (out.getD k 0:Nat)]:=by
 subst hA
 unfold vQ
 simp only[hH]
 have h1:Nat.ble (0+k*1+1) ((arr out).map AV.d).length=true:=by rw[Nat.ble_eq];simp[arr];omega
 simp only[h1,cond_true]
 have:((arr out).map AV.d).drop (0+k*1)=i64 (out.getD k 0:Nat)::((arr out).map AV.d).drop (k+1):=by
  rw[Nat.zero_add,Nat.mul_one,List.drop_eq_getElem_cons (by simpa[arr] using hk)]
  congr 1
  simp[arr,List.getD_eq_getElem?_getD,hk]
 rw[this]
 rfl
theorem jP (p:Key→Bool) (l:List Nat):scrPL p ((arr l).map .d)=(arr l).map .d:=by
 have:∀ ds:List D,scrPL p (ds.map .d)=ds.map .d:=by
  intro ds
  induction ds with
  |nil=>rfl
  |cons d ds ih=>simp only[List.map_cons,scrPL,ih];rfl
 exact this _
theorem tE {α:Type} (x:α):∀ (l:List α) (k:Nat),k<l.length→zW l k [x]=l.set k x
 | [],k,h=>by cases h
 |a::l,0,h=>rfl
 |a::l,k+1,h=>by
  show a::zW l k [x]=a::l.set k x
  rw[tE x l k (by simpa using h)]
theorem tG {L:List AV} {l:List Nat} {k v:Nat} {x:AV} (hL:L=(arr l).map .d) (hk:k<l.length) (hx:x=i64 (v:Nat)):zW L (0+k*1) [x]=(arr (l.set k v)).map .d:=by
 subst hL hx
 rw[Nat.zero_add,Nat.mul_one,tE _ _ _ (by simpa[arr] using hk)]
 simp[arr,List.map_set]
structure R12 (edges:List (Nat × Nat)) (goal e0 e1 i j:Nat) (que out:List Nat) (far:List (Nat × Nat)) (v1:Nat) (L:Nat→Bool) (S:St):Prop where
 u0:S.τ 0=sl (edges.map vU)
 u1:S.τ 1=i64 goal
 u4:S.τ 4=.ptr (.n 4) 0
 u5:S.τ 5=.ptr (.n 5) 0
 u7:S.τ 7=.mref (.n 14)
 u8:S.τ 8=i64 i
 u10:S.τ 10=.d (.sl [[di (e0:Int)],[di (e1:Int)]])
 u23:S.τ 23=sl (edges.map vU)
 u24:S.τ 24=i64 (edges.map vU).length
 u25:S.τ 25=i64 j
 h4:S.H (.n 4)=some (.vs 155 ((arr (List.replicate 100 0)).map .d))
 h5:S.H (.n 5)=some (.vs 155 ((arr out).map .d))
 c0:L 0=true→S.τ 61=.mref (.n 14)
 c1:L 1=true→S.τ 62=.d (.sl [[di (e0:Int)],[di (e1:Int)]])
 c2:L 2=true→S.τ 63=.fp [di (e0:Int)]
 c3:L 3=true→S.τ 64=i64 e0
 c4:L 4=true→S.τ 65=.d (.sl [[di (e0:Int)],[di (e1:Int)]])
 c5:L 5=true→S.τ 66=.fp [di (e0:Int)]
 c6:L 6=true→S.τ 67=i64 e0
 c7:L 7=true→S.τ 68=.ptr (.n 5) (0+e0*1)
 c8:L 8=true→S.τ 69=i64 v1
 c9:L 9=true→L 14=false→S.τ 70=.ref (.n 13) 0 que.length
 c10:L 10=true→S.τ 71=.d (.sl [[di (e0:Int)],[di (e1:Int)]])
 c11:L 11=true→S.τ 72=.fp [di (e0:Int)]
 c12:L 12=true→S.τ 73=i64 e0
 c13:L 13=true→L 14=false→S.τ 74=.ref (.n 74) 0 1
 c14:L 14=true→S.τ 75=.ref (.n 13) 0 (que.length+1)
 c15:L 15=true→S.τ 76=.tup [.junk,i64 far.length]
 c16:L 16=true→S.τ 77=i64 far.length
 e13:L 13=true→L 14=false→S.H (.n 74)=some (.ds 3 1 [[di (e0:Int)]])
 q6a:L 14=false→S.τ 6=.ref (.n 13) 0 que.length
 q6b:L 18=true→S.τ 6=.ref (.n 13) 0 (que.length+1)
 h13a:L 14=false→S.H (.n 13)=some (.ds 3 1 (que.map xI))
 h13b:L 14=true→S.H (.n 13)=some (.ds 3 1 ((que++[e0]).map xI))
 h14a:L 15=false→S.H (.n 14)=some (.mp false (uP far))
 h14b:L 15=true→L 17=false→S.H (.n 14)=some (.mp false (uP far++[((e0:Int),[])]))
 h14c:L 17=true→S.H (.n 14)=some (.mp false (uP (far++[(e0,v1)])))
 o1:L 14=true→L 9=true
 o2:L 14=true→L 13=true
 o3:L 17=true→L 15=true
 o4:L 15=true→L 14=true
 o5:L 18=true→L 14=true
 o6:L 18=true→L 17=true
theorem opB_0 {edges:List (Nat × Nat)} {goal e0 e1 i j:Nat} {que out:List Nat} {far:List (Nat × Nat)} {v1:Nat} (L:Nat→Bool) (S:St) (r:R12 edges goal e0 e1 i j que out far v1 L S) (hL:L 0=false):aDo EE Tryz.f109.ntmps ops12 (ops12[0]'(by decide)) S (R12 edges goal e0 e1 i j que out far v1 (fun j=>L j || j==0)):=by
 have hat:At [(7,.mref (.n 14))] [] [] S:=⟨⟨r.u7,trivial⟩,trivial,trivial⟩
 obtain⟨τ,H,rfl⟩:=hat.form
 conv=>whnf
 exact {
  u0:=r.u0
  u1:=r.u1
  u4:=r.u4
  u5:=r.u5
  u7:=r.u7
  u8:=r.u8
  u10:=r.u10
  u23:=r.u23
  u24:=r.u24
  u25:=r.u25
  h4:=r.h4
  h5:=r.h5
  c0:=fun _=>rfl
  c1:=fun g0=>r.c1 (by simpa using g0)
  c2:=fun g0=>r.c2 (by simpa using g0)
  c3:=fun g0=>r.c3 (by simpa using g0)
  c4:=fun g0=>r.c4 (by simpa using g0)
  c5:=fun g0=>r.c5 (by simpa using g0)
  c6:=fun g0=>r.c6 (by simpa using g0)
  c7:=fun g0=>r.c7 (by simpa using g0)
  c8:=fun g0=>r.c8 (by simpa using g0)
  c9:=fun g0 g1=>r.c9 (by simpa using g0) (by simpa using g1)
  c10:=fun g0=>r.c10 (by simpa using g0)
  c11:=fun g0=>r.c11 (by simpa using g0)
  c12:=fun g0=>r.c12 (by simpa using g0)
  c13:=fun g0 g1=>r.c13 (by simpa using g0) (by simpa using g1)
  c14:=fun g0=>r.c14 (by simpa using g0)
  c15:=fun g0=>r.c15 (by simpa using g0)
  c16:=fun g0=>r.c16 (by simpa using g0)
  e13:=fun g0 g1=>r.e13 (by simpa using g0) (by simpa using g1)
  q6a:=fun g0=>r.q6a (by simpa using g0)
  q6b:=fun g0=>r.q6b (by simpa using g0)
  h13a:=fun g0=>r.h13a (by simpa using g0)
  h13b:=fun g0=>r.h13b (by simpa using g0)
  h14a:=fun g0=>r.h14a (by simpa using g0)
  h14b:=fun g0 g1=>r.h14b (by simpa using g0) (by simpa using g1)
  h14c:=fun g0=>r.h14c (by simpa using g0)
  o1:=fun g0=>by have:=r.o1 (by simpa using g0);simp[this]
  o2:=fun g0=>by have:=r.o2 (by simpa using g0);simp[this]
  o3:=fun g0=>by have:=r.o3 (by simpa using g0);simp[this]
  o4:=fun g0=>by have:=r.o4 (by simpa using g0);simp[this]
  o5:=fun g0=>by have:=r.o5 (by simpa using g0);simp[this]
  o6:=fun g0=>by have:=r.o6 (by simpa using g0);simp[this] }
theorem opB_1 {edges:List (Nat × Nat)} {goal e0 e1 i j:Nat} {que out:List Nat} {far:List (Nat × Nat)} {v1:Nat} (L:Nat→Bool) (S:St) (r:R12 edges goal e0 e1 i j que out far v1 L S) (hL:L 1=false):aDo EE Tryz.f109.ntmps ops12 (ops12[1]'(by decide)) S (R12 edges goal e0 e1 i j que out far v1 (fun j=>L j || j==1)):=by
 have hat:At [(10,.d (.sl [[di (e0:Int)],[di (e1:Int)]]))] [] [] S:=⟨⟨r.u10,trivial⟩,trivial,trivial⟩
 obtain⟨τ,H,rfl⟩:=hat.form
 conv=>whnf
 exact {
  u0:=r.u0
  u1:=r.u1
  u4:=r.u4
  u5:=r.u5
  u7:=r.u7
  u8:=r.u8
  u10:=r.u10
  u23:=r.u23
  u24:=r.u24
  u25:=r.u25
  h4:=r.h4
  h5:=r.h5
  c0:=fun g0=>r.c0 (by simpa using g0)
  c1:=fun _=>rfl
  c2:=fun g0=>r.c2 (by simpa using g0)
  c3:=fun g0=>r.c3 (by simpa using g0)
  c4:=fun g0=>r.c4 (by simpa using g0)
  c5:=fun g0=>r.c5 (by simpa using g0)
  c6:=fun g0=>r.c6 (by simpa using g0)
  c7:=fun g0=>r.c7 (by simpa using g0)
  c8:=fun g0=>r.c8 (by simpa using g0)
  c9:=fun g0 g1=>r.c9 (by simpa using g0) (by simpa using g1)
  c10:=fun g0=>r.c10 (by simpa using g0)
  c11:=fun g0=>r.c11 (by simpa using g0)
  c12:=fun g0=>r.c12 (by simpa using g0)
  c13:=fun g0 g1=>r.c13 (by simpa using g0) (by simpa using g1)
  c14:=fun g0=>r.c14 (by simpa using g0)
  c15:=fun g0=>r.c15 (by simpa using g0)
  c16:=fun g0=>r.c16 (by simpa using g0)
  e13:=fun g0 g1=>r.e13 (by simpa using g0) (by simpa using g1)
  q6a:=fun g0=>r.q6a (by simpa using g0)
  q6b:=fun g0=>r.q6b (by simpa using g0)
  h13a:=fun g0=>r.h13a (by simpa using g0)
  h13b:=fun g0=>r.h13b (by simpa using g0)
  h14a:=fun g0=>r.h14a (by simpa using g0)
  h14b:=fun g0 g1=>r.h14b (by simpa using g0) (by simpa using g1)
  h14c:=fun g0=>r.h14c (by simpa using g0)
  o1:=fun g0=>by have:=r.o1 (by simpa using g0);simp[this]
  o2:=fun g0=>by have:=r.o2 (by simpa using g0);simp[this]
  o3:=fun g0=>by have:=r.o3 (by simpa using g0);simp[this]
  o4:=fun g0=>by have:=r.o4 (by simpa using g0);simp[this]
  o5:=fun g0=>by have:=r.o5 (by simpa using g0);simp[this]
  o6:=fun g0=>by have:=r.o6 (by simpa using g0);simp[this] }
theorem opB_2 {edges:List (Nat × Nat)} {goal e0 e1 i j:Nat} {que out:List Nat} {far:List (Nat × Nat)} {v1:Nat} (L:Nat→Bool) (S:St) (r:R12 edges goal e0 e1 i j que out far v1 L S) (hL:L 2=false) (k1:L 1=true):aDo EE Tryz.f109.ntmps ops12 (ops12[2]'(by decide)) S (R12 edges goal e0 e1 i j que out far v1 (fun j=>L j || j==2)):=by
 have hat:At [(62,.d (.sl [[di (e0:Int)],[di (e1:Int)]]))] [] [] S:=⟨⟨r.c1 k1,trivial⟩,trivial,trivial⟩
 obtain⟨τ,H,rfl⟩:=hat.form
 conv=>whnf
 refine⟨[di (e0:Int)],⟨by decide,rfl,rfl⟩,?_⟩
 conv=>whnf
 exact {
  u0:=r.u0
  u1:=r.u1
  u4:=r.u4
  u5:=r.u5
  u7:=r.u7
  u8:=r.u8
  u10:=r.u10
  u23:=r.u23
  u24:=r.u24
  u25:=r.u25
  h4:=r.h4
  h5:=r.h5
  c0:=fun g0=>r.c0 (by simpa using g0)
  c1:=fun g0=>r.c1 (by simpa using g0)
  c2:=fun _=>rfl
  c3:=fun g0=>r.c3 (by simpa using g0)
  c4:=fun g0=>r.c4 (by simpa using g0)
  c5:=fun g0=>r.c5 (by simpa using g0)
  c6:=fun g0=>r.c6 (by simpa using g0)
  c7:=fun g0=>r.c7 (by simpa using g0)
  c8:=fun g0=>r.c8 (by simpa using g0)
  c9:=fun g0 g1=>r.c9 (by simpa using g0) (by simpa using g1)
  c10:=fun g0=>r.c10 (by simpa using g0)
  c11:=fun g0=>r.c11 (by simpa using g0)
  c12:=fun g0=>r.c12 (by simpa using g0)
  c13:=fun g0 g1=>r.c13 (by simpa using g0) (by simpa using g1)
  c14:=fun g0=>r.c14 (by simpa using g0)
  c15:=fun g0=>r.c15 (by simpa using g0)
  c16:=fun g0=>r.c16 (by simpa using g0)
  e13:=fun g0 g1=>r.e13 (by simpa using g0) (by simpa using g1)
  q6a:=fun g0=>r.q6a (by simpa using g0)
  q6b:=fun g0=>r.q6b (by simpa using g0)
  h13a:=fun g0=>r.h13a (by simpa using g0)
  h13b:=fun g0=>r.h13b (by simpa using g0)
  h14a:=fun g0=>r.h14a (by simpa using g0)
  h14b:=fun g0 g1=>r.h14b (by simpa using g0) (by simpa using g1)
  h14c:=fun g0=>r.h14c (by simpa using g0)
  o1:=fun g0=>by have:=r.o1 (by simpa using g0);simp[this]
  o2:=fun g0=>by have:=r.o2 (by simpa using g0);simp[this]
  o3:=fun g0=>by have:=r.o3 (by simpa using g0);simp[this]
  o4:=fun g0=>by have:=r.o4 (by simpa using g0);simp[this]
  o5:=fun g0=>by have:=r.o5 (by simpa using g0);simp[this]
  o6:=fun g0=>by have:=r.o6 (by simpa using g0);simp[this] }
theorem opB_3 {edges:List (Nat × Nat)} {goal e0 e1 i j:Nat} {que out:List Nat} {far:List (Nat × Nat)} {v1:Nat} (L:Nat→Bool) (S:St) (r:R12 edges goal e0 e1 i j que out far v1 L S) (hL:L 3=false) (k2:L 2=true):aDo EE Tryz.f109.ntmps ops12 (ops12[3]'(by decide)) S (R12 edges goal e0 e1 i j que out far v1 (fun j=>L j || j==3)):=by
 have hat:At [(63,.fp [di (e0:Int)])] [] [] S:=⟨⟨r.c2 k2,trivial⟩,trivial,trivial⟩
 obtain⟨τ,H,rfl⟩:=hat.form
 conv=>whnf
 exact {
  u0:=r.u0
  u1:=r.u1
  u4:=r.u4
  u5:=r.u5
  u7:=r.u7
  u8:=r.u8
  u10:=r.u10
  u23:=r.u23
  u24:=r.u24
  u25:=r.u25
  h4:=r.h4
  h5:=r.h5
  c0:=fun g0=>r.c0 (by simpa using g0)
  c1:=fun g0=>r.c1 (by simpa using g0)
  c2:=fun g0=>r.c2 (by simpa using g0)
  c3:=fun _=>rfl
  c4:=fun g0=>r.c4 (by simpa using g0)
  c5:=fun g0=>r.c5 (by simpa using g0)
  c6:=fun g0=>r.c6 (by simpa using g0)
  c7:=fun g0=>r.c7 (by simpa using g0)
  c8:=fun g0=>r.c8 (by simpa using g0)
  c9:=fun g0 g1=>r.c9 (by simpa using g0) (by simpa using g1)
  c10:=fun g0=>r.c10 (by simpa using g0)
  c11:=fun g0=>r.c11 (by simpa using g0)
  c12:=fun g0=>r.c12 (by simpa using g0)
  c13:=fun g0 g1=>r.c13 (by simpa using g0) (by simpa using g1)
  c14:=fun g0=>r.c14 (by simpa using g0)
  c15:=fun g0=>r.c15 (by simpa using g0)
  c16:=fun g0=>r.c16 (by simpa using g0)
  e13:=fun g0 g1=>r.e13 (by simpa using g0) (by simpa using g1)
  q6a:=fun g0=>r.q6a (by simpa using g0)
  q6b:=fun g0=>r.q6b (by simpa using g0)
  h13a:=fun g0=>r.h13a (by simpa using g0)
  h13b:=fun g0=>r.h13b (by simpa using g0)
  h14a:=fun g0=>r.h14a (by simpa using g0)
  h14b:=fun g0 g1=>r.h14b (by simpa using g0) (by simpa using g1)
  h14c:=fun g0=>r.h14c (by simpa using g0)
  o1:=fun g0=>by have:=r.o1 (by simpa using g0);simp[this]
  o2:=fun g0=>by have:=r.o2 (by simpa using g0);simp[this]
  o3:=fun g0=>by have:=r.o3 (by simpa using g0);simp[this]
  o4:=fun g0=>by have:=r.o4 (by simpa using g0);simp[this]
  o5:=fun g0=>by have:=r.o5 (by simpa using g0);simp[this]
  o6:=fun g0=>by have:=r.o6 (by simpa using g0);simp[this] }
theorem opB_4 {edges:List (Nat × Nat)} {goal e0 e1 i j:Nat} {que out:List Nat} {far:List (Nat × Nat)} {v1:Nat} (L:Nat→Bool) (S:St) (r:R12 edges goal e0 e1 i j que out far v1 L S) (hL:L 4=false):aDo EE Tryz.f109.ntmps ops12 (ops12[4]'(by decide)) S (R12 edges goal e0 e1 i j que out far v1 (fun j=>L j || j==4)):=by
 have hat:At [(10,.d (.sl [[di (e0:Int)],[di (e1:Int)]]))] [] [] S:=⟨⟨r.u10,trivial⟩,trivial,trivial⟩
 obtain⟨τ,H,rfl⟩:=hat.form
 conv=>whnf
 exact {
  u0:=r.u0
  u1:=r.u1
  u4:=r.u4
  u5:=r.u5
  u7:=r.u7
  u8:=r.u8
  u10:=r.u10
  u23:=r.u23
  u24:=r.u24
  u25:=r.u25
  h4:=r.h4
  h5:=r.h5
  c0:=fun g0=>r.c0 (by simpa using g0)
  c1:=fun g0=>r.c1 (by simpa using g0)
  c2:=fun g0=>r.c2 (by simpa using g0)
  c3:=fun g0=>r.c3 (by simpa using g0)
  c4:=fun _=>rfl
  c5:=fun g0=>r.c5 (by simpa using g0)
  c6:=fun g0=>r.c6 (by simpa using g0)
  c7:=fun g0=>r.c7 (by simpa using g0)
  c8:=fun g0=>r.c8 (by simpa using g0)
  c9:=fun g0 g1=>r.c9 (by simpa using g0) (by simpa using g1)
  c10:=fun g0=>r.c10 (by simpa using g0)
  c11:=fun g0=>r.c11 (by simpa using g0)
  c12:=fun g0=>r.c12 (by simpa using g0)
  c13:=fun g0 g1=>r.c13 (by simpa using g0) (by simpa using g1)
  c14:=fun g0=>r.c14 (by simpa using g0)
  c15:=fun g0=>r.c15 (by simpa using g0)
  c16:=fun g0=>r.c16 (by simpa using g0)
  e13:=fun g0 g1=>r.e13 (by simpa using g0) (by simpa using g1)
  q6a:=fun g0=>r.q6a (by simpa using g0)
  q6b:=fun g0=>r.q6b (by simpa using g0)
  h13a:=fun g0=>r.h13a (by simpa using g0)
  h13b:=fun g0=>r.h13b (by simpa using g0)
  h14a:=fun g0=>r.h14a (by simpa using g0)
  h14b:=fun g0 g1=>r.h14b (by simpa using g0) (by simpa using g1)
  h14c:=fun g0=>r.h14c (by simpa using g0)
  o1:=fun g0=>by have:=r.o1 (by simpa using g0);simp[this]
  o2:=fun g0=>by have:=r.o2 (by simpa using g0);simp[this]
  o3:=fun g0=>by have:=r.o3 (by simpa using g0);simp[this]
  o4:=fun g0=>by have:=r.o4 (by simpa using g0);simp[this]
  o5:=fun g0=>by have:=r.o5 (by simpa using g0);simp[this]
  o6:=fun g0=>by have:=r.o6 (by simpa using g0);simp[this] }
theorem opB_5 {edges:List (Nat × Nat)} {goal e0 e1 i j:Nat} {que out:List Nat} {far:List (Nat × Nat)} {v1:Nat} (L:Nat→Bool) (S:St) (r:R12 edges goal e0 e1 i j que out far v1 L S) (hL:L 5=false) (k4:L 4=true):aDo EE Tryz.f109.ntmps ops12 (ops12[5]'(by decide)) S (R12 edges goal e0 e1 i j que out far v1 (fun j=>L j || j==5)):=by
 have hat:At [(65,.d (.sl [[di (e0:Int)],[di (e1:Int)]]))] [] [] S:=⟨⟨r.c4 k4,trivial⟩,trivial,trivial⟩
 obtain⟨τ,H,rfl⟩:=hat.form
 conv=>whnf
 refine⟨[di (e0:Int)],⟨by decide,rfl,rfl⟩,?_⟩
 conv=>whnf
 exact {
  u0:=r.u0
  u1:=r.u1
  u4:=r.u4
  u5:=r.u5
  u7:=r.u7
  u8:=r.u8
  u10:=r.u10
  u23:=r.u23
  u24:=r.u24
  u25:=r.u25
  h4:=r.h4
  h5:=r.h5
  c0:=fun g0=>r.c0 (by simpa using g0)
  c1:=fun g0=>r.c1 (by simpa using g0)
  c2:=fun g0=>r.c2 (by simpa using g0)
  c3:=fun g0=>r.c3 (by simpa using g0)
  c4:=fun g0=>r.c4 (by simpa using g0)
  c5:=fun _=>rfl
  c6:=fun g0=>r.c6 (by simpa using g0)
  c7:=fun g0=>r.c7 (by simpa using g0)
  c8:=fun g0=>r.c8 (by simpa using g0)
  c9:=fun g0 g1=>r.c9 (by simpa using g0) (by simpa using g1)
  c10:=fun g0=>r.c10 (by simpa using g0)
  c11:=fun g0=>r.c11 (by simpa using g0)
  c12:=fun g0=>r.c12 (by simpa using g0)
  c13:=fun g0 g1=>r.c13 (by simpa using g0) (by simpa using g1)
  c14:=fun g0=>r.c14 (by simpa using g0)
  c15:=fun g0=>r.c15 (by simpa using g0)
  c16:=fun g0=>r.c16 (by simpa using g0)
  e13:=fun g0 g1=>r.e13 (by simpa using g0) (by simpa using g1)
  q6a:=fun g0=>r.q6a (by simpa using g0)
  q6b:=fun g0=>r.q6b (by simpa using g0)
  h13a:=fun g0=>r.h13a (by simpa using g0)
  h13b:=fun g0=>r.h13b (by simpa using g0)
  h14a:=fun g0=>r.h14a (by simpa using g0)
  h14b:=fun g0 g1=>r.h14b (by simpa using g0) (by simpa using g1)
  h14c:=fun g0=>r.h14c (by simpa using g0)
  o1:=fun g0=>by have:=r.o1 (by simpa using g0);simp[this]
  o2:=fun g0=>by have:=r.o2 (by simpa using g0);simp[this]
  o3:=fun g0=>by have:=r.o3 (by simpa using g0);simp[this]
  o4:=fun g0=>by have:=r.o4 (by simpa using g0);simp[this]
  o5:=fun g0=>by have:=r.o5 (by simpa using g0);simp[this]
  o6:=fun g0=>by have:=r.o6 (by simpa using g0);simp[this] }
theorem opB_6 {edges:List (Nat × Nat)} {goal e0 e1 i j:Nat} {que out:List Nat} {far:List (Nat × Nat)} {v1:Nat} (L:Nat→Bool) (S:St) (r:R12 edges goal e0 e1 i j que out far v1 L S) (hL:L 6=false) (k5:L 5=true):aDo EE Tryz.f109.ntmps ops12 (ops12[6]'(by decide)) S (R12 edges goal e0 e1 i j que out far v1 (fun j=>L j || j==6)):=by
 have hat:At [(66,.fp [di (e0:Int)])] [] [] S:=⟨⟨r.c5 k5,trivial⟩,trivial,trivial⟩
 obtain⟨τ,H,rfl⟩:=hat.form
 conv=>whnf
 exact {
  u0:=r.u0
  u1:=r.u1
  u4:=r.u4
  u5:=r.u5
  u7:=r.u7
  u8:=r.u8
  u10:=r.u10
  u23:=r.u23
  u24:=r.u24
  u25:=r.u25
  h4:=r.h4
  h5:=r.h5
  c0:=fun g0=>r.c0 (by simpa using g0)
  c1:=fun g0=>r.c1 (by simpa using g0)
  c2:=fun g0=>r.c2 (by simpa using g0)
  c3:=fun g0=>r.c3 (by simpa using g0)
  c4:=fun g0=>r.c4 (by simpa using g0)
  c5:=fun g0=>r.c5 (by simpa using g0)
  c6:=fun _=>rfl
  c7:=fun g0=>r.c7 (by simpa using g0)
  c8:=fun g0=>r.c8 (by simpa using g0)
  c9:=fun g0 g1=>r.c9 (by simpa using g0) (by simpa using g1)
  c10:=fun g0=>r.c10 (by simpa using g0)
  c11:=fun g0=>r.c11 (by simpa using g0)
  c12:=fun g0=>r.c12 (by simpa using g0)
  c13:=fun g0 g1=>r.c13 (by simpa using g0) (by simpa using g1)
  c14:=fun g0=>r.c14 (by simpa using g0)
  c15:=fun g0=>r.c15 (by simpa using g0)
  c16:=fun g0=>r.c16 (by simpa using g0)
  e13:=fun g0 g1=>r.e13 (by simpa using g0) (by simpa using g1)
  q6a:=fun g0=>r.q6a (by simpa using g0)
  q6b:=fun g0=>r.q6b (by simpa using g0)
  h13a:=fun g0=>r.h13a (by simpa using g0)
  h13b:=fun g0=>r.h13b (by simpa using g0)
  h14a:=fun g0=>r.h14a (by simpa using g0)
  h14b:=fun g0 g1=>r.h14b (by simpa using g0) (by simpa using g1)
  h14c:=fun g0=>r.h14c (by simpa using g0)
  o1:=fun g0=>by have:=r.o1 (by simpa using g0);simp[this]
  o2:=fun g0=>by have:=r.o2 (by simpa using g0);simp[this]
  o3:=fun g0=>by have:=r.o3 (by simpa using g0);simp[this]
  o4:=fun g0=>by have:=r.o4 (by simpa using g0);simp[this]
  o5:=fun g0=>by have:=r.o5 (by simpa using g0);simp[this]
  o6:=fun g0=>by have:=r.o6 (by simpa using g0);simp[this] }
theorem opB_7 {edges:List (Nat × Nat)} {goal e0 e1 i j:Nat} {que out:List Nat} {far:List (Nat × Nat)} {v1:Nat} (he0:e0<100) (L:Nat→Bool) (S:St) (r:R12 edges goal e0 e1 i j que out far v1 L S) (hL:L 7=false) (k6:L 6=true):aDo EE Tryz.f109.ntmps ops12 (ops12[7]'(by decide)) S (R12 edges goal e0 e1 i j que out far v1 (fun j=>L j || j==7)):=by
 have hat:At [(5,.ptr (.n 5) 0),(67,i64 e0)] [] [] S:=⟨⟨r.u5,r.c6 k6,trivial⟩,trivial,trivial⟩
 obtain⟨τ,H,rfl⟩:=hat.form
 conv=>whnf
 refine⟨⟨by omega,by show(e0:Int)<100;omega⟩,?_⟩
 conv=>whnf
 exact {
  u0:=r.u0
  u1:=r.u1
  u4:=r.u4
  u5:=r.u5
  u7:=r.u7
  u8:=r.u8
  u10:=r.u10
  u23:=r.u23
  u24:=r.u24
  u25:=r.u25
  h4:=r.h4
  h5:=r.h5
  c0:=fun g0=>r.c0 (by simpa using g0)
  c1:=fun g0=>r.c1 (by simpa using g0)
  c2:=fun g0=>r.c2 (by simpa using g0)
  c3:=fun g0=>r.c3 (by simpa using g0)
  c4:=fun g0=>r.c4 (by simpa using g0)
  c5:=fun g0=>r.c5 (by simpa using g0)
  c6:=fun g0=>r.c6 (by simpa using g0)
  c7:=fun _=>rfl
  c8:=fun g0=>r.c8 (by simpa using g0)
  c9:=fun g0 g1=>r.c9 (by simpa using g0) (by simpa using g1)
  c10:=fun g0=>r.c10 (by simpa using g0)
  c11:=fun g0=>r.c11 (by simpa using g0)
  c12:=fun g0=>r.c12 (by simpa using g0)
  c13:=fun g0 g1=>r.c13 (by simpa using g0) (by simpa using g1)
  c14:=fun g0=>r.c14 (by simpa using g0)
  c15:=fun g0=>r.c15 (by simpa using g0)
  c16:=fun g0=>r.c16 (by simpa using g0)
  e13:=fun g0 g1=>r.e13 (by simpa using g0) (by simpa using g1)
  q6a:=fun g0=>r.q6a (by simpa using g0)
  q6b:=fun g0=>r.q6b (by simpa using g0)
  h13a:=fun g0=>r.h13a (by simpa using g0)
  h13b:=fun g0=>r.h13b (by simpa using g0)
  h14a:=fun g0=>r.h14a (by simpa using g0)
  h14b:=fun g0 g1=>r.h14b (by simpa using g0) (by simpa using g1)
  h14c:=fun g0=>r.h14c (by simpa using g0)
  o1:=fun g0=>by have:=r.o1 (by simpa using g0);simp[this]
  o2:=fun g0=>by have:=r.o2 (by simpa using g0);simp[this]
  o3:=fun g0=>by have:=r.o3 (by simpa using g0);simp[this]
  o4:=fun g0=>by have:=r.o4 (by simpa using g0);simp[this]
  o5:=fun g0=>by have:=r.o5 (by simpa using g0);simp[this]
  o6:=fun g0=>by have:=r.o6 (by simpa using g0);simp[this] }
theorem opB_8 {edges:List (Nat × Nat)} {goal e0 e1 i j:Nat} {que out:List Nat} {far:List (Nat × Nat)} {v1:Nat} (he0:e0<out.length) (hv1:out.getD e0 0=v1) (L:Nat→Bool) (S:St) (r:R12 edges goal e0 e1 i j que out far v1 L S) (hL:L 8=false) (k7:L 7=true):aDo EE Tryz.f109.ntmps ops12 (ops12[8]'(by decide)) S (R12 edges goal e0 e1 i j que out far v1 (fun j=>L j || j==8)):=by
 have hat:At [(68,.ptr (.n 5) (0+e0*1))] [(.n 5,.vs 155 ((arr out).map .d))] [] S:=⟨⟨r.c7 k7,trivial⟩,⟨r.h5,trivial⟩,trivial⟩
 obtain⟨τ,H,rfl⟩:=hat.form
 conv=>whnf
 split
 rotate_left 1
 ·rename_i hld
  exact absurd (hld.symm.trans (lA (out:=out) (k:=e0) rfl rfl he0)) (by simp)
 rename_i cs hld
 obtain rfl:=Option.some.inj (hld.symm.trans (lA (out:=out) (k:=e0) rfl rfl he0))
 clear hld
 conv=>whnf
 exact {
  u0:=r.u0
  u1:=r.u1
  u4:=r.u4
  u5:=r.u5
  u7:=r.u7
  u8:=r.u8
  u10:=r.u10
  u23:=r.u23
  u24:=r.u24
  u25:=r.u25
  h4:=r.h4
  h5:=r.h5
  c0:=fun g0=>r.c0 (by simpa using g0)
  c1:=fun g0=>r.c1 (by simpa using g0)
  c2:=fun g0=>r.c2 (by simpa using g0)
  c3:=fun g0=>r.c3 (by simpa using g0)
  c4:=fun g0=>r.c4 (by simpa using g0)
  c5:=fun g0=>r.c5 (by simpa using g0)
  c6:=fun g0=>r.c6 (by simpa using g0)
  c7:=fun g0=>r.c7 (by simpa using g0)
  c8:=fun _=>by show i64 (out.getD e0 0:Nat)=_;rw[hv1]
  c9:=fun g0 g1=>r.c9 (by simpa using g0) (by simpa using g1)
  c10:=fun g0=>r.c10 (by simpa using g0)
  c11:=fun g0=>r.c11 (by simpa using g0)
  c12:=fun g0=>r.c12 (by simpa using g0)
  c13:=fun g0 g1=>r.c13 (by simpa using g0) (by simpa using g1)
  c14:=fun g0=>r.c14 (by simpa using g0)
  c15:=fun g0=>r.c15 (by simpa using g0)
  c16:=fun g0=>r.c16 (by simpa using g0)
  e13:=fun g0 g1=>r.e13 (by simpa using g0) (by simpa using g1)
  q6a:=fun g0=>r.q6a (by simpa using g0)
  q6b:=fun g0=>r.q6b (by simpa using g0)
  h13a:=fun g0=>r.h13a (by simpa using g0)
  h13b:=fun g0=>r.h13b (by simpa using g0)
  h14a:=fun g0=>r.h14a (by simpa using g0)
  h14b:=fun g0 g1=>r.h14b (by simpa using g0) (by simpa using g1)
  h14c:=fun g0=>r.h14c (by simpa using g0)
  o1:=fun g0=>by have:=r.o1 (by simpa using g0);simp[this]
  o2:=fun g0=>by have:=r.o2 (by simpa using g0);simp[this]
  o3:=fun g0=>by have:=r.o3 (by simpa using g0);simp[this]
  o4:=fun g0=>by have:=r.o4 (by simpa using g0);simp[this]
  o5:=fun g0=>by have:=r.o5 (by simpa using g0);simp[this]
  o6:=fun g0=>by have:=r.o6 (by simpa using g0);simp[this] }
theorem opB_9 {edges:List (Nat × Nat)} {goal e0 e1 i j:Nat} {que out:List Nat} {far:List (Nat × Nat)} {v1:Nat} (L:Nat→Bool) (S:St) (r:R12 edges goal e0 e1 i j que out far v1 L S) (hL:L 9=false):aDo EE Tryz.f109.ntmps ops12 (ops12[9]'(by decide)) S (R12 edges goal e0 e1 i j que out far v1 (fun j=>L j || j==9)):=by
 have n14:L 14=false:=by
  cases h:L 14 with
  |false=>rfl
  |true=>exact absurd (r.o1 h) (by rw[hL];decide)
 have hat:At [(6,.ref (.n 13) 0 que.length)] [] [] S:=⟨⟨r.q6a n14,trivial⟩,trivial,trivial⟩
 obtain⟨τ,H,rfl⟩:=hat.form
 conv=>whnf
 exact {
  u0:=r.u0
  u1:=r.u1
  u4:=r.u4
  u5:=r.u5
  u7:=r.u7
  u8:=r.u8
  u10:=r.u10
  u23:=r.u23
  u24:=r.u24
  u25:=r.u25
  h4:=r.h4
  h5:=r.h5
  c0:=fun g0=>r.c0 (by simpa using g0)
  c1:=fun g0=>r.c1 (by simpa using g0)
  c2:=fun g0=>r.c2 (by simpa using g0)
  c3:=fun g0=>r.c3 (by simpa using g0)
  c4:=fun g0=>r.c4 (by simpa using g0)
  c5:=fun g0=>r.c5 (by simpa using g0)
  c6:=fun g0=>r.c6 (by simpa using g0)
  c7:=fun g0=>r.c7 (by simpa using g0)
  c8:=fun g0=>r.c8 (by simpa using g0)
  c9:=fun _ _=>rfl
  c10:=fun g0=>r.c10 (by simpa using g0)
  c11:=fun g0=>r.c11 (by simpa using g0)
  c12:=fun g0=>r.c12 (by simpa using g0)
  c13:=fun g0 g1=>r.c13 (by simpa using g0) (by simpa using g1)
  c14:=fun g0=>r.c14 (by simpa using g0)
  c15:=fun g0=>r.c15 (by simpa using g0)
  c16:=fun g0=>r.c16 (by simpa using g0)
  e13:=fun g0 g1=>r.e13 (by simpa using g0) (by simpa using g1)
  q6a:=fun g0=>r.q6a (by simpa using g0)
  q6b:=fun g0=>r.q6b (by simpa using g0)
  h13a:=fun g0=>r.h13a (by simpa using g0)
  h13b:=fun g0=>r.h13b (by simpa using g0)
  h14a:=fun g0=>r.h14a (by simpa using g0)
  h14b:=fun g0 g1=>r.h14b (by simpa using g0) (by simpa using g1)
  h14c:=fun g0=>r.h14c (by simpa using g0)
  o1:=fun g0=>by have:=r.o1 (by simpa using g0);simp[this]
  o2:=fun g0=>by have:=r.o2 (by simpa using g0);simp[this]
  o3:=fun g0=>by have:=r.o3 (by simpa using g0);simp[this]
  o4:=fun g0=>by have:=r.o4 (by simpa using g0);simp[this]
  o5:=fun g0=>by have:=r.o5 (by simpa using g0);simp[this]
  o6:=fun g0=>by have:=r.o6 (by simpa using g0);simp[this] }
theorem opB_10 {edges:List (Nat × Nat)} {goal e0 e1 i j:Nat} {que out:List Nat} {far:List (Nat × Nat)} {v1:Nat} (L:Nat→Bool) (S:St) (r:R12 edges goal e0 e1 i j que out far v1 L S) (hL:L 10=false):aDo EE Tryz.f109.ntmps ops12 (ops12[10]'(by decide)) S (R12 edges goal e0 e1 i j que out far v1 (fun j=>L j || j==10)):=by
 have hat:At [(10,.d (.sl [[di (e0:Int)],[di (e1:Int)]]))] [] [] S:=⟨⟨r.u10,trivial⟩,trivial,trivial⟩
 obtain⟨τ,H,rfl⟩:=hat.form
 conv=>whnf
 exact {
  u0:=r.u0
  u1:=r.u1
  u4:=r.u4
  u5:=r.u5
  u7:=r.u7
  u8:=r.u8
  u10:=r.u10
  u23:=r.u23
  u24:=r.u24
  u25:=r.u25
  h4:=r.h4
  h5:=r.h5
  c0:=fun g0=>r.c0 (by simpa using g0)
  c1:=fun g0=>r.c1 (by simpa using g0)
  c2:=fun g0=>r.c2 (by simpa using g0)
  c3:=fun g0=>r.c3 (by simpa using g0)
  c4:=fun g0=>r.c4 (by simpa using g0)
  c5:=fun g0=>r.c5 (by simpa using g0)
  c6:=fun g0=>r.c6 (by simpa using g0)
  c7:=fun g0=>r.c7 (by simpa using g0)
  c8:=fun g0=>r.c8 (by simpa using g0)
  c9:=fun g0 g1=>r.c9 (by simpa using g0) (by simpa using g1)
  c10:=fun _=>rfl
  c11:=fun g0=>r.c11 (by simpa using g0)
  c12:=fun g0=>r.c12 (by simpa using g0)
  c13:=fun g0 g1=>r.c13 (by simpa using g0) (by simpa using g1)
  c14:=fun g0=>r.c14 (by simpa using g0)
  c15:=fun g0=>r.c15 (by simpa using g0)
  c16:=fun g0=>r.c16 (by simpa using g0)
  e13:=fun g0 g1=>r.e13 (by simpa using g0) (by simpa using g1)
  q6a:=fun g0=>r.q6a (by simpa using g0)
  q6b:=fun g0=>r.q6b (by simpa using g0)
  h13a:=fun g0=>r.h13a (by simpa using g0)
  h13b:=fun g0=>r.h13b (by simpa using g0)
  h14a:=fun g0=>r.h14a (by simpa using g0)
  h14b:=fun g0 g1=>r.h14b (by simpa using g0) (by simpa using g1)
  h14c:=fun g0=>r.h14c (by simpa using g0)
  o1:=fun g0=>by have:=r.o1 (by simpa using g0);simp[this]
  o2:=fun g0=>by have:=r.o2 (by simpa using g0);simp[this]
  o3:=fun g0=>by have:=r.o3 (by simpa using g0);simp[this]
  o4:=fun g0=>by have:=r.o4 (by simpa using g0);simp[this]
  o5:=fun g0=>by have:=r.o5 (by simpa using g0);simp[this]
  o6:=fun g0=>by have:=r.o6 (by simpa using g0);simp[this] }
theorem opB_11 {edges:List (Nat × Nat)} {goal e0 e1 i j:Nat} {que out:List Nat} {far:List (Nat × Nat)} {v1:Nat} (L:Nat→Bool) (S:St) (r:R12 edges goal e0 e1 i j que out far v1 L S) (hL:L 11=false) (k10:L 10=true):aDo EE Tryz.f109.ntmps ops12 (ops12[11]'(by decide)) S (R12 edges goal e0 e1 i j que out far v1 (fun j=>L j || j==11)):=by
 have hat:At [(71,.d (.sl [[di (e0:Int)],[di (e1:Int)]]))] [] [] S:=⟨⟨r.c10 k10,trivial⟩,trivial,trivial⟩
 obtain⟨τ,H,rfl⟩:=hat.form
 conv=>whnf
 refine⟨[di (e0:Int)],⟨by decide,rfl,rfl⟩,?_⟩
 conv=>whnf
 exact {
  u0:=r.u0
  u1:=r.u1
  u4:=r.u4
  u5:=r.u5
  u7:=r.u7
  u8:=r.u8
  u10:=r.u10
  u23:=r.u23
  u24:=r.u24
  u25:=r.u25
  h4:=r.h4
  h5:=r.h5
  c0:=fun g0=>r.c0 (by simpa using g0)
  c1:=fun g0=>r.c1 (by simpa using g0)
  c2:=fun g0=>r.c2 (by simpa using g0)
  c3:=fun g0=>r.c3 (by simpa using g0)
  c4:=fun g0=>r.c4 (by simpa using g0)
  c5:=fun g0=>r.c5 (by simpa using g0)
  c6:=fun g0=>r.c6 (by simpa using g0)
  c7:=fun g0=>r.c7 (by simpa using g0)
  c8:=fun g0=>r.c8 (by simpa using g0)
  c9:=fun g0 g1=>r.c9 (by simpa using g0) (by simpa using g1)
  c10:=fun g0=>r.c10 (by simpa using g0)
  c11:=fun _=>rfl
  c12:=fun g0=>r.c12 (by simpa using g0)
  c13:=fun g0 g1=>r.c13 (by simpa using g0) (by simpa using g1)
  c14:=fun g0=>r.c14 (by simpa using g0)
  c15:=fun g0=>r.c15 (by simpa using g0)
  c16:=fun g0=>r.c16 (by simpa using g0)
  e13:=fun g0 g1=>r.e13 (by simpa using g0) (by simpa using g1)
  q6a:=fun g0=>r.q6a (by simpa using g0)
  q6b:=fun g0=>r.q6b (by simpa using g0)
  h13a:=fun g0=>r.h13a (by simpa using g0)
  h13b:=fun g0=>r.h13b (by simpa using g0)
  h14a:=fun g0=>r.h14a (by simpa using g0)
  h14b:=fun g0 g1=>r.h14b (by simpa using g0) (by simpa using g1)
  h14c:=fun g0=>r.h14c (by simpa using g0)
  o1:=fun g0=>by have:=r.o1 (by simpa using g0);simp[this]
  o2:=fun g0=>by have:=r.o2 (by simpa using g0);simp[this]
  o3:=fun g0=>by have:=r.o3 (by simpa using g0);simp[this]
  o4:=fun g0=>by have:=r.o4 (by simpa using g0);simp[this]
  o5:=fun g0=>by have:=r.o5 (by simpa using g0);simp[this]
  o6:=fun g0=>by have:=r.o6 (by simpa using g0);simp[this] }
theorem opB_12 {edges:List (Nat × Nat)} {goal e0 e1 i j:Nat} {que out:List Nat} {far:List (Nat × Nat)} {v1:Nat} (L:Nat→Bool) (S:St) (r:R12 edges goal e0 e1 i j que out far v1 L S) (hL:L 12=false) (k11:L 11=true):aDo EE Tryz.f109.ntmps ops12 (ops12[12]'(by decide)) S (R12 edges goal e0 e1 i j que out far v1 (fun j=>L j || j==12)):=by
 have hat:At [(72,.fp [di (e0:Int)])] [] [] S:=⟨⟨r.c11 k11,trivial⟩,trivial,trivial⟩
 obtain⟨τ,H,rfl⟩:=hat.form
 conv=>whnf
 exact {
  u0:=r.u0
  u1:=r.u1
  u4:=r.u4
  u5:=r.u5
  u7:=r.u7
  u8:=r.u8
  u10:=r.u10
  u23:=r.u23
  u24:=r.u24
  u25:=r.u25
  h4:=r.h4
  h5:=r.h5
  c0:=fun g0=>r.c0 (by simpa using g0)
  c1:=fun g0=>r.c1 (by simpa using g0)
  c2:=fun g0=>r.c2 (by simpa using g0)
  c3:=fun g0=>r.c3 (by simpa using g0)
  c4:=fun g0=>r.c4 (by simpa using g0)
  c5:=fun g0=>r.c5 (by simpa using g0)
  c6:=fun g0=>r.c6 (by simpa using g0)
  c7:=fun g0=>r.c7 (by simpa using g0)
  c8:=fun g0=>r.c8 (by simpa using g0)
  c9:=fun g0 g1=>r.c9 (by simpa using g0) (by simpa using g1)
  c10:=fun g0=>r.c10 (by simpa using g0)
  c11:=fun g0=>r.c11 (by simpa using g0)
  c12:=fun _=>rfl
  c13:=fun g0 g1=>r.c13 (by simpa using g0) (by simpa using g1)
  c14:=fun g0=>r.c14 (by simpa using g0)
  c15:=fun g0=>r.c15 (by simpa using g0)
  c16:=fun g0=>r.c16 (by simpa using g0)
  e13:=fun g0 g1=>r.e13 (by simpa using g0) (by simpa using g1)
  q6a:=fun g0=>r.q6a (by simpa using g0)
  q6b:=fun g0=>r.q6b (by simpa using g0)
  h13a:=fun g0=>r.h13a (by simpa using g0)
  h13b:=fun g0=>r.h13b (by simpa using g0)
  h14a:=fun g0=>r.h14a (by simpa using g0)
  h14b:=fun g0 g1=>r.h14b (by simpa using g0) (by simpa using g1)
  h14c:=fun g0=>r.h14c (by simpa using g0)
  o1:=fun g0=>by have:=r.o1 (by simpa using g0);simp[this]
  o2:=fun g0=>by have:=r.o2 (by simpa using g0);simp[this]
  o3:=fun g0=>by have:=r.o3 (by simpa using g0);simp[this]
  o4:=fun g0=>by have:=r.o4 (by simpa using g0);simp[this]
  o5:=fun g0=>by have:=r.o5 (by simpa using g0);simp[this]
  o6:=fun g0=>by have:=r.o6 (by simpa using g0);simp[this] }
theorem opB_13 {edges:List (Nat × Nat)} {goal e0 e1 i j:Nat} {que out:List Nat} {far:List (Nat × Nat)} {v1:Nat} (L:Nat→Bool) (S:St) (r:R12 edges goal e0 e1 i j que out far v1 L S) (hL:L 13=false) (k12:L 12=true):aDo EE Tryz.f109.ntmps ops12 (ops12[13]'(by decide)) S (R12 edges goal e0 e1 i j que out far v1 (fun j=>L j || j==13)):=by
 have hat:At [(73,i64 e0)] [] [] S:=⟨⟨r.c12 k12,trivial⟩,trivial,trivial⟩
 obtain⟨τ,H,rfl⟩:=hat.form
 conv=>whnf
 exact {
  u0:=(congrArg (scrP (isK (.n 74))) (r.u0)).trans rfl
  u1:=(congrArg (scrP (isK (.n 74))) (r.u1)).trans rfl
  u4:=(congrArg (scrP (isK (.n 74))) (r.u4)).trans rfl
  u5:=(congrArg (scrP (isK (.n 74))) (r.u5)).trans rfl
  u7:=(congrArg (scrP (isK (.n 74))) (r.u7)).trans rfl
  u8:=(congrArg (scrP (isK (.n 74))) (r.u8)).trans rfl
  u10:=(congrArg (scrP (isK (.n 74))) (r.u10)).trans rfl
  u23:=(congrArg (scrP (isK (.n 74))) (r.u23)).trans rfl
  u24:=(congrArg (scrP (isK (.n 74))) (r.u24)).trans rfl
  u25:=(congrArg (scrP (isK (.n 74))) (r.u25)).trans rfl
  h4:=(congrArg (Option.map (scrPO (isK (.n 74)))) (r.h4)).trans (congrArg (fun x=>some (Ob.vs 155 x)) (jP _ _))
  h5:=(congrArg (Option.map (scrPO (isK (.n 74)))) (r.h5)).trans (congrArg (fun x=>some (Ob.vs 155 x)) (jP _ _))
  c0:=fun g0=>(congrArg (scrP (isK (.n 74))) (r.c0 (by simpa using g0))).trans rfl
  c1:=fun g0=>(congrArg (scrP (isK (.n 74))) (r.c1 (by simpa using g0))).trans rfl
  c2:=fun g0=>(congrArg (scrP (isK (.n 74))) (r.c2 (by simpa using g0))).trans rfl
  c3:=fun g0=>(congrArg (scrP (isK (.n 74))) (r.c3 (by simpa using g0))).trans rfl
  c4:=fun g0=>(congrArg (scrP (isK (.n 74))) (r.c4 (by simpa using g0))).trans rfl
  c5:=fun g0=>(congrArg (scrP (isK (.n 74))) (r.c5 (by simpa using g0))).trans rfl
  c6:=fun g0=>(congrArg (scrP (isK (.n 74))) (r.c6 (by simpa using g0))).trans rfl
  c7:=fun g0=>(congrArg (scrP (isK (.n 74))) (r.c7 (by simpa using g0))).trans rfl
  c8:=fun g0=>(congrArg (scrP (isK (.n 74))) (r.c8 (by simpa using g0))).trans rfl
  c9:=fun g0 g1=>(congrArg (scrP (isK (.n 74))) (r.c9 (by simpa using g0) (by simpa using g1))).trans rfl
  c10:=fun g0=>(congrArg (scrP (isK (.n 74))) (r.c10 (by simpa using g0))).trans rfl
  c11:=fun g0=>(congrArg (scrP (isK (.n 74))) (r.c11 (by simpa using g0))).trans rfl
  c12:=fun g0=>(congrArg (scrP (isK (.n 74))) (r.c12 (by simpa using g0))).trans rfl
  c13:=fun _ _=>rfl
  c14:=fun g0=>(congrArg (scrP (isK (.n 74))) (r.c14 (by simpa using g0))).trans rfl
  c15:=fun g0=>(congrArg (scrP (isK (.n 74))) (r.c15 (by simpa using g0))).trans rfl
  c16:=fun g0=>(congrArg (scrP (isK (.n 74))) (r.c16 (by simpa using g0))).trans rfl
  e13:=fun _ _=>rfl
  q6a:=fun g0=>(congrArg (scrP (isK (.n 74))) (r.q6a (by simpa using g0))).trans rfl
  q6b:=fun g0=>(congrArg (scrP (isK (.n 74))) (r.q6b (by simpa using g0))).trans rfl
  h13a:=fun g0=>(congrArg (Option.map (scrPO (isK (.n 74)))) (r.h13a (by simpa using g0))).trans rfl
  h13b:=fun g0=>(congrArg (Option.map (scrPO (isK (.n 74)))) (r.h13b (by simpa using g0))).trans rfl
  h14a:=fun g0=>(congrArg (Option.map (scrPO (isK (.n 74)))) (r.h14a (by simpa using g0))).trans rfl
  h14b:=fun g0 g1=>(congrArg (Option.map (scrPO (isK (.n 74)))) (r.h14b (by simpa using g0) (by simpa using g1))).trans rfl
  h14c:=fun g0=>(congrArg (Option.map (scrPO (isK (.n 74)))) (r.h14c (by simpa using g0))).trans rfl
  o1:=fun g0=>by have:=r.o1 (by simpa using g0);simp[this]
  o2:=fun g0=>by have:=r.o2 (by simpa using g0);simp[this]
  o3:=fun g0=>by have:=r.o3 (by simpa using g0);simp[this]
  o4:=fun g0=>by have:=r.o4 (by simpa using g0);simp[this]
  o5:=fun g0=>by have:=r.o5 (by simpa using g0);simp[this]
  o6:=fun g0=>by have:=r.o6 (by simpa using g0);simp[this] }
theorem opB_14 {edges:List (Nat × Nat)} {goal e0 e1 i j:Nat} {que out:List Nat} {far:List (Nat × Nat)} {v1:Nat} (hq:que.length≤1000) (L:Nat→Bool) (S:St) (r:R12 edges goal e0 e1 i j que out far v1 L S) (hL:L 14=false) (k9:L 9=true) (k13:L 13=true):aDo EE Tryz.f109.ntmps ops12 (ops12[14]'(by decide)) S (R12 edges goal e0 e1 i j que out far v1 (fun j=>L j || j==14)):=by
 have hat:At [(70,.ref (.n 13) 0 que.length),(74,.ref (.n 74) 0 1)] [(.n 13,.ds 3 1 (que.map xI)),(.n 74,.ds 3 1 [[di (e0:Int)]])] [] S:=⟨⟨r.c9 k9 hL,r.c13 k13 hL,trivial⟩,⟨r.h13a hL,r.e13 k13 hL,trivial⟩,trivial⟩
 obtain⟨τ,H,rfl⟩:=hat.form
 conv=>whnf
 refine⟨⟨rfl,by show(que.length+1)*8≤_;omega,by show que.length+1≤_;omega⟩,?_⟩
 conv=>whnf
 exact {
  u0:=(congrArg (scrP (isK (.n 13))) (r.u0)).trans rfl
  u1:=(congrArg (scrP (isK (.n 13))) (r.u1)).trans rfl
  u4:=(congrArg (scrP (isK (.n 13))) (r.u4)).trans rfl
  u5:=(congrArg (scrP (isK (.n 13))) (r.u5)).trans rfl
  u7:=(congrArg (scrP (isK (.n 13))) (r.u7)).trans rfl
  u8:=(congrArg (scrP (isK (.n 13))) (r.u8)).trans rfl
  u10:=(congrArg (scrP (isK (.n 13))) (r.u10)).trans rfl
  u23:=(congrArg (scrP (isK (.n 13))) (r.u23)).trans rfl
  u24:=(congrArg (scrP (isK (.n 13))) (r.u24)).trans rfl
  u25:=(congrArg (scrP (isK (.n 13))) (r.u25)).trans rfl
  h4:=(congrArg (Option.map (scrPO (isK (.n 13)))) (r.h4)).trans (congrArg (fun x=>some (Ob.vs 155 x)) (jP _ _))
  h5:=(congrArg (Option.map (scrPO (isK (.n 13)))) (r.h5)).trans (congrArg (fun x=>some (Ob.vs 155 x)) (jP _ _))
  c0:=fun g0=>(congrArg (scrP (isK (.n 13))) (r.c0 (by simpa using g0))).trans rfl
  c1:=fun g0=>(congrArg (scrP (isK (.n 13))) (r.c1 (by simpa using g0))).trans rfl
  c2:=fun g0=>(congrArg (scrP (isK (.n 13))) (r.c2 (by simpa using g0))).trans rfl
  c3:=fun g0=>(congrArg (scrP (isK (.n 13))) (r.c3 (by simpa using g0))).trans rfl
  c4:=fun g0=>(congrArg (scrP (isK (.n 13))) (r.c4 (by simpa using g0))).trans rfl
  c5:=fun g0=>(congrArg (scrP (isK (.n 13))) (r.c5 (by simpa using g0))).trans rfl
  c6:=fun g0=>(congrArg (scrP (isK (.n 13))) (r.c6 (by simpa using g0))).trans rfl
  c7:=fun g0=>(congrArg (scrP (isK (.n 13))) (r.c7 (by simpa using g0))).trans rfl
  c8:=fun g0=>(congrArg (scrP (isK (.n 13))) (r.c8 (by simpa using g0))).trans rfl
  c9:=fun g0 g1=>absurd g1 (by simp)
  c10:=fun g0=>(congrArg (scrP (isK (.n 13))) (r.c10 (by simpa using g0))).trans rfl
  c11:=fun g0=>(congrArg (scrP (isK (.n 13))) (r.c11 (by simpa using g0))).trans rfl
  c12:=fun g0=>(congrArg (scrP (isK (.n 13))) (r.c12 (by simpa using g0))).trans rfl
  c13:=fun g0 g1=>absurd g1 (by simp)
  c14:=fun _=>rfl
  c15:=fun g0=>(congrArg (scrP (isK (.n 13))) (r.c15 (by simpa using g0))).trans rfl
  c16:=fun g0=>(congrArg (scrP (isK (.n 13))) (r.c16 (by simpa using g0))).trans rfl
  e13:=fun g0 g1=>absurd g1 (by simp)
  q6a:=fun g0=>absurd g0 (by simp)
  q6b:=fun g0=>absurd (r.o5 (by simpa using g0)) (by rw[hL];decide)
  h13a:=fun g0=>absurd g0 (by simp)
  h13b:=fun _=>by
   show some (Ob.ds 3 1 ((que.map xI).take que.length++[xI e0]))=_
   rw[List.take_of_length_le (by simp)]
   simp
  h14a:=fun g0=>(congrArg (Option.map (scrPO (isK (.n 13)))) (r.h14a (by simpa using g0))).trans rfl
  h14b:=fun g0 g1=>(congrArg (Option.map (scrPO (isK (.n 13)))) (r.h14b (by simpa using g0) (by simpa using g1))).trans rfl
  h14c:=fun g0=>(congrArg (Option.map (scrPO (isK (.n 13)))) (r.h14c (by simpa using g0))).trans rfl
  o1:=fun _=>by simp[k9]
  o2:=fun _=>by simp[k13]
  o3:=fun g0=>by have:=r.o3 (by simpa using g0);simp[this]
  o4:=fun g0=>by have:=r.o4 (by simpa using g0);simp[this]
  o5:=fun g0=>by have:=r.o5 (by simpa using g0);simp[this]
  o6:=fun g0=>by have:=r.o6 (by simpa using g0);simp[this] }
theorem opB_15 {edges:List (Nat × Nat)} {goal e0 e1 i j:Nat} {que out:List Nat} {far:List (Nat × Nat)} {v1:Nat} (hab:(far.any fun p=>p.1==e0)=false) (L:Nat→Bool) (S:St) (r:R12 edges goal e0 e1 i j que out far v1 L S) (hL:L 15=false) (k0:L 0=true) (k3:L 3=true) (k14:L 14=true):aDo EE Tryz.f109.ntmps ops12 (ops12[15]'(by decide)) S (R12 edges goal e0 e1 i j que out far v1 (fun j=>L j || j==15)):=by
 have hat:At [(61,.mref (.n 14)),(64,i64 e0)] [(.n 14,.mp false (uP far))] [] S:=⟨⟨r.c0 k0,r.c3 k3,trivial⟩,⟨r.h14a hL,trivial⟩,trivial⟩
 obtain⟨τ,H,rfl⟩:=hat.form
 conv=>whnf
 exact {
  u0:=r.u0
  u1:=r.u1
  u4:=r.u4
  u5:=r.u5
  u7:=r.u7
  u8:=r.u8
  u10:=r.u10
  u23:=r.u23
  u24:=r.u24
  u25:=r.u25
  h4:=r.h4
  h5:=r.h5
  c0:=fun g0=>r.c0 (by simpa using g0)
  c1:=fun g0=>r.c1 (by simpa using g0)
  c2:=fun g0=>r.c2 (by simpa using g0)
  c3:=fun g0=>r.c3 (by simpa using g0)
  c4:=fun g0=>r.c4 (by simpa using g0)
  c5:=fun g0=>r.c5 (by simpa using g0)
  c6:=fun g0=>r.c6 (by simpa using g0)
  c7:=fun g0=>r.c7 (by simpa using g0)
  c8:=fun g0=>r.c8 (by simpa using g0)
  c9:=fun g0 g1=>r.c9 (by simpa using g0) (by simpa using g1)
  c10:=fun g0=>r.c10 (by simpa using g0)
  c11:=fun g0=>r.c11 (by simpa using g0)
  c12:=fun g0=>r.c12 (by simpa using g0)
  c13:=fun g0 g1=>r.c13 (by simpa using g0) (by simpa using g1)
  c14:=fun g0=>r.c14 (by simpa using g0)
  c15:=fun _=>by show AV.tup [.junk,.d (.int .i64 (vO (uP far) (e0:Int):Nat))]=_;rw[idxM_far hab]
  c16:=fun g0=>r.c16 (by simpa using g0)
  e13:=fun g0 g1=>r.e13 (by simpa using g0) (by simpa using g1)
  q6a:=fun g0=>r.q6a (by simpa using g0)
  q6b:=fun g0=>r.q6b (by simpa using g0)
  h13a:=fun g0=>r.h13a (by simpa using g0)
  h13b:=fun g0=>r.h13b (by simpa using g0)
  h14a:=fun g0=>absurd g0 (by simp)
  h14b:=fun _ _=>by show some (Ob.mp false (aI (uP far) (e0:Int)))=_;rw[addM_far hab]
  h14c:=fun g0=>absurd (r.o3 (by simpa using g0)) (by rw[hL];decide)
  o1:=fun g0=>by have:=r.o1 (by simpa using g0);simp[this]
  o2:=fun g0=>by have:=r.o2 (by simpa using g0);simp[this]
  o3:=fun g0=>by have:=r.o3 (by simpa using g0);simp[this]
  o4:=fun _=>by simp[k14]
  o5:=fun g0=>by have:=r.o5 (by simpa using g0);simp[this]
  o6:=fun g0=>by have:=r.o6 (by simpa using g0);simp[this] }
theorem opB_16 {edges:List (Nat × Nat)} {goal e0 e1 i j:Nat} {que out:List Nat} {far:List (Nat × Nat)} {v1:Nat} (L:Nat→Bool) (S:St) (r:R12 edges goal e0 e1 i j que out far v1 L S) (hL:L 16=false) (k15:L 15=true):aDo EE Tryz.f109.ntmps ops12 (ops12[16]'(by decide)) S (R12 edges goal e0 e1 i j que out far v1 (fun j=>L j || j==16)):=by
 have hat:At [(76,.tup [.junk,i64 far.length])] [] [] S:=⟨⟨r.c15 k15,trivial⟩,trivial,trivial⟩
 obtain⟨τ,H,rfl⟩:=hat.form
 conv=>whnf
 exact {
  u0:=r.u0
  u1:=r.u1
  u4:=r.u4
  u5:=r.u5
  u7:=r.u7
  u8:=r.u8
  u10:=r.u10
  u23:=r.u23
  u24:=r.u24
  u25:=r.u25
  h4:=r.h4
  h5:=r.h5
  c0:=fun g0=>r.c0 (by simpa using g0)
  c1:=fun g0=>r.c1 (by simpa using g0)
  c2:=fun g0=>r.c2 (by simpa using g0)
  c3:=fun g0=>r.c3 (by simpa using g0)
  c4:=fun g0=>r.c4 (by simpa using g0)
  c5:=fun g0=>r.c5 (by simpa using g0)
  c6:=fun g0=>r.c6 (by simpa using g0)
  c7:=fun g0=>r.c7 (by simpa using g0)
  c8:=fun g0=>r.c8 (by simpa using g0)
  c9:=fun g0 g1=>r.c9 (by simpa using g0) (by simpa using g1)
  c10:=fun g0=>r.c10 (by simpa using g0)
  c11:=fun g0=>r.c11 (by simpa using g0)
  c12:=fun g0=>r.c12 (by simpa using g0)
  c13:=fun g0 g1=>r.c13 (by simpa using g0) (by simpa using g1)
  c14:=fun g0=>r.c14 (by simpa using g0)
  c15:=fun g0=>r.c15 (by simpa using g0)
  c16:=fun _=>rfl
  e13:=fun g0 g1=>r.e13 (by simpa using g0) (by simpa using g1)
  q6a:=fun g0=>r.q6a (by simpa using g0)
  q6b:=fun g0=>r.q6b (by simpa using g0)
  h13a:=fun g0=>r.h13a (by simpa using g0)
  h13b:=fun g0=>r.h13b (by simpa using g0)
  h14a:=fun g0=>r.h14a (by simpa using g0)
  h14b:=fun g0 g1=>r.h14b (by simpa using g0) (by simpa using g1)
  h14c:=fun g0=>r.h14c (by simpa using g0)
  o1:=fun g0=>by have:=r.o1 (by simpa using g0);simp[this]
  o2:=fun g0=>by have:=r.o2 (by simpa using g0);simp[this]
  o3:=fun g0=>by have:=r.o3 (by simpa using g0);simp[this]
  o4:=fun g0=>by have:=r.o4 (by simpa using g0);simp[this]
  o5:=fun g0=>by have:=r.o5 (by simpa using g0);simp[this]
  o6:=fun g0=>by have:=r.o6 (by simpa using g0);simp[this] }
theorem opB_17 {edges:List (Nat × Nat)} {goal e0 e1 i j:Nat} {que out:List Nat} {far:List (Nat × Nat)} {v1:Nat} (L:Nat→Bool) (S:St) (r:R12 edges goal e0 e1 i j que out far v1 L S) (hL:L 17=false) (k0:L 0=true) (k8:L 8=true) (k15:L 15=true) (k16:L 16=true):aDo EE Tryz.f109.ntmps ops12 (ops12[17]'(by decide)) S (R12 edges goal e0 e1 i j que out far v1 (fun j=>L j || j==17)):=by
 have hat:At [(61,.mref (.n 14)),(69,i64 v1),(77,i64 far.length)] [(.n 14,.mp false (uP far++[((e0:Int),[])]))] [] S:=⟨⟨r.c0 k0,r.c8 k8,r.c16 k16,trivial⟩,⟨r.h14b k15 hL,trivial⟩,trivial⟩
 obtain⟨τ,H,rfl⟩:=hat.form
 conv=>whnf
 refine⟨⟨by omega,by simp[uP];omega⟩,?_⟩
 conv=>whnf
 exact {
  u0:=r.u0
  u1:=r.u1
  u4:=r.u4
  u5:=r.u5
  u7:=r.u7
  u8:=r.u8
  u10:=r.u10
  u23:=r.u23
  u24:=r.u24
  u25:=r.u25
  h4:=r.h4
  h5:=r.h5
  c0:=fun g0=>r.c0 (by simpa using g0)
  c1:=fun g0=>r.c1 (by simpa using g0)
  c2:=fun g0=>r.c2 (by simpa using g0)
  c3:=fun g0=>r.c3 (by simpa using g0)
  c4:=fun g0=>r.c4 (by simpa using g0)
  c5:=fun g0=>r.c5 (by simpa using g0)
  c6:=fun g0=>r.c6 (by simpa using g0)
  c7:=fun g0=>r.c7 (by simpa using g0)
  c8:=fun g0=>r.c8 (by simpa using g0)
  c9:=fun g0 g1=>r.c9 (by simpa using g0) (by simpa using g1)
  c10:=fun g0=>r.c10 (by simpa using g0)
  c11:=fun g0=>r.c11 (by simpa using g0)
  c12:=fun g0=>r.c12 (by simpa using g0)
  c13:=fun g0 g1=>r.c13 (by simpa using g0) (by simpa using g1)
  c14:=fun g0=>r.c14 (by simpa using g0)
  c15:=fun g0=>r.c15 (by simpa using g0)
  c16:=fun g0=>r.c16 (by simpa using g0)
  e13:=fun g0 g1=>r.e13 (by simpa using g0) (by simpa using g1)
  q6a:=fun g0=>r.q6a (by simpa using g0)
  q6b:=fun g0=>r.q6b (by simpa using g0)
  h13a:=fun g0=>r.h13a (by simpa using g0)
  h13b:=fun g0=>r.h13b (by simpa using g0)
  h14a:=fun g0=>absurd g0 (by simp[k15])
  h14b:=fun g0 g1=>absurd g1 (by simp)
  h14c:=fun _=>by show some (Ob.mp false (gG (uP far++[((e0:Int),[])]) far.length [di (v1:Int)]))=_;rw[putM_far]
  o1:=fun g0=>by have:=r.o1 (by simpa using g0);simp[this]
  o2:=fun g0=>by have:=r.o2 (by simpa using g0);simp[this]
  o3:=fun _=>by simp[k15]
  o4:=fun g0=>by have:=r.o4 (by simpa using g0);simp[this]
  o5:=fun g0=>by have:=r.o5 (by simpa using g0);simp[this]
  o6:=fun g0=>by have:=r.o6 (by simpa using g0);simp[this] }
theorem opB_18 {edges:List (Nat × Nat)} {goal e0 e1 i j:Nat} {que out:List Nat} {far:List (Nat × Nat)} {v1:Nat} (L:Nat→Bool) (S:St) (r:R12 edges goal e0 e1 i j que out far v1 L S) (hL:L 18=false) (k14:L 14=true) (k17:L 17=true):aDo EE Tryz.f109.ntmps ops12 (ops12[18]'(by decide)) S (R12 edges goal e0 e1 i j que out far v1 (fun j=>L j || j==18)):=by
 have hat:At [(75,.ref (.n 13) 0 (que.length+1))] [] [] S:=⟨⟨r.c14 k14,trivial⟩,trivial,trivial⟩
 obtain⟨τ,H,rfl⟩:=hat.form
 conv=>whnf
 exact {
  u0:=r.u0
  u1:=r.u1
  u4:=r.u4
  u5:=r.u5
  u7:=r.u7
  u8:=r.u8
  u10:=r.u10
  u23:=r.u23
  u24:=r.u24
  u25:=r.u25
  h4:=r.h4
  h5:=r.h5
  c0:=fun g0=>r.c0 (by simpa using g0)
  c1:=fun g0=>r.c1 (by simpa using g0)
  c2:=fun g0=>r.c2 (by simpa using g0)
  c3:=fun g0=>r.c3 (by simpa using g0)
  c4:=fun g0=>r.c4 (by simpa using g0)
  c5:=fun g0=>r.c5 (by simpa using g0)
  c6:=fun g0=>r.c6 (by simpa using g0)
  c7:=fun g0=>r.c7 (by simpa using g0)
  c8:=fun g0=>r.c8 (by simpa using g0)
  c9:=fun g0 g1=>r.c9 (by simpa using g0) (by simpa using g1)
  c10:=fun g0=>r.c10 (by simpa using g0)
  c11:=fun g0=>r.c11 (by simpa using g0)
  c12:=fun g0=>r.c12 (by simpa using g0)
  c13:=fun g0 g1=>r.c13 (by simpa using g0) (by simpa using g1)
  c14:=fun g0=>r.c14 (by simpa using g0)
  c15:=fun g0=>r.c15 (by simpa using g0)
  c16:=fun g0=>r.c16 (by simpa using g0)
  e13:=fun g0 g1=>r.e13 (by simpa using g0) (by simpa using g1)
  q6a:=fun g0=>absurd g0 (by simp[k14])
  q6b:=fun _=>rfl
  h13a:=fun g0=>r.h13a (by simpa using g0)
  h13b:=fun g0=>r.h13b (by simpa using g0)
  h14a:=fun g0=>r.h14a (by simpa using g0)
  h14b:=fun g0 g1=>r.h14b (by simpa using g0) (by simpa using g1)
  h14c:=fun g0=>r.h14c (by simpa using g0)
  o1:=fun g0=>by have:=r.o1 (by simpa using g0);simp[this]
  o2:=fun g0=>by have:=r.o2 (by simpa using g0);simp[this]
  o3:=fun g0=>by have:=r.o3 (by simpa using g0);simp[this]
  o4:=fun g0=>by have:=r.o4 (by simpa using g0);simp[this]
  o5:=fun _=>by simp[k14]
  o6:=fun _=>by simp[k17] }
theorem draw12 {edges:List (Nat × Nat)} {goal e0 e1 i j:Nat} {que out:List Nat} {far:List (Nat × Nat)} {v1:Nat} (he:e0<100) (he0:e0<out.length) (hv1:out.getD e0 0=v1) (hq:que.length≤1000) (hab:(far.any fun p=>p.1==e0)=false)
  (Q:AX→St→Prop) (S:St) (h:R12 edges goal e0 e1 i j que out far v1 (fun _=>false) S) (hQ:∀ L S',(∀ i,i<19→L i=true)→R12 edges goal e0 e1 i j que out far v1 L S'→Q .normal S'):m4 EE Tryz.f109.ntmps ops12 Q S:=by
 refine⟨R12 edges goal e0 e1 i j que out far v1,h,?_,fun L S' hL hS=>hQ L S' hL hS,by kernel_rfl,trivial⟩
 intro n o ho L S hL hd hI
 match n,ho,hL with
 | 0,ho,hL =>
  obtain rfl:ops12[0]'(by decide)=o:=Option.some.inj (show some (ops12[0]'(by decide))=some o from ho)
  exact opB_0 L S hI hL
 | 1,ho,hL =>
  obtain rfl:ops12[1]'(by decide)=o:=Option.some.inj (show some (ops12[1]'(by decide))=some o from ho)
  exact opB_1 L S hI hL
 | 2,ho,hL =>
  obtain rfl:ops12[2]'(by decide)=o:=Option.some.inj (show some (ops12[2]'(by decide))=some o from ho)
  have k1:L 1=true:=hd _ (Array.getElem_mem (i:=0) (by decide)) rfl
  exact opB_2 L S hI hL k1
 | 3,ho,hL =>
  obtain rfl:ops12[3]'(by decide)=o:=Option.some.inj (show some (ops12[3]'(by decide))=some o from ho)
  have k2:L 2=true:=hd _ (Array.getElem_mem (i:=0) (by decide)) rfl
  exact opB_3 L S hI hL k2
 | 4,ho,hL =>
  obtain rfl:ops12[4]'(by decide)=o:=Option.some.inj (show some (ops12[4]'(by decide))=some o from ho)
  exact opB_4 L S hI hL
 | 5,ho,hL =>
  obtain rfl:ops12[5]'(by decide)=o:=Option.some.inj (show some (ops12[5]'(by decide))=some o from ho)
  have k4:L 4=true:=hd _ (Array.getElem_mem (i:=0) (by decide)) rfl
  exact opB_5 L S hI hL k4
 | 6,ho,hL =>
  obtain rfl:ops12[6]'(by decide)=o:=Option.some.inj (show some (ops12[6]'(by decide))=some o from ho)
  have k5:L 5=true:=hd _ (Array.getElem_mem (i:=0) (by decide)) rfl
  exact opB_6 L S hI hL k5
 | 7,ho,hL =>
  obtain rfl:ops12[7]'(by decide)=o:=Option.some.inj (show some (ops12[7]'(by decide))=some o from ho)
  have k6:L 6=true:=hd _ (Array.getElem_mem (i:=0) (by decide)) rfl
  exact opB_7 he L S hI hL k6
 | 8,ho,hL =>
  obtain rfl:ops12[8]'(by decide)=o:=Option.some.inj (show some (ops12[8]'(by decide))=some o from ho)
  have k7:L 7=true:=hd _ (Array.getElem_mem (i:=0) (by decide)) rfl
  exact opB_8 he0 hv1 L S hI hL k7
 | 9,ho,hL =>
  obtain rfl:ops12[9]'(by decide)=o:=Option.some.inj (show some (ops12[9]'(by decide))=some o from ho)
  exact opB_9 L S hI hL
 | 10,ho,hL =>
  obtain rfl:ops12[10]'(by decide)=o:=Option.some.inj (show some (ops12[10]'(by decide))=some o from ho)
  exact opB_10 L S hI hL
 | 11,ho,hL =>
  obtain rfl:ops12[11]'(by decide)=o:=Option.some.inj (show some (ops12[11]'(by decide))=some o from ho)
  have k10:L 10=true:=hd _ (Array.getElem_mem (i:=0) (by decide)) rfl
  exact opB_11 L S hI hL k10
 | 12,ho,hL =>
  obtain rfl:ops12[12]'(by decide)=o:=Option.some.inj (show some (ops12[12]'(by decide))=some o from ho)
  have k11:L 11=true:=hd _ (Array.getElem_mem (i:=0) (by decide)) rfl
  exact opB_12 L S hI hL k11
 | 13,ho,hL =>
  obtain rfl:ops12[13]'(by decide)=o:=Option.some.inj (show some (ops12[13]'(by decide))=some o from ho)
  have k12:L 12=true:=hd _ (Array.getElem_mem (i:=0) (by decide)) rfl
  exact opB_13 L S hI hL k12
 | 14,ho,hL =>
  obtain rfl:ops12[14]'(by decide)=o:=Option.some.inj (show some (ops12[14]'(by decide))=some o from ho)
  have k9:L 9=true:=hd _ (Array.getElem_mem (i:=0) (by decide)) rfl
  have k13:L 13=true:=hd _ (Array.getElem_mem (i:=1) (by decide)) rfl
  exact opB_14 hq L S hI hL k9 k13
 | 15,ho,hL =>
  obtain rfl:ops12[15]'(by decide)=o:=Option.some.inj (show some (ops12[15]'(by decide))=some o from ho)
  have k0:L 0=true:=hd _ (Array.getElem_mem (i:=0) (by decide)) rfl
  have k3:L 3=true:=hd _ (Array.getElem_mem (i:=1) (by decide)) rfl
  have k14:L 14=true:=hd _ (Array.getElem_mem (i:=2) (by decide)) rfl
  exact opB_15 hab L S hI hL k0 k3 k14
 | 16,ho,hL =>
  obtain rfl:ops12[16]'(by decide)=o:=Option.some.inj (show some (ops12[16]'(by decide))=some o from ho)
  have k15:L 15=true:=hd _ (Array.getElem_mem (i:=0) (by decide)) rfl
  exact opB_16 L S hI hL k15
 | 17,ho,hL =>
  obtain rfl:ops12[17]'(by decide)=o:=Option.some.inj (show some (ops12[17]'(by decide))=some o from ho)
  have k0:L 0=true:=hd _ (Array.getElem_mem (i:=0) (by decide)) rfl
  have k8:L 8=true:=hd _ (Array.getElem_mem (i:=2) (by decide)) rfl
  have k15:L 15=true:=hd _ (Array.getElem_mem (i:=3) (by decide)) rfl
  have k16:L 16=true:=hd _ (Array.getElem_mem (i:=1) (by decide)) rfl
  exact opB_17 L S hI hL k0 k8 k15 k16
 | 18,ho,hL =>
  obtain rfl:ops12[18]'(by decide)=o:=Option.some.inj (show some (ops12[18]'(by decide))=some o from ho)
  have k14:L 14=true:=hd _ (Array.getElem_mem (i:=0) (by decide)) rfl
  have k17:L 17=true:=hd _ (Array.getElem_mem (i:=1) (by decide)) rfl
  exact opB_18 L S hI hL k14 k17
 |n+19,ho,hL =>
  have h1:n+19<ops12.size:=(Array.getElem?_eq_some_iff.1 ho).1
  have h2:ops12.size=19:=by decide
  omega
end Ai
namespace Ai
set_option maxRecDepth 100000
open Go Go.Proofs Cyc
theorem f8 (edges:List (Nat × Nat)) (goal:Nat) (hl:edges.length≤5) (he:∀ e∈edges,e.1<100) (fin:BS) (hr:jA goal edges 7 0 (bs0 goal)=some fin) :
  CallsTo EE 109 [sl (edges.map vU),i64 goal] (·=agg (arr fin.out)):=by
 refine callsTo_of_AW (fn:=Tryz.f109) Tryz.func109 rfl (by kernel_rfl) rfl ?_
 conv=>whnf
 refine yV (fun x:Nat × BS=>[(0,sl (edges.map vU)),(1,i64 goal),(4,.ptr (.n 4) 0),(5,.ptr (.n 5) 0),(6,.ref (.n 13) 0 x.2.queue.length),(7,.mref (.n 14)),(8,i64 x.1)])
  (fun x=>[(.n 4,.vs 155 ((arr (List.replicate 100 0)).map .d)),(.n 5,.vs 155 ((arr x.2.out).map .d)),(.n 13,.ds 3 1 (x.2.queue.map xI)),(.n 14,.mp false (uP x.2.far))]) (fun x=>7 - x.1)
  (fun x=>∃ f m,f+x.1=7∧jA goal edges f x.1 x.2=some fin∧BSok goal x.2 m∧m≤5*x.1) (0,bs0 goal)
  Weak.refl ?_ ?_ ⟨7,0,rfl,hr,bs0_ok goal,Nat.zero_le _⟩ ?_
 ·exact⟨rfl,rfl,rfl,rfl,rfl,rfl,rfl,trivial⟩
 ·refine⟨rfl,rfl,rfl,rfl,trivial⟩
 rintro⟨i,st⟩ τ H ⟨f,m,hf,hrun,hok,hm⟩
 have hf:f+i=7:=hf
 have hrun:jA goal edges f i st=some fin:=hrun
 have hok:BSok goal st m:=hok
 have hm:m≤5*i:=hm
 cases f with
 |zero=>cases hrun
 |succ f =>
 conv=>whnf
 refine kbi (fun hi=>?_) (fun hi=>?_)
 ·have hi:i<st.queue.length:=by simpa using hi
  unfold jA at hrun
  rw[if_pos hi] at hrun
  conv=>whnf
  refine yV (fun y:Nat × BS=>[(0,sl (edges.map vU)),(1,i64 goal),(4,.ptr (.n 4) 0),(5,.ptr (.n 5) 0),(6,.ref (.n 13) 0 y.2.queue.length),(7,.mref (.n 14)),(8,i64 i),(23,sl (edges.map vU)),(24,i64 (edges.map vU).length),(25,i64 y.1)])
   (fun y=>[(.n 4,.vs 155 ((arr (List.replicate 100 0)).map .d)),(.n 5,.vs 155 ((arr y.2.out).map .d)),(.n 13,.ds 3 1 (y.2.queue.map xI)),(.n 14,.mp false (uP y.2.far))]) (fun y=>edges.length - y.1)
   (fun y=>y.1≤edges.length∧y.2=(edges.take y.1).foldl (bsE goal (st.queue.getD i 0)) st∧BSok goal y.2 (m+y.1)∧y.2.queue.getD i 0=st.queue.getD i 0∧i<y.2.queue.length) (0,st)
   Weak.refl ⟨rfl,rfl,rfl,rfl,rfl,rfl,rfl,rfl,rfl,rfl,trivial⟩ ⟨rfl,rfl,rfl,rfl,trivial⟩ ⟨Nat.zero_le _,rfl,hok,rfl,hi⟩ ?_
  rintro⟨j,st'⟩ τ' H' ⟨hj,hst,hok',hcur,hiq⟩
  have hj:j≤edges.length:=hj
  have hst:st'=(edges.take j).foldl (bsE goal (st.queue.getD i 0)) st:=hst
  have hok':BSok goal st' (m+j):=hok'
  have hcur:st'.queue.getD i 0=st.queue.getD i 0:=hcur
  have hiq:i<st'.queue.length:=hiq
  generalize hcd:st.queue.getD i 0=cur at *
  conv=>whnf
  refine kbi (fun hje=>?_) (fun hje=>?_)
  ·have hje:j<edges.length:=by simpa using hje
   have hel:=he _ (List.getElem_mem hje)
   conv=>whnf
   refine⟨vU edges[j],⟨by omega,by simp[hje],rfl⟩,?_⟩
   conv=>whnf
   refine⟨by kernel_rfl,?_⟩
   conv=>whnf
   refine⟨[di edges[j].2],⟨by decide,rfl,rfl⟩,?_⟩
   conv=>whnf
   refine⟨⟨by omega,by show(i:Int)<st'.queue.length;omega⟩,?_⟩
   conv=>whnf
   have hq:(st'.queue.map xI)[i]?=some (xI (cur)):=by
    rw[List.getElem?_map,List.getElem?_eq_getElem hiq,← hcur,List.getD_eq_getElem?_getD,List.getElem?_eq_getElem hiq];rfl
   refine⟨xI (cur),⟨by rw[Nat.zero_add];exact hq,by show 0+1≤1;omega⟩,?_⟩
   conv=>whnf
   have hnext:(edges.take (j+1)).foldl (bsE goal (cur)) st=bsE goal (cur) st' edges[j]:=by
    rw[List.take_succ_eq_append_getElem hje,List.foldl_append,← hst];rfl
   refine kbi (fun h1=>?_) (fun h1=>?_)
   ·have h1:edges[j].2≠cur:=by
     intro e
     simp[e] at h1
    have hE:bsE goal (cur) st' edges[j]=st':=by
     unfold bsE
     rw[if_pos (by rw[Bool.or_eq_true];exact .inl (bne_iff_ne.2 h1))]
    conv=>whnf
    refine⟨(j+1,st'),⟨by show j+1≤edges.length;omega,by show st'=_;rw[hnext,hE],?_,hcur,hiq⟩,by show edges.length - (j+1)<edges.length - j;omega,⟨rfl,rfl,rfl,rfl,rfl,rfl,rfl,rfl,rfl,?_,trivial⟩,⟨rfl,rfl,rfl,rfl,trivial⟩⟩
    ·exact⟨hok'.len,fun p hp=>Nat.le_trans (hok'.far p hp) (by show m+j≤m+(j+1);omega),by show st'.queue.length≤m+(j+1)+1;have:st'.queue.length≤m+j+1:=hok'.que;omega,hok'.key,hok'.pos,by show st'.far.length≤m+(j+1)+1;have:st'.far.length≤m+j+1:=hok'.flen;omega⟩
    ·show AV.d (.int .i64 (IntKind.i64.wrap ((j:Int)+1)))=i64 ((j+1:Nat):Int)
     rw[zE (by omega) (by omega)]
     rfl
   have h1:edges[j].2=cur:=by
    have h2:¬ ((edges[j].2:Int) != (cur:Int))=true:=h1
    simp only[bne_iff_ne,ne_eq,Classical.not_not] at h2
    omega
   conv=>whnf
   refine⟨[di edges[j].1],⟨by decide,rfl,rfl⟩,?_⟩
   conv=>whnf
   refine⟨⟨by omega,by show((edges[j].1:Nat):Int)<100;omega⟩,?_⟩
   conv=>whnf
   have hlt:edges[j].1<st'.out.length:=by rw[hok'.len];exact hel
   split
   rotate_left 1
   ·rename_i hld
    exact absurd (hld.symm.trans (lA (out:=st'.out) (k:=edges[j].1) rfl rfl hlt)) (by simp)
   rename_i cs hld
   obtain rfl:=Option.some.inj (hld.symm.trans (lA (out:=st'.out) (k:=edges[j].1) rfl rfl hlt))
   clear hld
   conv=>whnf
   refine kbi (fun h2=>?_) (fun h2=>?_)
   ·have h2:0<st'.out.getD edges[j].1 0:=by
     have h3:=of_decide_eq_true h2
     omega
    have hE:bsE goal cur st' edges[j]=st':=by
     unfold bsE
     rw[if_pos (by rw[Bool.or_eq_true];exact .inr (decide_eq_true h2))]
    conv=>whnf
    refine⟨(j+1,st'),⟨by show j+1≤edges.length;omega,by show st'=_;rw[hnext,hE],?_,hcur,hiq⟩,by show edges.length - (j+1)<edges.length - j;omega,⟨rfl,rfl,rfl,rfl,rfl,rfl,rfl,rfl,rfl,?_,trivial⟩,⟨rfl,rfl,rfl,rfl,trivial⟩⟩
    ·exact⟨hok'.len,fun p hp=>Nat.le_trans (hok'.far p hp) (by show m+j≤m+(j+1);omega),by show st'.queue.length≤m+(j+1)+1;have:st'.queue.length≤m+j+1:=hok'.que;omega,hok'.key,hok'.pos,by show st'.far.length≤m+(j+1)+1;have:st'.far.length≤m+j+1:=hok'.flen;omega⟩
    ·show AV.d (.int .i64 (IntKind.i64.wrap ((j:Int)+1)))=i64 ((j+1:Nat):Int)
     rw[zE (by omega) (by omega)]
     rfl
   have h2:st'.out.getD edges[j].1 0=0:=by
    have h3:¬ ((st'.out.getD edges[j].1 0:Nat):Int) > 0:=fun e=>h2 (decide_eq_true e)
    omega
   obtain⟨v,hv⟩:=hok'.key cur (by rw[← hcur,List.getD_eq_getElem?_getD,List.getElem?_eq_getElem hiq];exact List.getElem_mem hiq)
   have hgv:u9 st'.far cur=v:=by unfold u9;rw[hv];rfl
   have hvm:v≤m+j:=by rw[← hgv];exact sQ hok'
   conv=>whnf
   refine .inr (.inl ⟨10,[],?_⟩)
   conv=>whnf
   refine⟨[di edges[j].1],⟨by decide,rfl,rfl⟩,?_⟩
   conv=>whnf
   refine⟨⟨by omega,by show(i:Int)<st'.queue.length;omega⟩,?_⟩
   conv=>whnf
   refine⟨xI cur,⟨by rw[Nat.zero_add];exact hq,by show 0+1≤1;omega⟩,?_⟩
   conv=>whnf
   refine .inl ⟨di (v:Int),by rw[atM_far,hv];rfl,?_⟩
   conv=>whnf
   refine⟨by kernel_rfl,?_⟩
   conv=>whnf
   refine⟨⟨by omega,by show((edges[j].1:Nat):Int)<100;omega⟩,?_⟩
   conv=>whnf
   split
   rotate_left 1
   ·rename_i hb
    exact absurd hb (by
     rw[jP]
     have:Nat.ble (0+edges[j].1*1+1) ((arr st'.out).map AV.d).length=true:=by rw[Nat.ble_eq];simp[arr];omega
     exact fun e=>by rw[show Nat.ble (0+edges[j].1*1+1) ((arr st'.out).map AV.d).length=false from e] at this;cases this)
   conv=>whnf
   have ew:IntKind.i64.wrap ((v:Int)+1)=((v+1:Nat):Int):=by rw[zE (by omega) (by omega)];rfl
   refine⟨[di edges[j].1],⟨by decide,rfl,rfl⟩,?_⟩
   conv=>whnf
   refine kbi (fun hg=>?_) (fun hg=>?_)
   ·have hg:edges[j].1≠goal:=by
     have h3:((edges[j].1:Int) != (goal:Int))=true:=hg
     simp only[bne_iff_ne,ne_eq] at h3
     omega
    have hab:=absent hok' h2 hg
    have hE:bsE goal cur st' edges[j]=⟨st'.out.set edges[j].1 (v+1),st'.queue++[edges[j].1],st'.far++[(edges[j].1,v+1)]⟩:=by
     unfold bsE
     rw[if_neg (by rw[Bool.or_eq_true,bne_iff_ne,decide_eq_true_eq];omega),if_pos (by rw[bne_iff_ne];exact hg),hgv,r5 hab]
    have hql:st'.queue.length≤m+j+1:=hok'.que
    have hok2:BSok goal ⟨st'.out.set edges[j].1 (v+1),st'.queue++[edges[j].1],st'.far++[(edges[j].1,v+1)]⟩ (m+(j+1)):=by rw[← hE];exact f6 hok' hel
    have hcur2:(st'.queue++[edges[j].1]).getD i 0=cur:=by
     rw[← hcur,List.getD_eq_getElem?_getD,List.getElem?_append_left hiq,List.getD_eq_getElem?_getD]
    conv=>whnf
    refine .inr (.inr (.inl (draw12 (edges:=edges) (goal:=goal) (e0:=edges[j].1) (e1:=edges[j].2) (i:=i) (j:=j) (que:=st'.queue) (out:=st'.out.set edges[j].1 (v+1)) (far:=st'.far) (v1:=v+1) hel (by simpa using hlt) (by simp[List.getD_eq_getElem?_getD,hlt]) (by omega) hab _ _ ?_ ?_)))
    ·exact {
      u0:=rfl
      u1:=rfl
      u4:=rfl
      u5:=rfl
      u7:=rfl
      u8:=rfl
      u10:=rfl
      u23:=rfl
      u24:=rfl
      u25:=rfl
      h4:=congrArg (fun x=>some (Ob.vs 155 x)) (jP _ _)
      h5:=congrArg (fun x=>some (Ob.vs 155 x)) (tG (v:=v+1) (jP _ _) hlt (congrArg (fun n=>AV.d (.int .i64 n)) ew))
      c0:=fun h=>by cases h
      c1:=fun h=>by cases h
      c2:=fun h=>by cases h
      c3:=fun h=>by cases h
      c4:=fun h=>by cases h
      c5:=fun h=>by cases h
      c6:=fun h=>by cases h
      c7:=fun h=>by cases h
      c8:=fun h=>by cases h
      c9:=fun h=>by cases h
      c10:=fun h=>by cases h
      c11:=fun h=>by cases h
      c12:=fun h=>by cases h
      c13:=fun h=>by cases h
      c14:=fun h=>by cases h
      c15:=fun h=>by cases h
      c16:=fun h=>by cases h
      e13:=fun h=>by cases h
      q6a:=fun _=>rfl
      q6b:=fun h=>by cases h
      h13a:=fun _=>rfl
      h13b:=fun h=>by cases h
      h14a:=fun _=>rfl
      h14b:=fun h=>by cases h
      h14c:=fun h=>by cases h
      o1:=fun h=>by cases h
      o2:=fun h=>by cases h
      o3:=fun h=>by cases h
      o4:=fun h=>by cases h
      o5:=fun h=>by cases h
      o6:=fun h=>by cases h }
    intro L S' hL r
    have hat:At [(0,sl (edges.map vU)),(1,i64 goal),(4,.ptr (.n 4) 0),(5,.ptr (.n 5) 0),(6,.ref (.n 13) 0 (st'.queue.length+1)),(7,.mref (.n 14)),(8,i64 i),(23,sl (edges.map vU)),(24,i64 (edges.map vU).length),(25,i64 j)]
     [(.n 4,.vs 155 ((arr (List.replicate 100 0)).map .d)),(.n 5,.vs 155 ((arr (st'.out.set edges[j].1 (v+1))).map .d)),(.n 13,.ds 3 1 ((st'.queue++[edges[j].1]).map xI)),(.n 14,.mp false (uP (st'.far++[(edges[j].1,v+1)])))] [] S' :=
     ⟨⟨r.u0,r.u1,r.u4,r.u5,r.q6b (hL 18 (by decide)),r.u7,r.u8,r.u23,r.u24,r.u25,trivial⟩,⟨r.h4,r.h5,r.h13b (hL 14 (by decide)),r.h14c (hL 17 (by decide)),trivial⟩,trivial⟩
    obtain⟨τ2,H2,rfl⟩:=hat.form
    clear r hat
    conv=>whnf
    refine⟨(j+1,⟨st'.out.set edges[j].1 (v+1),st'.queue++[edges[j].1],st'.far++[(edges[j].1,v+1)]⟩),⟨by show j+1≤edges.length;omega,by show _=List.foldl _ _ _;rw[hnext,hE],hok2,hcur2,by show i<(st'.queue++[edges[j].1]).length;simp;omega⟩,by show edges.length - (j+1)<edges.length - j;omega,⟨rfl,rfl,rfl,rfl,?_,rfl,rfl,rfl,rfl,?_,trivial⟩,⟨rfl,rfl,rfl,rfl,trivial⟩⟩
    ·show AV.ref (.n 13) 0 (st'.queue.length+1)=.ref (.n 13) 0 (st'.queue++[edges[j].1]).length
     rw[List.length_append]
     rfl
    ·show AV.d (.int .i64 (IntKind.i64.wrap ((j:Int)+1)))=i64 ((j+1:Nat):Int)
     rw[zE (by omega) (by omega)]
     rfl
   ·have hg:edges[j].1=goal:=by
     have h3:¬ ((edges[j].1:Int) != (goal:Int))=true:=hg
     simp only[bne_iff_ne,ne_eq,Classical.not_not] at h3
     omega
    have hE:bsE goal cur st' edges[j]=⟨st'.out.set edges[j].1 (v+1),st'.queue,st'.far⟩:=by
     unfold bsE
     rw[if_neg (by rw[Bool.or_eq_true,bne_iff_ne,decide_eq_true_eq];omega),if_neg (by rw[bne_iff_ne];omega),hgv]
    conv=>whnf
    have hok2:BSok goal ⟨st'.out.set edges[j].1 (v+1),st'.queue,st'.far⟩ (m+(j+1)):=by rw[← hE];exact f6 hok' hel
    refine⟨(j+1,⟨st'.out.set edges[j].1 (v+1),st'.queue,st'.far⟩),⟨by show j+1≤edges.length;omega,by show _=List.foldl _ _ _;rw[hnext,hE],hok2,hcur,hiq⟩,by show edges.length - (j+1)<edges.length - j;omega,⟨rfl,rfl,rfl,rfl,rfl,rfl,rfl,rfl,rfl,?_,trivial⟩,⟨?_,?_,rfl,rfl,trivial⟩⟩
    ·show AV.d (.int .i64 (IntKind.i64.wrap ((j:Int)+1)))=i64 ((j+1:Nat):Int)
     rw[zE (by omega) (by omega)]
     rfl
    ·exact congrArg (fun x=>some (Ob.vs 155 x)) (jP _ _)
    ·exact congrArg (fun x=>some (Ob.vs 155 x)) (tG (v:=v+1) (jP _ _) hlt (congrArg (fun n=>AV.d (.int .i64 n)) ew))
  ·have hje:edges.length≤j:=by simpa using hje
   have hjj:j=edges.length:=by omega
   subst hjj
   conv=>whnf
   rw[List.take_length] at hst
   rw[← hst] at hrun
   refine⟨(i+1,st'),⟨f,m+edges.length,by show f+(i+1)=7;omega,hrun,hok',by show m+edges.length≤5*(i+1);omega⟩,by show 7 - (i+1)<7 - i;omega,⟨rfl,rfl,rfl,rfl,rfl,rfl,?_,trivial⟩,⟨rfl,rfl,rfl,rfl,trivial⟩⟩
   show AV.d (.int .i64 (IntKind.i64.wrap ((i:Int)+1)))=i64 ((i+1:Nat):Int)
   rw[zE (by omega) (by omega)]
   rfl
 ·have hi:¬ i<st.queue.length:=by simpa using hi
  unfold jA at hrun
  rw[if_neg hi] at hrun
  obtain rfl:=Option.some.inj hrun
  obtain⟨g,hg⟩:∃ g:Nat→Nat,st.out=(List.range 100).map g:=⟨fun i=>st.out.getD i 0,by
   apply List.ext_getElem?
   intro k
   by_cases hk:k<100
   ·have:k<st.out.length:=by rw[hok.len];exact hk
    rw[List.getElem?_map,List.getElem?_range hk,List.getElem?_eq_getElem this]
    simp[List.getD_eq_getElem?_getD,this]
   ·rw[List.getElem?_eq_none (by rw[hok.len];omega),List.getElem?_eq_none (by simp;omega)]⟩
  obtain⟨out,queue,far⟩:=st
  have hg:out=(List.range 100).map g:=hg
  subst hg
  conv=>whnf
  rfl
end Ai
namespace Ai
set_option maxRecDepth 100000
open Go Go.Proofs Cyc
theorem cN {goal cur:Nat}:∀ (es:List (Nat × Nat)) (st:BS) (m:Nat),(∀ e∈es,e.1<100)→BSok goal st m→BSok goal (es.foldl (bsE goal cur) st) (m+es.length)
 | [],st,m,he,h=>h
 |e::es,st,m,he,h=>by
  have:=cN (cur:=cur) es (bsE goal cur st e) (m+1) (fun x hx=>he x (List.mem_cons_of_mem _ hx)) (f6 h (he e List.mem_cons_self))
  rw[List.foldl_cons,List.length_cons,show m+(es.length+1)=m+1+es.length by omega]
  exact this
theorem oM {goal:Nat} {edges:List (Nat × Nat)} (he:∀ e∈edges,e.1<100):∀ (f i m:Nat) (st fin:BS),BSok goal st m→jA goal edges f i st=some fin→fin.out.length=100
 | 0,i,m,st,fin,h,hr=>by cases hr
 |f+1,i,m,st,fin,h,hr=>by
  unfold jA at hr
  split at hr
  ·exact oM he f (i+1) _ _ fin (cN edges st m he h) hr
  ·obtain rfl:=Option.some.inj hr
   exact h.len
theorem iY {goal cur:Nat}:∀ (es:List (Nat × Nat)) (st:BS) (m:Nat),(∀ e∈es,e.1<100)→BSok goal st m→(∀ x∈st.out,x≤m)→∀ x∈(es.foldl (bsE goal cur) st).out,x≤m+es.length
 | [],st,m,he,h,ho=>ho
 |e::es,st,m,he,h,ho=>by
  have h1:∀ x∈(bsE goal cur st e).out,x≤m+1:=by
   intro x hx
   unfold bsE at hx
   split at hx
   ·exact Nat.le_succ_of_le (ho x hx)
   ·split at hx
    ·rcases List.mem_or_eq_of_mem_set hx with h2|h2
     ·exact Nat.le_succ_of_le (ho x h2)
     ·subst h2;exact Nat.succ_le_succ (sQ h)
    ·rcases List.mem_or_eq_of_mem_set hx with h2|h2
     ·exact Nat.le_succ_of_le (ho x h2)
     ·subst h2;exact Nat.succ_le_succ (sQ h)
  have:=iY (cur:=cur) es (bsE goal cur st e) (m+1) (fun x hx=>he x (List.mem_cons_of_mem _ hx)) (f6 h (he e List.mem_cons_self)) h1
  rw[List.foldl_cons,List.length_cons,show m+(es.length+1)=m+1+es.length by omega]
  exact this
theorem oL {goal:Nat} {edges:List (Nat × Nat)} (hl:edges.length≤5) (he:∀ e∈edges,e.1<100):∀ (f i m:Nat) (st fin:BS),BSok goal st m→(∀ x∈st.out,x≤m)→jA goal edges f i st=some fin→∀ x∈fin.out,x≤m+5*f
 | 0,i,m,st,fin,h,ho,hr=>by cases hr
 |f+1,i,m,st,fin,h,ho,hr=>by
  unfold jA at hr
  split at hr
  ·intro x hx
   have:=oL hl he f (i+1) _ _ fin (cN edges st m he h) (iY edges st m he h ho) hr x hx
   omega
  ·obtain rfl:=Option.some.inj hr
   intro x hx
   have:=ho x hx
   omega
theorem range_form {l:List Nat} (h:l.length=100):∃ g:Nat→Nat,l=(List.range 100).map g:=⟨fun i=>l.getD i 0,by
 apply List.ext_getElem?
 intro k
 by_cases hk:k<100
 ·have:k<l.length:=by omega
  rw[List.getElem?_map,List.getElem?_range hk,List.getElem?_eq_getElem this]
  simp[List.getD_eq_getElem?_getD,this]
 ·rw[List.getElem?_eq_none (by omega),List.getElem?_eq_none (by simp;omega)]⟩
def rU (edges:List (Nat × Nat)):List Nat:=((List.range 100).findSome? fun n=>match fL edges n with|some (x::xs)=>some (x::xs)|_=>none).getD []
theorem cycOf_at {edges:List (Nat × Nat)} {n:Nat} {o:List Nat} (h:n<100) (hno:∀ k,k<n→fL edges k=some []) (ho:fL edges n=some o) (hne:o≠[]):rU edges=o:=by
 unfold rU
 have hs:List.range 100=(List.range 100).take n++n::(List.range 100).drop (n+1):=by
  have:=(List.take_append_drop n (List.range 100)).symm
  rw[List.drop_eq_getElem_cons (by simp;omega),List.getElem_range] at this
  exact this
 have hf:(List.range 100).findSome? (fun n=>match fL edges n with|some (x::xs)=>some (x::xs)|_=>none)=some o:=by
  rw[List.findSome?_eq_some_iff]
  refine⟨_,n,_,hs,?_,fun x hx=>?_⟩
  ·rw[ho]
   cases o with
   |nil=>exact absurd rfl hne
   |cons x xs=>rfl
  ·obtain⟨i,hi,rfl⟩:=List.mem_iff_getElem.1 hx
   have hi2:i<n:=by
    have:=hi
    simp at this
    omega
   rw[List.getElem_take,List.getElem_range,hno i hi2]
 rw[hf]
 rfl
theorem cycleI_ok (edges:List (Nat × Nat)) (hl:edges.length≤5) (he:∀ e∈edges,e.1<100∧e.2<100) (hr:∀ n,n<100→(jA n edges 7 0 (bs0 n)).isSome=true) :
  CallsTo EE 68 [sl (edges.map vU)] (·=.tup [sl ((rU edges).map xI),bv (!(rU edges).isEmpty)]):=by
 refine callsTo_of_AW (fn:=Tryz.f68) Tryz.func68 rfl (by kernel_rfl) rfl ?_
 conv=>whnf
 refine yV (fun n:Nat=>[(0,sl (edges.map vU)),(12,i64 n)]) (fun n=>[]) (fun n=>100 - n) (fun n=>n≤100∧∀ k,k<n→fL edges k=some []) 0
  Weak.refl ⟨rfl,rfl,trivial⟩ trivial ⟨Nat.zero_le _,fun k hk=>by omega⟩ ?_
 rintro n τ H ⟨hn,hno⟩
 conv=>whnf
 refine kbi (fun h=>?_) (fun h=>?_)
 ·have h:n<100:=by
   have:=of_decide_eq_true h
   omega
  obtain⟨fin,hfin⟩:=Option.isSome_iff_exists.1 (hr n h)
  have hlen:=oM (fun e h=>(he e h).1) 7 0 0 (bs0 n) fin (bs0_ok n) hfin
  have hcy:fL edges n=if fin.out.getD n 0=0 then some [] else some (oX edges fin.out n (fin.out.getD n 0 - 1) [n] n):=by
   unfold fL;rw[hfin]
  conv=>whnf
  refine⟨_,f8 edges n hl (fun e h=>(he e h).1) fin hfin,?_⟩
  rintro r rfl
  obtain⟨out,queue,far⟩:=fin
  have hlen:out.length=100:=hlen
  obtain⟨g,hg⟩:=range_form hlen
  subst hg
  conv=>whnf
  have hnl:n<((List.range 100).map g).length:=by simp;omega
  refine⟨⟨by omega,by show(n:Int)<100;omega⟩,?_⟩
  conv=>whnf
  split
  rotate_left 1
  ·rename_i hld
   exact absurd (hld.symm.trans (lA (out:=(List.range 100).map g) (k:=n) rfl rfl hnl)) (by simp)
  rename_i cs hld
  obtain rfl:=Option.some.inj (hld.symm.trans (lA (out:=(List.range 100).map g) (k:=n) rfl rfl hnl))
  clear hld
  have hcy:fL edges n=if ((List.range 100).map g).getD n 0=0 then some [] else some (oX edges ((List.range 100).map g) n (((List.range 100).map g).getD n 0 - 1) [n] n):=hcy
  generalize hfn:((List.range 100).map g).getD n 0=fn at *
  conv=>whnf
  refine kbi (fun h0=>?_) (fun h0=>?_)
  ·have h0:fn=0:=by
    have h1:((fn:Int)==0)=true:=h0
    rw[beq_iff_eq] at h1
    omega
   rw[if_pos h0] at hcy
   conv=>whnf
   refine⟨n+1,⟨by omega,fun k hk=>?_⟩,by show 100 - (n+1)<100 - n;omega,⟨rfl,?_,trivial⟩,trivial⟩
   ·by_cases hkn:k=n
    ·rw[hkn];exact hcy
    ·exact hno k (by omega)
   ·show AV.d (.int .i64 (IntKind.i64.wrap ((n:Int)+1)))=i64 ((n+1:Nat):Int)
    rw[zE (by omega) (by omega)]
    rfl
  have h0:fn≠0:=by
   intro e
   subst e
   exact h0 rfl
  rw[if_neg h0] at hcy
  have hfb:fn≤35:=by
   have:=oL hl (fun e h=>(he e h).1) 7 0 0 (bs0 n) _ (bs0_ok n) (by intro x hx;simp[bs0] at hx;omega) hfin fn (by
    rw[← hfn,List.getD_eq_getElem?_getD,List.getElem?_eq_getElem hnl]
    exact List.getElem_mem hnl)
   omega
  conv=>whnf
  refine⟨⟨by omega,by show(n:Int)<100;omega⟩,?_⟩
  conv=>whnf
  split
  rotate_left 1
  ·rename_i hld
   exact absurd (hld.symm.trans (lA (out:=(List.range 100).map g) (k:=n) rfl rfl hnl)) (by simp)
  rename_i cs hld
  obtain rfl:=Option.some.inj (hld.symm.trans (lA (out:=(List.range 100).map g) (k:=n) rfl rfl hnl))
  clear hld
  rw[hfn]
  conv=>whnf
  have ew:IntKind.i64.wrap ((fn:Int) - 1)=((fn - 1:Nat):Int):=by rw[zE (by omega) (by omega)];omega
  refine yV (fun y:Nat × List Nat × Nat=>[(0,sl (edges.map vU)),(4,i64 n),(5,.ptr (.n 5) 0),(6,.ref (.n 23) 0 y.2.1.length),(7,i64 y.2.2),(8,i64 y.1),(12,i64 n)])
   (fun y=>[(.n 5,.vs 155 ((arr ((List.range 100).map g)).map .d)),(.n 23,.ds 3 1 (y.2.1.map xI))]) (fun y=>y.1)
   (fun y=>oX edges ((List.range 100).map g) n y.1 y.2.1 y.2.2=oX edges ((List.range 100).map g) n (fn - 1) [n] n∧y.1+y.2.1.length=fn∧y.2.1.length≥1) (fn - 1,[n],n)
   Weak.refl ?_ ?_ ⟨rfl,by show fn - 1+1=fn;omega,Nat.le_refl _⟩ ?_
  ·refine⟨rfl,rfl,rfl,rfl,rfl,?_,rfl,trivial⟩
   show AV.d (.int .i64 (IntKind.i64.wrap ((fn:Int) - 1)))=i64 ((fn - 1:Nat):Int)
   rw[ew]
  ·exact⟨rfl,rfl,trivial⟩
  rintro⟨left,o,a⟩ τ2 H2 ⟨hw,hlo,ho1⟩
  have hw:oX edges ((List.range 100).map g) n left o a=oX edges ((List.range 100).map g) n (fn - 1) [n] n:=hw
  have hlo:left+o.length=fn:=hlo
  conv=>whnf
  refine kbi (fun h5=>?_) (fun h5=>?_)
  ·have h5:0<left:=by
    have:=of_decide_eq_true h5
    omega
   obtain⟨l,rfl⟩:∃ l,left=l+1:=⟨left - 1,by omega⟩
   conv=>whnf
   refine yV (fun z:Nat × Nat=>[(0,sl (edges.map vU)),(4,i64 n),(5,.ptr (.n 5) 0),(6,.ref (.n 23) 0 o.length),(7,i64 a),(8,i64 (l+1:Nat)),(9,i64 z.2),(12,i64 n),(33,sl (edges.map vU)),(34,i64 (edges.map vU).length),(35,i64 z.1)])
    (fun z=>[(.n 5,.vs 155 ((arr ((List.range 100).map g)).map .d)),(.n 23,.ds 3 1 (o.map xI))]) (fun z=>edges.length - z.1)
    (fun z=>z.1≤edges.length∧z.2=(edges.take z.1).foldl (fun nx e=>if (e.1==a&&e.2 != n&&((List.range 100).map g).getD e.2 0==l+1)=true then min nx e.2 else nx) 100) (0,100)
    Weak.refl ⟨rfl,rfl,rfl,rfl,rfl,rfl,rfl,rfl,rfl,rfl,rfl,trivial⟩ ⟨rfl,rfl,trivial⟩ ⟨Nat.zero_le _,rfl⟩ ?_
   rintro⟨j,nx⟩ τ3 H3 ⟨hj,hnx⟩
   have hj:j≤edges.length:=hj
   have hnx:nx=(edges.take j).foldl (fun nx e=>if (e.1==a&&e.2 != n&&((List.range 100).map g).getD e.2 0==l+1)=true then min nx e.2 else nx) 100:=hnx
   conv=>whnf
   refine kbi (fun h6=>?_) (fun h6=>?_)
   ·have hje:j<edges.length:=by simpa using h6
    obtain⟨he1,he2⟩:=he _ (List.getElem_mem hje)
    have hnext:(edges.take (j+1)).foldl (fun nx e=>if (e.1==a&&e.2 != n&&((List.range 100).map g).getD e.2 0==l+1)=true then min nx e.2 else nx) 100=if (edges[j].1==a&&edges[j].2 != n&&((List.range 100).map g).getD edges[j].2 0==l+1)=true then min nx edges[j].2 else nx:=by
     rw[List.take_succ_eq_append_getElem hje,List.foldl_append,← hnx];rfl
    conv=>whnf
    refine⟨vU edges[j],⟨by omega,by simp[hje],rfl⟩,?_⟩
    conv=>whnf
    refine⟨[di edges[j].1],⟨by decide,rfl,rfl⟩,?_⟩
    conv=>whnf
    refine kbi (fun h7=>?_) (fun h7=>?_)
    ·have h7:edges[j].1=a:=by
      have h8:((edges[j].1:Int)==(a:Int))=true:=h7
      rw[beq_iff_eq] at h8
      omega
     conv=>whnf
     refine⟨[di edges[j].2],⟨by decide,rfl,rfl⟩,?_⟩
     conv=>whnf
     refine kbi (fun h9=>?_) (fun h9=>?_)
     ·have h9:edges[j].2≠n:=by
       have h8:((edges[j].2:Int) != (n:Int))=true:=h9
       rw[bne_iff_ne] at h8
       omega
      conv=>whnf
      refine⟨[di edges[j].2],⟨by decide,rfl,rfl⟩,?_⟩
      conv=>whnf
      have he2l:edges[j].2<((List.range 100).map g).length:=by simp;omega
      refine⟨⟨by omega,by show(edges[j].2:Int)<100;omega⟩,?_⟩
      conv=>whnf
      split
      rotate_left 1
      ·rename_i hld
       exact absurd (hld.symm.trans (lA (out:=(List.range 100).map g) (k:=edges[j].2) rfl rfl he2l)) (by simp)
      rename_i cs hld
      obtain rfl:=Option.some.inj (hld.symm.trans (lA (out:=(List.range 100).map g) (k:=edges[j].2) rfl rfl he2l))
      clear hld
      conv=>whnf
      refine kbi (fun h10=>?_) (fun h10=>?_)
      ·have h10:((List.range 100).map g).getD edges[j].2 0=l+1:=by
        have h8:(((((List.range 100).map g).getD edges[j].2 0:Nat):Int)==((l+1:Nat):Int))=true:=h10
        rw[beq_iff_eq] at h8
        omega
       conv=>whnf
       refine⟨[di edges[j].2],⟨by decide,rfl,rfl⟩,?_⟩
       conv=>whnf
       refine⟨(j+1,min nx edges[j].2),⟨by show j+1≤edges.length;omega,by rw[hnext,if_pos (by simp only[Bool.and_eq_true,beq_iff_eq,bne_iff_ne];exact⟨⟨h7,h9⟩,h10⟩)]⟩,by show edges.length - (j+1)<edges.length - j;omega,⟨rfl,rfl,rfl,rfl,rfl,rfl,?_,rfl,rfl,rfl,?_,trivial⟩,⟨rfl,rfl,trivial⟩⟩
       ·show AV.d (.int .i64 (if (edges[j].2:Int)<(nx:Int) then (edges[j].2:Int) else (nx:Int)))=i64 ((min nx edges[j].2:Nat):Int)
        by_cases hlt:edges[j].2<nx
        ·rw[if_pos (by omega),Nat.min_eq_right (by omega)]
        ·rw[if_neg (by omega),Nat.min_eq_left (by omega)]
       ·show AV.d (.int .i64 (IntKind.i64.wrap ((j:Int)+1)))=i64 ((j+1:Nat):Int)
        rw[zE (by omega) (by omega)]
        rfl
      ·have h10:((List.range 100).map g).getD edges[j].2 0≠l+1:=by
        intro e
        apply h10
        show(((((List.range 100).map g).getD edges[j].2 0:Nat):Int)==((l+1:Nat):Int))=true
        rw[beq_iff_eq,e]
       conv=>whnf
       refine⟨(j+1,nx),⟨by show j+1≤edges.length;omega,by rw[hnext];rw[if_neg (by simp only[Bool.and_eq_true,beq_iff_eq,bne_iff_ne];rintro⟨⟨q1,q2⟩,q3⟩;exact h10 q3)]⟩,by show edges.length - (j+1)<edges.length - j;omega,⟨rfl,rfl,rfl,rfl,rfl,rfl,rfl,rfl,rfl,rfl,?_,trivial⟩,⟨rfl,rfl,trivial⟩⟩
       show AV.d (.int .i64 (IntKind.i64.wrap ((j:Int)+1)))=i64 ((j+1:Nat):Int)
       rw[zE (by omega) (by omega)]
       rfl
     ·have h9:edges[j].2=n:=by
       have h8:¬ ((edges[j].2:Int) != (n:Int))=true:=h9
       rw[bne_iff_ne,ne_eq,Classical.not_not] at h8
       omega
      conv=>whnf
      refine⟨(j+1,nx),⟨by show j+1≤edges.length;omega,by rw[hnext];rw[if_neg (by simp only[Bool.and_eq_true,beq_iff_eq,bne_iff_ne];rintro⟨⟨q1,q2⟩,q3⟩;exact q2 h9)]⟩,by show edges.length - (j+1)<edges.length - j;omega,⟨rfl,rfl,rfl,rfl,rfl,rfl,rfl,rfl,rfl,rfl,?_,trivial⟩,⟨rfl,rfl,trivial⟩⟩
      show AV.d (.int .i64 (IntKind.i64.wrap ((j:Int)+1)))=i64 ((j+1:Nat):Int)
      rw[zE (by omega) (by omega)]
      rfl
    ·have h7:edges[j].1≠a:=by
      intro e
      apply h7
      show((edges[j].1:Int)==(a:Int))=true
      rw[beq_iff_eq,e]
     conv=>whnf
     refine⟨(j+1,nx),⟨by show j+1≤edges.length;omega,by rw[hnext];rw[if_neg (by simp only[Bool.and_eq_true,beq_iff_eq,bne_iff_ne];rintro⟨⟨q1,q2⟩,q3⟩;exact h7 q1)]⟩,by show edges.length - (j+1)<edges.length - j;omega,⟨rfl,rfl,rfl,rfl,rfl,rfl,rfl,rfl,rfl,rfl,?_,trivial⟩,⟨rfl,rfl,trivial⟩⟩
     show AV.d (.int .i64 (IntKind.i64.wrap ((j:Int)+1)))=i64 ((j+1:Nat):Int)
     rw[zE (by omega) (by omega)]
     rfl
   ·have hje:edges.length≤j:=by simpa using h6
    have hjj:j=edges.length:=by omega
    rw[hjj,List.take_length] at hnx
    have hnx:nx=nextI edges ((List.range 100).map g) n a (l+1):=hnx
    conv=>whnf
    refine⟨⟨rfl,by show(o.length+1)*8≤_;omega,by show o.length+1≤_;omega⟩,?_⟩
    conv=>whnf
    refine⟨(l,o++[nx],nx),⟨by show oX edges ((List.range 100).map g) n l (o++[nx]) nx=_;rw[← hw,hnx];rfl,by show l+(o++[nx]).length=fn;simp;omega,by show(o++[nx]).length≥1;simp⟩,by show l<l+1;omega,⟨rfl,rfl,rfl,?_,rfl,?_,rfl,trivial⟩,⟨rfl,?_,trivial⟩⟩
    ·show AV.ref (.n 23) 0 (o.length+1)=.ref (.n 23) 0 (o++[nx]).length
     rw[List.length_append];rfl
    ·show AV.d (.int .i64 (IntKind.i64.wrap (((l+1:Nat):Int) - 1)))=i64 ((l:Nat):Int)
     rw[zE (by omega) (by omega)]
     congr 2
     omega
    ·show some (Ob.ds 3 1 ((o.map xI).take o.length++[xI nx]))=some (Ob.ds 3 1 ((o++[nx]).map xI))
     rw[List.take_of_length_le (by simp)]
     simp
  ·have h5:left=0:=by
    have:¬ (left:Int) > 0:=fun e=>h5 (decide_eq_true e)
    omega
   subst h5
   conv=>whnf
   refine .inl ?_
   conv=>whnf
   have hoe:fL edges n=some o:=by rw[hcy,← hw];rfl
   rw[cycOf_at h hno hoe (by have:1≤o.length:=ho1;intro e;rw[e] at this;simp at this)]
   have ho1:1≤o.length:=ho1
   show AV.tup [AV.d (.sl ((o.map xI).take o.length)),bv true]=_
   rw[List.take_of_length_le (by simp)]
   cases o with
   |nil=>simp at ho1
   |cons x xs=>rfl
 ·have h:n=100:=by
   have:¬ (n:Int)<100:=fun e=>h (decide_eq_true e)
   omega
  subst h
  have h0:rU edges=[]:=by
   unfold rU
   have:(List.range 100).findSome? (fun n=>match fL edges n with|some (x::xs)=>some (x::xs)|_=>none)=none:=by
    rw[List.findSome?_eq_none_iff]
    intro k hk
    rw[hno k (by simpa using hk)]
   rw[this];rfl
  conv=>whnf
  rw[h0]
  refine .inl ?_
  conv=>whnf
  rfl
end Ai
namespace Ai.Cyc
theorem iX {goal cur:Nat}:∀ (es:List (Nat × Nat)) (st:BS),(∀ e∈es,e.2≠cur)→es.foldl (bsE goal cur) st=st
 | [],st,h=>rfl
 |e::es,st,h=>by
  have:bsE goal cur st e=st:=by
   unfold bsE
   rw[if_pos (by rw[Bool.or_eq_true];exact .inl (bne_iff_ne.2 (h e List.mem_cons_self)))]
  rw[List.foldl_cons,this]
  exact iX es st fun x hx=>h x (List.mem_cons_of_mem _ hx)
theorem run_far {n:Nat} {edges:List (Nat × Nat)} (h:∀ e∈edges,e.2≠n):jA n edges 7 0 (bs0 n)=some (bs0 n):=by
 unfold jA
 rw[if_pos (by simp[bs0])]
 rw[show(bs0 n).queue.getD 0 0=n from rfl,iX edges _ h]
 unfold jA
 rw[if_neg (by simp[bs0])]
theorem cycI_far {n:Nat} {edges:List (Nat × Nat)} (h:∀ e∈edges,e.2≠n):fL edges n=some []:=by
 unfold fL
 rw[run_far h]
 have:(bs0 n).out.getD n 0=0:=by
  simp only[bs0,List.getD_eq_getElem?_getD,List.getElem?_replicate]
  split <;> rfl
 show(if (bs0 n).out.getD n 0=0 then some [] else _)=_
 rw[if_pos this]
theorem cycS_far {n:Nat} {edges:List (Nat × Nat)} (h:∀ e∈edges,e.1≠n):dV edges n=some []:=by
 have hf:edges.find? (fun e=>e.1==n)=none:=by
  rw[List.find?_eq_none]
  intro e he
  simpa using h e he
 unfold dV bC
 rw[if_pos (by simp)]
 have:(([[n]]:List (List Nat)).getD 0 []).getLastD 0=n:=rfl
 rw[this,hf]
 unfold bC
 rw[if_neg (by simp)]
structure Graph (edges:List (Nat × Nat)):Prop where
 g:∃ a b c d e:Option Nat,(a∈opts∧b∈opts∧c∈opts∧d∈opts∧e∈opts)∧edges=ed 0 a++ed 1 b++ed 2 c++ed 3 d++ed 4 e
theorem ed_in {k:Nat} {o:Option Nat} (ho:o∈opts) (hk:k<5):∀ e∈ed k o,e.1<5∧e.2<5:=by
 intro e he
 simp only[opts,List.mem_cons,List.not_mem_nil,or_false] at ho
 rcases ho with rfl|rfl|rfl|rfl|rfl|rfl <;> simp[ed] at he <;> subst he <;> exact⟨hk,by simp⟩
theorem Graph.small {edges:List (Nat × Nat)} (h:Graph edges):∀ e∈edges,e.1<5∧e.2<5:=by
 obtain⟨a,b,c,d,e,⟨ha,hb,hc,hd,he⟩,rfl⟩:=h.g
 intro x hx
 simp only[List.mem_append] at hx
 rcases hx with (((hx|hx)|hx)|hx)|hx
 ·exact ed_in ha (by decide) x hx
 ·exact ed_in hb (by decide) x hx
 ·exact ed_in hc (by decide) x hx
 ·exact ed_in hd (by decide) x hx
 ·exact ed_in he (by decide) x hx
theorem cX (k:Nat) (o:Option Nat):(ed k o).length≤1:=by cases o <;> simp[ed]
theorem Graph.len {edges:List (Nat × Nat)} (h:Graph edges):edges.length≤5:=by
 obtain⟨a,b,c,d,e,-,rfl⟩:=h.g
 simp only[List.length_append]
 have:=cX 0 a;have:=cX 1 b;have:=cX 2 c;have:=cX 3 d;have:=cX 4 e
 omega
theorem Graph.same {edges:List (Nat × Nat)} (h:Graph edges) (n:Nat):(fL edges n).isSome=true∧fL edges n=dV edges n:=by
 by_cases hn:n<5
 ·obtain⟨a,b,c,d,e,⟨ha,hb,hc,hd,he⟩,rfl⟩:=h.g
  have:=ok_all a b c d e ha hb hc hd he
  simp only[ok,List.all_eq_true,List.mem_range,Bool.and_eq_true,beq_iff_eq] at this
  exact this n hn
 ·have h1:fL edges n=some []:=cycI_far fun e he=>by have:=h.small e he;omega
  have h2:dV edges n=some []:=cycS_far fun e he=>by have:=h.small e he;omega
  rw[h1,h2]
  exact⟨rfl,rfl⟩
theorem Graph.run {edges:List (Nat × Nat)} (h:Graph edges) (n:Nat):(jA n edges 7 0 (bs0 n)).isSome=true:=by
 have:=(h.same n).1
 unfold fL at this
 cases hr:jA n edges 7 0 (bs0 n) with
 |none=>rw[hr] at this;cases this
 |some x=>rfl
end Ai.Cyc
namespace Ai
set_option maxRecDepth 100000
open Go Go.Proofs Cyc
def xV (edges:List (Nat × Nat)):List Nat:=((List.range 100).findSome? fun n=>match dV edges n with|some (x::xs)=>some (x::xs)|_=>none).getD []
theorem cyc_same {edges:List (Nat × Nat)} (h:Graph edges):rU edges=xV edges:=by
 unfold rU xV
 refine congrArg (fun f=>((List.range 100).findSome? f).getD []) (funext fun n=>?_)
 have e:=(h.same n).2
 generalize fL edges n=a at e ⊢
 subst e
 cases dV edges n with
 |none=>rfl
 |some l=>cases l <;> rfl
theorem cycS_at {edges:List (Nat × Nat)} {n:Nat} {o:List Nat} (h:n<100) (hno:∀ k,k<n→dV edges k=some []) (ho:dV edges n=some o) (hne:o≠[]):xV edges=o:=by
 unfold xV
 have hs:List.range 100=(List.range 100).take n++n::(List.range 100).drop (n+1):=by
  have:=(List.take_append_drop n (List.range 100)).symm
  rw[List.drop_eq_getElem_cons (by simp;omega),List.getElem_range] at this
  exact this
 have hf:(List.range 100).findSome? (fun n=>match dV edges n with|some (x::xs)=>some (x::xs)|_=>none)=some o:=by
  rw[List.findSome?_eq_some_iff]
  refine⟨_,n,_,hs,?_,fun x hx=>?_⟩
  ·rw[ho]
   cases o with
   |nil=>exact absurd rfl hne
   |cons x xs=>rfl
  ·obtain⟨i,hi,rfl⟩:=List.mem_iff_getElem.1 hx
   have hi2:i<n:=by
    have:=hi
    simp at this
    omega
   rw[List.getElem_take,List.getElem_range,hno i hi2]
 rw[hf]
 rfl
theorem l3Cycle_ok (edges:List (Nat × Nat)) (hG:Graph edges) (hW:∀ n w,n<100→dV edges n=some w→CallsTo EE 152 [sl (edges.map vU),i64 n,i64 n] (·=sl (w.map xI))) :
  CallsTo EE 103 [sl (edges.map vU)] (·=sl ((xV edges).map xI)):=by
 refine callsTo_of_AW (fn:=Tryz.f103) Tryz.func103 rfl (by kernel_rfl) rfl ?_
 conv=>whnf
 refine yV (fun n:Nat=>[(0,sl (edges.map vU)),(3,i64 n)]) (fun n=>[]) (fun n=>100 - n) (fun n=>n≤100∧∀ k,k<n→dV edges k=some []) 0
  Weak.refl ⟨rfl,rfl,trivial⟩ trivial ⟨Nat.zero_le _,fun k hk=>by omega⟩ ?_
 rintro n τ H ⟨hn,hno⟩
 conv=>whnf
 refine kbi (fun h=>?_) (fun h=>?_)
 ·have h:n<100:=by
   have:=of_decide_eq_true h
   omega
  obtain⟨w,hw⟩:∃ w,dV edges n=some w:=by
   have:=(hG.same n).1
   rw[(hG.same n).2] at this
   exact Option.isSome_iff_exists.1 this
  conv=>whnf
  refine⟨_,hW n w h hw,?_⟩
  rintro r rfl
  conv=>whnf
  refine kbi (fun h0=>?_) (fun h0=>?_)
  ·have h0:0<w.length:=by
    have:=of_decide_eq_true h0
    simpa using this
   conv=>whnf
   rw[cycS_at h hno hw (by intro e;rw[e] at h0;simp at h0)]
   try rfl
  ·have h0:w=[]:=by
    have h1:¬ ((w.map xI).length:Int) > 0:=fun e=>h0 (decide_eq_true e)
    have:w.length=0:=by simp at h1;simpa using h1
    exact List.length_eq_zero_iff.1 this
   subst h0
   conv=>whnf
   refine⟨n+1,⟨by omega,fun k hk=>?_⟩,by show 100 - (n+1)<100 - n;omega,⟨rfl,?_,trivial⟩,trivial⟩
   ·by_cases hkn:k=n
    ·rw[hkn];exact hw
    ·exact hno k (by omega)
   ·show AV.d (.int .i64 (IntKind.i64.wrap ((n:Int)+1)))=i64 ((n+1:Nat):Int)
    rw[zE (by omega) (by omega)]
    rfl
 ·have h:n=100:=by
   have:¬ (n:Int)<100:=fun e=>h (decide_eq_true e)
   omega
  subst h
  have h0:xV edges=[]:=by
   unfold xV
   have:(List.range 100).findSome? (fun n=>match dV edges n with|some (x::xs)=>some (x::xs)|_=>none)=none:=by
    rw[List.findSome?_eq_none_iff]
    intro k hk
    rw[hno k (by simpa using hk)]
   rw[this];rfl
  conv=>whnf
  rw[h0]
  exact .inl rfl
end Ai
namespace Ai
set_option maxRecDepth 100000
open Go Go.Proofs
theorem dash_ok (l:List UInt8):CallsTo EE 70 [sv l] (·=sv (if l=[] then [45] else l)):=by
 refine callsTo_of_AW (fn:=Tryz.f70) Tryz.func70 rfl (by kernel_rfl) rfl ?_
 conv=>whnf
 refine kbi (fun h=>?_) (fun h=>?_)
 ·have h:l=[]:=by simpa using h
  conv=>whnf
  rw[if_pos h]
  try rfl
 ·have h:¬ l=[]:=by simpa using h
  conv=>whnf
  rw[if_neg h]
  try rfl
theorem cG (xs:List Nat) (hl:xs.length≤1000) (hx:∀ x∈xs,x≤1000000) (hlen:(Lib.join (xs.map fun x=>Lib.itoa ((x:Nat):Int)) [44]).length≤140737488355328) :
  CallsTo EE 71 [sl (xs.map xI)] (·=sv (Lib.join (xs.map fun x=>Lib.itoa ((x:Nat):Int)) [44])):=by
 refine callsTo_of_AW (fn:=Tryz.f71) Tryz.func71 rfl (by kernel_rfl) rfl ?_
 conv=>whnf
 refine yV (fun k:Nat=>[(0,sl (xs.map xI)),(3,.ref (.n 6) 0 k),(7,sl (xs.map xI)),(8,i64 (xs.map xI).length),(9,i64 k)]) (fun k=>[(.n 6,.ds 9 1 (((xs.take k).map fun x=>Lib.itoa ((x:Nat):Int)).map encStr))]) (fun k=>xs.length - k) (fun k=>k≤xs.length) 0
  Weak.refl ⟨rfl,rfl,rfl,rfl,rfl,trivial⟩ ⟨rfl,trivial⟩ (Nat.zero_le _) ?_
 intro k τ H hk
 have hk:k≤xs.length:=hk
 conv=>whnf
 refine kbi (fun h=>?_) (fun h=>?_)
 ·have hlt:k<xs.length:=by simpa using h
  have hxk:=hx _ (List.getElem_mem hlt)
  conv=>whnf
  refine⟨xI xs[k],⟨by omega,by simp[hlt],rfl⟩,?_⟩
  conv=>whnf
  refine⟨_,Itoa_ok ((xs[k]:Nat):Int) (by omega) (by omega),?_⟩
  rintro r rfl
  conv=>whnf
  refine⟨⟨rfl,by show(k+1)*16≤_;omega,by show k+1≤_;omega⟩,?_⟩
  conv=>whnf
  refine⟨k+1,by show k+1≤xs.length;omega,by show xs.length - (k+1)<xs.length - k;omega,⟨rfl,rfl,rfl,rfl,?_,trivial⟩,⟨?_,trivial⟩⟩
  ·show AV.d (.int .i64 (IntKind.i64.wrap ((k:Int)+1)))=i64 ((k+1:Nat):Int)
   rw[zE (by omega) (by omega)]
   rfl
  ·show some (Ob.ds 9 1 ((((xs.take k).map fun x=>Lib.itoa ((x:Nat):Int)).map encStr).take k++[encStr (Lib.itoa ((xs[k]:Nat):Int))]))=some (Ob.ds 9 1 (((xs.take (k+1)).map fun x=>Lib.itoa ((x:Nat):Int)).map encStr))
   have e0:(((xs.take k).map fun x=>Lib.itoa ((x:Nat):Int)).map encStr).take k=((xs.take k).map fun x=>Lib.itoa ((x:Nat):Int)).map encStr:=List.take_of_length_le (by simp;omega)
   rw[e0,List.take_succ_eq_append_getElem hlt,List.map_append,List.map_append]
   rfl
 ·have hge:xs.length≤k:=by simpa using h
  have hkk:k=xs.length:=by omega
  subst hkk
  conv=>whnf
  have e:((((xs.take xs.length).map fun x=>Lib.itoa ((x:Nat):Int)).map encStr).drop 0).take xs.length=(xs.map fun x=>Lib.itoa ((x:Nat):Int)).map encStr:=by
   rw[List.drop_zero,List.take_length,List.take_of_length_le (by simp)]
  refine .inl ⟨_,Eq.mp (congrArg (fun x=>CallsTo EE 111 [sl x,sv [44]] _) e.symm) (Join_ok (xs.map fun x=>Lib.itoa ((x:Nat):Int)) [44] (by simp;omega) hlen),?_⟩
  rintro r rfl
  refine⟨rfl,?_⟩
  conv=>whnf
  try rfl
end Ai
namespace Ai
set_option maxRecDepth 100000
open Go Go.Proofs Cyc
theorem l1Put0_ok (n:Int):CallsTo EE 203 [sl [],i64 n] (·=.uq 3 1 [[di n]]):=by
 refine callsTo_of_AW (fn:=Tryz.f203) Tryz.func203 rfl (by kernel_rfl) rfl ?_
 conv=>whnf
 refine yV (fun _:Unit=>[(0,sl []),(1,i64 n),(5,i64 0)]) (fun _=>[]) (fun _=>0) (fun _=>True) ()
  Weak.refl ⟨rfl,rfl,rfl,trivial⟩ trivial trivial ?_
 rintro⟨⟩ τ H -
 conv=>whnf
 refine kbi (fun h=>absurd h (by decide)) (fun h=>?_)
 conv=>whnf
 refine kbi (fun h2=>absurd h2 (by decide)) (fun h2=>?_)
 conv=>whnf
 refine⟨⟨Int.le_refl _,Int.le_refl _,Int.le_refl _,fun c hc=>(by cases hc)⟩,?_⟩
 conv=>whnf
 refine⟨⟨rfl,by decide,by decide⟩,?_⟩
 conv=>whnf
 refine⟨⟨rfl,by show(8:Nat)≤_;decide,by show(1:Nat)≤_;decide⟩,?_⟩
 conv=>whnf
 refine⟨⟨Int.le_refl _,Int.le_refl _,Int.le_refl _,fun c hc=>(by cases hc)⟩,?_⟩
 conv=>whnf
 refine⟨⟨rfl,by show(8:Nat)≤_;decide,by show(1:Nat)≤_;decide⟩,?_⟩
 conv=>whnf
 try rfl
end Ai
namespace Ai
set_option maxRecDepth 100000
open Go Go.Proofs Cyc
def cV (w:List Nat):List D:=[.sl (w.map xI)]
def OneEach (edges:List (Nat × Nat)):Prop:=∀ i j (hi:i<edges.length) (hj:j<edges.length),edges[i].1=edges[j].1→i=j
def nxv:Option Nat→AV
 |none=>.d .nil
 |some b=>.d (.sl [[di (b:Int)]])
theorem l3Way_ok (edges:List (Nat × Nat)) (n:Nat) (w:List Nat) (hl:edges.length≤5) (ho:OneEach edges) (hw:bC edges n 8 0 [[n]] []=some w) :
  CallsTo EE 152 [sl (edges.map vU),i64 n,i64 n] (·=sl (w.map xI)):=by
 refine callsTo_of_AW (fn:=Tryz.f152) Tryz.func152 rfl (by kernel_rfl) rfl ?_
 conv=>whnf
 refine .inl ?_
 conv=>whnf
 refine yV (fun x:Nat × List (List Nat) × List Nat=>[(0,sl (edges.map vU)),(1,i64 n),(2,i64 n),(6,.d .nil),(7,.ref (.n 18) 0 x.2.1.length),(8,.ref (.n 68) 0 x.2.2.length),(9,i64 x.1)])
  (fun x=>[(.n 18,.ds 26 1 (x.2.1.map cV)),(.n 68,.ds 3 1 (x.2.2.map xI))]) (fun x=>8 - x.1)
  (fun x=>∃ f,f+x.1=8∧bC edges n f x.1 x.2.1 x.2.2=some w∧x.2.1.length≤x.1+1∧(∀ v∈x.2.1,1≤v.length∧v.length≤x.1+1)∧x.2.2.length≤x.1) (0,[[n]],[])
  (weak_nil 8 (.n 68) 3 1 rfl) ?_ ?_ ⟨8,rfl,hw,by simp,by simp,by simp⟩ ?_
 ·exact⟨rfl,rfl,rfl,rfl,rfl,rfl,rfl,trivial⟩
 ·exact⟨rfl,rfl,trivial⟩
 rintro⟨i,ways,seen⟩ τ H ⟨f,hf,hrun,hwl,hne,hsl⟩
 cases f with
 |zero=>cases hrun
 |succ f =>
 have hf:f+1+i=8:=hf
 have hrun:bC edges n (f+1) i ways seen=some w:=hrun
 have hwl:ways.length≤i+1:=hwl
 have hne:∀ v∈ways,1≤v.length∧v.length≤i+1:=hne
 have hsl:seen.length≤i:=hsl
 conv=>whnf
 refine kbi (fun hi=>?_) (fun hi=>?_)
 ·have hi:i<ways.length:=by
   have:=of_decide_eq_true hi
   simpa using this
  have hwi:=hne _ (List.getElem_mem hi)
  have hgd:ways.getD i []=ways[i]:=by simp[List.getD_eq_getElem?_getD,hi]
  unfold bC at hrun
  rw[if_pos hi,hgd] at hrun
  generalize hv:ways[i]=v at *
  have hvl:v.getLastD 0=v.getD (v.length - 1) 0:=by
   rw[List.getLastD_eq_getLast?,List.getLast?_eq_getElem?,List.getD_eq_getElem?_getD]
  conv=>whnf
  refine⟨⟨by omega,by show(i:Int)<ways.length;omega⟩,?_⟩
  conv=>whnf
  refine⟨cV v,⟨by rw[Nat.zero_add];show(ways.map cV)[i]?=_;rw[List.getElem?_map,List.getElem?_eq_getElem hi,hv];rfl,by show 0+1≤1;omega⟩,?_⟩
  conv=>whnf
  have ewl:IntKind.i64.wrap ((v.length:Int) - 1)=((v.length - 1:Nat):Int):=by rw[zE (by omega) (by omega)];omega
  generalize hlast:v.getLastD 0=last at *
  refine yV (fun y:Nat × Option Nat=>[(0,sl (edges.map vU)),(1,i64 n),(2,i64 n),(6,.d .nil),(7,.ref (.n 18) 0 ways.length),(8,.ref (.n 68) 0 seen.length),(9,i64 i),(10,sl (v.map xI)),(11,nxv y.2),(29,sl (edges.map vU)),(30,i64 (edges.map vU).length),(31,i64 y.1)])
   (fun y=>[(.n 18,.ds 26 1 (ways.map cV)),(.n 68,.ds 3 1 (seen.map xI))]) (fun y=>edges.length - y.1)
   (fun y=>y.1≤edges.length∧y.2=((edges.take y.1).find? (fun e=>e.1==last)).map (·.2)) (0,none)
   Weak.refl ⟨rfl,rfl,rfl,rfl,rfl,rfl,rfl,rfl,rfl,rfl,rfl,rfl,trivial⟩ ⟨rfl,rfl,trivial⟩ ⟨Nat.zero_le _,rfl⟩ ?_
  rintro⟨j,q⟩ τ2 H2 ⟨hj,hq⟩
  have hj:j≤edges.length:=hj
  have hq:q=((edges.take j).find? (fun e=>e.1==last)).map (·.2):=hq
  conv=>whnf
  refine kbi (fun hje=>?_) (fun hje=>?_)
  ·have hje:j<edges.length:=by simpa using hje
   have hnext:(edges.take (j+1)).find? (fun e=>e.1==last)=((edges.take j).find? (fun e=>e.1==last)).or (if edges[j].1==last then some edges[j] else none):=by
    rw[List.take_succ_eq_append_getElem hje,List.find?_append]
    congr 1
    simp only[List.find?_cons]
    cases (edges[j].1==last) <;> rfl
   conv=>whnf
   refine⟨vU edges[j],⟨by omega,by simp[hje],rfl⟩,?_⟩
   conv=>whnf
   refine⟨by kernel_rfl,?_⟩
   conv=>whnf
   refine⟨[di edges[j].1],⟨by decide,rfl,rfl⟩,?_⟩
   conv=>whnf
   refine⟨xI last,⟨?_,?_,rfl⟩,?_⟩
   ·show(0:Int)≤IntKind.i64.wrap (((v.map xI).length:Int) - 1)
    rw[List.length_map,ewl];omega
   ·show(v.map xI)[(IntKind.i64.wrap (((v.map xI).length:Int) - 1)).toNat]?=_
    rw[List.length_map,ewl,hvl,List.getElem?_map,List.getD_eq_getElem?_getD]
    show(v[v.length - 1]?).map xI=_
    rw[List.getElem?_eq_getElem (by omega)]
    rfl
   conv=>whnf
   refine kbi (fun h7=>?_) (fun h7=>?_)
   ·have h7:edges[j].1=last:=by
     have h8:((edges[j].1:Int)==(last:Int))=true:=h7
     rw[beq_iff_eq] at h8
     omega
    have hnone:(edges.take j).find? (fun e=>e.1==last)=none:=by
     rw[List.find?_eq_none]
     intro e he
     obtain⟨k,hk,rfl⟩:=List.mem_take_iff_getElem.1 he
     intro e2
     have e2:edges[k].1=last:=by simpa using e2
     have:=ho k j (by omega) hje (by rw[e2,h7])
     omega
    rw[hnone] at hq hnext
    have hq:q=none:=hq
    subst hq
    conv=>whnf
    refine⟨[di edges[j].2],⟨by decide,rfl,rfl⟩,?_⟩
    conv=>whnf
    refine⟨_,l1Put0_ok (edges[j].2:Int),?_⟩
    rintro r rfl
    refine .inl ?_
    conv=>whnf
    refine⟨(j+1,some edges[j].2),⟨by show j+1≤edges.length;omega,by show some edges[j].2=_;rw[hnext,h7];simp⟩,by show edges.length - (j+1)<edges.length - j;omega,⟨rfl,rfl,rfl,rfl,rfl,rfl,rfl,rfl,rfl,rfl,rfl,?_,trivial⟩,⟨rfl,rfl,trivial⟩⟩
    show AV.d (.int .i64 (IntKind.i64.wrap ((j:Int)+1)))=i64 ((j+1:Nat):Int)
    rw[zE (by omega) (by omega)]
    rfl
   ·have h7:edges[j].1≠last:=by
     intro e
     apply h7
     show((edges[j].1:Int)==(last:Int))=true
     rw[beq_iff_eq,e]
    conv=>whnf
    refine⟨(j+1,q),⟨by show j+1≤edges.length;omega,by show q=_;rw[hnext,hq];simp[h7]⟩,by show edges.length - (j+1)<edges.length - j;omega,⟨rfl,rfl,rfl,rfl,rfl,rfl,rfl,rfl,rfl,rfl,rfl,?_,trivial⟩,⟨rfl,rfl,trivial⟩⟩
    show AV.d (.int .i64 (IntKind.i64.wrap ((j:Int)+1)))=i64 ((j+1:Nat):Int)
    rw[zE (by omega) (by omega)]
    rfl
  ·have hje:edges.length≤j:=by simpa using hje
   have hjj:j=edges.length:=by omega
   rw[hjj,List.take_length] at hq
   cases hfd:edges.find? (fun e=>e.1==last) with
   |none =>
    rw[hfd] at hq hrun
    have hq:q=none:=hq
    subst hq
    conv=>whnf
    refine yV (fun _:Unit=>[(0,sl (edges.map vU)),(1,i64 n),(2,i64 n),(6,.d .nil),(7,.ref (.n 18) 0 ways.length),(8,.ref (.n 68) 0 seen.length),(9,i64 i),(52,i64 0),(53,i64 0)])
     (fun _=>[(.n 18,.ds 26 1 (ways.map cV)),(.n 68,.ds 3 1 (seen.map xI))]) (fun _=>0) (fun _=>True) ()
     Weak.refl ⟨rfl,rfl,rfl,rfl,rfl,rfl,rfl,rfl,rfl,trivial⟩ ⟨rfl,rfl,trivial⟩ trivial ?_
    rintro⟨⟩ τ3 H3 -
    conv=>whnf
    refine kbi (fun h8=>absurd h8 (by decide)) (fun h8=>?_)
    conv=>whnf
    refine⟨(i+1,ways,seen),⟨f,by show f+(i+1)=8;omega,hrun,by show ways.length≤i+1+1;omega,fun v hv=>⟨(hne v hv).1,Nat.le_succ_of_le (hne v hv).2⟩,Nat.le_succ_of_le hsl⟩,by show 8 - (i+1)<8 - i;omega,⟨rfl,rfl,rfl,rfl,rfl,rfl,?_,trivial⟩,⟨rfl,rfl,trivial⟩⟩
    show AV.d (.int .i64 (IntKind.i64.wrap ((i:Int)+1)))=i64 ((i+1:Nat):Int)
    rw[zE (by omega) (by omega)]
    rfl
   |some e =>
    rw[hfd] at hq hrun
    have hq:q=some e.2:=hq
    subst hq
    conv=>whnf
    have hrun:(if e.2=n then some v else if seen.contains e.2=true then bC edges n f (i+1) ways seen else bC edges n f (i+1) (ways++[v++[e.2]]) (seen++[e.2]))=some w:=hrun
    refine yV (fun z:Nat × List (List Nat) × List Nat=>[(0,sl (edges.map vU)),(1,i64 n),(2,i64 n),(6,.d .nil),(7,.ref (.n 18) 0 z.2.1.length),(8,.ref (.n 68) 0 z.2.2.length),(9,i64 i),(10,sl (v.map xI)),(51,.d (.sl [[di (e.2:Int)]])),(52,i64 1),(53,i64 z.1)])
     (fun z=>[(.n 18,.ds 26 1 (z.2.1.map cV)),(.n 68,.ds 3 1 (z.2.2.map xI))]) (fun z=>1 - z.1)
     (fun z=>(z.1=0∧z.2.1=ways∧z.2.2=seen)∨(z.1=1∧bC edges n f (i+1) z.2.1 z.2.2=some w∧z.2.1.length≤i+2∧(∀ v∈z.2.1,1≤v.length∧v.length≤i+2)∧z.2.2.length≤i+1)) (0,ways,seen)
     Weak.refl ⟨rfl,rfl,rfl,rfl,rfl,rfl,rfl,rfl,rfl,rfl,rfl,trivial⟩ ⟨rfl,rfl,trivial⟩ (.inl ⟨rfl,rfl,rfl⟩) ?_
    rintro⟨k,W,Sn⟩ τ3 H3 hz
    rcases hz with ⟨hk,hW,hS⟩|⟨hk,hrun2,hWl,hWn,hSl⟩
    ·obtain rfl:k=0:=hk
     obtain rfl:W=ways:=hW
     obtain rfl:Sn=seen:=hS
     conv=>whnf
     refine kbi (fun _=>?_) (fun h8=>absurd (show decide ((0:Int)<1)=true from rfl) h8)
     conv=>whnf
     refine⟨[di (e.2:Int)],⟨Int.le_refl _,rfl,rfl⟩,?_⟩
     conv=>whnf
     refine kbi (fun h9=>?_) (fun h9=>?_)
     ·have h9:e.2=n:=by
       have h8:((e.2:Int)==(n:Int))=true:=h9
       rw[beq_iff_eq] at h8
       omega
      rw[if_pos h9] at hrun
      obtain rfl:=Option.some.inj hrun
      conv=>whnf
      try rfl
     have h9:e.2≠n:=by
      intro q
      apply h9
      show((e.2:Int)==(n:Int))=true
      rw[beq_iff_eq,q]
     rw[if_neg h9] at hrun
     conv=>whnf
     have hsn:((Sn.map xI).drop 0).take Sn.length=(Sn.map fun x=>((x:Nat):Int)).map encInt:=by
      rw[List.drop_zero,List.take_of_length_le (by simp),List.map_map];rfl
     refine .inl ⟨_,l1Has_at _ (Sn.map fun x=>((x:Nat):Int)) (e.2:Int) hsn (by simp;omega),?_⟩
     rintro r rfl
     refine⟨rfl,?_⟩
     by_cases hc:e.2∈Sn
     ·rw[if_pos (by simpa using hc)] at hrun
      simp only[bp,tQ (show((e.2:Nat):Int)∈Sn.map fun x=>((x:Nat):Int) from List.mem_map.2 ⟨e.2,hc,rfl⟩)]
      conv=>whnf
      refine⟨(1,W,Sn),.inr ⟨rfl,hrun,by show W.length≤i+2;omega,fun v hv=>⟨(hne v hv).1,Nat.le_succ_of_le (hne v hv).2⟩,by show Sn.length≤i+1;omega⟩,by show 1 - 1<1 - 0;omega,⟨rfl,rfl,rfl,rfl,rfl,rfl,rfl,rfl,rfl,rfl,rfl,trivial⟩,⟨rfl,rfl,trivial⟩⟩
     ·rw[if_neg (by simpa using hc)] at hrun
      have hm2:¬ ((e.2:Nat):Int)∈Sn.map fun x=>((x:Nat):Int):=by
       intro hm
       obtain⟨x,hx,hx2⟩:=List.mem_map.1 hm
       have hxe:x=e.2:=by omega
       rw[hxe] at hx
       exact hc hx
      simp only[bp,x4 hm2]
      conv=>whnf
      refine⟨⟨rfl,by show(Sn.length+1)*8≤_;omega,by show Sn.length+1≤_;omega⟩,?_⟩
      conv=>whnf
      have hvq:v.map xI=(v.map fun x=>((x:Nat):Int)).map encInt:=by rw[List.map_map];rfl
      refine⟨_,Eq.mp (congrArg (fun x=>CallsTo EE 116 [sl x] _) hvq.symm) (l1Own_ok (v.map fun x=>((x:Nat):Int)) (by simp;omega)),?_⟩
      rintro r rfl
      rw[← hvq]
      refine .inr ⟨71,rfl,?_⟩
      conv=>whnf
      refine⟨⟨rfl,by show((v.map xI).length+1)*8≤_;simp;omega,by show(v.map xI).length+1≤_;simp;omega⟩,?_⟩
      conv=>whnf
      refine .inl ?_
      conv=>whnf
      have evw:(((v.map xI).take (v.map xI).length++[[di (e.2:Int)]]).drop 0).take ((v.map xI).length+1)=(v++[e.2]).map xI:=by
       rw[List.take_length,List.drop_zero,List.take_of_length_le (by simp),List.map_append];rfl
      refine⟨⟨rfl,by show(W.length+1)*24≤_;omega,by show W.length+1≤_;omega⟩,?_⟩
      conv=>whnf
      refine⟨(1,W++[v++[e.2]],Sn++[e.2]),.inr ⟨rfl,hrun,by show(W++[v++[e.2]]).length≤i+2;simp;omega,fun u hu=>?_,by show(Sn++[e.2]).length≤i+1;simp;omega⟩,by show 1 - 1<1 - 0;omega,⟨rfl,rfl,rfl,rfl,?_,?_,rfl,rfl,rfl,rfl,rfl,trivial⟩,⟨?_,?_,trivial⟩⟩
      ·rcases List.mem_append.1 hu with hu|hu
       ·exact⟨(hne u hu).1,Nat.le_succ_of_le (hne u hu).2⟩
       ·simp only[List.mem_cons,List.not_mem_nil,or_false] at hu
        subst hu
        simp;omega
      ·show AV.ref (.n 18) 0 (W.length+1)=.ref (.n 18) 0 (W++[v++[e.2]]).length
       rw[List.length_append];rfl
      ·show AV.ref (.n 68) 0 (Sn.length+1)=.ref (.n 68) 0 (Sn++[e.2]).length
       rw[List.length_append];rfl
      ·show some (Ob.ds 26 1 ((W.map cV).take W.length++[[.sl ((((v.map xI).take (v.map xI).length++[[di (e.2:Int)]]).drop 0).take ((v.map xI).length+1))]]))=some (Ob.ds 26 1 ((W++[v++[e.2]]).map cV))
       have e2:(W++[v++[e.2]]).map cV=W.map cV++[cV (v++[e.2])]:=by rw[List.map_append];rfl
       rw[evw,List.take_of_length_le (by simp),e2];rfl
      ·show some (Ob.ds 3 1 ((Sn.map xI).take Sn.length++[[di (e.2:Int)]]))=some (Ob.ds 3 1 ((Sn++[e.2]).map xI))
       rw[List.take_of_length_le (by simp),List.map_append];rfl
    ·obtain rfl:k=1:=hk
     conv=>whnf
     refine kbi (fun h8=>absurd h8 (show ¬ decide ((1:Int)<1)=true from by decide)) (fun h8=>?_)
     conv=>whnf
     refine⟨(i+1,W,Sn),⟨f,by show f+(i+1)=8;omega,hrun2,hWl,hWn,hSl⟩,by show 8 - (i+1)<8 - i;omega,⟨rfl,rfl,rfl,rfl,rfl,rfl,?_,trivial⟩,⟨rfl,rfl,trivial⟩⟩
     show AV.d (.int .i64 (IntKind.i64.wrap ((i:Int)+1)))=i64 ((i+1:Nat):Int)
     rw[zE (by omega) (by omega)]
     rfl
 ·have hi:¬ i<ways.length:=by
   have:=fun e=>hi (decide_eq_true e)
   intro e
   apply this
   show(i:Int)<ways.length
   omega
  unfold bC at hrun
  rw[if_neg hi] at hrun
  obtain rfl:=Option.some.inj hrun
  conv=>whnf
  exact .inl rfl
end Ai
namespace Ai
set_option maxRecDepth 100000
open Go Go.Proofs Cyc
theorem one_each {edges:List (Nat × Nat)} (h:Graph edges):OneEach edges:=by
 have hn:edges.Pairwise fun x y=>x.1≠y.1:=by
  obtain⟨a,b,c,d,e,-,rfl⟩:=h.g
  cases a <;> cases b <;> cases c <;> cases d <;> cases e <;> simp[ed]
 rw[List.pairwise_iff_getElem] at hn
 intro i j hi hj e
 rcases Nat.lt_trichotomy i j with h1|h1|h1
 ·exact absurd e (hn i j hi hj h1)
 ·exact h1
 ·exact absurd e.symm (hn j i hj hi h1)
theorem l3CycleG_ok (edges:List (Nat × Nat)) (hG:Graph edges):CallsTo EE 103 [sl (edges.map vU)] (·=sl ((xV edges).map xI)) :=
 l3Cycle_ok edges hG fun n w hn hw=>l3Way_ok edges n w hG.len (one_each hG) hw
theorem cycleG_ok (edges:List (Nat × Nat)) (hG:Graph edges):CallsTo EE 68 [sl (edges.map vU)] (·=.tup [sl ((xV edges).map xI),bv (!(xV edges).isEmpty)]):=by
 rw[← cyc_same hG]
 exact cycleI_ok edges hG.len (fun e he=>by have:=hG.small e he;omega) fun n _=>hG.run n
end Ai
namespace Ai
set_option maxRecDepth 100000
open Go Go.Proofs Cyc
def pT (s:StL):Prop:=∀ x∈s.owner,-1≤x∧x<s.ths.length
theorem xZ {s:StL} {k:Nat} {t:Th} (h:pT s):pT (s.put k t):=by
 intro x hx
 have:=h x hx
 simpa[StL.put] using this
theorem mQ {s:StL} {i:Nat} {v:Int} (h:pT s) (hv:-1≤v∧v<s.ths.length):pT { s with owner:=s.owner.set i v }:=by
 intro x hx
 rcases List.mem_or_eq_of_mem_set hx with e|e
 ·exact h x e
 ·subst e;exact hv
theorem oinv_do {s:StL} {k:Nat} {o:OpL} {e:Ev} (hk:k<s.ths.length) (h:pT s):pT (doL s k o e).1:=by
 unfold doL
 simp only
 generalize s.ths.getD k th0=t at *
 by_cases n1:o.code=1
 ·rw[if_pos n1];exact xZ h
 rw[if_neg n1]
 by_cases n2:o.code=2
 ·rw[if_pos n2];exact xZ h
 rw[if_neg n2]
 by_cases n3:o.code=3
 ·rw[if_pos n3];exact xZ (s:={ s with cells:=_ }) h
 rw[if_neg n3]
 by_cases n10:o.code=10
 ·rw[if_pos n10];exact xZ h
 rw[if_neg n10]
 by_cases n11:o.code=11
 ·rw[if_pos n11];exact xZ h
 rw[if_neg n11]
 by_cases n12:o.code=12
 ·rw[if_pos n12];exact xZ (mQ h ⟨by omega,by omega⟩)
 rw[if_neg n12]
 by_cases n13:o.code=13
 ·rw[if_pos n13];exact xZ (mQ h ⟨by omega,by omega⟩)
 rw[if_neg n13]
 by_cases n14:o.code=14
 ·rw[if_pos n14]
  refine xZ (s:={ s with ths:=_ }) fun x hx=>?_
  have:=h x hx
  refine⟨this.1,?_⟩
  show x<((s.ths++[jH o.a]).length:Int)
  simp;omega
 rw[if_neg n14]
 by_cases n15:o.code=15
 ·rw[if_pos n15];exact xZ h
 rw[if_neg n15]
 by_cases n16:o.code=16
 ·rw[if_pos n16];exact xZ (mQ h ⟨by omega,by omega⟩)
 rw[if_neg n16]
 by_cases n17:o.code=17
 ·rw[if_pos n17]
  cases wM s.ths o.a with
  |none=>exact xZ h
  |some j =>
   refine xZ (s:={ s with ths:=_ }) fun x hx=>?_
   have:=h x hx
   refine⟨this.1,?_⟩
   show x<((s.ths.modify j fun u=>{ u with st:=4 }).length:Int)
   simp;omega
 rw[if_neg n17]
 exact xZ h
theorem oinv_step {p:ProgL} {s:StL} {k:Nat} (hk:k<s.ths.length) (h:pT s):pT (stepL p s k).1:=by
 unfold stepL
 simp only
 split
 ·exact xZ (mQ h ⟨by omega,by omega⟩)
 ·split
  ·exact xZ h
  ·split
   ·exact oinv_do hk h
   ·exact h
theorem oinv_new (p:ProgL):pT (vL p):=by
 intro x hx
 obtain⟨_,rfl⟩:=List.mem_replicate.1 hx
 simp[vL]
end Ai
namespace Ai
set_option maxRecDepth 100000
open Go Go.Proofs Cyc
theorem s9 {s:StL} (h:pT s) (h1:1≤s.ths.length) (i:Nat):s.owner.getD i 0<s.ths.length:=by
 rw[List.getD_eq_getElem?_getD]
 cases hg:s.owner[i]? with
 |none=>show(0:Int)<_;omega
 |some x=>exact(h x (List.mem_of_getElem? hg)).2
theorem blocks_lt {p:ProgL} {s:StL} (h:pT s) (h1:1≤s.ths.length) (t:Th):zG p s t<s.ths.length:=by
 unfold zG
 split
 ·exact s9 h h1 _
 ·split
  ·omega
  ·split
   ·split
    ·exact s9 h h1 _
    ·split
     ·split
      ·rename_i k hk
       split
       ·omega
       ·exact(kK idxRange hk).2
      ·omega
     ·omega
   ·omega
end Ai
namespace Ai
set_option maxRecDepth 100000
open Go Go.Proofs Cyc
noncomputable def wV (p:ProgL) (s:StL):List (Nat × Nat):=(bU p s).map fun e=>(e.1,e.2.toNat)
theorem edges_nn {p:ProgL} {s:StL}:∀ e∈bU p s,0≤e.2:=by
 intro e he
 obtain⟨k,hk,rfl⟩:=List.mem_map.1 he
 simpa using (List.mem_filter.1 hk).2
theorem oG (p:ProgL) (s:StL):(bU p s).map pN=(wV p s).map vU:=by
 unfold wV
 rw[List.map_map]
 refine List.map_congr_left fun e he=>?_
 have:=edges_nn e he
 show[D.sl [[di e.1],[di e.2]]]=[D.sl [[di e.1],[di ((e.2.toNat:Nat):Int)]]]
 rw[Int.toNat_of_nonneg this]
noncomputable def waitO (p:ProgL) (s:StL) (k:Nat):Option Nat:=if 0≤zG p s (s.ths.getD k th0) then some (zG p s (s.ths.getD k th0)).toNat else none
theorem wO (p:ProgL) (s:StL) (k:Nat):((if 0≤zG p s (s.ths.getD k th0) then [(k,zG p s (s.ths.getD k th0))] else []).map fun e:Nat × Int=>(e.1,e.2.toNat))=ed k (waitO p s k):=by
 unfold waitO
 split <;> rfl
theorem opts_lt {o:Option Nat} (h:∀ b,o=some b→b<5):o∈opts:=by
 cases o with
 |none=>simp[opts]
 |some b =>
  have:=h b rfl
  have:b=0∨b=1∨b=2∨b=3∨b=4:=by omega
  rcases this with rfl|rfl|rfl|rfl|rfl <;> simp[opts]
theorem edges_graph {p:ProgL} {s:StL} (h:pT s) (h1:1≤s.ths.length) (h5:s.ths.length≤5):Graph (wV p s):=by
 have hw:∀ k,waitO p s k∈opts:=fun k=>opts_lt fun b hb=>by
  unfold waitO at hb
  split at hb
  ·rename_i h0
   have:=blocks_lt (p:=p) h h1 (s.ths.getD k th0)
   simp only[Option.some.injEq] at hb
   omega
  ·cases hb
 have hn:(none:Option Nat)∈opts:=by simp[opts]
 have e0:yB p s 0=[]:=rfl
 unfold wV bU
 have:s.ths.length=1∨s.ths.length=2∨s.ths.length=3∨s.ths.length=4∨s.ths.length=5:=by omega
 rcases this with e|e|e|e|e <;> rw[e]
 ·exact⟨_,none,none,none,none,⟨hw 0,hn,hn,hn,hn⟩,by rw[zZ,e0,List.map_append,wO];simp[ed]⟩
 ·exact⟨_,_,none,none,none,⟨hw 0,hw 1,hn,hn,hn⟩,by rw[zZ,zZ,e0,List.map_append,List.map_append,wO,wO];simp[ed]⟩
 ·exact⟨_,_,_,none,none,⟨hw 0,hw 1,hw 2,hn,hn⟩,by rw[zZ,zZ,zZ,e0,List.map_append,List.map_append,List.map_append,wO,wO,wO];simp[ed]⟩
 ·exact⟨_,_,_,_,none,⟨hw 0,hw 1,hw 2,hw 3,hn⟩,by rw[zZ,zZ,zZ,zZ,e0,List.map_append,List.map_append,List.map_append,List.map_append,wO,wO,wO,wO];simp[ed]⟩
 ·exact⟨_,_,_,_,_,⟨hw 0,hw 1,hw 2,hw 3,hw 4⟩,by rw[zZ,zZ,zZ,zZ,zZ,e0,List.map_append,List.map_append,List.map_append,List.map_append,List.map_append,wO,wO,wO,wO,wO];simp⟩
end Ai
namespace Ai
set_option maxRecDepth 100000
open Go Go.Proofs Cyc
theorem y2 (p:ProgL) (s:StL) (c:Int) (tr:List Ev) (tk:List Int) (hp:p.wf) (hs:s.small) (hv:∀ t∈s.ths,t.seen p s) (hG:Graph (wV p s)) (hc:c=3) (hj1:(xV (wV p s)).length≤1000) (hj2:∀ x∈xV (wV p s),x≤1000000) (hj3:(Lib.join ((xV (wV p s)).map fun x=>Lib.itoa ((x:Nat):Int)) [44]).length≤140737488355328) :
  CallsTo EE 37 [agg (encProg p),agg (encRun c tr tk s)] (·=sv ([115,116,117,99,107,32]++(if Lib.join ((xV (wV p s)).map fun x=>Lib.itoa ((x:Nat):Int)) [44]=[] then [45] else Lib.join ((xV (wV p s)).map fun x=>Lib.itoa ((x:Nat):Int)) [44]))):=by
 refine callsTo_of_AW (fn:=Tryz.f37) Tryz.func37 rfl (by kernel_rfl) rfl ?_
 subst hc
 conv=>whnf
 refine kbi (fun h=>absurd h (by decide)) (fun _=>?_)
 conv=>whnf
 refine kbi (fun h=>absurd h (by decide)) (fun _=>?_)
 conv=>whnf
 refine kbi (fun _=>?_) (fun h=>absurd rfl h)
 conv=>whnf
 refine .inr (.inr (.inr (.inl ⟨_,69,[],weak_frz (isK (.n 3)),rfl,999,99,fun _=>false,_,io_of_calls (oY lW p s hp hs hv),rfl,?_⟩)))
 rintro r H1 ⟨⟨r0,rfl,hr⟩,rfl⟩
 have hr:r=sl ((bU p s).map pN):=by
  rcases hr with hr|hr
  ·cases hr
  ·exact(Option.some.inj hr).symm
 subst hr
 refine⟨fun _ _=>rfl,fun n hn=>(by cases hn),?_⟩
 conv=>whnf
 rw[oG]
 refine⟨_,cycleG_ok (wV p s) hG,?_⟩
 rintro r rfl
 conv=>whnf
 refine⟨_,cG (xV (wV p s)) hj1 hj2 hj3,?_⟩
 rintro r rfl
 conv=>whnf
 refine⟨_,dash_ok _,?_⟩
 rintro r rfl
 conv=>whnf
 refine⟨?_,?_⟩
 ·show 6+(if Lib.join ((xV (wV p s)).map fun x=>Lib.itoa ((x:Nat):Int)) [44]=[] then [45] else Lib.join ((xV (wV p s)).map fun x=>Lib.itoa ((x:Nat):Int)) [44]).length≤_
  split
  ·show 6+1≤_;omega
  ·omega
 conv=>whnf
 try rfl
end Ai
namespace Ai
set_option maxRecDepth 100000
open Go Go.Proofs Cyc
theorem r3 (p:ProgL) (s:StL) (tr:List Ev) (tk:List Int):CallsTo EE 37 [agg (encProg p),agg (encRun 1 tr tk s)] (·=sv [100,111,110,101]):=by
 refine callsTo_of_AW (fn:=Tryz.f37) Tryz.func37 rfl (by kernel_rfl) rfl ?_
 conv=>whnf
 refine kbi (fun _=>?_) (fun h=>absurd rfl h)
 conv=>whnf
 try rfl
theorem aX (p:ProgL) (s:StL) (tr:List Ev) (tk:List Int):CallsTo EE 37 [agg (encProg p),agg (encRun 4 tr tk s)] (·=sv [98,117,100,103,101,116]):=by
 refine callsTo_of_AW (fn:=Tryz.f37) Tryz.func37 rfl (by kernel_rfl) rfl ?_
 conv=>whnf
 refine kbi (fun h=>absurd h (by decide)) (fun _=>?_)
 conv=>whnf
 refine kbi (fun _=>?_) (fun h=>absurd rfl h)
 conv=>whnf
 try rfl
end Ai
namespace Ai
set_option maxRecDepth 100000
open Go Go.Proofs Cyc
def GTh (p:ProgL) (t:Th):Prop:=((t.st=1∨t.st=2)∧t.cond=-1∧t.lock=-1)∨((t.st=3∨t.st=4)∧0≤t.cond∧t.cond<p.conds∧0≤t.lock∧t.lock<p.locks)
structure GInv (p:ProgL) (s:StL):Prop where
 ths:∀ t∈s.ths,GTh p t
 ne:1≤s.ths.length
 fault:InR s.fault 0 4
theorem wB {p:ProgL} {s:StL} {k:Nat} {t:Th} (h:GInv p s) (ht:GTh p t):GInv p (s.put k t):=by
 refine⟨fun u hu=>?_,by simpa[StL.put] using h.ne,h.fault⟩
 rcases List.mem_or_eq_of_mem_set hu with e|e
 ·exact h.ths u e
 ·subst e;exact ht
theorem fault_in (s:StL) (k:Nat) (o:OpL):InR (zV s k o) 0 4:=by
 unfold zV InR
 simp only
 split
 ·omega
 split
 ·omega
 split
 ·omega
 split <;> omega
theorem ginv_do {p:ProgL} (hg:p.goodS) {s:StL} (hi:SInv p s) {k:Nat} (h:k<s.ths.length) {o:OpL} (hn:yA p s.ths[k]=some o) (e:Ev) (hG:GInv p s) (h1:s.ths[k].st=1):GInv p (doL s k o e).1:=by
 have hT:=hi.ths _ (List.getElem_mem h)
 have hgd:s.ths.getD k th0=s.ths[k]:=by simp[List.getD_eq_getElem?_getD,h]
 obtain⟨⟨g1,g2⟩,hlt⟩:=bH hg hT hn
 obtain⟨c1,c2,c3,_⟩:=g1
 obtain⟨a1,a2,a3,a4,a5,a6⟩:=g2
 have ht:=hG.ths _ (List.getElem_mem h)
 generalize s.ths[k]=t at *
 unfold doL
 simp only[hgd]
 have hp:GTh p (zC t o):=ht
 have hpush:∀ v,GTh p (zL (zC t o) v):=fun v=>ht
 have hpc:∀ a,GTh p { zC t o with pc:=a }:=fun a=>ht
 by_cases n1:o.code=1
 ·rw[if_pos n1];exact wB hG (hpush _)
 rw[if_neg n1]
 by_cases n2:o.code=2
 ·rw[if_pos n2];exact wB hG (hpush _)
 rw[if_neg n2]
 by_cases n3:o.code=3
 ·rw[if_pos n3];exact wB (s:={ s with cells:=_ }) ⟨hG.ths,hG.ne,hG.fault⟩ hp
 rw[if_neg n3]
 by_cases n10:o.code=10
 ·rw[if_pos n10];exact wB hG (hpc _)
 rw[if_neg n10]
 by_cases n11:o.code=11
 ·rw[if_pos n11]
  refine wB hG ?_
  split
  ·exact hpc _
  ·exact hp
 rw[if_neg n11]
 by_cases n12:o.code=12
 ·rw[if_pos n12];exact wB (s:={ s with owner:=_ }) ⟨hG.ths,hG.ne,hG.fault⟩ hp
 rw[if_neg n12]
 by_cases n13:o.code=13
 ·rw[if_pos n13];exact wB (s:={ s with owner:=_ }) ⟨hG.ths,hG.ne,hG.fault⟩ hp
 rw[if_neg n13]
 by_cases n14:o.code=14
 ·rw[if_pos n14]
  refine wB (s:={ s with ths:=_ }) ⟨fun u hu=>?_,by show 1≤(s.ths++[jH o.a]).length;simp,hG.fault⟩ (hpush _)
  rcases List.mem_append.1 hu with e|e
  ·exact hG.ths u e
  ·simp only[List.mem_cons,List.not_mem_nil,or_false] at e
   subst e;exact .inl ⟨.inl rfl,rfl,rfl⟩
 rw[if_neg n14]
 by_cases n15:o.code=15
 ·rw[if_pos n15];exact wB hG hp
 rw[if_neg n15]
 by_cases n16:o.code=16
 ·rw[if_pos n16]
  exact wB (s:={ s with owner:=_ }) ⟨hG.ths,hG.ne,hG.fault⟩ (.inr ⟨.inl rfl,c2.1,(a5 n16).1,c3.1,(a5 n16).2⟩)
 rw[if_neg n16]
 by_cases n17:o.code=17
 ·rw[if_pos n17]
  cases hw:wM s.ths o.a with
  |none=>exact wB hG hp
  |some j =>
   refine wB (s:={ s with ths:=_ }) ⟨fun u hu=>?_,by simpa using hG.ne,hG.fault⟩ hp
   obtain⟨i,hi2,rfl⟩:=List.mem_iff_getElem.1 hu
   have hil:i<s.ths.length:=by simpa using hi2
   have hU:=hG.ths _ (List.getElem_mem hil)
   rw[List.getElem_modify]
   split
   ·rename_i hji
    subst hji
    unfold wM at hw
    rw[List.findIdx?_eq_some_iff_getElem] at hw
    obtain⟨_,hpw,_⟩:=hw
    simp only[Bool.and_eq_true,beq_iff_eq] at hpw
    rcases hU with ⟨h9,_⟩|⟨_,h9⟩
    ·have:=hpw.1;omega
    ·exact .inr ⟨.inr rfl,h9⟩
   ·exact hU
 rw[if_neg n17]
 exact wB hG (hpush _)
theorem ginv_step {p:ProgL} (hg:p.goodS) {s:StL} (hi:SInv p s) {k:Nat} (h:k<s.ths.length) (hk:k∈enabledL p s) (hG:GInv p s):GInv p (stepL p s k).1:=by
 have ht:=hG.ths _ (List.getElem_mem h)
 have hgo:=goes_st hk h
 have hgd:s.ths.getD k th0=s.ths[k]:=by simp[List.getD_eq_getElem?_getD,h]
 unfold stepL
 simp only[hgd]
 split
 ·exact wB (s:={ s with owner:=_ }) ⟨hG.ths,hG.ne,hG.fault⟩ (.inl ⟨.inl rfl,rfl,rfl⟩)
 ·rename_i h4
  have h1:s.ths[k].st=1:=by omega
  split
  ·refine wB hG (.inl ⟨.inr rfl,?_⟩)
   rcases ht with ⟨_,h9⟩|⟨h9,_⟩
   ·exact h9
   ·omega
  ·rename_i o hn
   split
   ·exact ginv_do hg hi h hn _ hG h1
   ·exact⟨hG.ths,hG.ne,fault_in s k o⟩
theorem ginv_new (p:ProgL):GInv p (vL p):=by
 refine⟨fun t ht=>?_,by simp[vL],by simp[vL,InR]⟩
 have:t=jH 0:=by simpa[vL] using ht
 subst this
 exact .inl ⟨.inl rfl,rfl,rfl⟩
structure AInv (p:ProgL) (s:StL):Prop where
 si:SInv p s
 fl:s.flt
 ow:pT s
 gi:GInv p s
theorem en_lt {p:ProgL} {s:StL} {k:Nat} (hk:k∈enabledL p s):k<s.ths.length:=by have:=(List.mem_filter.1 hk).1;simpa using this
theorem ainv_step {p:ProgL} (hg:p.goodS) (hv:p.flt) {s:StL} {k:Nat} (hk:k∈enabledL p s) (h:AInv p s):AInv p (stepL p s k).1 :=
 ⟨inv_step hg h.si (en_lt hk),flt_step hv (en_lt hk) h.fl,oinv_step (en_lt hk) h.ow,ginv_step hg h.si (en_lt hk) hk h.gi⟩
theorem ainv_new {p:ProgL} (hg:p.goodS):AInv p (vL p):=⟨inv_new hg,flt_new p,oinv_new p,ginv_new p⟩
theorem do_lev (s:StL) (k:Nat) (o:OpL) (e:Ev):s.ths.length≤(doL s k o e).1.ths.length∧(doL s k o e).2.th=e.th∧(doL s k o e).2.pc=e.pc:=by
 have hput:∀ (s:StL) (t:Th),(s.put k t).ths.length=s.ths.length:=fun s t=>by simp[StL.put]
 have hle:∀ (s2:StL) (t:Th),s.ths.length≤s2.ths.length→s.ths.length≤(s2.put k t).ths.length:=fun s2 t h=>by rw[hput];exact h
 unfold doL
 simp only
 by_cases n1:o.code=1
 ·rw[if_pos n1];exact⟨hle _ _ (Nat.le_refl _),rfl,rfl⟩
 rw[if_neg n1]
 by_cases n2:o.code=2
 ·rw[if_pos n2];exact⟨hle _ _ (Nat.le_refl _),rfl,rfl⟩
 rw[if_neg n2]
 by_cases n3:o.code=3
 ·rw[if_pos n3];exact⟨hle _ _ (Nat.le_refl _),rfl,rfl⟩
 rw[if_neg n3]
 by_cases n10:o.code=10
 ·rw[if_pos n10];exact⟨hle _ _ (Nat.le_refl _),rfl,rfl⟩
 rw[if_neg n10]
 by_cases n11:o.code=11
 ·rw[if_pos n11];exact⟨hle _ _ (Nat.le_refl _),rfl,rfl⟩
 rw[if_neg n11]
 by_cases n12:o.code=12
 ·rw[if_pos n12];exact⟨hle _ _ (Nat.le_refl _),rfl,rfl⟩
 rw[if_neg n12]
 by_cases n13:o.code=13
 ·rw[if_pos n13];exact⟨hle _ _ (Nat.le_refl _),rfl,rfl⟩
 rw[if_neg n13]
 by_cases n14:o.code=14
 ·rw[if_pos n14];exact⟨hle _ _ (by show _≤(s.ths++[jH o.a]).length;simp),rfl,rfl⟩
 rw[if_neg n14]
 by_cases n15:o.code=15
 ·rw[if_pos n15];exact⟨hle _ _ (Nat.le_refl _),rfl,rfl⟩
 rw[if_neg n15]
 by_cases n16:o.code=16
 ·rw[if_pos n16];exact⟨hle _ _ (Nat.le_refl _),rfl,rfl⟩
 rw[if_neg n16]
 by_cases n17:o.code=17
 ·rw[if_pos n17]
  cases wM s.ths o.a with
  |none=>exact⟨hle _ _ (Nat.le_refl _),rfl,rfl⟩
  |some j=>exact⟨hle _ _ (by show _≤(s.ths.modify j _).length;simp),rfl,rfl⟩
 rw[if_neg n17]
 exact⟨hle _ _ (Nat.le_refl _),rfl,rfl⟩
theorem step_len (p:ProgL) (s:StL) (k:Nat):s.ths.length≤(stepL p s k).1.ths.length:=by
 have hput:∀ (s:StL) (t:Th),(s.put k t).ths.length=s.ths.length:=fun s t=>by simp[StL.put]
 unfold stepL
 simp only
 split
 ·rw[hput];exact Nat.le_refl _
 ·split
  ·rw[hput];exact Nat.le_refl _
  ·split
   ·exact(do_lev _ _ _ _).1
   ·exact Nat.le_refl _
theorem step_ev (p:ProgL) (s:StL) (k:Nat):(stepL p s k).2.th=k∧(stepL p s k).2.pc=(s.ths.getD k th0).pc:=by
 unfold stepL
 simp only
 split
 ·exact⟨rfl,rfl⟩
 ·split
  ·exact⟨rfl,rfl⟩
  ·split
   ·exact(do_lev _ _ _ _).2
   ·exact⟨rfl,rfl⟩
structure TrOK (s:StL) (tr:List Ev):Prop where
 ev:∀ e∈tr,0≤e.th∧e.th<s.ths.length∧0≤e.pc∧e.pc≤24
 ne:s.fault≠0→tr≠[]
theorem tr_step {p:ProgL} (hg:p.goodS) {s:StL} {k:Nat} (hk:k∈enabledL p s) (h:AInv p s) {tr:List Ev} (ht:TrOK s tr):TrOK (stepL p s k).1 (tr++[(stepL p s k).2]):=by
 have hl:=en_lt hk
 have hgd:s.ths.getD k th0=s.ths[k]:=by simp[List.getD_eq_getElem?_getD,hl]
 have hT:=h.si.ths _ (List.getElem_mem hl)
 have hr:s.ths[k].rt.toNat<p.rs.length:=by have:=hT.rt;omega
 have e24:(p.rs.getD s.ths[k].rt.toNat []).length≤24:=by
  rw[List.getD_eq_getElem?_getD,List.getElem?_eq_getElem hr]
  exact(hg.2 _ (List.getElem_mem hr)).2
 have h2:=step_len p s k
 refine⟨fun e he=>?_,fun _=>by simp⟩
 rcases List.mem_append.1 he with e1|e1
 ·have:=ht.ev e e1
  omega
 ·simp only[List.mem_cons,List.not_mem_nil,or_false] at e1
  subst e1
  obtain⟨e1,e2⟩:=step_ev p s k
  rw[e1,e2,hgd]
  have:=hT.pc
  omega
structure RunT where
 c:Int
 tr:List Ev
 tk:List Int
 s:StL
noncomputable def runT (p:ProgL) (picks:List Int) (budget:Int):Nat→StL→List Ev→List Int→RunT
 | 0,s,tr,tk=>⟨0,tr,tk,s⟩
 |n+1,s,tr,tk =>
  if 0<codeL p s tr.length budget then ⟨codeL p s tr.length budget,tr,tk,s⟩
  else
   let k:=pickOf picks tk (enabledL p s).length
   let w:=(enabledL p s).getD k.toNat 0
   runT p picks budget n (stepL p s w).1 (tr++[(stepL p s w).2]) (tk++[k])
def kN (x:RunT):List D:=encRun x.c x.tr x.tk x.s
structure REnd (p:ProgL) (budget:Int) (x:RunT):Prop where
 inv:AInv p x.s
 tr:TrOK x.s x.tr
 code:x.c=codeL p x.s x.tr.length budget
 pos:0<x.c
 len:x.tr.length=x.tk.length
 le:(x.tr.length:Int)≤budget
 tk:∀ i∈x.tk,0≤i∧i<5
theorem en_ne {p:ProgL} {s:StL} {a b:Int} (h:¬ 0<codeL p s a b):0<(enabledL p s).length∧a≠b:=by
 have hen:enabledL p s≠[]:=by
  intro he
  apply h
  unfold codeL
  by_cases hf:s.fault≠0
  ·rw[if_pos hf];decide
  ·rw[if_neg hf,if_pos he];split <;> decide
 refine⟨List.length_pos_iff.2 hen,fun he=>h ?_⟩
 unfold codeL
 by_cases hf:s.fault≠0
 ·rw[if_pos hf];decide
 ·rw[if_neg hf,if_neg hen,if_pos he];decide
noncomputable def runOf (p:ProgL) (picks:List Int) (budget:Int):RunT:=runT p picks budget (budget.toNat+1) (vL p) [] []
end Ai
namespace Ai
set_option maxRecDepth 100000
open Go Go.Proofs Cyc
theorem sK {edges:List (Nat × Nat)} {to:Nat} (he:∀ e∈edges,e.2<100):∀ (f i L:Nat) (ways:List (List Nat)) (seen:List Nat) (w:List Nat),(∀ w∈ways,w.length≤L∧∀ x∈w,x<100)→bC edges to f i ways seen=some w→w.length≤L+f∧∀ x∈w,x<100
 | 0,_,_,_,_,_,_,h=>by simp[bC] at h
 |f+1,i,L,ways,seen,w,hw,h=>by
  unfold bC at h
  split at h
  ·rename_i hi
   have hgw:ways.getD i []∈ways:=by rw[List.getD_eq_getElem?_getD,List.getElem?_eq_getElem hi];exact List.getElem_mem hi
   split at h
   ·obtain⟨h1,h2⟩:=sK he f (i+1) L ways seen w hw h
    exact⟨by omega,h2⟩
   ·rename_i e hf
    have he2:=he e (List.mem_of_find?_eq_some hf)
    split at h
    ·simp only[Option.some.injEq] at h
     subst h
     exact⟨by have:=(hw _ hgw).1;omega,(hw _ hgw).2⟩
    ·split at h
     ·obtain⟨h1,h2⟩:=sK he f (i+1) L ways seen w hw h
      exact⟨by omega,h2⟩
     ·obtain⟨h1,h2⟩:=sK he f (i+1) (L+1) _ _ w (fun v hv=>by
       rcases List.mem_append.1 hv with e1|e1
       ·have:=hw v e1
        exact⟨by omega,this.2⟩
       ·simp only[List.mem_cons,List.not_mem_nil,or_false] at e1
        subst e1
        refine⟨by have:=(hw _ hgw).1;rw[List.length_append];show _+1≤_;omega,fun x hx=>?_⟩
        rcases List.mem_append.1 hx with e2|e2
        ·exact(hw _ hgw).2 x e2
        ·simp only[List.mem_cons,List.not_mem_nil,or_false] at e2
         subst e2;exact he2) h
      exact⟨by omega,h2⟩
  ·simp only[Option.some.injEq] at h
   subst h
   simp
theorem cyc_ok {edges:List (Nat × Nat)} (hG:Graph edges):(xV edges).length≤9∧∀ x∈xV edges,x<100:=by
 unfold xV
 cases h:(List.range 100).findSome? (fun n=>match dV edges n with|some (x::xs)=>some (x::xs)|_=>none) with
 |none=>simp
 |some o =>
  obtain⟨n,hn,ho⟩:=List.exists_of_findSome?_eq_some h
  have hn:n<100:=by simpa using hn
  cases hc:dV edges n with
  |none=>rw[hc] at ho;cases ho
  |some l =>
   rw[hc] at ho
   cases l with
   |nil=>cases ho
   |cons x xs =>
    simp only[Option.some.injEq] at ho
    subst ho
    exact sK (fun e he=>by have:=hG.small e he;omega) 8 0 1 _ _ _ (fun w hw=>by
     simp only[List.mem_cons,List.not_mem_nil,or_false] at hw
     subst hw
     simpa using hn) hc
noncomputable def uV (p:ProgL) (s:StL):List Int:=(xV (wV p s)).map fun x=>((x:Nat):Int)
theorem fO {p:ProgL} {s:StL} (h:AInv p s):Graph (wV p s):=edges_graph h.ow h.gi.ne h.si.len
theorem dead_enc (p:ProgL) (s:StL):(xV (wV p s)).map xI=(uV p s).map encInt:=by
 unfold uV
 rw[List.map_map]
 rfl
theorem cY {p:ProgL} {s:StL} (h:AInv p s):Picks (uV p s):=by
 obtain⟨h1,h2⟩:=cyc_ok (fO h)
 refine⟨by simp[uV];omega,fun x hx=>?_⟩
 obtain⟨y,hy,rfl⟩:=List.mem_map.1 hx
 have:=h2 y hy
 unfold InR;omega
theorem dead_txt {p:ProgL} {s:StL}:Lib.join ((xV (wV p s)).map fun x=>Lib.itoa ((x:Nat):Int)) [44]=txt (uV p s):=by
 unfold txt uV
 rw[List.map_map]
 refine congrArg (fun l=>Lib.join l [44]) (List.map_congr_left fun x _=>?_)
 show Lib.itoa ((x:Nat):Int)=Lib.decDigits ((x:Nat):Int).toNat
 unfold Lib.itoa
 rw[if_neg (by omega)]
def jO:Ev:=⟨0,0,0,0,0⟩
def lO (s:StL) (e:Ev):List UInt8:=[102,97,117,108,116,32]++Lib.decDigits s.fault.toNat++[32]++Lib.decDigits e.th.toNat++[32]++Lib.decDigits (s.ths.getD e.th.toNat th0).rt.toNat++[32]++Lib.decDigits e.pc.toNat
noncomputable def xX (p:ProgL) (x:RunT):List UInt8 :=
 if x.c=1 then [100,111,110,101] else if x.c=4 then [98,117,100,103,101,116] else if x.c=3 then [115,116,117,99,107,32]++dashT (txt (uV p x.s)) else lO x.s (x.tr.getLastD jO)
theorem aA {p:ProgL} {s:StL} {a b:Int} (h:0<codeL p s a b):(codeL p s a b=1∨codeL p s a b=3∨codeL p s a b=4)∨(codeL p s a b=2∧s.fault≠0):=by
 unfold codeL at h ⊢
 by_cases hf:s.fault≠0
 ·rw[if_pos hf];exact .inr ⟨rfl,hf⟩
 ·rw[if_neg hf] at h ⊢
  split
  ·split <;> simp
  ·split
   ·simp
   ·rename_i h1 h2
    rw[if_neg h1,if_neg h2] at h
    exact absurd h (by decide)
end Ai
namespace Ai
set_option maxRecDepth 100000
open Go Go.Proofs Cyc
theorem uT {n lo hi:Int} (h:InR n lo hi):CallsTo EE 55 [i64 n,i64 lo,i64 hi] (·=bv true):=by
 have:=qR n lo hi
 simp only[bp,tQ h] at this
 exact this
theorem l1All_yes {xs:List Int} {lo hi:Int} (hx:xs.length≤1048576) (h:AllIn xs lo hi):CallsTo EE 95 [sl (xs.map encInt),i64 lo,i64 hi] (·=bv true):=by
 have:=l1All_ok xs lo hi hx
 simp only[bp,tQ h] at this
 exact this
theorem l7 {p:ProgL} (hs:p.rs.length≤1048576∧∀ x∈p.rs,x.length≤1048576) (hv:p.flt) (h:p.goodS):CallsTo EE 29 [agg (encProg p)] (·=bv true):=by
 have:=nM p hs hv
 simp only[bp,tQ h] at this
 exact this
theorem l3Thread_ok (p:ProgL) (hp:p.headS) (t:Th) (hT:TInv p t) (hG:GTh p t):CallsTo EE 242 [agg (encProg p),agg (zF t)] (·=bv true):=by
 obtain⟨a1,a2,a3,a4⟩:=hp
 unfold InR at a1 a2 a3 a4
 have hr:=hT.rt
 have hpc:=hT.pc
 have hst:=hT.st
 have e4:IntKind.i64.wrap (((p.rs.map zO).length:Int) - 1)=(p.rs.length:Int) - 1:=by rw[List.length_map];exact zE (by omega) (by omega)
 have e2:IntKind.i64.wrap (p.locks - 1)=p.locks - 1:=zE (by omega) (by omega)
 have e3:IntKind.i64.wrap (p.conds - 1)=p.conds - 1:=zE (by omega) (by omega)
 refine callsTo_of_AW (fn:=Tryz.f242) Tryz.func242 rfl (by kernel_rfl) rfl ?_
 conv=>whnf
 refine⟨_,uT (by rw[e4];unfold InR;omega),?_⟩
 rintro r rfl
 conv=>whnf
 refine⟨_,uT (by unfold InR;rcases hG with h|h <;> omega),?_⟩
 rintro r rfl
 conv=>whnf
 refine kbi (fun h=>?_) (fun _=>?_)
 ·simp at h;omega
 conv=>whnf
 refine⟨by kernel_rfl,?_⟩
 conv=>whnf
 have hrl:t.rt.toNat<p.rs.length:=by omega
 refine⟨zO p.rs[t.rt.toNat],⟨hr.1,by simp[hrl],rfl⟩,?_⟩
 conv=>whnf
 have e5:p.rs.getD t.rt.toNat []=p.rs[t.rt.toNat]:=by simp[List.getD_eq_getElem?_getD,hrl]
 rw[e5] at hpc
 refine⟨_,uT (by unfold InR;rw[List.length_map];omega),?_⟩
 conv=>whnf
 refine kbi (fun h3=>?_) (fun h3=>?_)
 ·have h3:t.st=3:=by simpa using h3
  conv=>whnf
  refine⟨_,uT (by rw[e3];unfold InR;rcases hG with h|h <;> omega),?_⟩
  rintro r rfl
  conv=>whnf
  refine⟨_,uT (by rw[e2];unfold InR;rcases hG with h|h <;> omega),?_⟩
  rintro r rfl
  conv=>whnf
  try rfl
 ·have h3:¬ t.st=3:=by simpa using h3
  conv=>whnf
  refine kbi (fun h4=>?_) (fun h4=>?_)
  ·have h4:t.st=4:=by simpa using h4
   conv=>whnf
   refine⟨_,uT (by rw[e3];unfold InR;rcases hG with h|h <;> omega),?_⟩
   rintro r rfl
   conv=>whnf
   refine⟨_,uT (by rw[e2];unfold InR;rcases hG with h|h <;> omega),?_⟩
   rintro r rfl
   conv=>whnf
   try rfl
  ·have h4:¬ t.st=4:=by simpa using h4
   obtain⟨_,hc,hl⟩:(t.st=1∨t.st=2)∧t.cond=-1∧t.lock=-1:=by
    rcases hG with h|h
    ·exact h
    ·omega
   conv=>whnf
   refine kbi (fun _=>?_) (fun h=>absurd (beq_iff_eq.2 hc) h)
   conv=>whnf
   refine kbi (fun _=>?_) (fun h=>absurd (beq_iff_eq.2 hl) h)
   conv=>whnf
   try rfl
theorem lR {p:ProgL} (hg:p.goodS) {s:StL} (h:AInv p s):s.small:=((runOK hg).small s h.si).1
theorem prog_len {p:ProgL} (h:p.goodS):p.rs.length≤1048576∧∀ x∈p.rs,x.length≤1048576:=by
 obtain⟨b1,b2,b3,b4⟩:=h.1
 exact⟨by have:=b4.2;omega,fun x hx=>by have:=(h.2 x hx).2;omega⟩
theorem l3Good_ok (p:ProgL) (hg:p.goodS) (s:StL) (h:AInv p s):CallsTo EE 202 [agg (encProg p),agg (encSt s)] (·=bv true):=by
 have hi:=h.si
 have hl5:=hi.len
 have hne:=h.gi.ne
 have hsm:=lR hg h
 have hgt:=h.gi.ths
 have hown:=h.ow
 refine callsTo_of_AW (fn:=Tryz.f202) Tryz.func202 rfl (by kernel_rfl) rfl ?_
 conv=>whnf
 refine⟨_,uT (by unfold InR;rw[List.length_map];omega),?_⟩
 rintro r rfl
 conv=>whnf
 refine kbi (fun h1=>absurd (show((s.cells.map encF).length:Int)=p.cells by rw[List.length_map];exact hi.cells) (by simpa using h1)) (fun _=>?_)
 conv=>whnf
 refine kbi (fun h1=>absurd (show((s.owner.map encInt).length:Int)=p.locks by rw[List.length_map];exact hi.owner) (by simpa using h1)) (fun _=>?_)
 conv=>whnf
 refine⟨_,uT h.gi.fault,?_⟩
 rintro r rfl
 conv=>whnf
 refine yV (fun k:Nat=>[(2,.ptr (.n 2) 0),(3,.ptr (.n 3) 0),(35,sl (s.ths.map zF)),(36,i64 (s.ths.map zF).length),(37,i64 k)])
  (fun k=>[(.n 2,.vs 39 ((encProg p).map .d)),(.n 3,.vs 44 ((encSt s).map .d))]) (fun k=>s.ths.length - k) (fun k=>k≤s.ths.length) 0
  Weak.refl ⟨rfl,rfl,rfl,rfl,rfl,trivial⟩ ⟨rfl,rfl,trivial⟩ (Nat.zero_le _) ?_
 intro k τ H hk
 have hk:k≤s.ths.length:=hk
 conv=>whnf
 refine kbi (fun h=>?_) (fun h=>?_)
 ·have hlt:=xO h
  conv=>whnf
  refine⟨zF s.ths[k],yD zF hlt rfl,?_⟩
  conv=>whnf
  refine⟨_,l3Thread_ok p hg.1 s.ths[k] (hi.ths _ (List.getElem_mem hlt)) (hgt _ (List.getElem_mem hlt)),?_⟩
  rintro r rfl
  conv=>whnf
  exact⟨k+1,by show k+1≤s.ths.length;omega,by show s.ths.length - (k+1)<s.ths.length - k;omega,⟨rfl,rfl,rfl,rfl,next_i64 hlt (by omega),trivial⟩,⟨rfl,rfl,trivial⟩⟩
 ·conv=>whnf
  have e1:IntKind.i64.wrap (((s.ths.map zF).length:Int) - 1)=(s.ths.length:Int) - 1:=by rw[List.length_map];exact zE (by omega) (by omega)
  rw[e1]
  refine⟨_,l1All_yes hsm.2.2.2 (fun x hx=>by have:=hown x hx;unfold InR;omega),?_⟩
  rintro r rfl
  conv=>whnf
  try rfl
theorem l6 (p:ProgL) (hg:p.goodS) (hv:p.flt) (s:StL) (h:AInv p s):CallsTo EE 151 [agg (encProg p),agg (encSt s)] (·=bv true):=by
 refine callsTo_of_AW (fn:=Tryz.f151) Tryz.func151 rfl (by kernel_rfl) rfl ?_
 conv=>whnf
 refine⟨_,l7 (prog_len hg) hv hg,?_⟩
 rintro r rfl
 conv=>whnf
 refine⟨_,l3Good_ok p hg s h,?_⟩
 rintro r rfl
 conv=>whnf
 try rfl
end Ai
namespace Ai
set_option maxRecDepth 100000
open Go Go.Proofs Cyc
theorem oQ {p:ProgL} (hg:p.goodS) {s:StL} (h:AInv p s):∀ t∈s.ths,t.seen p s:=(runOK hg).seen s h.si
theorem WaitsFor_ok (p:ProgL) (hp:p.wf) (hg:p.goodS) (hv:p.flt) (s:StL) (h:AInv p s):CallsTo EE 102 [agg (encProg p),agg (encSt s)] (·=.tup [sl ((bU p s).map pN),bv true]):=by
 have hs:=lR hg h
 have hn:=h.si.len
 have hse:=oQ hg h
 refine callsTo_of_AW (fn:=Tryz.f102) Tryz.func102 rfl (by kernel_rfl) rfl ?_
 conv=>whnf
 refine⟨_,l6 p hg hv s h,?_⟩
 rintro r rfl
 conv=>whnf
 refine yV (fun k:Nat=>[(2,.ptr (.n 2) 0),(3,.ptr (.n 3) 0),(6,.ref (.n 6) 0 (yB p s k).length),(15,sl (s.ths.map zF)),(16,i64 (s.ths.map zF).length),(17,i64 k)])
  (fun k=>[(.n 2,.vs 39 ((encProg p).map .d)),(.n 3,.vs 44 ((encSt s).map .d)),(.n 6,.ds 26 1 ((yB p s k).map pN))]) (fun k=>s.ths.length - k) (fun k=>k≤s.ths.length) 0
  (weak_nil 6 (.n 6) 26 1 rfl) ⟨rfl,rfl,rfl,rfl,rfl,rfl,trivial⟩ ⟨rfl,rfl,rfl,trivial⟩ (Nat.zero_le _) ?_
 intro k τ H hk
 have hk:k≤s.ths.length:=hk
 conv=>whnf
 refine kbi (fun h=>?_) (fun h=>?_)
 ·have hlt:=xO h
  conv=>whnf
  refine⟨zF s.ths[k],yD zF hlt rfl,?_⟩
  conv=>whnf
  have hgd:s.ths.getD k th0=s.ths[k]:=by simp[List.getD_eq_getElem?_getD,hlt]
  have hle:(yB p s k).length≤k:=cW
  refine⟨_,bK toIndexS idxRange p s s.ths[k] hp (hs.2.1 _ (List.getElem_mem hlt)) (hse _ (List.getElem_mem hlt)),?_⟩
  rintro r rfl
  conv=>whnf
  refine kbi (fun hb=>?_) (fun hb=>?_)
  ·have hb:0≤zG p s s.ths[k]:=by simpa using hb
   have hsk:yB p s (k+1)=yB p s k++[(k,zG p s s.ths[k])]:=by rw[zZ,hgd,if_pos hb]
   conv=>whnf
   refine .inl ?_
   conv=>whnf
   refine⟨⟨rfl,by show((yB p s k).length+1)*24≤_;omega,by show(yB p s k).length+1≤_;omega⟩,?_⟩
   conv=>whnf
   refine⟨k+1,by show k+1≤s.ths.length;omega,by show s.ths.length - (k+1)<s.ths.length - k;omega,⟨rfl,rfl,?_,rfl,rfl,next_i64 hlt (by omega),trivial⟩,⟨rfl,rfl,?_,trivial⟩⟩
   ·rw[hsk]
    show AV.ref (.n 6) 0 ((yB p s k).length+1)=_
    simp
   ·rw[hsk]
    show some (Ob.ds 26 1 (((yB p s k).map pN).take (yB p s k).length++[pN (k,zG p s s.ths[k])]))=_
    rw[List.take_of_length_le (by simp)]
    simp
  ·have hb:¬ 0≤zG p s s.ths[k]:=by simpa using hb
   conv=>whnf
   have hsk:yB p s (k+1)=yB p s k:=by rw[zZ,hgd,if_neg hb];simp
   refine⟨k+1,by show k+1≤s.ths.length;omega,by show s.ths.length - (k+1)<s.ths.length - k;omega,⟨rfl,rfl,?_,rfl,rfl,next_i64 hlt (by omega),trivial⟩,⟨rfl,rfl,?_,trivial⟩⟩
   ·rw[hsk];rfl
   ·rw[hsk];rfl
 ·have hge:s.ths.length≤k:=by simpa using h
  have hkk:k=s.ths.length:=by omega
  subst hkk
  conv=>whnf
  refine .inl ?_
  conv=>whnf
  have e:(((yB p s s.ths.length).map pN).drop 0).take (yB p s s.ths.length).length=(bU p s).map pN:=by rw[List.drop_zero,List.take_of_length_le (by simp)];rfl
  first|exact congrArg (fun x=>AV.tup [sl x,bv true]) e|(rw[← e];rfl)|trace_state
theorem l4Dead_ok (p:ProgL) (hp:p.wf) (hg:p.goodS) (hv:p.flt) (c:Int) (tr:List Ev) (tk:List Int) (s:StL) (h:AInv p s):CallsTo EE 61 [agg (encProg p),agg (encRun c tr tk s)] (·=sl ((uV p s).map encInt)):=by
 refine callsTo_of_AW (fn:=Tryz.f61) Tryz.func61 rfl (by kernel_rfl) rfl ?_
 conv=>whnf
 refine⟨_,WaitsFor_ok p hp hg hv s h,?_⟩
 rintro r rfl
 conv=>whnf
 rw[oG]
 refine⟨_,l3CycleG_ok (wV p s) (fO h),?_⟩
 rintro r rfl
 conv=>whnf
 rw[dead_enc]
theorem last_at {tr:List Ev} (h:tr≠[]) (hl:(tr.length:Int)≤1048576):0≤IntKind.i64.wrap (((tr.map encEv).length:Int) - 1)∧(tr.map encEv)[(IntKind.i64.wrap (((tr.map encEv).length:Int) - 1)).toNat]?=some (encEv (tr.getLastD jO))∧tr.getLastD jO∈tr:=by
 have hp:0<tr.length:=List.length_pos_iff.2 h
 have e:IntKind.i64.wrap (((tr.map encEv).length:Int) - 1)=((tr.length - 1:Nat):Int):=by
  rw[List.length_map,zE (by omega) (by omega)];omega
 have e2:tr.getLastD jO=tr[tr.length - 1]:=by
  rw[List.getLastD_eq_getLast?,List.getLast?_eq_getElem?,List.getElem?_eq_getElem (by omega)];rfl
 rw[e,e2]
 refine⟨by omega,?_,List.getElem_mem _⟩
 rw[Int.toNat_natCast,List.getElem?_map,List.getElem?_eq_getElem (by omega)];rfl
theorem dec_ne (n:Nat):Lib.decDigits n≠[]:=by
 rw[Lib.decDigits]
 split <;> simp
theorem txt_ne {l:List Int} (h:l≠[]):txt l≠[]:=by
 cases l with
 |nil=>exact absurd rfl h
 |cons x xs =>
  unfold txt
  rw[List.map_cons,Lib.join_cons]
  intro e
  exact dec_ne _ (List.append_eq_nil_iff.1 e).1
theorem l4Sign_ok (p:ProgL) (hp:p.wf) (hg:p.goodS) (hv:p.flt) (budget:Int) (x:RunT) (h:REnd p budget x) (hb:budget≤1048576):CallsTo EE 31 [agg (encProg p),agg (kN x)] (·=sv (xX p x)):=by
 obtain⟨c,tr,tk,s⟩:=x
 have hcode:c=codeL p s tr.length budget:=h.code
 have hpos:0<c:=h.pos
 have hcs:=aA (show 0<codeL p s tr.length budget by rw[← hcode];exact hpos)
 rw[← hcode] at hcs
 have hi:AInv p s:=h.inv
 have hT:TrOK s tr:=h.tr
 have hle:(tr.length:Int)≤budget:=h.le
 unfold xX
 show CallsTo EE 31 [agg (encProg p),agg (encRun c tr tk s)] (·=sv (if c=1 then [100,111,110,101] else if c=4 then [98,117,100,103,101,116] else if c=3 then [115,116,117,99,107,32]++dashT (txt (uV p s)) else lO s (tr.getLastD jO)))
 refine callsTo_of_AW (fn:=Tryz.f31) Tryz.func31 rfl (by kernel_rfl) rfl ?_
 conv=>whnf
 refine kbi (fun h1=>?_) (fun h1=>?_)
 ·have h1:c=1:=by simpa using h1
  rw[if_pos h1]
  conv=>whnf
  try rfl
 have h1:¬ c=1:=by simpa using h1
 rw[if_neg h1]
 conv=>whnf
 refine kbi (fun h4=>?_) (fun h4=>?_)
 ·have h4:c=4:=by simpa using h4
  rw[if_pos h4]
  conv=>whnf
  try rfl
 have h4:¬ c=4:=by simpa using h4
 rw[if_neg h4]
 conv=>whnf
 refine kbi (fun h2=>?_) (fun h2=>?_)
 ·have h2:c=2:=by simpa using h2
  rw[if_neg (by omega)]
  conv=>whnf
  have hf:s.fault≠0:=by
   rcases hcs with h|h
   ·omega
   ·exact h.2
  have hne:=hT.ne hf
  have hpt:0<tr.length:=List.length_pos_iff.2 hne
  obtain⟨e1,e2,e3⟩:=last_at hne (by omega)
  have hev:=hT.ev _ e3
  refine⟨encEv (tr.getLastD jO),⟨e1,e2,rfl⟩,?_⟩
  generalize tr.getLastD jO=e at *
  conv=>whnf
  refine⟨by kernel_rfl,?_⟩
  conv=>whnf
  have hfa:=hi.gi.fault
  unfold InR at hfa
  refine⟨_,gM s.fault hfa.1 (by omega),?_⟩
  conv=>whnf
  have hev1:e.th.toNat<s.ths.length:=by omega
  have hrt:=(hi.si.ths _ (List.getElem_mem hev1)).rt
  have hn4:=hg.1.2.2.2
  unfold InR at hn4
  have d1:(Lib.decDigits s.fault.toNat).length≤1:=wW _ 1 (by omega) (by omega)
  have hl5:=hi.si.len
  have d2:(Lib.decDigits e.th.toNat).length≤1:=wW _ 1 (by omega) (by omega)
  have d3:(Lib.decDigits s.ths[e.th.toNat].rt.toNat).length≤1:=wW _ 1 (by omega) (by omega)
  have d4:(Lib.decDigits e.pc.toNat).length≤2:=wW _ 2 (by omega) (by omega)
  have hgd:s.ths.getD e.th.toNat th0=s.ths[e.th.toNat]:=by simp[List.getD_eq_getElem?_getD,hev1]
  refine⟨by simp;omega,?_⟩
  conv=>whnf
  refine⟨by simp;omega,?_⟩
  conv=>whnf
  refine⟨_,gM e.th hev.1 (by omega),?_⟩
  conv=>whnf
  refine⟨by simp;omega,?_⟩
  conv=>whnf
  refine⟨by simp;omega,?_⟩
  conv=>whnf
  refine⟨zF s.ths[e.th.toNat],⟨hev.1,by simp[hev1],rfl⟩,?_⟩
  conv=>whnf
  refine⟨_,gM s.ths[e.th.toNat].rt hrt.1 (by omega),?_⟩
  conv=>whnf
  refine⟨by simp;omega,?_⟩
  conv=>whnf
  refine⟨by simp;omega,?_⟩
  conv=>whnf
  refine⟨_,gM e.pc hev.2.2.1 (by omega),?_⟩
  conv=>whnf
  refine⟨by simp;omega,?_⟩
  conv=>whnf
  unfold lO
  rw[hgd]
  try rfl
 ·have h2:¬ c=2:=by simpa using h2
  rw[if_pos (by omega)]
  conv=>whnf
  refine⟨_,l4Dead_ok p hp hg hv c tr tk s hi,?_⟩
  rintro r rfl
  conv=>whnf
  have hd:=cY hi
  refine kbi (fun h3=>?_) (fun h3=>?_)
  ·have h3:0<(uV p s).length:=by simpa using h3
   conv=>whnf
   refine⟨_,l4List_ok (uV p s) hd,?_⟩
   rintro r rfl
   conv=>whnf
   have htl:=z6 (uV p s) hd.2 (uV p s).length (Nat.le_refl _)
   rw[List.take_length] at htl
   have h200:=hd.1
   refine⟨by show 6+_≤_;omega,?_⟩
   conv=>whnf
   have hne:txt (uV p s)≠[]:=txt_ne (by intro e;rw[e] at h3;simp at h3)
   unfold dashT
   rw[if_neg hne]
   try rfl
  ·have h3:uV p s=[]:=by
    have:¬ 0<(uV p s).length:=by simpa using h3
    exact List.length_eq_zero_iff.1 (by omega)
   conv=>whnf
   rw[h3]
   try rfl
end Ai
namespace Ai
set_option maxRecDepth 100000
open Go Go.Proofs Cyc
def jY (s:StL) (e:Ev):List Int:=[s.fault,e.th,(s.ths.getD e.th.toNat th0).rt,e.pc]
def rT (s:StL) (e:Ev) (k:Nat):List UInt8:=[102,97,117,108,116]++(((jY s e).take k).map fun n=>32::Lib.decDigits n.toNat).flatten
theorem cU (s:StL) (e:Ev) (k:Nat) (h:k<(jY s e).length):rT s e (k+1)=rT s e k++32::Lib.decDigits ((jY s e)[k]).toNat:=by
 unfold rT
 rw[List.take_add_one,List.getElem?_eq_getElem h]
 simp only[Option.toList,List.map_append,List.flatten_append,List.map_cons,List.map_nil,List.flatten_cons,List.flatten_nil,List.append_nil,List.append_assoc]
theorem fText_end (s:StL) (e:Ev):rT s e 4=lO s e:=by
 simp[rT,jY,lO]
theorem oD (s:StL) (e:Ev) (h:∀ n∈jY s e,InR n 0 999):∀ k,k≤4→(rT s e k).length≤5+4*k
 | 0,_=>by simp[rT]
 |k+1,hk=>by
  have hl:k<(jY s e).length:=by show k<4;omega
  have h1:=oD s e h k (by omega)
  have h2:=h _ (List.getElem_mem hl)
  unfold InR at h2
  have d1:(Lib.decDigits ((jY s e)[k]).toNat).length≤3:=wW _ 3 (by omega) (by omega)
  rw[cU s e k hl,List.length_append,List.length_cons]
  omega
theorem itoaL_nat {n:Int} (h:0≤n):Lib.itoa n=Lib.decDigits n.toNat:=by unfold Lib.itoa;rw[if_neg (by omega)]
theorem y3 (p:ProgL) (hg:p.goodS) (s:StL) (tr:List Ev) (tk:List Int) (hi:AInv p s) (hT:TrOK s tr) (hne:tr≠[]) (hl:(tr.length:Int)≤1048576):CallsTo EE 37 [agg (encProg p),agg (encRun 2 tr tk s)] (·=sv (lO s (tr.getLastD jO))):=by
 obtain⟨e1,e2,e3⟩:=last_at hne (by omega)
 have hev:=hT.ev _ e3
 refine callsTo_of_AW (fn:=Tryz.f37) Tryz.func37 rfl (by kernel_rfl) rfl ?_
 conv=>whnf
 refine kbi (fun h=>absurd h (by decide)) (fun _=>?_)
 conv=>whnf
 refine kbi (fun h=>absurd h (by decide)) (fun _=>?_)
 conv=>whnf
 refine kbi (fun h=>absurd h (by decide)) (fun _=>?_)
 conv=>whnf
 refine⟨encEv (tr.getLastD jO),⟨e1,e2,rfl⟩,?_⟩
 generalize tr.getLastD jO=e at *
 conv=>whnf
 refine⟨by kernel_rfl,?_⟩
 conv=>whnf
 have hev1:e.th.toNat<s.ths.length:=by omega
 refine⟨zF s.ths[e.th.toNat],⟨hev.1,by simp[hev1],rfl⟩,?_⟩
 conv=>whnf
 have hrt:=(hi.si.ths _ (List.getElem_mem hev1)).rt
 have hgd:s.ths.getD e.th.toNat th0=s.ths[e.th.toNat]:=by simp[List.getD_eq_getElem?_getD,hev1]
 have hl5:=hi.si.len
 have hn4:=hg.1.2.2.2
 have hfa:=hi.gi.fault
 unfold InR at hn4 hfa
 have hin:∀ n∈jY s e,InR n 0 999:=by
  intro n hn
  unfold jY at hn
  rw[hgd] at hn
  simp only[List.mem_cons,List.not_mem_nil,or_false] at hn
  unfold InR
  rcases hn with h|h|h|h <;> omega
 refine yV (fun k:Nat=>[(8,sv (rT s e k)),(53,sl ((jY s e).map encInt)),(54,i64 4),(55,i64 k)]) (fun k=>[]) (fun k=>4 - k) (fun k=>k≤4) 0
  Weak.refl ⟨rfl,?_,rfl,rfl,trivial⟩ trivial (Nat.zero_le _) ?_
 ·unfold jY;rw[hgd];rfl
 intro k τ H hk
 have hk:k≤4:=hk
 conv=>whnf
 refine kbi (fun h=>?_) (fun h=>?_)
 ·have hk4:k<4:=by
   have:=of_decide_eq_true h
   omega
  have hlt:k<(jY s e).length:=hk4
  have hr:=hin _ (List.getElem_mem hlt)
  unfold InR at hr
  have d1:(Lib.decDigits ((jY s e)[k]).toNat).length≤3:=wW _ 3 (by omega) (by omega)
  have hfl:=oD s e hin k hk
  have hit:=itoaL_nat hr.1
  conv=>whnf
  refine⟨encInt (jY s e)[k],yD encInt hlt rfl,?_⟩
  conv=>whnf
  refine⟨_,Itoa_ok (jY s e)[k] (by omega) (by omega),?_⟩
  rintro r rfl
  conv=>whnf
  rw[hit]
  refine⟨by show 1+_≤_;omega,?_⟩
  conv=>whnf
  refine⟨by simp;omega,?_⟩
  conv=>whnf
  refine⟨k+1,by show k+1≤4;omega,by show 4 - (k+1)<4 - k;omega,⟨?_,rfl,rfl,?_,trivial⟩,trivial⟩
  ·exact congrArg sv (cU s e k hlt).symm
  ·show AV.d (.int .i64 (IntKind.i64.wrap ((k:Int)+1)))=i64 ((k+1:Nat):Int)
   rw[zE (by omega) (by omega)]
   rfl
 ·have hk4:k=4:=by
   have:¬ (k:Int)<4:=fun e=>h (decide_eq_true e)
   omega
  subst hk4
  conv=>whnf
  rw[fText_end]
  try rfl
theorem signOf_ok (p:ProgL) (hp:p.wf) (hg:p.goodS) (budget:Int) (x:RunT) (h:REnd p budget x) (hb:budget≤1048576):CallsTo EE 37 [agg (encProg p),agg (kN x)] (·=sv (xX p x)):=by
 obtain⟨c,tr,tk,s⟩:=x
 have hcode:c=codeL p s tr.length budget:=h.code
 have hpos:0<c:=h.pos
 have hcs:=aA (show 0<codeL p s tr.length budget by rw[← hcode];exact hpos)
 rw[← hcode] at hcs
 have hi:AInv p s:=h.inv
 have hT:TrOK s tr:=h.tr
 have hle:(tr.length:Int)≤budget:=h.le
 unfold xX
 show CallsTo EE 37 [agg (encProg p),agg (encRun c tr tk s)] (·=sv (if c=1 then [100,111,110,101] else if c=4 then [98,117,100,103,101,116] else if c=3 then [115,116,117,99,107,32]++dashT (txt (uV p s)) else lO s (tr.getLastD jO)))
 rcases hcs with (rfl|rfl|rfl)|⟨rfl,hf⟩
 ·exact r3 p s tr tk
 ·have hd:=cY hi
  have hc:=cyc_ok (fO hi)
  have htl:=z6 (uV p s) hd.2 (uV p s).length (Nat.le_refl _)
  rw[List.take_length] at htl
  have:=y2 p s 3 tr tk hp (lR hg hi) (oQ hg hi) (fO hi) rfl (by omega) (fun x hx=>by have:=hc.2 x hx;omega) (by rw[dead_txt];have:=hd.1;omega)
  rw[dead_txt] at this
  exact this
 ·exact aX p s tr tk
 ·exact y3 p hg s tr tk hi hT (hT.ne hf) (by omega)
end Ai
namespace Ai
set_option maxRecDepth 100000
open Go Go.Proofs
theorem szOpS_ok (xs:List (List D)) (left:Int) (h0:0≤left) (h1:left≤1048576) (hx:xs.length≤9223372036854775807) :
  CallsTo EE 52 [sl xs,i64 left] (szR left xs.length):=by
 refine callsTo_of_AW (fn:=Tryz.f52) Tryz.func52 rfl (by kernel_rfl) rfl ?_
 conv=>whnf
 rw[zE (by omega) (by omega)]
 refine⟨fun h=>?_,fun h=>?_⟩
 ·conv=>whnf
  exact⟨-1,rfl,by omega,by omega,by omega⟩
 ·conv=>whnf
  simp at h
  exact⟨_,rfl,by omega,by omega,by omega⟩
theorem szOpSS_ok (xs:List (List OpL)) (left:Int) (h0:0≤left) (h1:left≤1048576) (hx:xs.length≤9223372036854775807) (hx2:∀ x∈xs,x.length≤9223372036854775807) :
  CallsTo EE 25 [sl (xs.map zO),i64 left] (szR left (bE List.length xs)):=by
 refine callsTo_of_AW (fn:=Tryz.f25) Tryz.func25 rfl (by kernel_rfl) rfl ?_
 conv=>whnf
 rw[zE (by simp;omega) (by simp;omega),List.length_map]
 refine⟨fun h=>?_,fun h=>?_⟩
 ·conv=>whnf
  exact⟨-1,rfl,by omega,by omega,by omega⟩
 ·simp at h
  conv=>whnf
  refine yV (fun x:Nat × Int=>[(0,sl (xs.map zO)),(5,i64 x.1),(1,i64 x.2)]) (fun _=>[]) (fun x=>xs.length - x.1)
   (fun x=>x.1≤xs.length∧0≤x.2∧(xs.length:Int)+((xs.map List.length).take x.1).sum+x.2≤left) (0,left - xs.length) .refl ⟨rfl,rfl,rfl,trivial⟩ trivial ⟨by omega,by omega,by simp;omega⟩ ?_
  rintro⟨k,l⟩ τ H ⟨hk,hl,hs⟩
  dsimp only at hk hl hs
  conv=>whnf
  refine⟨fun h=>?_,fun h=>?_⟩
  ·have hlt:=xO h
   conv=>whnf
   refine⟨zO xs[k],yD zO hlt rfl,?_⟩
   conv=>whnf
   refine⟨_,szOpS_ok _ l hl (by omega) (by simpa using hx2 _ (List.getElem_mem hlt)),?_⟩
   rintro r ⟨n,rfl,hn1,hn2,hn3⟩
   conv=>whnf
   refine⟨fun h=>?_,fun h=>?_⟩
   ·conv=>whnf
    exact⟨-1,rfl,by omega,by omega,by omega⟩
   ·simp at h
    conv=>whnf
    refine⟨(k+1,n),⟨by omega,by omega,?_⟩,by show xs.length - (k+1)<xs.length - k;omega,⟨rfl,next_i64 hlt hx,rfl,trivial⟩,trivial⟩
    have hm:k<(xs.map List.length).length:=by simpa using hlt
    rw[aW _ _ hm]
    have:=hn3 h
    simp at this ⊢
    omega
  ·have hge:=ge_map h
   conv=>whnf
   have hkk:k=xs.length:=by omega
   subst hkk
   refine⟨_,rfl,by omega,?_,?_⟩
   ·omega
   ·intro _
    simp only[bE]
    rw[List.take_of_length_le (by simp)] at hs
    simp at hs ⊢
    omega
theorem szProg_ok (p:ProgL) (left:Int) (h0:0≤left) (h1:left≤1048576) (hs:p.wf):CallsTo EE 7 [agg (encProg p),i64 left] (szR left p.size):=by
 refine callsTo_of_AW (fn:=Tryz.f7) Tryz.func7 rfl (by kernel_rfl) rfl ?_
 conv=>whnf
 refine⟨_,szOpSS_ok _ left h0 h1 hs.1 hs.2,?_⟩
 rintro r ⟨n,rfl,hn1,hn2,hn3⟩
 conv=>whnf
 refine⟨fun h=>?_,fun h=>?_⟩
 ·conv=>whnf
  exact⟨-1,rfl,by omega,by omega,by omega⟩
 ·simp at h
  conv=>whnf
  exact⟨_,rfl,by omega,by omega,hn3⟩
end Ai
namespace Ai
set_option maxRecDepth 100000
open Go Go.Proofs
theorem wF (n:Int) (h:(n != n)=true):False:=by simp at h
theorem y4 (x:Nat):CallsTo EE 115 [.d (.flt x),.d (.flt x)] (·=bv true):=by
 refine callsTo_of_AW (fn:=Tryz.f115) Tryz.func115 rfl (by kernel_rfl) rfl ?_
 conv=>whnf
 repeat' (refine kbi (fun h=>?_) (fun h=>?_) <;> first|contradiction|conv=>whnf)
 all_goals simp[j6] at *
 all_goals simp_all
theorem eqOp_ok (x:OpL):CallsTo EE 113 [agg (encOp x),agg (encOp x)] (·=bv true):=by
 refine callsTo_of_AW (fn:=Tryz.f113) Tryz.func113 rfl (by kernel_rfl) rfl ?_
 conv=>whnf
 refine⟨fun h=>(wF _ h).elim,fun _=>?_⟩
 conv=>whnf
 refine⟨fun h=>(wF _ h).elim,fun _=>?_⟩
 conv=>whnf
 refine⟨fun h=>(wF _ h).elim,fun _=>?_⟩
 conv=>whnf
 refine⟨_,y4 x.v,?_⟩
 rintro r rfl
 conv=>whnf
theorem eqOpS_ok (xs:List OpL) (hx:xs.length≤1048576):CallsTo EE 73 [sl (xs.map encOp),sl (xs.map encOp)] (·=bv true):=by
 refine callsTo_of_AW (fn:=Tryz.f73) Tryz.func73 rfl (by kernel_rfl) rfl ?_
 conv=>whnf
 refine⟨fun h=>(wF _ h).elim,fun _=>?_⟩
 conv=>whnf
 refine yV (fun k:Nat=>[(0,sl (xs.map encOp)),(1,sl (xs.map encOp)),(5,i64 k)]) (fun k=>[]) (fun k=>xs.length - k) (fun k=>k≤xs.length) 0 .refl ⟨rfl,rfl,rfl,trivial⟩ trivial (Nat.zero_le _) ?_
 intro k τ H hk
 conv=>whnf
 refine⟨fun h=>?_,fun h=>?_⟩
 ·have hlt:=xO h
  conv=>whnf
  refine⟨by kernel_rfl,?_⟩
  conv=>whnf
  refine⟨encOp xs[k],yD encOp hlt rfl,?_⟩
  conv=>whnf
  refine⟨encOp xs[k],yD encOp hlt rfl,?_⟩
  conv=>whnf
  refine⟨_,eqOp_ok xs[k],?_⟩
  conv=>whnf
  refine⟨k+1,by omega,by show xs.length - (k+1)<xs.length - k;omega,⟨rfl,rfl,next_i64 hlt (by omega),trivial⟩,trivial⟩
 ·conv=>whnf
theorem eqOpSS_ok (xs:List (List OpL)) (hx:xs.length≤1048576) (hx2:∀ x∈xs,x.length≤1048576):CallsTo EE 38 [sl (xs.map zO),sl (xs.map zO)] (·=bv true):=by
 refine callsTo_of_AW (fn:=Tryz.f38) Tryz.func38 rfl (by kernel_rfl) rfl ?_
 conv=>whnf
 refine⟨fun h=>(wF _ h).elim,fun _=>?_⟩
 conv=>whnf
 refine yV (fun k:Nat=>[(0,sl (xs.map zO)),(1,sl (xs.map zO)),(5,i64 k)]) (fun k=>[]) (fun k=>xs.length - k) (fun k=>k≤xs.length) 0 .refl ⟨rfl,rfl,rfl,trivial⟩ trivial (Nat.zero_le _) ?_
 intro k τ H hk
 conv=>whnf
 refine⟨fun h=>?_,fun h=>?_⟩
 ·have hlt:=xO h
  conv=>whnf
  refine⟨by kernel_rfl,?_⟩
  conv=>whnf
  refine⟨zO xs[k],yD zO hlt rfl,?_⟩
  conv=>whnf
  refine⟨zO xs[k],yD zO hlt rfl,?_⟩
  conv=>whnf
  refine⟨_,eqOpS_ok xs[k] (hx2 _ (List.getElem_mem hlt)),?_⟩
  conv=>whnf
  refine⟨k+1,by omega,by show xs.length - (k+1)<xs.length - k;omega,⟨rfl,rfl,next_i64 hlt (by omega),trivial⟩,trivial⟩
 ·conv=>whnf
theorem oF (p:ProgL) (h:p.rs.length≤1048576∧∀ x∈p.rs,x.length≤1048576):CallsTo EE 13 [agg (encProg p),agg (encProg p)] (·=bv true):=by
 refine callsTo_of_AW (fn:=Tryz.f13) Tryz.func13 rfl (by kernel_rfl) rfl ?_
 conv=>whnf
 refine⟨fun h=>(wF _ h).elim,fun _=>?_⟩
 conv=>whnf
 refine⟨fun h=>(wF _ h).elim,fun _=>?_⟩
 conv=>whnf
 refine⟨fun h=>(wF _ h).elim,fun _=>?_⟩
 conv=>whnf
 refine⟨_,eqOpSS_ok _ h.1 h.2,?_⟩
 rintro r rfl
 conv=>whnf
end Ai
namespace Ai
set_option maxRecDepth 100000
open Go Go.Proofs Cyc
def sA (p:ProgL) (picks:List Int) (sign:List UInt8):Prop:=xX p (runOf p picks 200)=sign
def Picks6 (xs:List Int):Prop:=xs.length≤60∧AllIn xs 0 999
theorem Picks6.nn {xs:List Int} (h:Picks6 xs):∀ i∈xs,0≤i:=fun i hi=>(h.2 i hi).1
end Ai
namespace Ai
set_option maxRecDepth 100000
open Go Go.Proofs Go.Shelf Go.Sort Go.RowKit
def jK (xs:List Int) (i j:Nat):List Int:=xs.take i++xs.drop j
end Ai
namespace Ai
set_option maxRecDepth 100000
open Go Go.Proofs Cyc
theorem drop_in {xs:List Int} {i j:Nat} (h:∀ x∈xs,0≤x):∀ x∈jK xs i j,0≤x:=by
 intro x hx
 rcases List.mem_append.1 hx with h1|h1
 ·exact h x (List.mem_of_mem_take h1)
 ·exact h x (List.mem_of_mem_drop h1)
end Ai
namespace Ai
set_option maxRecDepth 100000
open Go Go.Proofs Cyc
section
open Classical
variable {ok:List Int→Prop} {l:Nat}
theorem j8 {xs:List Int} {i l:Nat} (h:i<xs.length∧0<l):(jK xs i (min xs.length (i+l))).length<xs.length:=by simp[jK];omega
noncomputable def inn (ok:List Int→Prop) (l:Nat) (xs:List Int) (i a:Nat) (w:Bool):List Int × Nat × Bool :=
 if h:i<xs.length∧0<l then
  if ok (jK xs i (min xs.length (i+l))) then inn ok l (jK xs i (min xs.length (i+l))) i (a+1) true else inn ok l xs (i+1) (a+1) w
 else (xs,a,w)
termination_by xs.length - i
decreasing_by
 ·have:=j8 h;omega
 ·omega
theorem inn_end {xs:List Int} {i a:Nat} {w:Bool} (h:¬ i<xs.length):inn ok l xs i a w=(xs,a,w):=by
 rw[inn,dif_neg (fun q=>h q.1)]
theorem inn_take {xs:List Int} {i a:Nat} {w:Bool} (h:i<xs.length) (h0:0<l) (hk:ok (jK xs i (min xs.length (i+l)))):inn ok l xs i a w=inn ok l (jK xs i (min xs.length (i+l))) i (a+1) true:=by
 rw[inn,dif_pos ⟨h,h0⟩,if_pos hk]
theorem inn_pass {xs:List Int} {i a:Nat} {w:Bool} (h:i<xs.length) (h0:0<l) (hk:¬ ok (jK xs i (min xs.length (i+l)))):inn ok l xs i a w=inn ok l xs (i+1) (a+1) w:=by
 rw[inn,dif_pos ⟨h,h0⟩,if_neg hk]
theorem pH:∀ (n:Nat) (xs:List Int) (i a:Nat) (w:Bool),xs.length - i≤n→(inn ok l xs i a w).1.length≤xs.length∧(inn ok l xs i a w).2.1≤a+n∧((inn ok l xs i a w).2.2=true→w=true∨(inn ok l xs i a w).1.length<xs.length)∧((∀ x∈xs,0≤x)→∀ x∈(inn ok l xs i a w).1,0≤x)
 | 0,xs,i,a,w,h=>by
  rw[inn_end (by omega)]
  exact⟨Nat.le_refl _,Nat.le_refl _,.inl,id⟩
 |n+1,xs,i,a,w,h=>by
  by_cases hi:i<xs.length∧0<l
  ·by_cases hk:ok (jK xs i (min xs.length (i+l)))
   ·rw[inn_take hi.1 hi.2 hk]
    have hd:=j8 hi
    obtain⟨h1,h2,h3,h4⟩:=pH n (jK xs i (min xs.length (i+l))) i (a+1) true (by omega)
    exact⟨by omega,by omega,fun _=>.inr (by omega),fun h=>h4 (drop_in h)⟩
   ·rw[inn_pass hi.1 hi.2 hk]
    obtain⟨h1,h2,h3,h4⟩:=pH n xs (i+1) (a+1) w (by omega)
    exact⟨h1,by omega,h3,h4⟩
  ·rw[inn,dif_neg hi]
   exact⟨Nat.le_refl _,by show a≤_;omega,.inl,id⟩
theorem inn_len (xs:List Int) (a:Nat):(inn ok l xs 0 a false).1.length≤xs.length:=(pH _ xs 0 a false (Nat.le_refl _)).1
noncomputable def shr (ok:List Int→Prop) (l:Nat) (xs:List Int) (a:Nat):List Int × Nat :=
 if h:1<l then shr ok (l / 2) (inn ok l xs 0 a false).1 (inn ok l xs 0 a false).2.1
 else if h:(inn ok l xs 0 a false).2.2=true∧(inn ok l xs 0 a false).1.length<xs.length then shr ok l (inn ok l xs 0 a false).1 (inn ok l xs 0 a false).2.1
 else ((inn ok l xs 0 a false).1,(inn ok l xs 0 a false).2.1)
termination_by l+xs.length
decreasing_by
 ·have:=inn_len (ok:=ok) (l:=l) xs a;omega
 ·omega
end
noncomputable def shrinkL (p:ProgL) (picks:List Int) (sign:List UInt8):List Int × Nat:=shr (fun xs=>sA p xs sign) (max 1 (picks.length / 2)) picks 0
structure ShrP (p:ProgL) (sign:List UInt8) (F:List Int × Nat) (l:Nat) (xs:List Int) (a:Nat):Prop where
 fin:shr (fun xs=>sA p xs sign) l xs a=F
 l0:1≤l
 l1:l≤60
 len:xs.length≤60
 nn:∀ x∈xs,0≤x
 asked:a+60*(l+xs.length)≤7260
structure InnP (p:ProgL) (sign:List UInt8) (l:Nat) (xs:List Int) (a:Nat) (c:List Int) (i b:Nat) (w:Bool):Prop where
 fin:inn (fun xs=>sA p xs sign) l c i b w=inn (fun xs=>sA p xs sign) l xs 0 a false
 len:c.length≤xs.length
 il:i≤c.length
 nn:∀ x∈c,0≤x
 asked:b+(c.length - i)≤a+xs.length
theorem InnP.take {p:ProgL} {sign:List UInt8} {l a i b:Nat} {xs c:List Int} {w:Bool} (h:InnP p sign l xs a c i b w) (h0:1≤l) (hi:i<c.length) (hk:sA p (jK c i (min c.length (i+l))) sign) :
  InnP p sign l xs a (jK c i (min c.length (i+l))) i (b+1) true∧(jK c i (min c.length (i+l))).length<c.length:=by
 have hd:=j8 ⟨hi,h0⟩
 have hdl:i≤(jK c i (min c.length (i+l))).length:=by simp[jK];omega
 refine⟨⟨by rw[← h.fin];exact(inn_take (ok:=fun xs=>sA p xs sign) hi h0 hk).symm,by have:=h.len;omega,hdl,drop_in h.nn,by have:=h.asked;omega⟩,hd⟩
theorem InnP.pass {p:ProgL} {sign:List UInt8} {l a i b:Nat} {xs c:List Int} {w:Bool} (h:InnP p sign l xs a c i b w) (h0:1≤l) (hi:i<c.length) (hk:¬ sA p (jK c i (min c.length (i+l))) sign) :
  InnP p sign l xs a c (i+1) (b+1) w :=
 ⟨by rw[← h.fin];exact(inn_pass (ok:=fun xs=>sA p xs sign) hi h0 hk).symm,h.len,hi,h.nn,by have:=h.asked;omega⟩
theorem ShrP.init (p:ProgL) (sign:List UInt8) {picks:List Int} (h:Picks6 picks):ShrP p sign (shrinkL p picks sign) (max 1 (picks.length / 2)) picks 0 :=
 ⟨rfl,by omega,by have:=h.1;omega,h.1,h.nn,by have:=h.1;omega⟩
end Ai
namespace Ai
set_option maxRecDepth 100000
open Go Go.Proofs Cyc
def natI (l:List Nat):List Int:=l.map fun k=>((k:Nat):Int)
theorem natI_enc (l:List Nat):l.map encN=(natI l).map encInt:=by simp[natI,encN,encInt]
end Ai
namespace Ai
set_option maxRecDepth 100000
open Go Go.Proofs Cyc
open Classical in
noncomputable def keptBy (K:StL→Nat→Ev→Prop) (s:StL) (l:List Nat) (e:Ev):List Nat:=l.filter fun u=>decide (K s u e)
structure XS where
 acc:List RunT
 tried:List Nat
 ok:Bool
noncomputable def enAt (p:ProgL) (r:RunT) (k:Nat):Nat:=(enabledL p r.s).getD k 0
noncomputable def runBy (p:ProgL) (r:RunT) (k:Nat):RunT:=⟨0,r.tr++[(stepL p r.s (enAt p r k)).2],r.tk++[(k:Int)],(stepL p r.s (enAt p r k)).1⟩
open Classical in
noncomputable def xloop (p:ProgL) (sl:Bool) (K:StL→Nat→Ev→Prop) (f:RunT→List Nat→List RunT→List RunT × Bool) (r:RunT) (sleep:List Nat) (acc:List RunT):Nat→XS
 | 0=>⟨acc,[],true⟩
 |k+1 =>
  if (xloop p sl K f r sleep acc k).ok=false∨(sl=true∧enAt p r k∈sleep) then xloop p sl K f r sleep acc k
  else ⟨(f (runBy p r k) (keptBy K r.s (sleep++(xloop p sl K f r sleep acc k).tried) (stepL p r.s (enAt p r k)).2) (xloop p sl K f r sleep acc k).acc).1,(xloop p sl K f r sleep acc k).tried++[enAt p r k],
   (f (runBy p r k) (keptBy K r.s (sleep++(xloop p sl K f r sleep acc k).tried) (stepL p r.s (enAt p r k)).2) (xloop p sl K f r sleep acc k).acc).2⟩
def leaf (p:ProgL) (b:Int) (c:Int) (r:RunT):RunT:=⟨c,r.tr,r.tk,r.s⟩
noncomputable def xgo (p:ProgL) (b:Int) (sl:Bool) (K:StL→Nat→Ev→Prop):Nat→RunT→List Nat→List RunT→List RunT × Bool
 | 0,r,sleep,acc=>(acc,true)
 |n+1,r,sleep,acc =>
  if 0<codeL p r.s r.tr.length b then (acc++[leaf p b (codeL p r.s r.tr.length b) r],decide (acc.length+1≤400))
  else ((xloop p sl K (xgo p b sl K n) r sleep acc (enabledL p r.s).length).acc,(xloop p sl K (xgo p b sl K n) r sleep acc (enabledL p r.s).length).ok)
theorem xloop_stay {p : ProgL} {sl : Bool} {K : StL → Nat → Ev → Prop} {f : RunT → List Nat → List RunT → List RunT × Bool} {r : RunT} {sleep : List Nat} {acc : List RunT} {k : Nat} (h : (xloop p sl K f r sleep acc k).ok = false) :
    ∀ m, k ≤ m → xloop p sl K f r sleep acc m = xloop p sl K f r sleep acc k := by
  intro m hm
  induction m with
  | zero => have : k = 0 := by omega
            subst this; rfl
  | succ m ih =>
    by_cases hk : k = m + 1
    · subst hk; rfl
    · have := ih (by omega)
      rw [xloop, if_pos (.inl (by rw [this]; exact h)), this]
theorem pW {p:ProgL} {K K':StL→Nat→Ev→Prop} {f f':RunT→List Nat→List RunT→List RunT × Bool} {r:RunT} {s1 s2:List Nat} {acc:List RunT}
  (hf:∀ r a b acc,f r a acc=f' r b acc):∀ k,xloop p false K f r s1 acc k=xloop p false K' f' r s2 acc k
 | 0=>rfl
 |k+1=>by
  have ih:=pW (p:=p) (K:=K) (K':=K') (r:=r) (s1:=s1) (s2:=s2) (acc:=acc) hf k
  rw[xloop,xloop,ih]
  have e:∀ (q:Nat) (l:List Nat),(false=true∧q∈l)↔False:=fun q l=>by simp
  simp only[e]
  split
  ·rfl
  ·rw[hf _ _ (keptBy K' r.s (s2++(xloop p false K' f' r s2 acc k).tried) (stepL p r.s (enAt p r k)).2)]
theorem eJ (p:ProgL) (b:Int) (K K':StL→Nat→Ev→Prop):∀ (n:Nat) (r:RunT) (s1 s2:List Nat) (acc:List RunT),xgo p b false K n r s1 acc=xgo p b false K' n r s2 acc
 | 0,_,_,_,_=>rfl
 |n+1,r,s1,s2,acc=>by
  rw[xgo,xgo,pW (K':=K') (f':=xgo p b false K' n) (s2:=s2) (fun r a c acc=>eJ p b K K' n r a c acc)]
noncomputable def sE (p:ProgL) (tr:List Ev):Nat→StL
 | 0=>vL p
 |i+1=>(stepL p (sE p tr i) (tr.getD i jO).th.toNat).1
theorem tD (p:ProgL) (tr:List Ev) (e:Ev):∀ i,i≤tr.length→sE p (tr++[e]) i=sE p tr i
 | 0,_=>rfl
 |i+1,h=>by
  rw[sE,sE,tD p tr e i (by omega)]
  have:(tr++[e]).getD i jO=tr.getD i jO:=by
   rw[List.getD_eq_getElem?_getD,List.getD_eq_getElem?_getD,List.getElem?_append_left (by omega)]
  rw[this]
structure XR (p:ProgL) (b:Int) (r:RunT):Prop where
 inv:AInv p r.s
 tr:TrOK r.s r.tr
 len:r.tr.length=r.tk.length
 le:(r.tr.length:Int)≤b
 tk:∀ i∈r.tk,0≤i∧i<5
 at_:sE p r.tr r.tr.length=r.s
 en:∀ i,i<r.tr.length→(r.tr.getD i jO).th.toNat∈enabledL p (sE p r.tr i)∧0≤(r.tr.getD i jO).th
 run:∀ picks,r.tk <+: picks→runOf p picks b=runT p picks b (b.toNat+1 - r.tr.length) r.s r.tr r.tk
structure XEnd (p:ProgL) (b:Int) (x:RunT):Prop where
 fin:REnd p b x
 en:∀ i,i<x.tr.length→(x.tr.getD i jO).th.toNat∈enabledL p (sE p x.tr i)∧0≤(x.tr.getD i jO).th
 run:runOf p x.tk b=x
theorem XR.new {p:ProgL} (hg:p.goodS) {b:Int} (hb:0≤b):XR p b ⟨0,[],[],vL p⟩ :=
 ⟨ainv_new hg,⟨fun e he=>(by cases he),fun h=>absurd rfl h⟩,rfl,hb,fun i hi=>(by cases hi),rfl,fun i hi=>(by cases hi),fun picks h=>rfl⟩
theorem XR.mem {p:ProgL} {b:Int} {r:RunT} {k:Nat} (hk:k<(enabledL p r.s).length):enAt p r k∈enabledL p r.s:=by
 unfold enAt
 rw[List.getD_eq_getElem?_getD,List.getElem?_eq_getElem hk];exact List.getElem_mem hk
theorem XR.step {p:ProgL} (hg:p.goodS) (hv:p.flt) {b:Int} {r:RunT} (h:XR p b r) (hc:¬ 0<codeL p r.s r.tr.length b) {k:Nat} (hk:k<(enabledL p r.s).length):XR p b (runBy p r k):=by
 have hm:=XR.mem (b:=b) hk
 have h5:(enabledL p r.s).length≤5:=Nat.le_trans (enabledTo_le) h.inv.si.len
 have hlb:=(en_ne hc).2
 have hle:=h.le
 have hth:(stepL p r.s (enAt p r k)).2.th=(enAt p r k:Nat):=(step_ev p r.s _).1
 refine⟨ainv_step hg hv hm h.inv,tr_step hg hm h.inv h.tr,by simp[runBy,h.len],?_,fun i hi=>?_,?_,fun i hi=>?_,fun picks hp=>?_⟩
 ·show((r.tr++[_]).length:Int)≤b
  simp;omega
 ·rcases List.mem_append.1 hi with e|e
  ·exact h.tk i e
  ·simp only[List.mem_cons,List.not_mem_nil,or_false] at e
   subst e;omega
 ·show sE p (r.tr++[_]) (r.tr++[_]).length=(stepL p r.s _).1
  rw[List.length_append]
  show sE p (r.tr++[_]) (r.tr.length+1)=_
  rw[sE,tD _ _ _ _ (Nat.le_refl _),h.at_]
  have:(r.tr++[(stepL p r.s (enAt p r k)).2]).getD r.tr.length jO=(stepL p r.s (enAt p r k)).2:=by simp[List.getD_eq_getElem?_getD]
  rw[this,hth]
  rfl
 ·have hi:i<(r.tr++[(stepL p r.s (enAt p r k)).2]).length:=hi
  show((r.tr++[_]).getD i jO).th.toNat∈enabledL p (sE p (r.tr++[_]) i)∧0≤((r.tr++[_]).getD i jO).th
  simp only[List.length_append,List.length_cons,List.length_nil] at hi
  rw[tD _ _ _ _ (by omega)]
  by_cases he:i=r.tr.length
  ·subst he
   have:(r.tr++[(stepL p r.s (enAt p r k)).2]).getD r.tr.length jO=(stepL p r.s (enAt p r k)).2:=by simp[List.getD_eq_getElem?_getD]
   rw[this,hth,h.at_]
   exact⟨by simpa using hm,by omega⟩
  ·have:(r.tr++[(stepL p r.s (enAt p r k)).2]).getD i jO=r.tr.getD i jO:=by
    rw[List.getD_eq_getElem?_getD,List.getD_eq_getElem?_getD,List.getElem?_append_left (by omega)]
   rw[this]
   exact h.en i (by omega)
 ·have hp:r.tk++[(k:Int)] <+: picks:=hp
  obtain⟨more,rfl⟩:=hp
  rw[h.run _ ⟨[(k:Int)]++more,by simp⟩]
  have hn:b.toNat+1 - r.tr.length=(b.toNat - r.tr.length)+1:=by omega
  rw[hn,runT,if_neg hc]
  have hpk:pickOf (r.tk++[(k:Int)]++more) r.tk (enabledL p r.s).length=(k:Int):=by
   unfold pickOf
   rw[if_pos (by simp)]
   have:(r.tk++[(k:Int)]++more).getD r.tk.length 0=(k:Int):=by simp[List.getD_eq_getElem?_getD]
   rw[this]
   exact Int.tmod_eq_of_lt (by omega) (by omega)
  simp only[hpk]
  show _=runT p _ b (b.toNat+1 - (r.tr++[_]).length) _ _ _
  rw[show b.toNat+1 - (r.tr++[(stepL p r.s (enAt p r k)).2]).length=b.toNat - r.tr.length by simp]
  rfl
theorem XR.leaf {p:ProgL} {b:Int} {r:RunT} (h:XR p b r) (hc:0<codeL p r.s r.tr.length b):XEnd p b (leaf p b (codeL p r.s r.tr.length b) r):=by
 refine⟨⟨h.inv,h.tr,rfl,hc,h.len,h.le,h.tk⟩,h.en,?_⟩
 show runOf p r.tk b=_
 rw[h.run _ (List.prefix_rfl)]
 have hle:=h.le
 have hn:b.toNat+1 - r.tr.length=(b.toNat - r.tr.length)+1:=by omega
 rw[hn,runT,if_pos hc]
 rfl
theorem xgo_all {p:ProgL} (hg:p.goodS) (hv:p.flt) {b:Int} {sl:Bool} {K:StL→Nat→Ev→Prop}:∀ (n:Nat) (r:RunT) (sleep:List Nat) (acc:List RunT),XR p b r→(∀ x∈acc,XEnd p b x)→∀ x∈(xgo p b sl K n r sleep acc).1,XEnd p b x
 | 0,r,sleep,acc,hr,ha=>ha
 |n+1,r,sleep,acc,hr,ha=>by
  rw[xgo]
  split
  ·rename_i hc
   intro x hx
   rcases List.mem_append.1 hx with e|e
   ·exact ha x e
   ·simp only[List.mem_cons,List.not_mem_nil,or_false] at e
    subst e;exact hr.leaf hc
  ·rename_i hc
   have:∀ k,k≤(enabledL p r.s).length→∀ x∈(xloop p sl K (xgo p b sl K n) r sleep acc k).acc,XEnd p b x:=by
    intro k
    induction k with
    |zero=>exact fun _=>ha
    |succ k ih =>
     intro hk
     rw[xloop]
     split
     ·exact ih (by omega)
     ·exact xgo_all hg hv n _ _ _ (hr.step hg hv hc hk) (ih (by omega))
   exact this _ (Nat.le_refl _)
theorem oW {p:ProgL} {b:Int} {sl:Bool} {K:StL→Nat→Ev→Prop}:∀ (n:Nat) (r:RunT) (sleep:List Nat) (acc:List RunT),acc.length≤400→(xgo p b sl K n r sleep acc).1.length≤401∧((xgo p b sl K n r sleep acc).2=true→(xgo p b sl K n r sleep acc).1.length≤400)
 | 0,r,sleep,acc,ha=>⟨by show acc.length≤_;omega,fun _=>ha⟩
 |n+1,r,sleep,acc,ha=>by
  rw[xgo]
  split
  ·refine⟨by simp;omega,fun h=>?_⟩
   have:=of_decide_eq_true h
   simp;omega
  ·have:∀ k,(xloop p sl K (xgo p b sl K n) r sleep acc k).acc.length≤401∧((xloop p sl K (xgo p b sl K n) r sleep acc k).ok=true→(xloop p sl K (xgo p b sl K n) r sleep acc k).acc.length≤400):=by
    intro k
    induction k with
    |zero=>exact⟨by show acc.length≤_;omega,fun _=>ha⟩
    |succ k ih =>
     rw[xloop]
     split
     ·exact ih
     ·rename_i h
      have hok:(xloop p sl K (xgo p b sl K n) r sleep acc k).ok=true:=by
       cases hh:(xloop p sl K (xgo p b sl K n) r sleep acc k).ok with
       |true=>rfl
       |false=>exact absurd (.inl hh) h
      exact oW n _ _ _ (ih.2 hok)
   exact this _
theorem xloop_len {p:ProgL} {b:Int} {sl:Bool} {K:StL→Nat→Ev→Prop} {n:Nat} {r:RunT} {sleep:List Nat} {acc:List RunT} (ha:acc.length≤400):∀ k,(xloop p sl K (xgo p b sl K n) r sleep acc k).ok=true→(xloop p sl K (xgo p b sl K n) r sleep acc k).acc.length≤400
 | 0,_=>ha
 |k+1,hok=>by
  rw[xloop] at hok ⊢
  split
  ·rename_i h
   rw[if_pos h] at hok
   exact xloop_len ha k hok
  ·rename_i h
   rw[if_neg h] at hok
   have hok1:(xloop p sl K (xgo p b sl K n) r sleep acc k).ok=true:=by
    cases hh:(xloop p sl K (xgo p b sl K n) r sleep acc k).ok with
    |true=>rfl
    |false=>exact absurd (.inl hh) h
   exact(oW n _ _ _ (xloop_len ha k hok1)).2 hok
theorem xloop_tried {p:ProgL} {sl:Bool} {K:StL→Nat→Ev→Prop} {f:RunT→List Nat→List RunT→List RunT × Bool} {r:RunT} {sleep:List Nat} {acc:List RunT}:∀ k,k≤(enabledL p r.s).length →
  (xloop p sl K f r sleep acc k).tried.length≤k∧∀ u∈(xloop p sl K f r sleep acc k).tried,u∈enabledL p r.s
 | 0,_=>⟨Nat.le_refl _,fun u hu=>(by cases hu)⟩
 |k+1,hk=>by
  have ih:=xloop_tried (p:=p) (sl:=sl) (K:=K) (f:=f) (r:=r) (sleep:=sleep) (acc:=acc) k (by omega)
  rw[xloop]
  split
  ·exact⟨by omega,ih.2⟩
  ·refine⟨by simp;exact ih.1,fun u hu=>?_⟩
   rcases List.mem_append.1 hu with e|e
   ·exact ih.2 u e
   ·simp only[List.mem_cons,List.not_mem_nil,or_false] at e
    subst e
    exact XR.mem (b:=0) (by omega)
end Ai
namespace Ai
set_option maxRecDepth 100000
open Go Go.Proofs Cyc
noncomputable def kV (p:ProgL) (b:Int):List RunT × Bool:=xgo p b false (fun _ _ _=>True) (b.toNat+1) ⟨0,[],[],vL p⟩ [] []
theorem allR_end {p:ProgL} (hg:p.goodS) (hv:p.flt) {b:Int} (hb:0≤b):∀ x∈(kV p b).1,XEnd p b x:=xgo_all hg hv _ _ _ _ (XR.new hg hb) fun x hx=>(by cases hx)
theorem aG (p:ProgL) (b:Int):(kV p b).1.length≤401:=(oW _ _ _ _ (Nat.zero_le _)).1
theorem allR_of (p:ProgL) (b:Int) (K:StL→Nat→Ev→Prop) (sleep:List Nat):xgo p b false K (b.toNat+1) ⟨0,[],[],vL p⟩ sleep []=kV p b:=eJ p b K _ _ _ _ _ _
end Ai
namespace Ai
set_option maxRecDepth 100000
open Go Go.Proofs
def idxI (xs:List Int) (n:Int):Option Nat:=xs.findIdx? (·==n)
theorem mY (xs:List Int) (n:Int):(0≤lN (idxI xs n))↔n∈xs:=by
 unfold idxI
 cases h:xs.findIdx? (·==n) with
 |none =>
  rw[List.findIdx?_eq_none_iff] at h
  simp only[lN]
  refine⟨fun e=>absurd e (by decide),fun hm=>?_⟩
  have:=h n hm
  simp at this
 |some k =>
  rw[List.findIdx?_eq_some_iff_getElem] at h
  obtain⟨h1,h2,_⟩:=h
  simp only[lN]
  have h2:xs[k]=n:=by simpa using h2
  exact⟨fun _=>h2▸List.getElem_mem h1,fun _=>by omega⟩
theorem IdxA_ok (xs:List Int) (n:Int) (hx:xs.length≤1048576):CallsTo EE 177 [sl (xs.map encInt),i64 n] (·=i64 (lN (idxI xs n))):=by
 refine callsTo_of_AW (fn:=Tryz.f177) Tryz.func177 rfl (by kernel_rfl) rfl ?_
 conv=>whnf
 refine yV (fun k:Nat=>[(0,sl (xs.map encInt)),(1,i64 n),(7,i64 (xs.map encInt).length),(8,i64 k)]) (fun k=>[]) (fun k=>xs.length - k) (fun k=>k≤xs.length∧∀ x∈xs.take k,(x==n)=false) 0 .refl ⟨rfl,rfl,rfl,rfl,trivial⟩ trivial ⟨Nat.zero_le _,kE⟩ ?_
 rintro k τ H ⟨hk,ih⟩
 conv=>whnf
 refine kbi (fun h=>?_) (fun h=>?_)
 ·have hlt:=xO h
  conv=>whnf
  refine⟨encInt xs[k],yD encInt hlt rfl,?_⟩
  conv=>whnf
  refine kbi (fun h=>?_) (fun h=>?_)
  ·conv=>whnf
   have h:n=xs[k]:=by simpa using h
   have:idxI xs n=some k:=fH (f:=(·==n)) hlt ih (by simp[h])
   rw[this]
   rfl
  ·conv=>whnf
   have h:¬ n=xs[k]:=by simpa using h
   exact⟨k+1,⟨by omega,qO ih hlt (by simp;exact fun e=>h e.symm)⟩,by show xs.length - (k+1)<xs.length - k;omega,⟨rfl,rfl,rfl,next_i64 hlt (by omega),trivial⟩,trivial⟩
 ·conv=>whnf
  have:idxI xs n=none:=fI (f:=(·==n)) (kQ ih (by simp at h;omega))
  rw[this]
  rfl
theorem ContA_ok (xs:List Int) (n:Int) (hx:xs.length≤1048576):CallsTo EE 132 [sl (xs.map encInt),i64 n] (·=bp (n∈xs)):=by
 refine callsTo_of_AW (fn:=Tryz.f132) Tryz.func132 rfl (by kernel_rfl) rfl ?_
 conv=>whnf
 refine⟨_,IdxA_ok xs n hx,?_⟩
 rintro r rfl
 conv=>whnf
 refine kbi (fun h=>?_) (fun h=>?_)
 ·conv=>whnf
  exact bpt ((mY xs n).1 (of_decide_eq_true h))
 ·conv=>whnf
  exact bpf fun e=>h (decide_eq_true ((mY xs n).2 e))
theorem IdxS_ok (xs:List Int) (n:Int) (hx:xs.length≤1048576):CallsTo EE 172 [sl (xs.map encInt),i64 n] (·=i64 (lN (idxI xs n))):=by
 refine callsTo_of_AW (fn:=Tryz.f172) Tryz.func172 rfl (by kernel_rfl) rfl ?_
 conv=>whnf
 refine yV (fun k:Nat=>[(0,sl (xs.map encInt)),(1,i64 n),(7,i64 (xs.map encInt).length),(8,i64 k)]) (fun k=>[]) (fun k=>xs.length - k) (fun k=>k≤xs.length∧∀ x∈xs.take k,(x==n)=false) 0 .refl ⟨rfl,rfl,rfl,rfl,trivial⟩ trivial ⟨Nat.zero_le _,kE⟩ ?_
 rintro k τ H ⟨hk,ih⟩
 conv=>whnf
 refine kbi (fun h=>?_) (fun h=>?_)
 ·have hlt:=xO h
  conv=>whnf
  refine⟨encInt xs[k],yD encInt hlt rfl,?_⟩
  conv=>whnf
  refine kbi (fun h=>?_) (fun h=>?_)
  ·conv=>whnf
   have h:n=xs[k]:=by simpa using h
   have:idxI xs n=some k:=fH (f:=(·==n)) hlt ih (by simp[h])
   rw[this]
   rfl
  ·conv=>whnf
   have h:¬ n=xs[k]:=by simpa using h
   exact⟨k+1,⟨by omega,qO ih hlt (by simp;exact fun e=>h e.symm)⟩,by show xs.length - (k+1)<xs.length - k;omega,⟨rfl,rfl,rfl,next_i64 hlt (by omega),trivial⟩,trivial⟩
 ·conv=>whnf
  have:idxI xs n=none:=fI (f:=(·==n)) (kQ ih (by simp at h;omega))
  rw[this]
  rfl
theorem ContS_ok (xs:List Int) (n:Int) (hx:xs.length≤1048576):CallsTo EE 127 [sl (xs.map encInt),i64 n] (·=bp (n∈xs)):=by
 refine callsTo_of_AW (fn:=Tryz.f127) Tryz.func127 rfl (by kernel_rfl) rfl ?_
 conv=>whnf
 refine⟨_,IdxS_ok xs n hx,?_⟩
 rintro r rfl
 conv=>whnf
 refine kbi (fun h=>?_) (fun h=>?_)
 ·conv=>whnf
  exact bpt ((mY xs n).1 (of_decide_eq_true h))
 ·conv=>whnf
  exact bpf fun e=>h (decide_eq_true ((mY xs n).2 e))
theorem CloneS_ok (xs:List Int) (hx:xs.length≤1048576):CallsTo EE 126 [sl (xs.map encInt)] (·=.uq 3 1 (xs.map encInt)):=by
 refine callsTo_of_AW (fn:=Tryz.f126) Tryz.func126 rfl (by kernel_rfl) rfl ?_
 conv=>whnf
 refine⟨fun hn=>?_,?_⟩
 ·conv=>whnf
  have:xs=[]:=List.eq_nil_of_length_eq_zero (by simpa using hn)
  subst this
  exact .inr ⟨3,1,rfl⟩
 ·conv=>whnf
  refine⟨⟨by simp[encInt],by simp;omega,by simp;omega⟩,?_⟩
  conv=>whnf
  exact congrArg (AV.uq 3 1) (by simp[List.take_of_length_le])
def lE (e:Ev):Prop:=e.kind=2∨e.kind=3
def rV (e:Ev):Prop:=e.kind=8∨e.kind=9∨e.kind=10
def kJ (e:Ev):Int:=if e.kind=4∨e.kind=5 then e.obj else if e.kind=8∨e.kind=9 then e.lock else -2
def u6 (e:Ev):Int:=if e.kind=5 then e.obj else if e.kind=8 then e.lock else -1
def z7 (e:Ev):Int:=if e.kind=4 then e.obj else if e.kind=9 then e.lock else -1
def rJ (e:Ev):Int:=if z7 e > u6 e then z7 e else u6 e
def fW (a b:Ev):Prop :=
 if a.kind=3 then lE b∧a.obj=b.obj
 else if a.kind=6 then b.kind=6∨b.th=a.obj
 else if a.kind=7 then b.kind=11∧b.th=a.obj
 else if a.kind=10 then b.th=a.lock∨(rV b∧a.obj=b.obj)
 else if a.kind=8 then rV b∧a.obj=b.obj
 else a.kind=12
def hangE (a b:Ev):Prop:=a.th=b.th∨fW a b∨fW b a∨(kJ a=kJ b∧kJ a≠-2)
def hangI (a b:Ev):Prop:=a.th=b.th∨fW a b∨fW b a∨(0≤rJ a∧rJ a=rJ b)
theorem touchS_ok (e:Ev):CallsTo EE 216 [agg (encEv e)] (·=bp (lE e)):=by
 refine callsTo_of_AW (fn:=Tryz.f216) Tryz.func216 rfl (by kernel_rfl) rfl ?_
 conv=>whnf
 repeat' (refine kbi (fun h=>?_) (fun h=>?_) <;> conv=>whnf)
 all_goals simp only[beq_iff_eq] at *
 all_goals first|exact bpt (by unfold lE;omega)|exact bpf (by unfold lE;omega)
theorem touchI_ok (e:Ev):CallsTo EE 224 [agg (encEv e)] (·=bp (lE e)):=by
 refine callsTo_of_AW (fn:=Tryz.f224) Tryz.func224 rfl (by kernel_rfl) rfl ?_
 conv=>whnf
 repeat' (refine kbi (fun h=>?_) (fun h=>?_) <;> conv=>whnf)
 all_goals simp only[beq_iff_eq] at *
 all_goals first|exact bpt (by unfold lE;omega)|exact bpf (by unfold lE;omega)
theorem condS_ok (e:Ev):CallsTo EE 217 [agg (encEv e)] (·=bp (rV e)):=by
 refine callsTo_of_AW (fn:=Tryz.f217) Tryz.func217 rfl (by kernel_rfl) rfl ?_
 conv=>whnf
 repeat' (refine kbi (fun h=>?_) (fun h=>?_) <;> conv=>whnf)
 all_goals simp only[beq_iff_eq] at *
 all_goals first|exact bpt (by unfold rV;omega)|exact bpf (by unfold rV;omega)
theorem condI_ok (e:Ev):CallsTo EE 225 [agg (encEv e)] (·=bp (rV e)):=by
 refine callsTo_of_AW (fn:=Tryz.f225) Tryz.func225 rfl (by kernel_rfl) rfl ?_
 conv=>whnf
 repeat' (refine kbi (fun h=>?_) (fun h=>?_) <;> conv=>whnf)
 all_goals simp only[beq_iff_eq] at *
 all_goals first|exact bpt (by unfold rV;omega)|exact bpf (by unfold rV;omega)
theorem tY (e:Ev):CallsTo EE 166 [agg (encEv e)] (·=i64 (kJ e)):=by
 refine callsTo_of_AW (fn:=Tryz.f166) Tryz.func166 rfl (by kernel_rfl) rfl ?_
 conv=>whnf
 repeat' (refine kbi (fun h=>?_) (fun h=>?_) <;> conv=>whnf)
 all_goals simp only[beq_iff_eq] at *
 all_goals exact congrArg i64 (by unfold kJ;simp[*])
theorem givesI_ok (e:Ev):CallsTo EE 226 [agg (encEv e)] (·=i64 (u6 e)):=by
 refine callsTo_of_AW (fn:=Tryz.f226) Tryz.func226 rfl (by kernel_rfl) rfl ?_
 conv=>whnf
 repeat' (refine kbi (fun h=>?_) (fun h=>?_) <;> conv=>whnf)
 all_goals simp only[beq_iff_eq] at *
 all_goals exact congrArg i64 (by unfold u6;simp[*])
theorem takesI2_ok (e:Ev):CallsTo EE 227 [agg (encEv e)] (·=i64 (z7 e)):=by
 refine callsTo_of_AW (fn:=Tryz.f227) Tryz.func227 rfl (by kernel_rfl) rfl ?_
 conv=>whnf
 repeat' (refine kbi (fun h=>?_) (fun h=>?_) <;> conv=>whnf)
 all_goals simp only[beq_iff_eq] at *
 all_goals exact congrArg i64 (by unfold z7;simp[*])
end Ai
namespace Ai
set_option maxRecDepth 100000
open Go Go.Proofs
theorem nF (a b:Ev):CallsTo EE 167 [agg (encEv a),agg (encEv b)] (·=bp (fW a b)):=by
 refine callsTo_of_AW (fn:=Tryz.f167) Tryz.func167 rfl (by kernel_rfl) rfl ?_
 conv=>whnf
 repeat' (first|refine kbi (fun h=>?_) (fun h=>?_)|refine ocase (touchS_ok b) (fun h=>?_) (fun h=>?_)|refine ocase (condS_ok b) (fun h=>?_) (fun h=>?_)) <;> conv=>whnf
 all_goals simp only[beq_iff_eq] at *
 all_goals first|exact bpt (by unfold fW;simp[*])|exact bpf (by unfold fW;simp[*])
theorem bindI_ok (a b:Ev):CallsTo EE 178 [agg (encEv a),agg (encEv b)] (·=bp (fW a b)):=by
 refine callsTo_of_AW (fn:=Tryz.f178) Tryz.func178 rfl (by kernel_rfl) rfl ?_
 conv=>whnf
 repeat' (first|refine kbi (fun h=>?_) (fun h=>?_)|refine ocase (touchI_ok b) (fun h=>?_) (fun h=>?_)|refine ocase (condI_ok b) (fun h=>?_) (fun h=>?_)) <;> conv=>whnf
 all_goals simp only[beq_iff_eq] at *
 all_goals first|exact bpt (by unfold fW;simp[*])|exact bpf (by unfold fW;simp[*])
theorem pD (e:Ev):CallsTo EE 179 [agg (encEv e)] (·=i64 (rJ e)):=by
 refine callsTo_of_AW (fn:=Tryz.f179) Tryz.func179 rfl (by kernel_rfl) rfl ?_
 conv=>whnf
 refine⟨by kernel_rfl,?_⟩
 conv=>whnf
 refine⟨_,givesI_ok e,?_⟩
 conv=>whnf
 refine⟨_,takesI2_ok e,?_⟩
 conv=>whnf
 rfl
theorem hangS_ok (a b:Ev):CallsTo EE 118 [agg (encEv a),agg (encEv b)] (·=bp (hangE a b)):=by
 refine callsTo_of_AW (fn:=Tryz.f118) Tryz.func118 rfl (by kernel_rfl) rfl ?_
 conv=>whnf
 refine⟨by kernel_rfl,?_⟩
 conv=>whnf
 refine kbi (fun h1=>?_) (fun h1=>?_)
 ·conv=>whnf
  exact bpt (.inl (by simpa using h1))
 have h1:¬ a.th=b.th:=by simpa using h1
 conv=>whnf
 refine⟨_,tY a,?_⟩
 conv=>whnf
 refine⟨_,tY b,?_⟩
 conv=>whnf
 have rest:¬ (kJ a=kJ b∧kJ a≠-2)→(hangE a b↔fW a b∨fW b a):=fun h=>by unfold hangE;simp[h,h1]
 refine kbi (fun h2=>?_) (fun h2=>?_)
 ·have h2:kJ a=kJ b:=by simpa using h2
  conv=>whnf
  refine⟨_,tY a,?_⟩
  conv=>whnf
  refine kbi (fun h3=>?_) (fun h3=>?_)
  ·have h3:kJ a≠-2:=by simpa using h3
   conv=>whnf
   exact bpt (.inr (.inr (.inr ⟨h2,h3⟩)))
  have h3:kJ a=-2:=by simpa using h3
  have rest:=rest fun e=>e.2 h3
  conv=>whnf
  refine ocase (nF a b) (fun h=>?_) (fun h=>?_)
  ·conv=>whnf
   exact bpt (rest.2 (.inl h))
  conv=>whnf
  refine ocase (nF b a) (fun h4=>?_) (fun h4=>?_)
  ·conv=>whnf
   exact bpt (rest.2 (.inr h4))
  conv=>whnf
  exact bpf fun e=>(rest.1 e).elim h h4
 ·have h2:¬ kJ a=kJ b:=by simpa using h2
  have rest:=rest fun e=>h2 e.1
  conv=>whnf
  refine ocase (nF a b) (fun h=>?_) (fun h=>?_)
  ·conv=>whnf
   exact bpt (rest.2 (.inl h))
  conv=>whnf
  refine ocase (nF b a) (fun h4=>?_) (fun h4=>?_)
  ·conv=>whnf
   exact bpt (rest.2 (.inr h4))
  conv=>whnf
  exact bpf fun e=>(rest.1 e).elim h h4
theorem hangI_ok (a b:Ev):CallsTo EE 133 [agg (encEv a),agg (encEv b)] (·=bp (hangI a b)):=by
 refine callsTo_of_AW (fn:=Tryz.f133) Tryz.func133 rfl (by kernel_rfl) rfl ?_
 conv=>whnf
 refine⟨by kernel_rfl,?_⟩
 conv=>whnf
 refine kbi (fun h1=>?_) (fun h1=>?_)
 ·conv=>whnf
  exact bpt (.inl (by simpa using h1))
 have h1:¬ a.th=b.th:=by simpa using h1
 conv=>whnf
 refine qcase (bindI_ok a b) (fun h2=>?_) (fun h2=>?_)
 ·conv=>whnf
  exact bpt (.inr (.inl h2))
 conv=>whnf
 refine qcase (bindI_ok b a) (fun h3=>?_) (fun h3=>?_)
 ·conv=>whnf
  exact bpt (.inr (.inr (.inl h3)))
 have rest:hangI a b↔0≤rJ a∧rJ a=rJ b:=by unfold hangI;simp[h1,h2,h3]
 conv=>whnf
 refine⟨_,pD a,?_⟩
 conv=>whnf
 refine kbi (fun h4=>?_) (fun h4=>?_)
 ·have h4:0≤rJ a:=by simpa using h4
  conv=>whnf
  refine⟨_,pD a,?_⟩
  conv=>whnf
  refine⟨_,pD b,?_⟩
  conv=>whnf
  refine kbi (fun h5=>?_) (fun h5=>?_)
  ·conv=>whnf
   exact bpt (rest.2 ⟨h4,by simpa using h5⟩)
  ·conv=>whnf
   exact bpf fun e=>h5 (by simpa using (rest.1 e).2)
 ·conv=>whnf
  exact bpf fun e=>h4 (decide_eq_true (rest.1 e).1)
end Ai
namespace Ai
set_option maxRecDepth 100000
open Go Go.Proofs Cyc
def rowPk (x:RunT):List D:=[.sl (x.tk.map encInt)]
def rowTr (x:RunT):List D:=[.sl (x.tr.map encEv)]
noncomputable def rowSg (p:ProgL) (x:RunT):List D:=[.str (xX p x)]
theorem event_ok (p:ProgL) (hp:p.wf) (hg:p.goodS) (s:StL) (hi:AInv p s) (k:Nat) (hk:k<s.ths.length) (b:Int) (sl many:Bool) (d1 d2 d3:List (List D)) :
  CallsTo EE 119 [.fp (encProg p++[di b,.bool sl,.sl d1,.sl d2,.sl d3,.bool many]),agg (encSt s),i64 k] (·=agg (encEv (stepL p s k).2)):=by
 have hst:=l3Step_ok toIndexS p s k hp hk hi.si.len (runOK hg |>.small s hi.si).1 (inv_ready hg hi.si hk)
 refine callsTo_of_AW (fn:=Tryz.f119) Tryz.func119 rfl (by kernel_rfl) rfl ?_
 conv=>whnf
 refine .inr (.inl ⟨14,[],?_⟩)
 conv=>whnf
 refine⟨_,hst,?_⟩
 conv=>whnf
 refine⟨by kernel_rfl,?_⟩
 conv=>whnf
 rfl
def wkC (p:ProgL) (b:Int) (sl:Bool) (n:Nat) (many:Bool):List AV:=[i64 p.cells,i64 p.locks,i64 p.conds,.d (.sl (p.rs.map zO)),i64 b,bv sl,.ref (.n 901) 0 n,.ref (.n 902) 0 n,.ref (.n 903) 0 n,bv many]
noncomputable def wkH (p:ProgL) (b:Int) (sl:Bool) (xs:List RunT) (many:Bool):Key→Option Ob
 | .l j=>bif Nat.beq j 0 then some (.vs 81 (wkC p b sl xs.length many)) else none
 | .n j=>bif Nat.beq j 901 then some (.ds 26 1 (xs.map rowPk)) else bif Nat.beq j 902 then some (.ds 41 1 (xs.map rowTr)) else bif Nat.beq j 903 then some (.ds 9 1 (xs.map (rowSg p))) else none
 | .s _ _=>none
def lendW:Key→Bool
 | .l j=>Nat.beq j 0
 | .n j=>Nat.beq j 901 || Nat.beq j 902 || Nat.beq j 903
 | .s _ _=>false
def AtW (p:ProgL) (b:Int) (sl:Bool) (xs:List RunT) (many:Bool) (H:Key→Option Ob):Prop :=
 H (.l 0)=some (.vs 81 (wkC p b sl xs.length many))∧H (.n 901)=some (.ds 26 1 (xs.map rowPk))∧H (.n 902)=some (.ds 41 1 (xs.map rowTr))∧H (.n 903)=some (.ds 9 1 (xs.map (rowSg p)))
theorem wkH_none {p:ProgL} {b:Int} {sl:Bool} {xs:List RunT} {many:Bool}:∀ κ,lendW κ=false→wkH p b sl xs many κ=none
 | .l j,h=>by have h:Nat.beq j 0=false:=h;simp[wkH,h]
 | .n j,h=>by
  have h:(Nat.beq j 901 || Nat.beq j 902 || Nat.beq j 903)=false:=h
  simp only[Bool.or_eq_false_iff] at h
  simp[wkH,h.1.1,h.1.2,h.2]
 | .s o j,h=>rfl
theorem lend_wk {p:ProgL} {b:Int} {sl:Bool} {xs:List RunT} {many:Bool} {H:Key→Option Ob} (h:AtW p b sl xs many H):yJ lendW H=wkH p b sl xs many:=by
 obtain⟨h0,h1,h2,h3⟩:=h
 funext κ
 cases hk:lendW κ with
 |false=>rw[wkH_none κ hk,fC hk]
 |true =>
  rw[vK hk]
  cases κ with
  |l j =>
   have:=Nat.eq_of_beq_eq_true (show Nat.beq j 0=true from hk)
   subst this
   rw[h0];rfl
  |n j =>
   have hk:(Nat.beq j 901 || Nat.beq j 902 || Nat.beq j 903)=true:=hk
   simp only[Bool.or_eq_true] at hk
   rcases hk with (hk|hk)|hk
   ·have:=Nat.eq_of_beq_eq_true hk
    subst this;rw[h1];rfl
   ·have:=Nat.eq_of_beq_eq_true hk
    subst this;rw[h2];rfl
   ·have:=Nat.eq_of_beq_eq_true hk
    subst this;rw[h3];rfl
  |s o j=>cases hk
theorem io_nil {E:Env} {g:FuncId} {H0:Key→Option Ob} {Post:AV→(Key→Option Ob)→Prop} {x y:AV} (h:IOCall E g [x,y,sl []] H0 Post):IOCall E g [x,y,.d .nil] H0 Post:=by
 intro w0 A m w vs hH hl hr
 refine h w0 A m w vs hH hl fun i a v ha hv=>?_
 match i,ha with
 | 0,ha=>exact hr 0 a v ha hv
 | 1,ha=>exact hr 1 a v ha hv
 | 2,ha =>
  have ha:sl []=a:=by simpa using ha
  subst ha
  have:=hr 2 (.d .nil) v rfl hv
  cases this with
  |d _ _ hd=>cases hd;exact .d _ _ (.sl0 none 0)
 |i+3,ha=>simp at ha
end Ai
namespace Ai
set_option maxRecDepth 100000
open Go Go.Proofs
def marks (k:Int) (n:Nat):List Int:=(List.range n).map fun (j:Nat)=>k+(j:Int)
end Ai
namespace Ai
set_option maxRecDepth 100000
open Go Go.Proofs
theorem dI (els:List (List D)) (sz k off:Nat) (xs:List D):(vJ els sz k off xs).length=els.length:=by
 unfold vJ
 cases Nat.beq off 0&&Nat.beq xs.length sz <;> simp
theorem tF {x:D}:∀ (c:List D) (off:Nat),off<c.length→(zW c off [x]).length=c.length
 | [],off,h=>by simp at h
 |c::cs,0,h=>by simp[zW]
 |c::cs,off+1,h=>by
  have:=tF (x:=x) cs off (by simpa using h)
  simp[zW,this]
theorem sM {els:List (List D)} {k off:Nat} {x:D} (h:∀ c∈els,c.length=4) (ho:off<4):∀ c∈vJ els 4 k off [x],c.length=4:=by
 intro c hc
 unfold vJ at hc
 rw[show Nat.beq ([x]:List D).length 4=false from rfl,Bool.and_false] at hc
 obtain⟨i,hi,rfl⟩:=List.mem_iff_getElem.1 hc
 have hil:i<els.length:=by simpa using hi
 have h4:=h _ (List.getElem_mem hil)
 simp only[cond_false,List.getElem_modify]
 split
 ·rw[tF _ _ (by omega)];exact h4
 ·exact h4
theorem markOpS_ok (els:List (List D)) (k:Int) (n:Nat) (hn:n=els.length) (hx:n≤1048576) (h4:∀ c∈els,c.length=4) (h0:0≤k) (h1:k≤1073741824) (H0:Key→Option Ob) (hH:H0 (.n 50)=some (.ds 102 4 els)) :
  IOCall EE 85 [.ref (.n 50) 0 n,i64 k] H0 (fun r H1=>r=i64 (k+4*n)∧∀ κ,H1 κ=none):=by
 refine io_of_AW (fn:=Tryz.f85) (c:=Tryz.f85.body.getD .skip) Tryz.func85 rfl (by kernel_rfl) rfl ?_
 have hat:At [(0,.ref (.n 50) 0 n),(1,i64 k)] [(.n 50,.ds 102 4 els)] [] ⟨fun i=>[AV.ref (.n 50) 0 n,i64 k].getD i .junk,H0⟩:=⟨⟨rfl,rfl,trivial⟩,⟨hH,trivial⟩,trivial⟩
 obtain⟨τ,H,hf⟩:=hat.form
 rw[hf]
 conv=>whnf
 refine yV (fun x:Nat × List (List D)=>[(0,.ref (.n 50) 0 n),(1,i64 (k+4*(x.1:Int))),(5,i64 x.1)]) (fun x=>[(.n 50,.ds 102 4 x.2)]) (fun x=>n - x.1) (fun x=>x.1≤n∧x.2.length=n∧∀ c∈x.2,c.length=4) (0,els)
  Weak.refl ⟨rfl,?_,rfl,trivial⟩ ⟨rfl,trivial⟩ ⟨Nat.zero_le _,hn.symm,h4⟩ ?_
 ·show i64 k=i64 (k+4*((0:Nat):Int))
  rw[show k+4*((0:Nat):Int)=k by omega]
 rintro⟨i,E⟩ τ H ⟨hi,hE,hE4⟩
 have hi:i≤n:=hi
 have hE:E.length=n:=hE
 have hE4:∀ c∈E,c.length=4:=hE4
 conv=>whnf
 refine kbi (fun h=>?_) (fun h=>?_)
 ·have hlt:i<n:=by simpa using h
  conv=>whnf
  refine⟨⟨by show 0≤(i:Int);omega,by show(i:Int)<n;omega⟩,?_⟩
  conv=>whnf
  refine⟨⟨by show 0≤(i:Int);omega,by show(i:Int)<n;omega⟩,?_⟩
  conv=>whnf
  refine⟨⟨by show 0≤(i:Int);omega,by show(i:Int)<n;omega⟩,?_⟩
  conv=>whnf
  refine⟨⟨by show 0≤(i:Int);omega,by show(i:Int)<n;omega⟩,?_⟩
  conv=>whnf
  refine⟨(i+1,vJ (vJ (vJ (vJ E 4 (0+(i:Int).toNat) (0+0) [.int .i64 (k+4*(i:Int))]) 4 (0+(i:Int).toNat) (0+1) [.int .i64 (IntKind.i64.wrap (k+4*(i:Int)+1))]) 4 (0+(i:Int).toNat) (0+2) [.int .i64 (IntKind.i64.wrap (IntKind.i64.wrap (k+4*(i:Int)+1)+1))]) 4 (0+(i:Int).toNat) (0+3) [.flt (FloatKind.f64.nearest (IntKind.i64.wrap (IntKind.i64.wrap (IntKind.i64.wrap (k+4*(i:Int)+1)+1)+1)))]),⟨by show i+1≤n;omega,?_,?_⟩,by show n - (i+1)<n - i;omega,⟨rfl,?_,?_,trivial⟩,⟨rfl,trivial⟩⟩
  ·dsimp only
   rw[dI,dI,dI,dI,hE]
  ·dsimp only
   refine sM (sM (sM (sM hE4 ?_) ?_) ?_) ?_ <;> omega
  ·show AV.d (.int .i64 (IntKind.i64.wrap (IntKind.i64.wrap (IntKind.i64.wrap (IntKind.i64.wrap ((k+4*(i:Int))+1)+1)+1)+1)))=i64 (k+4*((i+1:Nat):Int))
   rw[zE (n:=k+4*(i:Int)+1) (by omega) (by omega),zE (n:=k+4*(i:Int)+1+1) (by omega) (by omega),zE (n:=k+4*(i:Int)+1+1+1) (by omega) (by omega),zE (n:=k+4*(i:Int)+1+1+1+1) (by omega) (by omega)]
   exact congrArg i64 (by omega)
  ·show AV.d (.int .i64 (IntKind.i64.wrap ((i:Int)+1)))=i64 ((i+1:Nat):Int)
   rw[zE (by omega) (by omega)]
   rfl
 ·conv=>whnf
  have hkk:i=n:=by
   have:¬ i<n:=by simpa using h
   omega
  subst hkk
  refine⟨_,Weak.refl,?_⟩
  conv=>whnf
  exact⟨fun _=>false,rfl,fun κ=>rfl⟩
end Ai
namespace Ai
set_option maxRecDepth 100000
open Go Go.Proofs
theorem io_congr {g:FuncId} {xs ys:List AV} {H0:Key→Option Ob} {Post:AV→(Key→Option Ob)→Prop} (h:IOCall EE g xs H0 Post) (e:ys=xs):IOCall EE g ys H0 Post:=by rw[e];exact h
def sF (subs:List (List (List D))) (i j:Nat):List AV:=if j<i then [.junk] else [.ref (.s 903 j) 0 (subs.getD j []).length]
def wN (subs:List (List (List D))) (i:Nat):List (List AV):=(List.range subs.length).map (sF subs i)
def uY (subs:List (List (List D))) (i j:Nat):Option Ob:=if j<i then none else (subs[j]?).map (.ds 102 4)
theorem iA {subs:List (List (List D))} {i j:Nat} (h:j<subs.length):(wN subs i)[j]?=some (sF subs i j):=by simp[wN,h]
theorem nU {subs:List (List (List D))} {i i':Nat} (f:List AV→List AV) (h:∀ j,f (sF subs i j)=sF subs i' j):(wN subs i).map f=wN subs i':=by
 unfold wN
 rw[List.map_map]
 exact List.map_congr_left fun j _=>h j
theorem qY (f:Key→Key) (subs:List (List (List D))) (i j:Nat):(uY subs i j).map (renO f)=uY subs i j:=by
 unfold uY
 split
 ·rfl
 ·cases subs[j]? <;> rfl
theorem qX (p:Key→Bool) (subs:List (List (List D))) (i j:Nat):(uY subs i j).map (scrPO p)=uY subs i j:=by
 unfold uY
 split
 ·rfl
 ·cases subs[j]? <;> rfl
def tot (subs:List (List (List D))) (i:Nat):Nat:=((subs.take i).map List.length).sum
theorem tot_succ {subs:List (List (List D))} {i:Nat} (h:i<subs.length):tot subs (i+1)=tot subs i+subs[i].length:=by
 unfold tot
 rw[List.take_succ_eq_append_getElem h,List.map_append,List.sum_append]
 simp
theorem tot_le (subs:List (List (List D))) (i:Nat):tot subs i≤tot subs subs.length:=by
 unfold tot
 rw[List.take_length]
 have:∀ (l:List Nat) (i:Nat),(l.take i).sum≤l.sum:=by
  intro l
  induction l with
  |nil=>simp
  |cons x xs ih =>
   intro i
   cases i with
   |zero=>simp
   |succ i=>simp only[List.take_succ_cons,List.sum_cons];have:=ih i;omega
 rw[List.map_take]
 exact this _ i
theorem o7 (subs:List (List (List D))) (k:Int) (hx:subs.length≤1048576) (hs:∀ q∈subs,∀ c∈q,c.length=4) (ht:tot subs subs.length≤1048576) (h0:0≤k) (h1:k≤1048576) (H0:Key→Option Ob)
  (hH:H0 (.n 903)=some (.rs 99 1 (wN subs 0))) (hF:∀ j,H0 (.s 903 j)=uY subs 0 j) :
  IOCall EE 45 [.dref (.n 903) subs.length,i64 k] H0 (fun r H1=>r=i64 (k+4*tot subs subs.length)∧∀ κ,H1 κ=none):=by
 refine io_of_AW (fn:=Tryz.f45) (c:=Tryz.f45.body.getD .skip) Tryz.func45 rfl (by kernel_rfl) rfl ?_
 have hat:At [(0,.dref (.n 903) subs.length),(1,i64 k)] [(.n 903,.rs 99 1 (wN subs 0))] [(903,uY subs 0)] ⟨fun i=>[AV.dref (.n 903) subs.length,i64 k].getD i .junk,H0⟩:=⟨⟨rfl,rfl,trivial⟩,⟨hH,trivial⟩,⟨hF,trivial⟩⟩
 obtain⟨τ,H,hf⟩:=hat.form
 rw[hf]
 conv=>whnf
 refine aloopF (fun i:Nat=>[(0,.dref (.n 903) subs.length),(1,i64 (k+4*(tot subs i:Int))),(5,i64 i)]) (fun i=>[(.n 903,.rs 99 1 (wN subs i))]) (fun i=>[(903,uY subs i)]) (fun i=>subs.length - i) (fun i=>i≤subs.length) 0
  Weak.refl ⟨rfl,?_,rfl,trivial⟩ ⟨rfl,trivial⟩ ⟨fun j=>?_,trivial⟩ (Nat.zero_le _) ?_
 ·show i64 k=i64 (k+4*((tot subs 0:Nat):Int))
  rw[show k+4*((tot subs 0:Nat):Int)=k by simp[tot]]
 ·rfl
 intro i τ H hi
 have hi:i≤subs.length:=hi
 have hti:=tot_le subs i
 conv=>whnf
 refine kbi (fun h=>?_) (fun h=>?_)
 ·have hlt:i<subs.length:=by simpa using h
  conv=>whnf
  refine⟨⟨by omega,by omega⟩,?_⟩
  conv=>whnf
  have hgi:subs.getD i []=subs[i]:=by simp[List.getD_eq_getElem?_getD,hlt]
  have hrow:sF subs i i=[.ref (.s 903 i) 0 subs[i].length]:=by unfold sF;rw[if_neg (by omega),hgi]
  have hfi:uY subs i i=some (.ds 102 4 subs[i]):=by unfold uY;rw[if_neg (by omega),List.getElem?_eq_getElem hlt];rfl
  refine⟨[.ref (.s 903 i) 0 subs[i].length],⟨?_,Nat.le_refl _⟩,?_⟩
  ·rw[Int.toNat_natCast,iA hlt,hrow]
  conv=>whnf
  have hsw:swp (.n 50) (.s 903 i) (.s 903 i)=.n 50:=by simp[swp,Key.beq]
  have hts:=tot_succ hlt
  have hti2:=tot_le subs (i+1)
  split
  case' h_1=>conv=>whnf
  case' h_1=>refine .inr (.inr (.inr (.inl ?_)))
  case' h_2=>refine .inr (.inr (.inl ?_))
  all_goals
   refine⟨_,85,[],jR 50 903 i,rfl,999,0,isK (.n 50),(fun r H1=>r=i64 ((k+4*(tot subs i:Int))+4*(subs[i].length:Nat))∧∀ κ,H1 κ=none),?_,rfl,?_⟩
   ·refine io_congr (markOpS_ok subs[i] (k+4*(tot subs i:Int)) subs[i].length rfl (by omega) (hs _ (List.getElem_mem hlt)) (by omega) (by omega) _ ?_) ?_
    ·show Option.map _ (Option.map _ (Option.map _ (uY subs i i)))=_
     rw[hfi]
     rfl
    ·show[scrP _ (.ref (swp (.n 999) (.l 0) (swp (.n 50) (.s 903 i) (.s 903 i))) 0 subs[i].length),_]=_
     rw[hsw]
     rfl
   ·rintro r H1 ⟨rfl,q⟩
    refine⟨fun κ _=>q κ,fun n hn=>(by cases hn),?_⟩
    conv=>whnf
    have hne:∀ j,j≠i→swp (.n 50) (.s 903 i) (.s 903 j)=.s 903 j:=fun j hj=>by simp[swp,Key.beq,nbeq_ne hj]
    refine⟨i+1,_,jR 50 903 i,by show i+1≤subs.length;omega,by show subs.length - (i+1)<subs.length - i;omega,⟨rfl,?_,?_,trivial⟩,⟨?_,trivial⟩,⟨fun j=>?_,trivial⟩⟩
    ·show i64 (k+4*((tot subs i:Nat):Int)+4*((subs[i].length:Nat):Int))=i64 (k+4*((tot subs (i+1):Nat):Int))
     rw[hts]
     exact congrArg i64 (by omega)
    ·show AV.d (.int .i64 (IntKind.i64.wrap ((i:Int)+1)))=i64 ((i+1:Nat):Int)
     rw[zE (by omega) (by omega)]
     rfl
    ·show some (Ob.rs 99 1 ((((((wN subs i).map (renL (swp (.n 50) (.s 903 i)))).map (renL (swp (.n 999) (.l 0)))).map (scrPL (qW (isK (.n 50))))).map (renL (swp (.n 999) (.l 0)))).map (renL (swp (.n 50) (.s 903 i)))))=_
     rw[List.map_map,List.map_map,List.map_map,List.map_map]
     refine congrArg (fun x=>some (Ob.rs 99 1 x)) (nU _ fun j=>?_)
     by_cases hj:j=i
     ·subst hj
      rw[hrow]
      unfold sF
      rw[if_pos (by omega)]
      show renL _ (renL _ (scrPL _ (renL _ [AV.ref (swp (.n 50) (.s 903 j) (.s 903 j)) 0 _])))=_
      rw[hsw]
      rfl
     ·unfold sF
      by_cases hji:j<i
      ·rw[if_pos hji,if_pos (by omega)]
       rfl
      ·rw[if_neg hji,if_neg (by omega)]
       show renL _ (renL _ (scrPL _ (renL _ [AV.ref (swp (.n 50) (.s 903 i) (.s 903 j)) 0 _])))=_
       rw[hne j hj]
       show[AV.ref (swp (.n 50) (.s 903 i) (.s 903 j)) 0 _]=_
       rw[hne j hj]
    ·show(St.H _ (swp (.n 50) (.s 903 i) (.s 903 j))).map _=_
     by_cases hj:j=i
     ·subst hj
      rw[hsw]
      show Option.map _ (Option.map _ (H1 (.n 50)))=_
      rw[q]
      unfold uY
      rw[if_pos (by omega)]
      rfl
     ·rw[hne j hj]
      show Option.map _ (Option.map _ (Option.map _ (Option.map _ (Option.map _ (St.H _ (swp (.n 50) (.s 903 i) (.s 903 j)))))))=_
      rw[hne j hj]
      show Option.map _ (Option.map _ (Option.map _ (Option.map _ (Option.map _ (uY subs i j)))))=_
      rw[qY,qY,qX,qY,qY]
      unfold uY
      by_cases hji:j<i
      ·rw[if_pos hji,if_pos (by omega)]
      ·rw[if_neg hji,if_neg (by omega)]
 ·conv=>whnf
  have hkk:i=subs.length:=by
   have:¬ i<subs.length:=by simpa using h
   omega
  subst hkk
  refine⟨_,Weak.refl,?_⟩
  conv=>whnf
  exact⟨fun _=>false,rfl,fun κ=>rfl⟩
end Ai
namespace Ai
set_option maxRecDepth 100000
open Go Go.Proofs Cyc
def keepS (p:ProgL) (s:StL) (u:Nat) (e:Ev):Prop:=¬ hangE (stepL p s u).2 e
theorem args3 {T T' K K' O O':List (List D)} {x:AV} {a b c d:D} (h1:T=T') (h2:K=K') (h3:O=O'):[x,AV.agg [i64 0,sl T,sl K,.d a,.d b,.d c,.d d],sl O]=[x,AV.agg [i64 0,sl T',sl K',.d a,.d b,.d c,.d d],sl O']:=by rw[h1,h2,h3]
noncomputable def wkO (p:ProgL) (b:Int) (sl:Bool) (xs:List RunT) (many:Bool):List (Key × Ob):=[(.l 0,.vs 81 (wkC p b sl xs.length many)),(.n 901,.ds 26 1 (xs.map rowPk)),(.n 902,.ds 41 1 (xs.map rowTr)),(.n 903,.ds 9 1 (xs.map (rowSg p)))]
noncomputable def wkO2 (p:ProgL) (b:Int) (sl:Bool) (r:RunT) (X:XS):List (Key × Ob):=[(.l 0,.vs 81 (wkC p b sl X.acc.length (!X.ok))),(.n 901,.ds 26 1 (X.acc.map rowPk)),(.n 902,.ds 41 1 (X.acc.map rowTr)),(.n 903,.ds 9 1 (X.acc.map (rowSg p))),(.n 4,.vs 46 ((encRun 0 r.tr r.tk r.s).map .d)),(.n 61,.ds 3 1 (X.tried.map encN))]
noncomputable def wkO3 (p:ProgL) (b:Int) (sl:Bool) (r:RunT) (X:XS) (st:StL × Ev) (on L:List Nat):List (Key × Ob):=[(.l 0,.vs 81 (wkC p b sl X.acc.length (!X.ok))),(.n 901,.ds 26 1 (X.acc.map rowPk)),(.n 902,.ds 41 1 (X.acc.map rowTr)),(.n 903,.ds 9 1 (X.acc.map (rowSg p))),(.n 4,.vs 46 ((encRun 0 r.tr r.tk r.s).map .d)),(.n 61,.ds 3 1 (X.tried.map encN)),
 (.n 9,.vs 44 ((encSt st.1).map .d)),(.n 10,.vs 107 ((encEv st.2).map .d)),(.n 62,.ds 3 1 (on.map encN)),(.n 127,.ds 3 1 (L.map encN))]
theorem go1_ok (p : ProgL) (hp : p.wf) (hg : p.goodS) (hv : p.flt) (b : Int) (hb : InR b 0 1000) (slp : Bool) : ∀ (n : Nat) (r : RunT) (c0 : Int) (sleep : List Nat) (xs : List RunT), XR p b r → b.toNat + 1 - r.tr.length = n → xs.length ≤ 400 → sleep.length ≤ 5 * r.tr.length → (∀ u ∈ sleep, u < r.s.ths.length) →
    ∀ H0, AtW p b slp xs false H0 → IOCall EE 77 [.ptr (.l 0) 0, agg (encRun c0 r.tr r.tk r.s), sl (sleep.map encN)] H0 (fun q H1 => q = .tup [] ∧ H1 = wkH p b slp (xgo p b slp (keepS p) n r sleep xs).1 (!(xgo p b slp (keepS p) n r sleep xs).2))
  | 0, r, c0, sleep, xs, hr, hn, hx, hs, hu, H0, hH => by
    have := hr.le
    omega
  | n + 1, r, c0, sleep, xs, hr, hn, hx, hs, hu, H0, hH => by
    have hok := runOK hg
    have hsm := hok.small r.s hr.inv.si
    have hcode : CallsTo EE 99 [agg (encProg p), agg (encSt r.s), i64 ((r.tr.map encEv).length : Nat), i64 b] (· = i64 (codeL p r.s r.tr.length b)) := by
      rw [List.length_map]; exact l4Code_ok toIndexS idxRange p r.s r.tr.length b hp hsm.1 (hok.seen r.s hr.inv.si)
    have hen := l3Enabled_ok toIndexS idxRange p r.s hp hsm.1 (hok.seen r.s hr.inv.si)
    have hle := hr.le
    have hlen := hr.len
    have hb2 := hb.2
    rw [xgo]
    refine io_of_AW (fn := Tryz.f77) (c := Tryz.f77.body.getD .skip) Tryz.func77 rfl (by kernel_rfl) rfl ?_
    have hat : At [(0, .ptr (.l 0) 0), (1, agg (encRun c0 r.tr r.tk r.s)), (2, sl (sleep.map encN))] (wkO p b slp xs false) [] ⟨fun i => [AV.ptr (.l 0) 0, agg (encRun c0 r.tr r.tk r.s), sl (sleep.map encN)].getD i .junk, H0⟩ :=
      ⟨⟨rfl, rfl, rfl, trivial⟩, ⟨hH.1, hH.2.1, hH.2.2.1, hH.2.2.2, trivial⟩, trivial⟩
    obtain ⟨τ, H, hf⟩ := hat.form
    rw [hf]
    clear hat hf hH
    conv => whnf
    refine .inr (.inl ⟨14, [], ?_⟩)
    conv => whnf
    refine ⟨_, hcode, ?_⟩
    conv => whnf
    refine ⟨by kernel_rfl, ?_⟩
    conv => whnf
    refine kbi (fun hc => ?_) (fun hc => ?_)
    · have hc : 0 < codeL p r.s r.tr.length b := by simpa using hc
      rw [if_pos hc]
      have hX := hr.leaf hc
      have hsg := l4Sign_ok p hp hg hv b _ hX.fin (by omega)
      have hown : CallsTo EE 116 [sl (r.tk.map encInt)] (· = .uq 3 1 (r.tk.map encInt)) := l1Own_ok r.tk (by omega)
      conv => whnf
      refine .inr (.inr (.inr ⟨[0], by kernel_rfl, 9, [], ?_⟩))
      conv => whnf
      refine ⟨_, hown, ?_⟩
      refine .inl ?_
      conv => whnf
      refine ⟨by kernel_rfl, ?_⟩
      conv => whnf
      refine ⟨⟨rfl, by show (xs.length + 1) * 24 ≤ _; omega, by show xs.length + 1 ≤ _; omega⟩, ?_⟩
      conv => whnf
      refine .inr (.inr (.inr ⟨[0], by kernel_rfl, 10, [], ?_⟩))
      conv => whnf
      refine ⟨⟨by simp [encEv], by simp; omega, by simp; omega⟩, ?_⟩
      conv => whnf
      refine ⟨by kernel_rfl, ?_⟩
      conv => whnf
      refine ⟨_, (weak_frz (isK (.n 49))).trans (weak_cvt (.n 53) (e := 41) (sz := 1) (els := [[.sl (r.tr.map encEv)]]) ?_), ?_⟩
      · show some (Ob.rs 41 1 [[AV.d (.sl (((([] : List (List D)).take 0 ++ r.tr.map encEv).drop 0).take (0 + (r.tr.map encEv).length)))]]) = _
        simp [List.take_of_length_le]
      conv => whnf
      refine ⟨⟨rfl, by show (xs.length + 1) * 24 ≤ _; omega, by show xs.length + 1 ≤ _; omega⟩, ?_⟩
      conv => whnf
      refine .inr (.inr (.inr ⟨[0], by kernel_rfl, 12, [], ?_⟩))
      conv => whnf
      refine ⟨_, hsg, ?_⟩
      conv => whnf
      refine ⟨by kernel_rfl, ?_⟩
      conv => whnf
      refine ⟨⟨rfl, by show (xs.length + 1) * 16 ≤ _; omega, by show xs.length + 1 ≤ _; omega⟩, ?_⟩
      conv => whnf
      have fin : ∀ (S : Key → Option Ob) (w : Bool), w = !decide (xs.length + 1 ≤ 400) → S (.l 0) = some (.vs 81 (wkC p b slp (xs.length + 1) w)) → S (.n 901) = some (.ds 26 1 ((xs.map rowPk).take xs.length ++ [[.sl (r.tk.map encInt)]])) →
          S (.n 902) = some (.ds 41 1 ((xs.map rowTr).take xs.length ++ [[.sl (r.tr.map encEv)]])) → S (.n 903) = some (.ds 9 1 ((xs.map (rowSg p)).take xs.length ++ [rowSg p (leaf p b (codeL p r.s r.tr.length b) r)])) → AtW p b slp (xs ++ [leaf p b (codeL p r.s r.tr.length b) r]) (!decide (xs.length + 1 ≤ 400)) S := by
        intro S w hw h0 h1 h2 h3
        rw [List.take_of_length_le (by simp)] at h1 h2 h3
        refine ⟨by rw [h0, List.length_append, hw]; rfl, by rw [h1, List.map_append]; rfl, by rw [h2, List.map_append]; rfl, by rw [h3, List.map_append]; rfl⟩
      refine kbi (fun h4 => ?_) (fun h4 => ?_)
      · have h4 : ((xs.length + 1 : Nat) : Int) > 400 := of_decide_eq_true h4
        conv => whnf
        refine ⟨_, Weak.refl, ?_⟩
        conv => whnf
        refine ⟨lendW, rfl, lend_wk (fin _ true (by rw [decide_eq_false (by omega)]; rfl) rfl rfl rfl rfl)⟩
      · have h4 : ¬ ((xs.length + 1 : Nat) : Int) > 400 := fun e => h4 (decide_eq_true e)
        conv => whnf
        refine ⟨_, Weak.refl, ?_⟩
        conv => whnf
        refine ⟨lendW, rfl, lend_wk (fin _ false (by rw [decide_eq_true (by omega)]; rfl) rfl rfl rfl rfl)⟩
    · have hc : ¬ 0 < codeL p r.s r.tr.length b := by simpa using hc
      rw [if_neg hc]
      have h5 : (enabledL p r.s).length ≤ 5 := Nat.le_trans (enabledTo_le) hr.inv.si.len
      have hcc : codeL p r.s r.tr.length b = 0 := by have := codeL_nn p r.s r.tr.length b; omega
      have hlb := (en_ne hc).2
      conv => whnf
      refine .inr (.inl ⟨9, [], ?_⟩)
      conv => whnf
      refine ⟨_, hen, ?_⟩
      refine .inl ?_
      conv => whnf
      refine ⟨by kernel_rfl, ?_⟩
      conv => whnf
      refine aloopF (fun x : Nat × XS => [(0, .ptr (.l 0) 0), (2, sl (sleep.map encN)), (4, .ptr (.n 4) 0), (6, .ref (.n 61) 0 x.2.tried.length), (93, sl ((enabledL p r.s).map encN)), (94, i64 ((enabledL p r.s).map encN).length), (95, i64 x.1)])
        (fun x => wkO2 p b slp r x.2)
        (fun _ => []) (fun x => (enabledL p r.s).length - x.1) (fun x => x.1 ≤ (enabledL p r.s).length ∧ xloop p slp (keepS p) (xgo p b slp (keepS p) n) r sleep xs x.1 = x.2) (0, ⟨xs, [], true⟩) (weak_nil 6 (.n 61) 3 1 rfl) ⟨rfl, rfl, rfl, rfl, rfl, rfl, rfl, trivial⟩ ⟨rfl, rfl, rfl, rfl, ?_, rfl, trivial⟩ trivial ⟨Nat.zero_le _, rfl⟩ ?_
      · show some (Ob.vs 46 [i64 (codeL p r.s r.tr.length b), _, _, _, _, _, _]) = some (Ob.vs 46 [i64 0, _, _, _, _, _, _])
        rw [hcc]; rfl
      rintro ⟨k, ⟨acc, tried, okk⟩⟩ τ H ⟨hk, hXe⟩
      have hk : k ≤ (enabledL p r.s).length := hk
      have hXe : xloop p slp (keepS p) (xgo p b slp (keepS p) n) r sleep xs k = ⟨acc, tried, okk⟩ := hXe
      conv => whnf
      refine kbi (fun h => ?_) (fun h => ?_)
      · have hlt : k < (enabledL p r.s).length := by simpa using h
        have hXl := xloop_len (p := p) (b := b) (sl := slp) (K := keepS p) (n := n) (r := r) (sleep := sleep) hx k
        have hXt := xloop_tried (p := p) (sl := slp) (K := keepS p) (f := xgo p b slp (keepS p) n) (r := r) (sleep := sleep) (acc := xs) k hk
        rw [hXe] at hXl hXt
        have hnx := xloop.eq_2 p slp (keepS p) (xgo p b slp (keepS p) n) r sleep xs k
        rw [hXe] at hnx
        have hm := XR.mem (b := b) hlt
        have hwl := en_lt hm
        have hst := l3Step_ok toIndexS p r.s (enAt p r k) hp hwl hsm.2 hsm.1 (inv_ready hg hr.inv.si hwl)
        have hnext := hr.step hg hv hc hlt
        have hown : CallsTo EE 116 [sl (sleep.map encN)] (· = .uq 3 1 (sleep.map encN)) := by
          rw [natI_enc]; exact l1Own_ok (natI sleep) (by simp [natI]; omega)
        have hhas : CallsTo EE 117 [sl (sleep.map encN), i64 (enAt p r k : Nat)] (· = bp (((enAt p r k : Nat) : Int) ∈ natI sleep)) := by
          rw [natI_enc]; exact l1Has_ok (natI sleep) _ (by simp [natI]; omega)
        have hmem : ((enAt p r k : Nat) : Int) ∈ natI sleep ↔ enAt p r k ∈ sleep := by
          simp only [natI, List.mem_map]
          exact ⟨fun ⟨a, ha, e⟩ => by have : a = enAt p r k := by omega
                                      subst this; exact ha, fun h => ⟨_, h, rfl⟩⟩
        have hownT : CallsTo EE 116 [sl (r.tk.map encInt)] (· = .uq 3 1 (r.tk.map encInt)) := l1Own_ok r.tk (by omega)
        have hL : ((sleep.map encN).take (sleep.map encN).length ++ ((tried.map encN).drop 0).take tried.length) = (sleep ++ tried).map encN := by
          rw [List.take_length, List.drop_zero, List.take_of_length_le (by simp), List.map_append]
        have hLl : (sleep.map encN).length + (((tried.map encN).drop 0).take tried.length).length = (sleep ++ tried).length := by simp
        have hLu : ∀ u ∈ sleep ++ tried, u < r.s.ths.length := fun u hu' => (List.mem_append.1 hu').elim (hu u) fun h => en_lt (hXt.2 u h)
        have hLb : (sleep ++ tried).length ≤ 5 * r.tr.length + 5 := by have : tried.length ≤ k := hXt.1; simp; omega
        conv => whnf
        refine ⟨encN (enAt p r k), ⟨by omega, en_get hlt, rfl⟩, ?_⟩
        cases okk with
        | false =>
          rw [if_pos (.inl rfl)] at hnx
          conv => whnf
          refine ⟨(k + 1, ⟨acc, tried, false⟩), _, Weak.refl, ⟨hlt, hnx⟩, by show (enabledL p r.s).length - (k + 1) < (enabledL p r.s).length - k; omega, ⟨rfl, rfl, rfl, rfl, rfl, rfl, next_i64 hlt (by omega), trivial⟩, ⟨rfl, rfl, rfl, rfl, rfl, rfl, trivial⟩, trivial⟩
        | true =>
          have ha4 : acc.length ≤ 400 := hXl rfl
          clear hXl
          obtain ⟨sq, hsq⟩ : ∃ sq : Bool, sq = slp := ⟨slp, rfl⟩
          cases slp
          case' true =>
            conv => whnf
            refine ocase hhas (fun hin => ?_) (fun hin => ?_)
          case true.refine_1 =>
            rw [if_pos (.inr ⟨rfl, hmem.1 hin⟩)] at hnx
            conv => whnf
            refine ⟨(k + 1, ⟨acc, tried, true⟩), _, Weak.refl, ⟨hlt, hnx⟩, by show (enabledL p r.s).length - (k + 1) < (enabledL p r.s).length - k; omega, ⟨rfl, rfl, rfl, rfl, rfl, rfl, next_i64 hlt (by omega), trivial⟩, ⟨rfl, rfl, rfl, rfl, rfl, rfl, trivial⟩, trivial⟩
          case' true.refine_2 => rw [if_neg (by rintro (e | ⟨_, e⟩); exact absurd e (by simp); exact hin (hmem.2 e))] at hnx
          case' false => rw [if_neg (by rintro (e | ⟨e, _⟩); exact absurd e (by simp); exact absurd e (by simp))] at hnx
          all_goals
            conv => whnf
            refine .inr (.inl ⟨15, [], ?_⟩)
            conv => whnf
            refine ⟨_, hst, ?_⟩
            conv => whnf
            refine ⟨by kernel_rfl, ?_⟩
            conv => whnf
            refine ⟨_, hown, ?_⟩
            rintro q rfl
            refine .inr ⟨_, rfl, ?_⟩
            conv => whnf
            refine ⟨⟨by rw [List.all_eq_true]; intro c hc'; obtain ⟨y, _, rfl⟩ := List.mem_map.1 (List.mem_of_mem_drop (List.mem_of_mem_take hc')); rfl, by show _ * 8 ≤ _; rw [hLl]; omega, by rw [hLl]; omega⟩, ?_⟩
            conv => whnf
            generalize hLe : sleep ++ tried = L at *
            refine aloopF (fun j : Nat => [(0, .ptr (.l 0) 0), (2, sl (sleep.map encN)), (4, .ptr (.n 4) 0), (6, .ref (.n 61) 0 tried.length), (7, i64 k), (8, i64 (enAt p r k : Nat)), (9, .ptr (.n 9) 0), (10, .ptr (.n 10) 0), (11, .ref (.n 62) 0 (keptBy (keepS p) r.s (L.take j) (stepL p r.s (enAt p r k)).2).length), (93, sl ((enabledL p r.s).map encN)), (94, i64 ((enabledL p r.s).map encN).length), (95, i64 k), (129, .ref (.n 127) 0 L.length), (130, i64 L.length), (131, i64 j)])
              (fun j => wkO3 p b sq r ⟨acc, tried, true⟩ (stepL p r.s (enAt p r k)) (keptBy (keepS p) r.s (L.take j) (stepL p r.s (enAt p r k)).2) L)
              (fun _ => []) (fun j => L.length - j) (fun j => j ≤ L.length) 0 (weak_nil 11 (.n 62) 3 1 rfl) ⟨rfl, rfl, rfl, rfl, rfl, rfl, rfl, rfl, rfl, rfl, rfl, rfl, ?_, ?_, rfl, trivial⟩ ⟨by rw [hsq]; rfl, rfl, rfl, rfl, rfl, rfl, rfl, rfl, rfl, ?_, trivial⟩ trivial (Nat.zero_le _) ?_
            · exact congrArg (AV.ref (.n 127) 0) hLl
            · exact congrArg (fun x : Nat => i64 (x : Int)) hLl
            · exact congrArg (fun x => some (Ob.ds 3 1 x)) hL
            intro j τ H hj
            have hj : j ≤ L.length := hj
            conv => whnf
            refine kbi (fun h => ?_) (fun h => ?_)
            · have hjl : j < L.length := by have := of_decide_eq_true h; omega
              have hhg := hangS_ok (stepL p r.s L[j]).2 (stepL p r.s (enAt p r k)).2
              have hjt : L.take (j + 1) = L.take j ++ [L[j]] := List.take_succ_eq_append_getElem hjl
              have hkj : keptBy (keepS p) r.s (L.take (j + 1)) (stepL p r.s (enAt p r k)).2 = keptBy (keepS p) r.s (L.take j) (stepL p r.s (enAt p r k)).2 ++ keptBy (keepS p) r.s [L[j]] (stepL p r.s (enAt p r k)).2 := by
                rw [hjt]; unfold keptBy; rw [List.filter_append]
              have hkl : (keptBy (keepS p) r.s (L.take j) (stepL p r.s (enAt p r k)).2).length ≤ j := Nat.le_trans (List.length_filter_le _ _) (by simp; omega)
              have hev := event_ok p hp hg r.s hr.inv L[j] (hLu _ (List.getElem_mem hjl)) b sq
              conv => whnf
              refine ⟨⟨by omega, by omega⟩, ?_⟩
              conv => whnf
              refine ⟨encN L[j], ⟨by simp [hjl], Nat.le_refl _⟩, ?_⟩
              conv => whnf
              refine ⟨by kernel_rfl, ?_⟩
              conv => whnf
              refine ⟨_, hev _ _ _ _, fun c hc' => ?_, ?_⟩
              · obtain ⟨y, hy, rfl⟩ := List.mem_map.1 hc'
                simp only [encEv, List.mem_cons, List.not_mem_nil, or_false] at hy
                rcases hy with rfl | rfl | rfl | rfl | rfl <;> exact ⟨_, rfl, rfl⟩
              conv => whnf
              refine qcase hhg (fun hh => ?_) (fun hh => ?_)
              · have hkn : keptBy (keepS p) r.s [L[j]] (stepL p r.s (enAt p r k)).2 = [] := by simp [keptBy, keepS, hh]
                rw [hkn, List.append_nil] at hkj
                conv => whnf
                refine ⟨j + 1, _, Weak.refl, hjl, by show L.length - (j + 1) < L.length - j; omega, ⟨rfl, rfl, rfl, rfl, rfl, rfl, rfl, rfl, ?_, rfl, rfl, rfl, rfl, rfl, next_i64 hjl (by omega), trivial⟩, ⟨rfl, rfl, rfl, rfl, rfl, rfl, rfl, rfl, ?_, rfl, trivial⟩, trivial⟩
                · show AV.ref (.n 62) 0 (keptBy (keepS p) r.s (L.take j) _).length = .ref (.n 62) 0 (keptBy (keepS p) r.s (L.take (j + 1)) _).length
                  rw [hkj]
                · show some (Ob.ds 3 1 ((keptBy (keepS p) r.s (L.take j) _).map encN)) = some (Ob.ds 3 1 ((keptBy (keepS p) r.s (L.take (j + 1)) _).map encN))
                  rw [hkj]
              · have hkn : keptBy (keepS p) r.s [L[j]] (stepL p r.s (enAt p r k)).2 = [L[j]] := by simp [keptBy, keepS, hh]
                rw [hkn] at hkj
                conv => whnf
                refine ⟨⟨rfl, by show (_ + 1) * 8 ≤ _; omega, by show _ + 1 ≤ _; omega⟩, ?_⟩
                conv => whnf
                refine ⟨j + 1, _, Weak.refl, hjl, by show L.length - (j + 1) < L.length - j; omega, ⟨rfl, rfl, rfl, rfl, rfl, rfl, rfl, rfl, ?_, rfl, rfl, rfl, rfl, rfl, next_i64 hjl (by omega), trivial⟩, ⟨rfl, rfl, rfl, rfl, rfl, rfl, rfl, rfl, ?_, rfl, trivial⟩, trivial⟩
                · show AV.ref (.n 62) 0 ((keptBy (keepS p) r.s (L.take j) (stepL p r.s (enAt p r k)).2).length + 1) = .ref (.n 62) 0 (keptBy (keepS p) r.s (L.take (j + 1)) _).length
                  rw [hkj, List.length_append]; rfl
                · show some (Ob.ds 3 1 (((keptBy (keepS p) r.s (L.take j) (stepL p r.s (enAt p r k)).2).map encN).take _ ++ [encN L[j]])) = some (Ob.ds 3 1 ((keptBy (keepS p) r.s (L.take (j + 1)) _).map encN))
                  rw [hkj, List.take_of_length_le (by simp), List.map_append]; rfl
            · have hge : j = L.length := by
                have : ¬ (j : Int) < L.length := fun e => h (decide_eq_true e)
                omega
              subst hge
              have hon : keptBy (keepS p) r.s (L.take L.length) (stepL p r.s (enAt p r k)).2 = keptBy (keepS p) r.s L (stepL p r.s (enAt p r k)).2 := by rw [List.take_length]
              conv => whnf
              refine .inr (.inl ⟨17, [], ?_⟩)
              conv => whnf
              refine ⟨⟨by simp [encEv], by simp; omega, by simp; omega⟩, ?_⟩
              conv => whnf
              refine ⟨⟨rfl, by simp; omega, by simp; omega⟩, ?_⟩
              conv => whnf
              refine ⟨_, hownT, ?_⟩
              refine .inr ⟨_, rfl, ?_⟩
              conv => whnf
              refine ⟨⟨rfl, by simp; omega, by simp; omega⟩, ?_⟩
              conv => whnf
              refine ⟨by kernel_rfl, ?_⟩
              conv => whnf
              subst hsq
              have hkk : (keptBy (keepS p) r.s L (stepL p r.s (enAt p r k)).2).length ≤ 5 * (runBy p r k).tr.length := by
                have : (keptBy (keepS p) r.s L (stepL p r.s (enAt p r k)).2).length ≤ L.length := List.length_filter_le _ _
                have e : (runBy p r k).tr.length = r.tr.length + 1 := by simp [runBy]
                omega
              have hku : ∀ u ∈ keptBy (keepS p) r.s L (stepL p r.s (enAt p r k)).2, u < (runBy p r k).s.ths.length := fun u hu' => Nat.lt_of_lt_of_le (hLu u (List.mem_filter.1 hu').1) (step_len p r.s _)
              have hfu : b.toNat + 1 - (runBy p r k).tr.length = n := by
                have e : (runBy p r k).tr.length = r.tr.length + 1 := by simp [runBy]
                omega
              refine .inr (.inr (.inr (.inl ⟨_, 77, [], weak_frz (fun κ => isK (.n 153) κ || isK (.n 159) κ || isK (.n 62) κ), rfl, 999, 99, lendW, _, io_congr (go1_ok p hp hg hv b hb _ n (runBy p r k) 0 (keptBy (keepS p) r.s L (stepL p r.s (enAt p r k)).2) acc hnext hfu ha4 hkk hku _ ⟨rfl, rfl, rfl, rfl⟩) ?_, rfl, ?_⟩)))
              · show [AV.ptr (.l 0) 0, AV.agg [i64 0, sl _, sl _, _, _, _, _], sl _] = _
                refine args3 ?_ ?_ ?_
                · simp [List.take_of_length_le, runBy]; rfl
                · simp [List.take_of_length_le, runBy]; rfl
                · simp [List.take_of_length_le]
              rintro q H1 ⟨rfl, rfl⟩
              refine ⟨wkH_none, fun n hn => ?_, ?_⟩
              · have : n = 0 := Nat.eq_of_beq_eq_true hn
                subst this
                exact ⟨81, _, _, rfl, rfl⟩
              conv => whnf
              refine ⟨⟨rfl, by show (tried.length + 1) * 8 ≤ _; have : tried.length ≤ k := hXt.1; omega, by show tried.length + 1 ≤ _; have : tried.length ≤ k := hXt.1; omega⟩, ?_⟩
              conv => whnf
              refine ⟨(k + 1, ⟨_, tried ++ [enAt p r k], _⟩), _, Weak.refl, ⟨hlt, hnx⟩, by show (enabledL p r.s).length - (k + 1) < (enabledL p r.s).length - k; omega, ⟨rfl, rfl, rfl, ?_, rfl, rfl, next_i64 hlt (by omega), trivial⟩, ⟨rfl, rfl, rfl, rfl, ?_, ?_, trivial⟩, trivial⟩
              · show AV.ref (.n 61) 0 (tried.length + 1) = .ref (.n 61) 0 (tried ++ [enAt p r k]).length
                rw [List.length_append]; rfl
              · rfl
              · show some (Ob.ds 3 1 ((tried.map encN).take tried.length ++ [encN (enAt p r k)])) = some (Ob.ds 3 1 ((tried ++ [enAt p r k]).map encN))
                rw [List.take_of_length_le (by simp), List.map_append]; rfl
      · have hge : k = (enabledL p r.s).length := by
          have : ¬ (k : Int) < ((enabledL p r.s).map encN).length := fun e => h (decide_eq_true e)
          simp at this; omega
        rw [← hge, hXe]
        conv => whnf
        refine ⟨_, Weak.refl, ?_⟩
        conv => whnf
        exact ⟨lendW, rfl, lend_wk ⟨rfl, rfl, rfl, rfl⟩⟩
end Ai
namespace Ai
set_option maxRecDepth 100000
open Go Go.Proofs Cyc
def OkX (p:ProgL) (b:Int):Prop:=p.goodS∧InR b 0 14
theorem sub_agg {w:World} {ok:Nat→Prop} {m:Own} {H:Key→Option Ob} {c x y z u t:D} {v:Value} (h:VRel w ok m H (.agg [.d c,.d .nil,.d .nil,.d x,.d y,.d z,.d u]) v):VRel w ok m H (.agg [.d c,sl [],sl [],.d x,.d y,.d z,.d u]) v:=by
 cases h with
 |agg _ us hl h =>
  refine .agg _ us hl fun i c' u' hc hu=>?_
  match i,hc with
  | 0,hc=>exact h 0 _ _ hc hu
  | 1,hc =>
   have e:sl []=c':=by simpa using hc
   subst e
   have:=h 1 (.d .nil) u' rfl hu
   cases this with
   |d _ _ hd=>cases hd;exact .d _ _ (.sl0 none 0)
  | 2,hc =>
   have e:sl []=c':=by simpa using hc
   subst e
   have:=h 2 (.d .nil) u' rfl hu
   cases this with
   |d _ _ hd=>cases hd;exact .d _ _ (.sl0 none 0)
  | 3,hc=>exact h 3 _ _ hc hu
  | 4,hc=>exact h 4 _ _ hc hu
  | 5,hc=>exact h 5 _ _ hc hu
  | 6,hc=>exact h 6 _ _ hc hu
  |i+7,hc=>simp at hc
theorem io_nilR {E:Env} {g:FuncId} {H0:Key→Option Ob} {Post:AV→(Key→Option Ob)→Prop} {x y:AV} {c a b d e:D} (h:IOCall E g [x,.agg [.d c,sl [],sl [],.d a,.d b,.d d,.d e],y] H0 Post):IOCall E g [x,.agg [.d c,.d .nil,.d .nil,.d a,.d b,.d d,.d e],y] H0 Post:=by
 intro w0 A m w vs hH hl hr
 refine h w0 A m w vs hH hl fun i av v ha hv=>?_
 match i,ha with
 | 0,ha=>exact hr 0 av v ha hv
 | 1,ha =>
  have ha:AV.agg [.d c,sl [],sl [],.d a,.d b,.d d,.d e]=av:=by simpa using ha
  subst ha
  exact sub_agg (t:=c) (hr 1 _ v rfl hv)
 | 2,ha=>exact hr 2 av v ha hv
 |i+3,ha=>simp at ha
noncomputable def wkN (p:ProgL) (b:Int) (sl:Bool) (xs:List RunT) (many:Bool):Key→Option Ob
 | .n j=>bif Nat.beq j 905 then some (.vs 81 (wkC p b sl xs.length many)) else bif Nat.beq j 901 then some (.ds 26 1 (xs.map rowPk)) else bif Nat.beq j 902 then some (.ds 41 1 (xs.map rowTr)) else bif Nat.beq j 903 then some (.ds 9 1 (xs.map (rowSg p))) else none
 | _=>none
def rO:Key→Bool
 | .n j=>Nat.beq j 905 || Nat.beq j 901 || Nat.beq j 902 || Nat.beq j 903
 | _=>false
def AtN (p:ProgL) (b:Int) (sl:Bool) (xs:List RunT) (many:Bool) (H:Key→Option Ob):Prop :=
 H (.n 905)=some (.vs 81 (wkC p b sl xs.length many))∧H (.n 901)=some (.ds 26 1 (xs.map rowPk))∧H (.n 902)=some (.ds 41 1 (xs.map rowTr))∧H (.n 903)=some (.ds 9 1 (xs.map (rowSg p)))
theorem m7 {p:ProgL} {b:Int} {sl:Bool} {xs:List RunT} {many:Bool}:∀ κ,rO κ=false→wkN p b sl xs many κ=none
 | .l j,h=>rfl
 | .n j,h=>by
  have h:(Nat.beq j 905 || Nat.beq j 901 || Nat.beq j 902 || Nat.beq j 903)=false:=h
  simp only[Bool.or_eq_false_iff] at h
  simp[wkN,h.1.1.1,h.1.1.2,h.1.2,h.2]
 | .s o j,h=>rfl
theorem lend_wkN {p:ProgL} {b:Int} {sl:Bool} {xs:List RunT} {many:Bool} {H:Key→Option Ob} (h:AtN p b sl xs many H):yJ rO H=wkN p b sl xs many:=by
 obtain⟨h0,h1,h2,h3⟩:=h
 funext κ
 cases hk:rO κ with
 |false=>rw[m7 κ hk,fC hk]
 |true =>
  rw[vK hk]
  cases κ with
  |l j=>cases hk
  |n j =>
   have hk:(Nat.beq j 905 || Nat.beq j 901 || Nat.beq j 902 || Nat.beq j 903)=true:=hk
   simp only[Bool.or_eq_true] at hk
   rcases hk with ((hk|hk)|hk)|hk
   ·have:=Nat.eq_of_beq_eq_true hk
    subst this;rw[h0];rfl
   ·have:=Nat.eq_of_beq_eq_true hk
    subst this;rw[h1];rfl
   ·have:=Nat.eq_of_beq_eq_true hk
    subst this;rw[h2];rfl
   ·have:=Nat.eq_of_beq_eq_true hk
    subst this;rw[h3];rfl
  |s o j=>cases hk
noncomputable def allX (p:ProgL) (b:Int) (sl:Bool):List RunT × Bool:=xgo p b sl (keepS p) (b.toNat+1) ⟨0,[],[],vL p⟩ [] []
def AllPost (p:ProgL) (b:Int) (sl:Bool) (q:AV) (H1:Key→Option Ob):Prop :=
 (OkX p b∧q=.tup [.ptr (.n 905) 0,bv (allX p b sl).2]∧H1=wkN p b sl (allX p b sl).1 (!(allX p b sl).2))∨(¬ OkX p b∧q=.tup [.junk,bv false]∧H1=fun _=>none)
theorem l10All_ok (p:ProgL) (hp:p.wf) (hs:p.rs.length≤1048576∧∀ x∈p.rs,x.length≤1048576) (hv:p.flt) (b:Int) (slp:Bool):IOCall EE 42 [agg (encProg p),i64 b,bv slp] (fun _=>none) (AllPost p b slp):=by
 refine io_of_AW (fn:=Tryz.f42) (c:=Tryz.f42.body.getD .skip) Tryz.func42 rfl (by kernel_rfl) rfl ?_
 conv=>whnf
 refine ocase (nM p hs hv) (fun hg=>?_) (fun hg=>?_)
 rotate_left 1
 ·conv=>whnf
  refine⟨_,Weak.refl,?_⟩
  conv=>whnf
  refine⟨fun _=>false,.inr ⟨fun e=>hg e.1,rfl,rfl⟩⟩
 conv=>whnf
 refine ocase (qR b 0 14) (fun hk=>?_) (fun hk=>?_)
 rotate_left 1
 ·conv=>whnf
  refine⟨_,Weak.refl,?_⟩
  conv=>whnf
  refine⟨fun _=>false,.inr ⟨fun e=>hk e.2,rfl,rfl⟩⟩
 obtain⟨b1,b2,b3,b4⟩:=hg.1
 conv=>whnf
 refine⟨_,l3New_ok p ⟨b1.1,by have:=b1.2;omega⟩ ⟨b2.1,by have:=b2.2;omega⟩,?_⟩
 rintro r rfl
 have hr0:XR p b ⟨0,[],[],vL p⟩:=XR.new hg hk.1
 conv=>whnf
 refine .inr (.inr (.inr (.inl ⟨_,77,[],(qB (.n 13) (.n 901) 81 26 1 6 [i64 p.cells,i64 p.locks,i64 p.conds,.d (.sl (p.rs.map zO)),i64 b,bv slp,.d .nil,.d .nil,.d .nil,bv false] (by intro n h;cases h) (by intro h;cases h) rfl rfl).trans ((qB (.n 13) (.n 902) 81 41 1 7 [i64 p.cells,i64 p.locks,i64 p.conds,.d (.sl (p.rs.map zO)),i64 b,bv slp,.dref (.n 901) 0,.d .nil,.d .nil,bv false] (by intro n h;cases h) (by intro h;cases h) rfl rfl).trans
  ((qB (.n 13) (.n 903) 81 9 1 8 [i64 p.cells,i64 p.locks,i64 p.conds,.d (.sl (p.rs.map zO)),i64 b,bv slp,.dref (.n 901) 0,.dref (.n 902) 0,.d .nil,bv false] (by intro n h;cases h) (by intro h;cases h) rfl rfl).trans ((weak_cvt (.n 901) (e:=26) (sz:=1) (els:=[]) rfl).trans ((weak_cvt (.n 902) (e:=41) (sz:=1) (els:=[]) rfl).trans (weak_cvt (.n 903) (e:=9) (sz:=1) (els:=[]) rfl))))),rfl,13,0,lendW,_,io_nilR (io_nil (go1_ok p hp hg hv b ⟨hk.1,by have:=hk.2;omega⟩ slp (b.toNat+1) ⟨0,[],[],vL p⟩ 0 [] [] hr0 (by simp) (by simp) (by simp) (fun u hu=>by cases hu) _ ?_)),rfl,?_⟩)))
 ·exact⟨rfl,rfl,rfl,rfl⟩
 rintro q H1 ⟨rfl,rfl⟩
 refine⟨wkH_none,fun n hn=>?_,?_⟩
 ·have:n=0:=Nat.eq_of_beq_eq_true hn
  subst this
  exact⟨81,_,_,rfl,rfl⟩
 conv=>whnf
 refine .inr (.inl ⟨8,[],?_⟩)
 conv=>whnf
 refine⟨by kernel_rfl,?_⟩
 conv=>whnf
 have hX:allX p b slp=xgo p b slp (keepS p) (b.toNat+1) ⟨0,[],[],vL p⟩ [] []:=rfl
 generalize xgo p b slp (keepS p) (b.toNat+1) ⟨0,[],[],vL p⟩ [] []=X at *
 refine⟨_,wL 13 905,?_⟩
 conv=>whnf
 refine⟨rO,.inl ⟨⟨hg,hk⟩,?_,?_⟩⟩
 ·rw[hX]
  cases X.2 <;> rfl
 ·rw[hX]
  exact lend_wkN ⟨rfl,rfl,rfl,rfl⟩
end Ai
namespace Ai
set_option maxRecDepth 100000
open Go Go.Proofs Cyc
theorem o0 {n:Int} (hn:0≤n) {l:List Nat}:n∈natI l↔n.toNat∈l:=by
 simp only[natI,List.mem_map]
 constructor
 ·rintro⟨a,ha,e⟩
  have:a=n.toNat:=by omega
  subst this;exact ha
 ·exact fun h=>⟨_,h,by omega⟩
end Ai
namespace Ai
set_option maxRecDepth 100000
open Go Go.Proofs Cyc
theorem lend_none {H:Key→Option Ob} (h0:H (.n 905)=none) (h1:H (.n 901)=none) (h2:H (.n 902)=none) (h3:H (.n 903)=none):yJ rO H=fun _=>none:=by
 funext κ
 cases hk:rO κ with
 |false=>exact fC hk
 |true =>
  rw[vK hk]
  cases κ with
  |l j=>cases hk
  |n j =>
   have hk:(Nat.beq j 905 || Nat.beq j 901 || Nat.beq j 902 || Nat.beq j 903)=true:=hk
   simp only[Bool.or_eq_true] at hk
   rcases hk with ((hk|hk)|hk)|hk
   all_goals (have:=Nat.eq_of_beq_eq_true hk;subst this;first|(rw[h0];rfl)|(rw[h1];rfl)|(rw[h2];rfl)|(rw[h3];rfl))
  |s o j=>cases hk
theorem l10All_at (p:ProgL) (hp:p.wf) (hs:p.rs.length≤1048576∧∀ x∈p.rs,x.length≤1048576) (hv:p.flt) (b:Int) (slp:Bool) {H:Key→Option Ob} (h0:H (.n 905)=none) (h1:H (.n 901)=none) (h2:H (.n 902)=none) (h3:H (.n 903)=none) :
  IOCall EE 42 [agg (encProg p),i64 b,bv slp] (yJ rO H) (AllPost p b slp):=by
 rw[lend_none h0 h1 h2 h3];exact l10All_ok p hp hs hv b slp
theorem allX_eq (p:ProgL) (b:Int):allX p b false=kV p b:=allR_of p b _ _
def OkA (p:ProgL) (b:Int):Prop:=OkX p b∧(kV p b).2=true
end Ai
namespace Ai
set_option maxRecDepth 100000
open Go Go.Proofs
theorem n5 (s:StL) {p:Key→Bool} (h:(p (.n 900) || p (.n 901) || p (.n 902))=false):scrPL p ([]++stRef s)=[]++stRef s:=by
 have:=xM (E:=0) s h
 simpa[scrPO] using this
theorem spawn_vs0 {s s':StL} {L:List AV} {v:AV} (hv:v=.dref (.n 900) s'.ths.length) (hL:L=[]++stRef s) (hc:s'.cells.length=s.cells.length) (ho:s'.owner.length=s.owner.length) (hf:s'.fault=s.fault) :
  zW (scrPL (isK (.n 900)) L) (0+0) [v]=[]++stRef s':=by
 subst hv hL
 simp only[stRef,List.cons_append,List.nil_append,scrPL,hc,ho,hf]
 rfl
theorem doI_preB0 (E:TypeId) (g:Nat→Option Ob) (hg:∀ p j,(g j).map (scrPO p)=g j) (s:StL) (k:Nat) (o:OpL) (e:Ev) (hk:k<s.ths.length) (t:Th) (htk:(zA o.code).1≤t.stack.length) (ht8:t.stack.length≤1048576) (hpc:InR t.pc 0 1048576)
  (τ:Nat→AV) (H:Key→Option Ob) (Q:AX→St→Prop) (K:St→Prop) (hK:∀ s',At (doI1 0 k o t) (doIO E [] s k o e t (zC t o)) [(900,g)] s'→K s') :
  mK EE Tryz.f176.ntmps K Q 7 (Tryz.f176.body.getD .skip) (mI [(0,.ptr (.l 0) 0),(1,i64 k),(2,agg (encOp o)),(3,agg (encEv e))] (lZ [(.l 0,.vs E ([]++stRef s)),(.n 899,.ds 100 1 (stk t)),(.n 900,.rs 109 6 (rowsA s.ths k t)),(.n 901,.ds 100 1 (s.cells.map encF)),(.n 902,.ds 3 1 (s.owner.map encInt))] (gA [(900,g)] ⟨τ,H⟩))):=by
 have ht:0≤(zA o.code).1∧(zA o.code).1≤2∧0≤(zA o.code).2∧(zA o.code).2≤1:=by
  unfold zA;split
  ·decide
  ·split
   ·decide
   ·split <;> decide
 have e1:(IntKind.i64.wrap ((t.stack.length:Int) - (zA o.code).1))=(t.stack.length:Int) - (zA o.code).1:=zE (by omega) (by omega)
 have e2:((t.stack.length:Int) - (zA o.code).1).toNat=zQ t o:=by unfold zQ xK;omega
 have allLen:∀ a b:Nat,(((stk t).drop a).take b).all (fun c=>c.length==1)=true:=by
  intro a b
  simp only[List.all_eq_true]
  intro x hx
  have hx:=List.mem_of_mem_drop (List.mem_of_mem_take hx)
  obtain⟨y,_,rfl⟩:=List.mem_map.1 hx
  rfl
 conv=>whnf
 refine⟨⟨by omega,by omega⟩,?_⟩
 conv=>whnf
 refine⟨_,nR o,?_⟩
 rintro r rfl
 conv=>whnf
 refine⟨yE t,⟨?_,by simp[yE]⟩,?_⟩
 ·repeat (first|exact zN hk|refine yZ ?_ (zX rfl t))
 conv=>whnf
 refine⟨yE t,⟨?_,by simp[yE]⟩,?_⟩
 ·repeat (first|exact zN hk|refine yZ ?_ (zX rfl t))
 conv=>whnf
 rw[e1]
 have e3:((stk t).drop (0+((t.stack.length:Int) - (zA o.code).1).toNat)).take ((t.stack.length:Int).toNat - ((t.stack.length:Int) - (zA o.code).1).toNat)=(t.stack.drop (zQ t o)).map encF:=by
  rw[e2,Nat.zero_add,List.take_of_length_le (by simp[stk]),stk,List.map_drop]
 have hlen:(t.stack.drop (zQ t o)).length≤1048576:=by simp;omega
 rcases Int.lt_or_eq_of_le ht.1 with h0|h0
 refine .inl ⟨⟨by omega,by omega,by omega,.inr (by omega)⟩,?_⟩
 conv=>whnf
 refine .inl ⟨(·=.uq 100 1 ((t.stack.drop (zQ t o)).map encF)),Eq.mp (congrArg (fun x=>CallsTo EE 173 [sl x] _) e3.symm) (gV (t.stack.drop (zQ t o)) hlen),?_⟩
 rintro r rfl
 refine⟨fun c hc=>?_,.inl ?_⟩
 ·obtain⟨y,_,rfl⟩:=List.mem_map.1 hc
  rfl
 conv=>whnf
 rotate_left 1
 refine .inr ⟨⟨by omega,by omega,by omega⟩,?_⟩
 conv=>whnf
 refine⟨(·=.uq 100 1 ((t.stack.drop (zQ t o)).map encF)),Eq.mp (congrArg (fun x=>CallsTo EE 173 [sl x] _) (by simp[zQ,xK,← h0])) (gV (t.stack.drop (zQ t o)) hlen),?_⟩
 rintro r rfl
 refine .inl ?_
 conv=>whnf
 all_goals
  refine⟨yE t,⟨by repeat (first|exact zN hk|refine yZ ?_ (zX rfl t)),by simp[yE]⟩,?_⟩
  conv=>whnf
  refine .inl ⟨⟨by omega,by omega,by omega,.inl rfl⟩,?_⟩
  conv=>whnf
  have e5:((t.stack.length:Int) - (zA o.code).1).toNat - (0:Int).toNat=zQ t o:=by rw[e2];rfl
  refine⟨[i64 t.rt,i64 t.pc,i64 t.st,i64 t.cond,i64 t.lock,.ref (.n 899) 0 (zQ t o)],⟨?_,by simp⟩,?_⟩
  ·refine vI (c:=yE t) (by repeat (first|exact zN hk|refine yZ ?_ (zX rfl t))) ?_
   conv=>lhs;whnf
   rw[← e5]
   rfl
  conv=>whnf
  refine hK _ ⟨?_,?_,?_⟩
  ·exact⟨rfl,rfl,rfl,rfl,rfl,rfl,rfl,trivial⟩
  ·refine⟨?_,rfl,rfl,rfl,rfl,?_,rfl,rfl,trivial⟩
   ·conv=>lhs;whnf
    refine congrArg some ?_
    repeat (refine yK ?_ (xM s rfl))
    rfl
   ·conv=>lhs;whnf
    refine congrArg (fun x=>some (Ob.rs 109 6 x)) ?_
    have hkl:(t.stack.take (zQ t o)).length=zQ t o:=by simp[zQ]
    refine dM hk (dM hk (t:=t) (t':={ t with stack:=t.stack.take (zQ t o) }) (by repeat (first|rfl|refine Eq.trans (congrArg (List.map (scrPL _)) ?_) (uF rfl (fun _=>rfl) _ _ _))) ?_) ?_
    ·show[_,_,_,_,_,AV.ref (.n 899) 0 (((t.stack.length:Int) - (zA o.code).1).toNat - (0:Int).toNat)]=[_,_,_,_,_,AV.ref (.n 899) 0 (t.stack.take (zQ t o)).length]
     rw[e5,hkl]
    ·show[_,AV.d (.int .i64 (IntKind.i64.wrap (t.pc+1))),_,_,_,AV.ref (.n 899) 0 (t.stack.take (zQ t o)).length]=[_,i64 (t.pc+1),_,_,_,AV.ref (.n 899) 0 (t.stack.take (zQ t o)).length]
     rw[zE (by have:=hpc.1;omega) (by have:=hpc.2;omega)]
     rfl
  ·refine⟨fun j=>?_,trivial⟩
   repeat (first|exact rfl|refine hscrO ?_ (hg _ _)|conv=>lhs;whnf)
theorem doI_swB0 (hI:yP) (E:TypeId) (g:Nat→Option Ob) (hg:∀ p j,(g j).map (scrPO p)=g j) (s:StL) (k:Nat) (o:OpL) (e:Ev) (hk:k<s.ths.length) (h5:s.ths.length≤5) (hgj:∀ j,j≠k→g j=zS s.ths j)
  (hs:s.small) (ho:o.fits s s.ths[k]) (hpc:InR s.ths[k].pc 0 1048576) (hst3:s.ths[k].st≠3) (he:e.kind=1) (hel:e.lock=-1) (hfl:∀ x∈s.ths[k].stack,x<18446744073709551616) (hjo:o.code=15→∃ j,yR (yL s.ths[k] o 0) s.ths.length=some j∧zU s s.ths[k]=some j)
  (Q:AX→St→Prop) (K:St→Prop) (S:St) (hS:At (doI1 0 k o s.ths[k]) (doIO E [] s k o e s.ths[k] (zC s.ths[k] o)) [(900,g)] S) (hK:∀ S',DoI2 E [] g k (doL s k o e).1 (doL s k o e).2 S'→K S') :
  mK EE Tryz.f176.ntmps K Q 1 (dropC 7 (Tryz.f176.body.getD .skip)) S:=by
 have hst:=hs.2.1 _ (List.getElem_mem hk)
 have hgd:s.ths.getD k th0=s.ths[k]:=by simp[List.getD_eq_getElem?_getD,hk]
 generalize ht0:s.ths[k]=t at *
 obtain⟨τ,H,rfl⟩:=hS.form
 clear hS
 obtain⟨o1,o2,o3,o4,o5⟩:=ho
 obtain⟨eth,ekind,eobj,elock,epc⟩:=e
 have he:ekind=1:=he
 subst he
 have hel:elock=-1:=hel
 subst hel
 have hkn:zQ t o≤t.stack.length:=Nat.sub_le _ _
 have hkl:(t.stack.take (zQ t o)).length=zQ t o:=by simp;omega
 have hpl:(zC t o).stack.length=zQ t o:=hkl
 conv=>whnf
 refine kbi (fun hc=>?_) (fun hc=>?_)
 ·have hc:o.code=1:=by simpa using hc
  conv=>whnf
  refine .inr (.inr (.inr ⟨[0],by kernel_rfl,8,[],?_⟩))
  conv=>whnf
  refine⟨yE (zC t o),⟨by repeat (first|exact zN hk|refine yZ ?_ (zX rfl _)),by simp[yE]⟩,?_⟩
  conv=>whnf
  refine⟨by kernel_rfl,?_⟩
  conv=>whnf
  refine⟨⟨rfl,by rw[hpl];simp;omega,by rw[hpl];simp;omega⟩,?_⟩
  conv=>whnf
  have hd:doL s k o ⟨eth,1,eobj,-1,epc⟩=(s.put k (zL (zC t o) o.v),⟨eth,1,eobj,-1,epc⟩):=by unfold doL;rw[hgd];simp[hc]
  rw[hd] at hK
  dsimp only at hK
  refine hK _ (.inl ⟨zL (zC t o) o.v,s.ths,stk (zL (zC t o) o.v),hk,rfl,hgj,qV _,by simp[StL.put],⟨rfl,rfl,trivial⟩,⟨?_,?_,rfl,?_,?_,?_,?_,trivial⟩,⟨fun j=>?_,trivial⟩⟩)
  ·rw[show stRef _=stRef s by simp[stRef,StL.put]]
   conv=>lhs;whnf
   all_goals (
    refine congrArg some ?_
    repeat (refine yK ?_ (xM s rfl))
    all_goals rfl)
  ·rfl
  ·conv=>lhs;whnf
   show some (Ob.ds 100 1 _)=some (Ob.ds 100 1 _)
   simp[stk,zL,zC,encF]
  ·conv=>lhs;whnf
   all_goals (
    refine congrArg (fun x=>some (Ob.rs 109 6 x)) ?_
    apply vS
    ·repeat (first|exact rfl|apply xQ hk|apply xP (fun _=>rfl))
    ·show[_,_,_,_,_,AV.ref (.n 899) 0 ((zC t o).stack.length+1)]=_
     simp[yE,zL]
     exact⟨rfl,rfl,rfl,rfl,rfl⟩)
  ·rfl
  ·rfl
  ·repeat (first|exact rfl|refine hscrO ?_ (hg _ _)|conv=>lhs;whnf)
 have n1:¬ o.code=1:=by simpa using hc
 clear hc
 conv=>whnf
 refine kbi (fun hc=>?_) (fun hc=>?_)
 ·have hc:o.code=2:=by simpa using hc
  have hr:=o2 (.inl hc)
  conv=>whnf
  refine .inr (.inl ⟨4,[],?_⟩)
  conv=>whnf
  refine⟨by kernel_rfl,?_⟩
  conv=>whnf
  refine .inr (.inr (.inr ⟨[0],by kernel_rfl,14,[],?_⟩))
  conv=>whnf
  refine⟨yE (zC t o),⟨by repeat (first|exact zN hk|refine yZ ?_ (zX rfl _)),by simp[yE]⟩,?_⟩
  conv=>whnf
  refine⟨⟨by omega,by omega⟩,?_⟩
  conv=>whnf
  refine⟨encF (s.cells.getD o.a.toNat 0),⟨by rw[Nat.zero_add];exact aB hr,by simp[encF]⟩,?_⟩
  conv=>whnf
  refine⟨by kernel_rfl,?_⟩
  conv=>whnf
  refine⟨⟨rfl,by rw[hpl];simp;omega,by rw[hpl];simp;omega⟩,?_⟩
  conv=>whnf
  have hd:doL s k o ⟨eth,1,eobj,-1,epc⟩=(s.put k (zL (zC t o) (s.cells.getD o.a.toNat 0)),⟨eth,2,o.a,(-1),epc⟩):=by unfold doL;rw[hgd];simp[hc]
  rw[hd] at hK
  dsimp only at hK
  refine hK _ (.inl ⟨zL (zC t o) (s.cells.getD o.a.toNat 0),s.ths,stk (zL (zC t o) (s.cells.getD o.a.toNat 0)),hk,rfl,hgj,qV _,by simp[StL.put],⟨rfl,rfl,trivial⟩,⟨?_,?_,rfl,?_,?_,?_,?_,trivial⟩,⟨fun j=>?_,trivial⟩⟩)
  ·rw[show stRef _=stRef s by simp[stRef,StL.put]]
   conv=>lhs;whnf
   all_goals (
    refine congrArg some ?_
    repeat (refine yK ?_ (xM s rfl))
    all_goals rfl)
  ·rfl
  ·conv=>lhs;whnf
   show some (Ob.ds 100 1 _)=some (Ob.ds 100 1 _)
   simp[stk,zL,zC,encF]
  ·conv=>lhs;whnf
   all_goals (
    refine congrArg (fun x=>some (Ob.rs 109 6 x)) ?_
    apply vS
    ·repeat (first|exact rfl|apply xQ hk|apply xP (fun _=>rfl))
    ·show[_,_,_,_,_,AV.ref (.n 899) 0 ((zC t o).stack.length+1)]=_
     simp[yE,zL]
     exact⟨rfl,rfl,rfl,rfl,rfl⟩)
  ·rfl
  ·rfl
  ·repeat (first|exact rfl|refine hscrO ?_ (hg _ _)|conv=>lhs;whnf)
 have n2:¬ o.code=2:=by simpa using hc
 clear hc
 conv=>whnf
 refine kbi (fun hc=>?_) (fun hc=>?_)
 ·have hc:o.code=3:=by simpa using hc
  have hr:=o2 (.inr hc)
  have htk:xK o=1:=by simp[xK,zA,hc]
  conv=>whnf
  refine .inr (.inl ⟨4,[],?_⟩)
  conv=>whnf
  refine⟨by kernel_rfl,?_⟩
  conv=>whnf
  refine .inr (.inl ⟨9,[],?_⟩)
  conv=>whnf
  refine⟨encF (yL t o 0),⟨by omega,wP o5 (by omega),by simp[encF]⟩,?_⟩
  conv=>whnf
  refine⟨by kernel_rfl,?_⟩
  conv=>whnf
  refine⟨⟨by omega,by omega⟩,?_⟩
  conv=>whnf
  have hd:doL s k o ⟨eth,1,eobj,-1,epc⟩=({ s with cells:=s.cells.set o.a.toNat (yL t o 0) }.put k (zC t o),⟨eth,3,o.a,(-1),epc⟩):=by unfold doL;rw[hgd];simp[hc]
  rw[hd] at hK
  dsimp only at hK
  refine hK _ (.inl ⟨zC t o,s.ths,stk t,hk,rfl,hgj,xH t o,by simp[StL.put],⟨rfl,rfl,trivial⟩,⟨?_,?_,rfl,?_,?_,?_,?_,trivial⟩,⟨fun j=>?_,trivial⟩⟩)
  ·rw[show stRef _=stRef s by simp[stRef,StL.put]]
   conv=>lhs;whnf
   all_goals (
    refine congrArg some ?_
    repeat (refine yK ?_ (xM s rfl))
    all_goals rfl)
  ·rfl
  ·rfl
  ·conv=>lhs;whnf
   all_goals (
    refine congrArg (fun x=>some (Ob.rs 109 6 x)) ?_
    apply vS
    ·repeat (first|exact rfl|apply xQ hk|apply xP (fun _=>rfl))
    ·rfl)
  ·conv=>lhs;whnf
   show some (Ob.ds 100 1 ((s.cells.map encF).set (0+o.a.toNat) (encF (yL t o 0))))=some (Ob.ds 100 1 ((s.cells.set o.a.toNat (yL t o 0)).map encF))
   rw[Nat.zero_add,List.map_set]
  ·rfl
  ·repeat (first|exact rfl|refine hscrO ?_ (hg _ _)|conv=>lhs;whnf)
 have n3:¬ o.code=3:=by simpa using hc
 clear hc
 conv=>whnf
 refine kbi (fun hc=>?_) (fun hc=>?_)
 ·have hc:o.code=10:=by simpa using hc
  conv=>whnf
  have hd:doL s k o ⟨eth,1,eobj,-1,epc⟩=(s.put k ({ zC t o with pc:=o.a }),⟨eth,1,eobj,-1,epc⟩):=by unfold doL;rw[hgd];simp[hc]
  rw[hd] at hK
  dsimp only at hK
  refine hK _ (.inl ⟨({ zC t o with pc:=o.a }),s.ths,stk t,hk,rfl,hgj,xH t o,by simp[StL.put],⟨rfl,rfl,trivial⟩,⟨?_,?_,rfl,?_,?_,?_,?_,trivial⟩,⟨fun j=>?_,trivial⟩⟩)
  ·rw[show stRef _=stRef s by simp[stRef,StL.put]]
   conv=>lhs;whnf
   all_goals (
    refine congrArg some ?_
    repeat (refine yK ?_ (xM s rfl))
    all_goals rfl)
  ·rfl
  ·rfl
  ·conv=>lhs;whnf
   all_goals (
    refine congrArg (fun x=>some (Ob.rs 109 6 x)) ?_
    apply vS
    ·repeat (first|exact rfl|apply xQ hk|apply xP (fun _=>rfl))
    ·rfl)
  ·rfl
  ·rfl
  ·repeat (first|exact rfl|refine hscrO ?_ (hg _ _)|conv=>lhs;whnf)
 have n10:¬ o.code=10:=by simpa using hc
 clear hc
 conv=>whnf
 refine kbi (fun hc=>?_) (fun hc=>?_)
 ·have hc:o.code=11:=by simpa using hc
  have htk:xK o=1:=by simp[xK,zA,hc]
  conv=>whnf
  refine⟨encF (yL t o 0),⟨by omega,wP o5 (by omega),by simp[encF]⟩,?_⟩
  conv=>whnf
  refine ocase (isNo_ok _) (fun hn=>?_) (fun hn=>?_)
  ·conv=>whnf
   have hd:doL s k o ⟨eth,1,eobj,-1,epc⟩=(s.put k ({ zC t o with pc:=o.a }),⟨eth,1,eobj,-1,epc⟩):=by unfold doL;rw[hgd];simp[hc];rw[if_pos hn]
   rw[hd] at hK
   dsimp only at hK
   refine hK _ (.inl ⟨({ zC t o with pc:=o.a }),s.ths,stk t,hk,rfl,hgj,xH t o,by simp[StL.put],⟨rfl,rfl,trivial⟩,⟨?_,?_,rfl,?_,?_,?_,?_,trivial⟩,⟨fun j=>?_,trivial⟩⟩)
   ·rw[show stRef _=stRef s by simp[stRef,StL.put]]
    conv=>lhs;whnf
    all_goals (
     refine congrArg some ?_
     repeat (refine yK ?_ (xM s rfl))
     all_goals rfl)
   ·rfl
   ·rfl
   ·conv=>lhs;whnf
    all_goals (
     refine congrArg (fun x=>some (Ob.rs 109 6 x)) ?_
     apply vS
     ·repeat (first|exact rfl|apply xQ hk|apply xP (fun _=>rfl))
     ·rfl)
   ·rfl
   ·rfl
   ·repeat (first|exact rfl|refine hscrO ?_ (hg _ _)|conv=>lhs;whnf)
  ·conv=>whnf
   have hd:doL s k o ⟨eth,1,eobj,-1,epc⟩=(s.put k (zC t o),⟨eth,1,eobj,-1,epc⟩):=by unfold doL;rw[hgd];simp[hc];rw[if_neg hn]
   rw[hd] at hK
   dsimp only at hK
   refine hK _ (.inl ⟨zC t o,s.ths,stk t,hk,rfl,hgj,xH t o,by simp[StL.put],⟨rfl,rfl,trivial⟩,⟨?_,?_,rfl,?_,?_,?_,?_,trivial⟩,⟨fun j=>?_,trivial⟩⟩)
   ·rw[show stRef _=stRef s by simp[stRef,StL.put]]
    conv=>lhs;whnf
    all_goals (
     refine congrArg some ?_
     repeat (refine yK ?_ (xM s rfl))
     all_goals rfl)
   ·rfl
   ·rfl
   ·conv=>lhs;whnf
    all_goals (
     refine congrArg (fun x=>some (Ob.rs 109 6 x)) ?_
     apply vS
     ·repeat (first|exact rfl|apply xQ hk|apply xP (fun _=>rfl))
     ·rfl)
   ·rfl
   ·rfl
   ·repeat (first|exact rfl|refine hscrO ?_ (hg _ _)|conv=>lhs;whnf)
 have n11:¬ o.code=11:=by simpa using hc
 clear hc
 conv=>whnf
 refine kbi (fun hc=>?_) (fun hc=>?_)
 ·have hc:o.code=12:=by simpa using hc
  have hr:=o3 (.inl hc)
  conv=>whnf
  refine .inr (.inl ⟨4,[],?_⟩)
  conv=>whnf
  refine⟨by kernel_rfl,?_⟩
  conv=>whnf
  refine .inr (.inl ⟨7,[],?_⟩)
  conv=>whnf
  refine⟨by kernel_rfl,?_⟩
  conv=>whnf
  refine⟨⟨by omega,by omega⟩,?_⟩
  conv=>whnf
  have hd:doL s k o ⟨eth,1,eobj,-1,epc⟩=({ s with owner:=s.owner.set o.a.toNat ((k:Nat):Int) }.put k (zC t o),⟨eth,4,o.a,(-1),epc⟩):=by unfold doL;rw[hgd];simp[hc]
  rw[hd] at hK
  dsimp only at hK
  refine hK _ (.inl ⟨zC t o,s.ths,stk t,hk,rfl,hgj,xH t o,by simp[StL.put],⟨rfl,rfl,trivial⟩,⟨?_,?_,rfl,?_,?_,?_,?_,trivial⟩,⟨fun j=>?_,trivial⟩⟩)
  ·rw[show stRef _=stRef s by simp[stRef,StL.put]]
   conv=>lhs;whnf
   all_goals (
    refine congrArg some ?_
    repeat (refine yK ?_ (xM s rfl))
    all_goals rfl)
  ·rfl
  ·rfl
  ·conv=>lhs;whnf
   all_goals (
    refine congrArg (fun x=>some (Ob.rs 109 6 x)) ?_
    apply vS
    ·repeat (first|exact rfl|apply xQ hk|apply xP (fun _=>rfl))
    ·rfl)
  ·rfl
  ·conv=>lhs;whnf
   show some (Ob.ds 3 1 ((s.owner.map encInt).set (0+o.a.toNat) (encInt ((k:Nat):Int))))=some (Ob.ds 3 1 ((s.owner.set o.a.toNat ((k:Nat):Int)).map encInt))
   rw[Nat.zero_add,List.map_set]
  ·repeat (first|exact rfl|refine hscrO ?_ (hg _ _)|conv=>lhs;whnf)
 have n12:¬ o.code=12:=by simpa using hc
 clear hc
 conv=>whnf
 refine kbi (fun hc=>?_) (fun hc=>?_)
 ·have hc:o.code=13:=by simpa using hc
  have hr:=o3 (.inr hc)
  conv=>whnf
  refine .inr (.inl ⟨4,[],?_⟩)
  conv=>whnf
  refine⟨by kernel_rfl,?_⟩
  conv=>whnf
  refine .inr (.inl ⟨6,[],?_⟩)
  conv=>whnf
  refine⟨by kernel_rfl,?_⟩
  conv=>whnf
  refine⟨⟨by omega,by omega⟩,?_⟩
  conv=>whnf
  have hd:doL s k o ⟨eth,1,eobj,-1,epc⟩=({ s with owner:=s.owner.set o.a.toNat (-1) }.put k (zC t o),⟨eth,5,o.a,(-1),epc⟩):=by unfold doL;rw[hgd];simp[hc]
  rw[hd] at hK
  dsimp only at hK
  refine hK _ (.inl ⟨zC t o,s.ths,stk t,hk,rfl,hgj,xH t o,by simp[StL.put],⟨rfl,rfl,trivial⟩,⟨?_,?_,rfl,?_,?_,?_,?_,trivial⟩,⟨fun j=>?_,trivial⟩⟩)
  ·rw[show stRef _=stRef s by simp[stRef,StL.put]]
   conv=>lhs;whnf
   all_goals (
    refine congrArg some ?_
    repeat (refine yK ?_ (xM s rfl))
    all_goals rfl)
  ·rfl
  ·rfl
  ·conv=>lhs;whnf
   all_goals (
    refine congrArg (fun x=>some (Ob.rs 109 6 x)) ?_
    apply vS
    ·repeat (first|exact rfl|apply xQ hk|apply xP (fun _=>rfl))
    ·rfl)
  ·rfl
  ·conv=>lhs;whnf
   show some (Ob.ds 3 1 ((s.owner.map encInt).set (0+o.a.toNat) (encInt (-1))))=some (Ob.ds 3 1 ((s.owner.set o.a.toNat (-1)).map encInt))
   rw[Nat.zero_add,List.map_set]
  ·repeat (first|exact rfl|refine hscrO ?_ (hg _ _)|conv=>lhs;whnf)
 have n13:¬ o.code=13:=by simpa using hc
 clear hc
 conv=>whnf
 refine kbi (fun hc=>?_) (fun hc=>?_)
 ·have hc:o.code=14:=by simpa using hc
  conv=>whnf
  refine .inr (.inl ⟨7,[],?_⟩)
  conv=>whnf
  refine⟨by kernel_rfl,?_⟩
  conv=>whnf
  refine .inr (.inr (.inr ⟨[0],by kernel_rfl,12,[],?_⟩))
  conv=>whnf
  refine⟨yE (zC t o),⟨by repeat (first|exact zN hk|refine yZ ?_ (zX rfl _)),by simp[yE]⟩,?_⟩
  conv=>whnf
  refine⟨by kernel_rfl,?_⟩
  conv=>whnf
  refine⟨⟨rfl,by rw[hpl];simp;omega,by rw[hpl];simp;omega⟩,?_⟩
  conv=>whnf
  refine .inr (.inr (.inr ⟨[0],by kernel_rfl,9,[2715],?_⟩))
  conv=>whnf
  refine⟨_,kR o.a,?_⟩
  conv=>whnf
  refine⟨by kernel_rfl,?_⟩
  conv=>whnf
  refine⟨⟨fun c hc'=>?_,?_,?_⟩,?_⟩
  ·have hc':c∈[[i64 o.a,i64 0,i64 1,i64 (-1),i64 (-1),AV.ref (.n 905) 0 0]]:=hc'
   simp only[List.mem_singleton] at hc'
   subst hc';rfl
  ·show(s.ths.length+1)*64≤_
   omega
  ·show s.ths.length+1≤_
   omega
  conv=>whnf
  have hd:doL s k o ⟨eth,1,eobj,-1,epc⟩=({ s with ths:=s.ths++[jH o.a] }.put k (zL (zC t o) (FloatKind.f64.nearest (s.ths.length:Int))),⟨eth,6,s.ths.length,(-1),epc⟩):=by unfold doL;rw[hgd];simp[hc]
  rw[hd] at hK
  dsimp only at hK
  refine hK _ (.inr ⟨s.ths,zL (zC t o) (FloatKind.f64.nearest (s.ths.length:Int)),o.a,hk,?_,hgj,⟨rfl,rfl,trivial⟩,⟨?_,rfl,rfl,?_,?_,rfl,rfl,rfl,trivial⟩,⟨fun j=>?_,trivial⟩⟩)
  ·simp[StL.put,List.set_append_left _ _ hk]
  ·conv=>lhs;whnf
   refine congrArg (fun x=>some (Ob.vs E x)) ?_
   refine spawn_vs0 (s:=s) ?_ ?_ rfl rfl rfl
   ·conv=>lhs;whnf
    all_goals simp[StL.put]
   all_goals (
    repeat (refine hscrL ?_ (n5 s rfl))
    all_goals rfl)
  ·conv=>lhs;whnf
   show some (Ob.ds 100 1 _)=some (Ob.ds 100 1 _)
   simp[stk,zL,zC,encF]
  ·conv=>lhs;whnf
   refine congrArg (fun x=>some (Ob.rs 109 6 x)) ?_
   refine tH rfl ?_ rfl rfl
   apply vS
   ·repeat (first|exact rfl|apply xQ hk|apply xP (fun _=>rfl))
   ·show[_,_,_,_,_,AV.ref (.n 899) 0 ((zC t o).stack.length+1)]=_
    simp[yE,zL]
    exact⟨rfl,rfl,rfl,rfl,rfl⟩
  ·repeat (first|exact rfl|refine hscrO ?_ (hg _ _)|conv=>lhs;whnf)
 have n14:¬ o.code=14:=by simpa using hc
 clear hc
 conv=>whnf
 refine kbi (fun hc=>?_) (fun hc=>?_)
 ·have hc:o.code=15:=by simpa using hc
  have htk:xK o=1:=by simp[xK,zA,hc]
  obtain⟨jj,hj1,hj2⟩:=hjo hc
  conv=>whnf
  refine .inr (.inl ⟨14,[],?_⟩)
  conv=>whnf
  refine⟨encF (yL t o 0),⟨by omega,wP o5 (by omega),by simp[encF]⟩,?_⟩
  conv=>whnf
  refine⟨_,hI _ _,?_⟩
  conv=>whnf
  refine⟨by kernel_rfl,?_⟩
  conv=>whnf
  have hd:doL s k o ⟨eth,1,eobj,-1,epc⟩=(s.put k (zC t o),⟨eth,7,(zU s t).getD (-1),(-1),epc⟩):=by unfold doL;rw[hgd];simp[hc]
  rw[hd] at hK
  dsimp only at hK
  refine hK _ (.inl ⟨zC t o,s.ths,stk t,hk,rfl,hgj,xH t o,by simp[StL.put],⟨rfl,rfl,trivial⟩,⟨?_,?_,rfl,?_,?_,?_,?_,trivial⟩,⟨fun j=>?_,trivial⟩⟩)
  ·rw[show stRef _=stRef s by simp[stRef,StL.put]]
   conv=>lhs;whnf
   all_goals (
    refine congrArg some ?_
    repeat (refine yK ?_ (xM s rfl))
    all_goals rfl)
  ·conv=>lhs;whnf
   show some (Ob.vs 107 [i64 eth,i64 7,i64 ((yR (yL t o 0) s.ths.length).getD 0),i64 (-1),i64 epc])=some (Ob.vs 107 [i64 eth,i64 7,i64 ((zU s t).getD (-1)),i64 (-1),i64 epc])
   rw[hj1,hj2]
   rfl
  ·rfl
  ·conv=>lhs;whnf
   all_goals (
    refine congrArg (fun x=>some (Ob.rs 109 6 x)) ?_
    apply vS
    ·repeat (first|exact rfl|apply xQ hk|apply xP (fun _=>rfl))
    ·rfl)
  ·rfl
  ·rfl
  ·repeat (first|exact rfl|refine hscrO ?_ (hg _ _)|conv=>lhs;whnf)
 have n15:¬ o.code=15:=by simpa using hc
 clear hc
 conv=>whnf
 refine kbi (fun hc=>?_) (fun hc=>?_)
 ·have hc:o.code=16:=by simpa using hc
  have hr:=o4 hc
  conv=>whnf
  refine .inr (.inl ⟨8,[],?_⟩)
  conv=>whnf
  refine⟨by kernel_rfl,?_⟩
  conv=>whnf
  refine .inr (.inl ⟨6,[],?_⟩)
  conv=>whnf
  refine⟨by kernel_rfl,?_⟩
  conv=>whnf
  refine⟨⟨by omega,by omega⟩,?_⟩
  conv=>whnf
  refine⟨yE (zC t o),⟨by repeat (first|exact zN hk|refine yZ ?_ (zX rfl _)),by simp[yE]⟩,?_⟩
  conv=>whnf
  refine .inr (.inr (.inr ⟨[0,1,2],by kernel_rfl,by kernel_rfl,by kernel_rfl,13,[],?_⟩))
  conv=>whnf
  refine⟨by kernel_rfl,?_⟩
  conv=>whnf
  have hd:doL s k o ⟨eth,1,eobj,-1,epc⟩=({ s with owner:=s.owner.set o.b.toNat (-1) }.put k ({ zC t o with st:=3,cond:=o.a,lock:=o.b,pc:=(zC t o).pc - 1 }),⟨eth,8,o.a,o.b,epc⟩):=by unfold doL;rw[hgd];simp[hc]
  rw[hd] at hK
  dsimp only at hK
  refine hK _ (.inl ⟨({ zC t o with st:=3,cond:=o.a,lock:=o.b,pc:=(zC t o).pc - 1 }),s.ths,stk t,hk,rfl,hgj,xH t o,by simp[StL.put],⟨rfl,rfl,trivial⟩,⟨?_,?_,rfl,?_,?_,?_,?_,trivial⟩,⟨fun j=>?_,trivial⟩⟩)
  ·rw[show stRef _=stRef s by simp[stRef,StL.put]]
   conv=>lhs;whnf
   all_goals (
    refine congrArg some ?_
    repeat (refine yK ?_ (xM s rfl))
    all_goals rfl)
  ·rfl
  ·rfl
  ·conv=>lhs;whnf
   all_goals (
    refine congrArg (fun x=>some (Ob.rs 109 6 x)) ?_
    apply vS
    ·repeat (first|exact rfl|apply xQ hk|apply xP (fun _=>rfl))
    ·have ew:IntKind.i64.wrap (t.pc+1 - 1)=t.pc+1 - 1:=zE (by have:=hpc.1;omega) (by have:=hpc.2;omega)
     show[_,AV.d (.int .i64 (IntKind.i64.wrap (t.pc+1 - 1))),_,_,_,_]=_
     rw[ew]
     rfl)
  ·rfl
  ·conv=>lhs;whnf
   show some (Ob.ds 3 1 ((s.owner.map encInt).set (0+o.b.toNat) (encInt (-1))))=some (Ob.ds 3 1 ((s.owner.set o.b.toNat (-1)).map encInt))
   rw[Nat.zero_add,List.map_set]
  ·repeat (first|exact rfl|refine hscrO ?_ (hg _ _)|conv=>lhs;whnf)
 have n16:¬ o.code=16:=by simpa using hc
 clear hc
 conv=>whnf
 refine kbi (fun hc=>?_) (fun hc=>?_)
 ·have hc:o.code=17:=by simpa using hc
  have hcall:CallsTo EE 219 [sl ((s.ths.set k (zC t o)).map zF),.fn 222 [.fp (encOp o)]] (·=i64 (lN (wM s.ths o.a))):=by
   rw[← sW hk (t':=zC t o) o.a hst3 (by rw[ht0];exact hst3)]
   exact kW _ (by simp;omega) 222 _ (.inr ⟨_,rfl⟩) (fun t=>t.st==3&&t.cond==o.a) (fun u _=>rA u o)
  conv=>whnf
  refine .inr (.inl ⟨4,[],?_⟩)
  conv=>whnf
  refine⟨by kernel_rfl,?_⟩
  conv=>whnf
  refine .inl ⟨[sl ((s.ths.set k (zC t o)).map zF),.fn 222 [.fp (encOp o)]],[],_,⟨_,_,rfl,⟨_,rfl,lC (l:=s.ths) (k:=k) (t:=zC t o) (els:=stk t) hk ?_ ?_ ?_ (xH t o)⟩,_,_,rfl,rfl,rfl⟩,rfl,hcall,?_⟩
  ·conv=>lhs;whnf
   refine congrArg (fun x=>some (Ob.rs 109 6 x)) ?_
   repeat (first|exact rfl|refine qD ?_ rfl (fun _=>rfl))
  ·intro j hj hjl
   refine Eq.trans (b:=g j) ?_ ((hgj j hj).trans (by simp[zS,hjl]))
   repeat (first|exact rfl|refine hscrO ?_ (hg _ _)|conv=>lhs;whnf)
  ·rfl
  rintro r rfl
  refine⟨rfl,?_⟩
  cases hwk:wM s.ths o.a with
  |none =>
   conv=>whnf
   refine kbi (fun hw=>?_) (fun hw=>?_)
   ·simp[lN] at hw
   conv=>whnf
   have hd:doL s k o ⟨eth,1,eobj,-1,epc⟩=(s.put k (zC t o),⟨eth,10,o.a,(-1),epc⟩):=by unfold doL;rw[hgd];simp[hc,hwk]
   rw[hd] at hK
   dsimp only at hK
   refine hK _ (.inl ⟨zC t o,s.ths,stk t,hk,rfl,hgj,xH t o,by simp[StL.put],⟨rfl,rfl,trivial⟩,⟨?_,?_,rfl,?_,?_,?_,?_,trivial⟩,⟨fun j=>?_,trivial⟩⟩)
   ·rw[show stRef _=stRef s by simp[stRef,StL.put]]
    conv=>lhs;whnf
    all_goals (
     refine congrArg some ?_
     repeat (refine yK ?_ (xM s rfl))
     all_goals rfl)
   ·rfl
   ·rfl
   ·conv=>lhs;whnf
    all_goals (
     refine congrArg (fun x=>some (Ob.rs 109 6 x)) ?_
     apply vS
     ·repeat (first|exact rfl|apply xQ hk|apply xP (fun _=>rfl))
     ·rfl)
   ·rfl
   ·rfl
   ·repeat (first|exact rfl|refine hscrO ?_ (hg _ _)|conv=>lhs;whnf)
  |some j =>
   obtain⟨hjl,hj3,hjc⟩:=pX hwk
   have hjk:j≠k:=by
    rintro rfl
    rw[ht0] at hj3;exact hst3 hj3
   conv=>whnf
   refine kbi (fun hw=>?_) (fun hw=>?_)
   rotate_left 1
   ·simp[lN] at hw
   conv=>whnf
   refine .inr (.inl ⟨6,[],?_⟩)
   conv=>whnf
   have hd:doL s k o ⟨eth,1,eobj,-1,epc⟩=({ s with ths:=s.ths.modify j fun u=>{ u with st:=4 } }.put k (zC t o),⟨eth,10,o.a,j,epc⟩):=by unfold doL;rw[hgd];simp[hc,hwk]
   rw[hd] at hK
   dsimp only at hK
   refine⟨by kernel_rfl,?_⟩
   conv=>whnf
   refine⟨⟨by show(0:Int)≤(j:Int);omega,by show(j:Int)<s.ths.length;omega⟩,?_⟩
   conv=>whnf
   refine hK _ (.inl ⟨zC t o,s.ths.modify j fun u=>{ u with st:=4 },stk t,by simpa using hk,rfl,fun i hi=>(hgj i hi).trans (tB i).symm,xH t o,by simp[StL.put],⟨rfl,rfl,trivial⟩,⟨?_,?_,rfl,?_,?_,?_,?_,trivial⟩,⟨fun j=>?_,trivial⟩⟩)
   ·rw[show stRef _=stRef s by simp[stRef,StL.put]]
    conv=>lhs;whnf
    all_goals (
     refine congrArg some ?_
     repeat (refine yK ?_ (xM s rfl))
     all_goals rfl)
   ·rfl
   ·rfl
   ·conv=>lhs;whnf
    all_goals (
     refine congrArg (fun x=>some (Ob.rs 109 6 x)) ?_
     refine tM hjl hjk ?_
     repeat (first|exact rfl|refine qD ?_ rfl (fun _=>rfl)))
   ·rfl
   ·rfl
   ·repeat (first|exact rfl|refine hscrO ?_ (hg _ _)|conv=>lhs;whnf)
 have n17:¬ o.code=17:=by simpa using hc
 clear hc
 conv=>whnf
 have hcode:4≤o.code∧o.code≤9:=by have:=o1.1;have:=o1.2;omega
 have htk:xK o=2:=by simp only[xK,zA];rw[if_neg (by omega),if_neg (by omega),if_pos hcode];rfl
 refine .inr (.inr (.inr ⟨[0],by kernel_rfl,15,[],?_⟩))
 conv=>whnf
 refine⟨yE (zC t o),⟨by repeat (first|exact zN hk|refine yZ ?_ (zX rfl _)),by simp[yE]⟩,?_⟩
 conv=>whnf
 refine⟨encF (yL t o 0),⟨by omega,wP o5 (by omega),by simp[encF]⟩,?_⟩
 conv=>whnf
 refine⟨encF (yL t o 1),⟨by omega,wP o5 (by omega),by simp[encF]⟩,?_⟩
 conv=>whnf
 refine⟨_,eM _ _ _ hcode (lV hfl) (lV hfl),?_⟩
 conv=>whnf
 refine⟨by kernel_rfl,?_⟩
 conv=>whnf
 refine⟨⟨rfl,by rw[hpl];simp;omega,by rw[hpl];simp;omega⟩,?_⟩
 conv=>whnf
 have hd:doL s k o ⟨eth,1,eobj,-1,epc⟩=(s.put k (zL (zC t o) (yN o.code (yL t o 0) (yL t o 1))),⟨eth,1,eobj,-1,epc⟩):=by unfold doL;rw[hgd];simp[n1,n2,n3,n10,n11,n12,n13,n14,n15,n16,n17]
 rw[hd] at hK
 dsimp only at hK
 refine hK _ (.inl ⟨zL (zC t o) (yN o.code (yL t o 0) (yL t o 1)),s.ths,stk (zL (zC t o) (yN o.code (yL t o 0) (yL t o 1))),hk,rfl,hgj,qV _,by simp[StL.put],⟨rfl,rfl,trivial⟩,⟨?_,?_,rfl,?_,?_,?_,?_,trivial⟩,⟨fun j=>?_,trivial⟩⟩)
 ·rw[show stRef _=stRef s by simp[stRef,StL.put]]
  conv=>lhs;whnf
  all_goals (
   refine congrArg some ?_
   repeat (refine yK ?_ (xM s rfl))
   all_goals rfl)
 ·rfl
 ·conv=>lhs;whnf
  show some (Ob.ds 100 1 _)=some (Ob.ds 100 1 _)
  simp[stk,zL,zC,encF]
 ·conv=>lhs;whnf
  all_goals (
   refine congrArg (fun x=>some (Ob.rs 109 6 x)) ?_
   apply vS
   ·repeat (first|exact rfl|apply xQ hk|apply xP (fun _=>rfl))
   ·show[_,_,_,_,_,AV.ref (.n 899) 0 ((zC t o).stack.length+1)]=_
    simp[yE,zL]
    exact⟨rfl,rfl,rfl,rfl,rfl⟩)
 ·rfl
 ·rfl
 ·repeat (first|exact rfl|refine hscrO ?_ (hg _ _)|conv=>lhs;whnf)
theorem doI_okA0 (hI:yP) (E:TypeId) (s:StL) (k:Nat) (o:OpL) (e:Ev) (hk:k<s.ths.length) (h5:s.ths.length≤5)
  (hs:s.small) (ho:o.fits s s.ths[k]) (hpc:InR s.ths[k].pc 0 1048576) (hst3:s.ths[k].st≠3) (he:e.kind=1) (hel:e.lock=-1) (hfl:∀ x∈s.ths[k].stack,x<18446744073709551616) (hjo:o.code=15→∃ j,yR (yL s.ths[k] o 0) s.ths.length=some j∧zU s s.ths[k]=some j)
  (H0:Key→Option Ob) (h0:H0 (.l 0)=some (.vs E ([]++stRef s))) (h1:H0 (.n 899)=some (.ds 100 1 (stk s.ths[k]))) (h2:H0 (.n 900)=some (.rs 109 6 (rowsA s.ths k s.ths[k]))) (h3:∀ j,H0 (.s 900 j)=fam0 s.ths k j)
  (h4:H0 (.n 901)=some (.ds 100 1 (s.cells.map encF))) (h6:H0 (.n 902)=some (.ds 3 1 (s.owner.map encInt))) :
  IOCall EE 176 [.ptr (.l 0) 0,i64 k,agg (encOp o),agg (encEv e)] H0 (doIPost E [] k (doL s k o e).1 (doL s k o e).2):=by
 refine io_of_AW (fn:=Tryz.f176) (c:=Tryz.f176.body.getD .skip) Tryz.func176 rfl (by kernel_rfl) rfl ?_
 have hat:At [(0,.ptr (.l 0) 0),(1,i64 k),(2,agg (encOp o)),(3,agg (encEv e))] [(.l 0,.vs E ([]++stRef s)),(.n 899,.ds 100 1 (stk s.ths[k])),(.n 900,.rs 109 6 (rowsA s.ths k s.ths[k])),(.n 901,.ds 100 1 (s.cells.map encF)),(.n 902,.ds 3 1 (s.owner.map encInt))] [(900,fam0 s.ths k)]
   ⟨fun i=>[AV.ptr (.l 0) 0,i64 k,agg (encOp o),agg (encEv e)].getD i .junk,H0⟩ :=
  ⟨⟨rfl,rfl,rfl,rfl,trivial⟩,⟨h0,h1,h2,h4,h6,trivial⟩,⟨h3,trivial⟩⟩
 obtain⟨τ,H,hf⟩:=hat.form
 rw[hf]
 have hst:=hs.2.1 _ (List.getElem_mem hk)
 have hgk:fam0 s.ths k k=none:=by unfold fam0;rw[nbeq_self];rfl
 refine dD 7 (At (doI1 0 k o s.ths[k]) (doIO E [] s k o e s.ths[k] (zC s.ths[k] o)) [(900,fam0 s.ths k)]) (fun K hK=>doI_preB0 E (fam0 s.ths k) (yX _ _) s k o e hk s.ths[k] ho.2.2.2.2 hst hpc τ H _ K hK) (fun S hS=>?_)
 refine dD 1 (DoI2 E [] (fam0 s.ths k) k (doL s k o e).1 (doL s k o e).2) (fun K hK=>doI_swB0 hI E (fam0 s.ths k) (yX _ _) s k o e hk h5 (fun j hj=>by unfold fam0;rw[nbeq_ne hj];rfl) hs ho hpc hst3 he hel hfl hjo _ K S hS hK) (fun S' hS'=>?_)
 have hp:InertL []:=fun x hx=>by cases hx
 rcases hS' with ⟨t',h⟩|⟨l',t',r,h⟩
 ·exact doI_fin E _ hp _ k (yX _ _) (fam0_cut _ _ _) hgk _ _ S' t' h
 ·exact doI_finF E _ hp _ k (yX _ _) (gP _ _) hgk _ _ S' l' t' r h
theorem stepI_A0 (hI:yP) (E:TypeId) (p:ProgL) (s:StL) (k:Nat) (hp:p.wf) (hk:k<s.ths.length) (h5:s.ths.length≤5)
  (hs:s.small) (hr:s.ths[k].ready p s k) (hst3:s.ths[k].st≠3) (hfl:∀ x∈s.ths[k].stack,x<18446744073709551616) (hjo:∀ o,yA p s.ths[k]=some o→zV s k o=0→o.code=15→∃ j,yR (yL s.ths[k] o 0) s.ths.length=some j∧zU s s.ths[k]=some j)
  (H0:Key→Option Ob) (h0:H0 (.l 0)=some (.vs E ([]++stRef s))) (h1:H0 (.n 899)=some (.ds 100 1 (stk s.ths[k]))) (h2:H0 (.n 900)=some (.rs 109 6 (rowsA s.ths k s.ths[k]))) (h3:∀ j,H0 (.s 900 j)=fam0 s.ths k j)
  (h4:H0 (.n 901)=some (.ds 100 1 (s.cells.map encF))) (h6:H0 (.n 902)=some (.ds 3 1 (s.owner.map encInt))) :
  IOCall EE 129 [.ptr (.l 0) 0,agg (encProg p),i64 k] H0 (doIPost E [] k (stepL p s k).1 (stepL p s k).2):=by
 refine io_of_AW (fn:=Tryz.f129) (c:=Tryz.f129.body.getD .skip) Tryz.func129 rfl (by kernel_rfl) rfl ?_
 have hat:At [(0,.ptr (.l 0) 0),(1,agg (encProg p)),(2,i64 k)] [(.l 0,.vs E ([]++stRef s)),(.n 899,.ds 100 1 (stk s.ths[k])),(.n 900,.rs 109 6 (rowsA s.ths k s.ths[k])),(.n 901,.ds 100 1 (s.cells.map encF)),(.n 902,.ds 3 1 (s.owner.map encInt))] [(900,fam0 s.ths k)]
   ⟨fun i=>[AV.ptr (.l 0) 0,agg (encProg p),i64 k].getD i .junk,H0⟩ :=
  ⟨⟨rfl,rfl,rfl,trivial⟩,⟨h0,h1,h2,h4,h6,trivial⟩,⟨h3,trivial⟩⟩
 obtain⟨τ,H,hf⟩:=hat.form
 rw[hf]
 have hst:=hs.2.1 _ (List.getElem_mem hk)
 have hgd:s.ths.getD k th0=s.ths[k]:=by simp[List.getD_eq_getElem?_getD,hk]
 have hp3:InertL []:=fun x hx=>by cases hx
 have hpc:=hr.pc
 clear hat hf h0 h1 h2 h3 h4 h6
 generalize ht0:s.ths[k]=t at *
 conv=>whnf
 refine⟨⟨by omega,by omega⟩,?_⟩
 conv=>whnf
 refine⟨yE t,⟨by repeat (first|exact zN hk|refine yZ ?_ (zX rfl t)),by simp[yE]⟩,?_⟩
 conv=>whnf
 refine .inr (.inl ⟨10,[],?_⟩)
 conv=>whnf
 refine⟨yE t,⟨by repeat (first|exact zN hk|refine yZ ?_ (zX rfl t)),by simp[yE]⟩,?_⟩
 conv=>whnf
 refine⟨_,Eq.mp (congrArg (fun x=>CallsTo EE 160 [agg (encProg p),.agg [i64 t.rt,i64 t.pc,i64 t.st,i64 t.cond,i64 t.lock,sl x]] _) (qV t).symm) (tT p t hp hr.inP),?_,?_⟩
 ·intro c hc
  simp only[List.mem_cons,List.not_mem_nil,or_false] at hc
  rcases hc with rfl|rfl
  ·exact .inr ⟨encOp _,rfl,rfl⟩
  ·exact .inl ⟨_,rfl,rfl⟩
 conv=>whnf
 refine⟨by kernel_rfl,?_⟩
 conv=>whnf
 refine⟨yE t,⟨by repeat (first|exact zN hk|refine yZ ?_ (zX rfl t)),by simp[yE]⟩,?_⟩
 conv=>whnf
 have hp3:InertL []:=fun x hx=>by cases hx
 refine kbi (fun h4=>?_) (fun h4=>?_)
 ·have h4:t.st=4:=by simpa using h4
  have hlk:=hr.lock h4
  have hd:stepL p s k=({ s with owner:=s.owner.set t.lock.toNat ((k:Nat):Int) }.put k { t with st:=1,cond:=-1,lock:=-1,pc:=if (yA p t).isSome=true then t.pc+1 else t.pc },{ ev0 k t with kind:=9,obj:=t.cond,lock:=t.lock }):=by
   unfold stepL;rw[hgd,if_pos h4]
  conv=>whnf
  refine .inr (.inl ⟨12,[],?_⟩)
  conv=>whnf
  refine⟨yE t,⟨by repeat (first|exact zN hk|refine yZ ?_ (zX rfl _)),by simp[yE]⟩,?_⟩
  conv=>whnf
  refine⟨yE t,⟨by repeat (first|exact zN hk|refine yZ ?_ (zX rfl _)),by simp[yE]⟩,?_⟩
  conv=>whnf
  refine⟨by kernel_rfl,?_⟩
  conv=>whnf
  refine .inr (.inl ⟨9,[],?_⟩)
  conv=>whnf
  refine⟨yE t,⟨by repeat (first|exact zN hk|refine yZ ?_ (zX rfl _)),by simp[yE]⟩,?_⟩
  conv=>whnf
  refine⟨by kernel_rfl,?_⟩
  conv=>whnf
  refine⟨⟨by omega,by omega⟩,?_⟩
  conv=>whnf
  refine .inr (.inl ⟨7,[],?_⟩)
  conv=>whnf
  refine⟨yE { t with st:=1,cond:=-1,lock:=-1 },⟨yZ (tN hk ?_) (zX rfl _),by simp[yE]⟩,?_⟩
  ·apply vS
   ·repeat (first|exact rfl|apply xQ hk|apply xP (fun _=>rfl))
   ·rfl
  conv=>whnf
  refine⟨_,qK _,?_⟩
  conv=>whnf
  refine⟨by kernel_rfl,?_⟩
  conv=>whnf
  refine⟨_,Weak.refl,?_⟩
  conv=>whnf
  rw[hd]
  refine⟨wA,by rfl,?_⟩
  refine uI hp3 (l:=s.ths) (t':={ t with st:=1,cond:=-1,lock:=-1,pc:=if (yA p t).isSome=true then t.pc+1 else t.pc }) hk rfl ?_ ?_ ?_ (fun j=>?_) ?_ ?_
  ·refine Eq.trans ?_ (congrArg (fun x=>some (Ob.vs E ([]++x))) (show stRef s=stRef _ by simp[stRef,StL.put]))
   conv=>lhs;whnf
   all_goals (
    refine congrArg some ?_
    repeat (refine yK ?_ (xM s rfl))
    all_goals rfl)
  ·rfl
  ·conv=>lhs;whnf
   all_goals (
    refine congrArg (fun x=>some (Ob.rs 109 6 x)) ?_
    apply vS
    ·repeat (first|exact rfl|apply xQ hk|apply xP (fun _=>rfl))
    ·have ew:IntKind.i64.wrap (t.pc+(if (yA p t).isSome=true then 1 else 0))=(if (yA p t).isSome=true then t.pc+1 else t.pc):=by have a:=hpc.1;have b:=hpc.2;split <;> rw[zE (by omega) (by omega)];omega
     show[_,AV.d (.int .i64 (IntKind.i64.wrap (t.pc+(if (yA p t).isSome=true then 1 else 0)))),_,_,_,_]=_
     rw[ew]
     rfl)
  ·repeat (first|exact rfl|refine hscrO ?_ (yX _ _ _ _)|conv=>lhs;whnf)
  ·rfl
  ·conv=>lhs;whnf
   show some (Ob.ds 3 1 ((s.owner.map encInt).set (0+t.lock.toNat) (encInt ((k:Nat):Int))))=some (Ob.ds 3 1 ((s.owner.set t.lock.toNat ((k:Nat):Int)).map encInt))
   rw[Nat.zero_add,List.map_set]
 have h4:¬ t.st=4:=by simpa using h4
 cases hn:yA p t with
 |none =>
  conv=>whnf
  have hd:stepL p s k=(s.put k { t with st:=2 },{ ev0 k t with kind:=11 }):=by
   unfold stepL;rw[hgd];simp[h4,hn]
  refine⟨_,Weak.refl,?_⟩
  conv=>whnf
  rw[hd]
  refine⟨wA,by rfl,?_⟩
  refine uI hp3 (l:=s.ths) (t':={ t with st:=2 }) hk rfl ?_ ?_ ?_ (fun j=>?_) ?_ ?_
  ·refine Eq.trans ?_ (congrArg (fun x=>some (Ob.vs E ([]++x))) (show stRef s=stRef _ by simp[stRef,StL.put]))
   conv=>lhs;whnf
   all_goals (
    refine congrArg some ?_
    repeat (refine yK ?_ (xM s rfl))
    all_goals rfl)
  ·rfl
  ·conv=>lhs;whnf
   all_goals (
    refine congrArg (fun x=>some (Ob.rs 109 6 x)) ?_
    apply vS
    ·repeat (first|exact rfl|apply xQ hk|apply xP (fun _=>rfl))
    ·rfl)
  ·repeat (first|exact rfl|refine hscrO ?_ (yX _ _ _ _)|conv=>lhs;whnf)
  ·rfl
  ·rfl
 |some o =>
  obtain⟨hoS,hoF⟩:=hr.op o hn
  conv=>whnf
  refine .inl ⟨[.fp (encSt s),i64 k,agg (encOp o)],[],_,⟨_,_,rfl,FzA_ptr (E:=E) (cs:=[]++stRef s) ?_ (fz_stA (k:=k) (t:=t) (els:=stk t) hk ht0 ?_ (fun j hj hjl=>?_) rfl (by simp[stk,List.take_of_length_le]) ?_ ?_),_,_,rfl,rfl,_,_,rfl,⟨encOp o,rfl,_,_,rfl,rfl,_,_,rfl,rfl,_,_,rfl,rfl,_,_,rfl,rfl,rfl⟩,rfl⟩,rfl,oC hI s k o hk hs hoS,?_⟩
  ·conv=>lhs;whnf
   all_goals (
    refine congrArg some ?_
    repeat (refine yK ?_ (xM s rfl))
    all_goals rfl)
  ·conv=>lhs;whnf
   all_goals (
    refine congrArg (fun x=>some (Ob.rs 109 6 x)) ?_
    repeat (first|exact rfl|refine qD ?_ rfl (fun _=>rfl)))
  ·refine Eq.trans (b:=fam0 s.ths k j) ?_ (by simp[fam0,nbeq_ne hj,zS,hjl])
   repeat (first|exact rfl|refine hscrO ?_ (yX _ _ _ _)|conv=>lhs;whnf)
  ·rfl
  ·rfl
  rintro r rfl
  refine⟨rfl,?_⟩
  conv=>whnf
  refine kbi (fun h6=>?_) (fun h6=>?_)
  ·have h6:¬ zV s k o=0:=by simpa using h6
   have hd:stepL p s k=({ s with fault:=zV s k o },{ ev0 k t with kind:=12,obj:=zV s k o }):=by
    unfold stepL;rw[hgd];simp[h4,hn,h6]
   conv=>whnf
   refine⟨_,Weak.refl,?_⟩
   conv=>whnf
   rw[hd]
   refine⟨wA,by rfl,?_⟩
   refine uI hp3 (l:=s.ths) (t':=t) hk (by show s.ths=s.ths.set k t;rw[← ht0,List.set_getElem_self]) ?_ ?_ ?_ (fun j=>?_) ?_ ?_
   ·conv=>lhs;whnf
    refine congrArg some ?_
    repeat (refine yK ?_ (xM { s with fault:=zV s k o } rfl))
    refine congrArg (Ob.vs E) (fault_vs (pre:=[]) ?_)
    repeat (refine hscrL ?_ (n5 s rfl))
    all_goals rfl
   ·rfl
   ·conv=>lhs;whnf
    all_goals (
     refine congrArg (fun x=>some (Ob.rs 109 6 x)) ?_
     apply vS
     ·repeat (first|exact rfl|apply xQ hk|apply xP (fun _=>rfl))
     ·rfl)
   ·repeat (first|exact rfl|refine hscrO ?_ (yX _ _ _ _)|conv=>lhs;whnf)
   ·rfl
   ·rfl
  ·have h6:zV s k o=0:=by simpa using h6
   have hd:stepL p s k=doL s k o (ev0 k t):=by
    unfold stepL;rw[hgd];simp[h4,hn,h6]
   conv=>whnf
   refine .inr (.inl ⟨999,99,wA,_,doI_okA0 hI E s k o { ev0 k t with kind:=1 } hk h5 hs (by rw[ht0];exact hoF h6) (by rw[ht0];exact hpc) (by rw[ht0];exact hst3) rfl rfl (by rw[ht0];exact hfl) (by rw[ht0];exact hjo o hn h6) _ ?_ ?_ ?_ (fun j=>?_) ?_ ?_,rfl,?_⟩)
   ·conv=>lhs;whnf
    refine congrArg some ?_
    repeat (first|exact rfl|refine yK ?_ (xM s rfl)|refine rR ?_ (oZ hp3 s))
   ·rw[ht0]
    rfl
   ·rw[ht0]
    conv=>lhs;whnf
    refine congrArg some ?_
    repeat (first|exact rfl|refine yK ?_ (gY rfl (fun _=>rfl) _ _ _)|refine rR ?_ (gZ _ _ _))
   ·repeat (first|exact rfl|refine hscrO ?_ (yX _ _ _ _)|refine iT ?_ (gP _ _ _ _)|conv=>lhs;whnf)
   ·rfl
   ·rfl
   rintro r H1 ⟨rfl,hk2,rfl⟩
   refine⟨eV,?_,?_⟩
   ·intro n hn
    have:n=0:=by simpa[wA] using hn
    subst this
    exact⟨E,_,_,rfl,rfl⟩
   conv=>whnf
   refine⟨_,Weak.refl,?_⟩
   conv=>whnf
   rw[hd]
   refine⟨wA,by rfl,?_⟩
   refine uI hp3 (l:=(doL s k o (ev0 k t)).1.ths) (t':=(doL s k o (ev0 k t)).1.ths[k]) hk2 (List.set_getElem_self _).symm ?_ ?_ ?_ (fun j=>?_) ?_ ?_
   ·conv=>lhs;whnf
    refine congrArg some ?_
    repeat (first|exact rfl|refine yK ?_ (xM _ rfl)|refine rR ?_ (oZ hp3 _))
   ·rfl
   ·conv=>lhs;whnf
    refine congrArg some ?_
    repeat (first|exact rfl|refine yK ?_ (gY rfl (fun _=>rfl) _ _ _)|refine rR ?_ (gZ _ _ _))
   ·refine Eq.trans (b:=fam0 (doL s k o (ev0 k t)).1.ths k j) ?_ rfl
    repeat (first|exact rfl|refine hscrO ?_ (yX _ _ _ _)|refine iT ?_ (gP _ _ _ _)|conv=>lhs;whnf)
   ·rfl
   ·rfl
theorem stepI_ok0 (hI:yP) (E:TypeId) (p:ProgL) (s:StL) (k:Nat) (hp:p.wf) (hk:k<s.ths.length) (h5:s.ths.length≤5)
  (hs:s.small) (hr:s.ths[k].ready p s k) (hst3:s.ths[k].st≠3) (hfl:∀ x∈s.ths[k].stack,x<18446744073709551616) (hjo:∀ o,yA p s.ths[k]=some o→zV s k o=0→o.code=15→∃ j,yR (yL s.ths[k] o 0) s.ths.length=some j∧zU s s.ths[k]=some j)
  (H0:Key→Option Ob) (hH:AtC E [] s H0) :
  IOCall EE 129 [.ptr (.l 0) 0,agg (encProg p),i64 k] H0 (fun r H1=>r=agg (encEv (stepL p s k).2)∧H1=stHC E [] (stepL p s k).1):=by
 have hp3:InertL []:=fun x hx=>by cases hx
 refine io_canon hp3 hk ?_ hH fun H0 a b c d e f=>stepI_A0 hI E p s k hp hk h5 hs hr hst3 hfl hjo H0 a b c d e f
 simp only[List.map_cons,List.map_nil,agg_ren]
 rfl
end Ai
namespace Ai
set_option maxRecDepth 100000
open Go Go.Proofs Cyc
theorem w4 (p:ProgL) (hp:p.wf) (hg:p.goodS) (hv:p.flt) (s:StL) (hi:AInv p s) (k:Nat) (hk:k∈enabledL p s) (b:Int) (sl:Bool) (d1:List (List D)) :
  CallsTo EE 134 [.fp (encProg p++[di b,.sl d1,.bool sl]),agg (encSt s),i64 k] (·=agg (encEv (stepL p s k).2)):=by
 have hok:=runOK hg
 refine callsTo_of_AW (fn:=Tryz.f134) Tryz.func134 rfl (by kernel_rfl) rfl ?_
 conv=>whnf
 refine⟨_,oI s (hok.small s hi.si).1,?_⟩
 rintro r rfl
 conv=>whnf
 have hri:=runI hg hv
 have hin:SInv p s∧s.flt:=⟨hi.si,hi.fl⟩
 have hs:=hri.small s hin
 have hkl:=en_lt hk
 refine .inr (.inl ⟨7,0,mW,_,stepI_ok0 lW 44 p s k hp hkl hs.2 hs.1 (hri.ready s hin k hk hkl) (hri.awake s hin k hk hkl) (hri.flt s hin _ (List.getElem_mem hkl)) (hri.joins s hin k hk hkl) _ ⟨?_,rfl,?_,fun j=>?_,?_,?_⟩,rfl,?_⟩)
 ·show some (Ob.vs 44 [.dref (.n 900) (s.ths.map bT).length,.ref (.n 901) 0 (s.cells.map encF).length,.ref (.n 902) 0 (s.owner.map encInt).length,i64 s.fault])=some (Ob.vs 44 [.dref (.n 900) s.ths.length,.ref (.n 901) 0 s.cells.length,.ref (.n 902) 0 s.owner.length,i64 s.fault])
  rw[List.length_map,List.length_map,List.length_map]
 ·show some (Ob.rs 109 6 ((((thRows 900 s.ths).map (scrPL (isK (.n 7)))).map (renL (swp (.n 7) (.l 0)))).map (scrPL fun o=>!mW o)))=_
  rw[yF (fun _ _=>rfl),qU]
  exact congrArg (fun x=>some (Ob.rs 109 6 x)) (yF fun _ _=>rfl)
 ·refine(congrArg (fun x=>Option.map (scrPO (fun o=>!mW o)) (Option.map (renO (swp (.n 7) (.l 0))) (Option.map (scrPO (isK (.n 7))) x))) (sN s j)).trans ?_
  show Option.map _ (Option.map _ (Option.map _ (zS s.ths j)))=_
  rw[yH,thFam_ren,yH]
 ·rfl
 ·rfl
 rintro q H1 ⟨rfl,rfl⟩
 refine⟨eU,fun n hn=>?_,?_⟩
 ·have:n=0:=by simpa[mW] using hn
  subst this
  exact⟨44,_,_,rfl,rfl⟩
 conv=>whnf
 rfl
end Ai
