import Derived.Test.YtbfdknfodpcdnaaGreatDoorZB
import Derived.Scope
import Derived.Test.YtbfdknfodpcdnaaGreatDoorProg
import Derived.IntWalk
import Derived.Lib.LaidTab
import Derived.Shelf.Strconv.Itoa3
import Derived.Laws.StructEq
import Derived.Lib.Join
import Derived.Lib.ItoaNum
import Derived.Sort.Grow
import Derived.Shelf.Slices.Clone
import Derived.Shelf.Slices.Delete
import Derived.Ground.Names2Prog
import Derived.Lib.SlicesCompact
import Derived.WalkKit
import Derived.ChangeArms
import Derived.Deep.Slices
set_option maxHeartbeats 8000000
set_option linter.unusedVariables false
set_option linter.unusedSimpArgs false
namespace Ai
open Go Go.RowKit
section
variable {E:Env} {N:Nat} {A:Fr} {w0 w w':World} {m m':Own} {s s':St} {a:Act} {dst:Option Tmp} {ops:Array Oper} {rs:List Rec}
def uU (rs:List Rec) (i:Nat):Option Tmp:=(rs[i]?).bind (·.jk)
def jZ (o:Oper) (rs:List Rec) (i:Nat) (v:AV) (O:Key→Option Ob) (s:St):St:=eff v O (uU rs i) o.dst s
def PkN (E:Env) (N:Nat) (ops:Array Oper) (rs:List Rec) (i:Nat) (o:Oper) (s:St) (v:AV) (O:Key→Option Ob):Prop :=
 (wants N ops o.guard s=some true∧∃ r,rs[i]?=some r∧r.jk=wK o.op∧(∀ c∈yG (evs N s o.op.operands),c∈r.rd)∧Pkc E N o.op o.dst s v O r.wr r.fr r.vk) ∨
 (wants N ops o.guard s=some false∧v=xF∧(O=fun _=>none)∧∃ r,rs[i]?=some r∧r.jk=none)
def aR (rs:List Rec) (listed:Array Bool) (s:St):Prop:=∀ i r,rs[i]?=some r→listed.getD i false=false→(∀ c∈r.fr,NoK c s)∧∀ d,r.jk=some d→Only (3*d) d s
def AAnyE (E:Env) (N:Nat) (ops:Array Oper) (rs:List Rec) (p:Nat) (K:Array Bool→St→Prop):Nat→Array Bool→St→Prop
 | 0,listed,s=>K listed s
 |fuel+1,listed,s=>Region.ready .any ops listed≠[]∧∀ i∈Region.ready .any ops listed,i<p∧∃ o v O,ops[i]?=some o∧PkN E N ops rs i o s v O ∧
   AAnyE E N ops rs p K fuel (listed.setIfInBounds i true) (jZ o rs i v O s)
theorem PkN.dom {i:Nat} {o:Oper} {v:AV} {O:Key→Option Ob} (h:PkN E N ops rs i o s v O) {r:Rec} (hr:rs[i]?=some r) (κ:Key) (hk:O κ≠none):cls κ∈r.wr:=by
 rcases h with ⟨_,r',h1,_,_,h2⟩|⟨_,_,rfl,_⟩
 ·rw[hr] at h1;injection h1 with h1;subst h1
  exact h2.1 κ hk
 ·exact absurd rfl hk
theorem PkN.move {i:Nat} {o:Oper} {v:AV} {O:Key→Option Ob} (h:PkN E N ops rs i o s v O) (hw:wants N ops o.guard s'=wants N ops o.guard s) (hev:∀ x∈o.op.operands,ev N s' x=ev N s x)
  (hH:∀ r,rs[i]?=some r→∀ κ,cls κ∈r.rd→s'.H κ=s.H κ):PkN E N ops rs i o s' v O:=by
 rcases h with ⟨h1,r,h2,hj,h3,h4⟩|⟨h1,h2,h3,h4⟩
 ·have he:evs N s' o.op.operands=evs N s o.op.operands:=evs_c hev
  refine .inl ⟨hw.trans h1,r,h2,hj,by rw[he];exact h3,h4.1,fun s2 hA hf ho=>h4.2 s2 ⟨fun x hx=>(hA.1 x hx).trans (hev x hx),fun κ hk=>?_⟩ hf ho⟩
  rw[hA.2 κ (by rw[he];exact hk),hH r h2 κ (h3 _ hk)]
 ·exact .inr ⟨hw.trans h1,h2,h3,h4⟩
theorem ev_eff {O:Key→Option Ob} {v:AV} {d2:Option Tmp} {x:Operand} (h:∀ d,dst=some d→x≠.tmp d) (h2:∀ d,d2=some d→x≠.tmp d):ev N (eff v O d2 dst s) x=ev N s x:=by
 unfold eff
 rw[j7 h,j7 h2]
 cases x <;> rfl
theorem eO (o:Oper) {O:Key→Option Ob} {v:AV} {d2:Option Tmp} (h:∀ d,dst=some d→d ∉ o.looksAt ops) (h2:∀ d,d2=some d→d ∉ o.looksAt ops):wants N ops o.guard (eff v O d2 dst s)=wants N ops o.guard s:=by
 unfold eff
 rw[dE o _ dst v h,dE o _ d2 .junk h2]
 unfold wants
 cases o.guard with
 |none=>rfl
 |some p =>
  obtain⟨j,b⟩:=p
  simp only
  cases ops[j]? with
  |none=>rfl
  |some oj =>
   simp only
   cases oj.dst <;> rfl
theorem eff_H (v:AV) (O:Key→Option Ob) (d2 dst:Option Tmp) (s:St) (κ:Key) (h:O κ=none):(eff v O d2 dst s).H κ=s.H κ:=by
 unfold eff
 rw[iD,iD]
 show(match O κ with|some ob=>some ob|none=>s.H κ)=s.H κ
 rw[h]
theorem mS {o:Oper} {x:Operand} (hx:x∈o.op.operands) {d:Tmp} (h:d ∉ o.looksAt ops):x≠.tmp d:=fun e=>h (by
 subst e
 exact List.mem_append_left _ (List.mem_filterMap.2 ⟨.tmp d,by simpa using hx,rfl⟩))
theorem PkN.past {i:Nat} {o:Oper} {v u:AV} {O U:Key→Option Ob} {d2:Option Tmp} (h:PkN E N ops rs i o s v O) (hd:∀ d,dst=some d→d ∉ o.looksAt ops) (hd2:∀ d,d2=some d→d ∉ o.looksAt ops)
  (hU:∀ r,rs[i]?=some r→∀ κ,cls κ∈r.rd→U κ=none):PkN E N ops rs i o (eff u U d2 dst s) v O :=
 h.move (eO o hd hd2) (fun x hx=>ev_eff (fun d e=>mS hx (hd d e)) fun d e=>mS hx (hd2 d e)) fun r hr κ hk=>eff_H _ _ _ _ _ _ (hU r hr κ hk)
theorem PkN.back {i:Nat} {o:Oper} {v u:AV} {O U:Key→Option Ob} {d2:Option Tmp} (h:PkN E N ops rs i o (eff u U d2 dst s) v O) (hd:∀ d,dst=some d→d ∉ o.looksAt ops) (hd2:∀ d,d2=some d→d ∉ o.looksAt ops)
  (hU:∀ r,rs[i]?=some r→∀ κ,cls κ∈r.rd→U κ=none):PkN E N ops rs i o s v O :=
 h.move (eO o hd hd2).symm (fun x hx=>(ev_eff (fun d e=>mS hx (hd d e)) fun d e=>mS hx (hd2 d e)).symm) fun r hr κ hk=>(eff_H _ _ _ _ _ _ (hU r hr κ hk)).symm
theorem PkN.clean {i:Nat} {o:Oper} {v:AV} {O:Key→Option Ob} (h:PkN E N ops rs i o s v O) (hcl:∀ r,rs[i]?=some r→(∀ c∈r.fr,NoK c s)∧∀ d,r.jk=some d→Only (3*d) d s) {c:Nat} (hc:∀ r,rs[i]?=some r→c ∉ r.vk) (hn:NoK c s):NoK c (jZ o rs i v O s):=by
 rcases h with ⟨_,r,h2,hj,_,h4⟩|⟨_,rfl,rfl,r,h2,hj⟩
 ·have e:uU rs i=wK o.op:=by simp only[uU,h2,Option.bind_some,hj]
  unfold jZ;rw[e]
  exact((h4.2 s ⟨fun _ _=>rfl,fun _ _=>rfl⟩ (hcl r h2).1 fun d hd=>(hcl r h2).2 d (hj.trans hd)).2.1 c (hc r h2) hn)
 ·have e:uU rs i=none:=by simp only[uU,h2,Option.bind_some,hj]
  unfold jZ;rw[e]
  exact hn.put _ fun _ _=>by simp[xF,zK,yG]
theorem PkN.only {i:Nat} {o:Oper} {v:AV} {O:Key→Option Ob} (h:PkN E N ops rs i o s v O) (hcl:∀ r,rs[i]?=some r→(∀ c∈r.fr,NoK c s)∧∀ d,r.jk=some d→Only (3*d) d s) {d:Tmp} (hc:∀ r,rs[i]?=some r→o.dst=some d∨3*d ∉ r.vk) (hn:Only (3*d) d s):Only (3*d) d (jZ o rs i v O s):=by
 rcases h with ⟨_,r,h2,hj,_,h4⟩|⟨_,rfl,rfl,r,h2,hj⟩
 ·have e:uU rs i=wK o.op:=by simp only[uU,h2,Option.bind_some,hj]
  unfold jZ;rw[e]
  have:=(h4.2 s ⟨fun _ _=>rfl,fun _ _=>rfl⟩ (hcl r h2).1 fun d hd=>(hcl r h2).2 d (hj.trans hd)).2.2
  rcases hc r h2 with hd|hd
  ·exact this.2 d hd hn
  ·exact this.1 _ d hd hn
 ·have e:uU rs i=none:=by simp only[uU,h2,Option.bind_some,hj]
  unfold jZ;rw[e]
  exact hn.put _ fun _ _ _=>by simp[xF,zK,yG]
structure Confs (ops:Array Oper) (rs:List Rec) (p:Nat):Prop where
 len:rs.length=p
 le:p≤ops.size
 pair:∀ i j,i<p→j<p→i≠j→confP ops rs i j=true
 ready:∀ k,k<ops.size→k∈Region.ready .any ops (fK ops.size k)
 alone:∀ k,p≤k→k<ops.size→Region.ready .any ops (fK ops.size k)=[k]∨s8 ops k=true
 anc:∀ k,p≤k→k<ops.size→∀ i,i<p→bY ops i ops.size k=true
theorem fM {i j:Nat} {oi oj:Oper} {ri rj:Rec} (h:confP ops rs i j=true) (h1:ops[i]?=some oi) (h2:ops[j]?=some oj) (h3:rs[i]?=some ri) (h4:rs[j]?=some rj) :
  (bY ops i ops.size j=false→bY ops j ops.size i=false→oi.apart ops oj=true∧oj.apart ops oi=true∧(∀ c∈ri.wr,c ∉ rj.rd)∧(∀ c∈ri.wr,c ∉ rj.wr)∧(∀ c∈rj.wr,c ∉ ri.rd) ∧
   (∀ d,ri.jk=some d→d ∉ oj.looksAt ops∧oj.dst≠some d∧rj.jk≠some d)∧(∀ d,rj.jk=some d→d ∉ oi.looksAt ops∧oi.dst≠some d∧ri.jk≠some d)) ∧
  (bY ops i ops.size j=false→(∀ c∈ri.fr,c ∉ rj.vk)∧∀ d,ri.jk=some d→oj.dst=some d∨3*d ∉ rj.vk):=by
 have jk:∀ (a b:Oper) (x y:Rec),jkOK a b ops x y=true→∀ d,x.jk=some d→d ∉ b.looksAt ops∧b.dst≠some d∧y.jk≠some d:=by
  intro a b x y hh d hd
  simp only[jkOK,hd,Bool.and_eq_true,Bool.not_eq_true',bne_iff_ne,ne_eq] at hh
  obtain⟨⟨g1,g2⟩,g3⟩:=hh
  exact⟨fun hm=>by simp at g1;exact g1 hm,g2,g3⟩
 unfold confP at h
 simp only[h1,h2,h3,h4,Bool.and_eq_true,Bool.or_eq_true] at h
 obtain⟨ha,hb⟩:=h
 constructor
 ·intro g1 g2
  rw[g1,g2] at ha
  simp only[Bool.false_eq_true,false_or] at ha
  obtain⟨⟨⟨⟨⟨⟨a1,a2⟩,a3⟩,a4⟩,a5⟩,a6⟩,a7⟩:=ha
  exact⟨a1,a2,gT a3,gT a4,gT a5,jk _ _ _ _ a6,jk _ _ _ _ a7⟩
 ·intro g1
  rw[g1] at hb
  simp only[Bool.false_eq_true,false_or] at hb
  refine⟨gT hb.1,fun d hd=>?_⟩
  have h2:=hb.2
  simp only[jkVk,hd,Bool.or_eq_true,beq_iff_eq,Bool.not_eq_true'] at h2
  rcases h2 with h2|h2
  ·exact .inl h2
  ·exact .inr fun hm=>by rw[mR hm] at h2;cases h2
theorem dO {listed:Array Bool} (hsz:listed.size=ops.size) (hd:DownC ops listed) {i j:Nat} (hi:i<ops.size) (hun:listed.getD i false=false) (hj:j∈Region.ready .any ops listed):bY ops i ops.size j=false:=by
 cases h:bY ops i ops.size j with
 |false=>rfl
 |true =>
  obtain⟨_,oj,hoj,hall⟩:=mem_ready.1 hj
  have:=bX ops.size j hd h (fun o ho e he hb=>by rw[hoj] at ho;injection ho with ho;subst ho;exact hall e he hb)
  rw[hun] at this;cases this
theorem gE {listed:Array Bool} (hsz:listed.size=ops.size) {i:Nat} (hi:i∈Region.ready .any ops listed):i<ops.size∧listed.getD i false=false:=by
 obtain⟨h0,oi,hoi,_⟩:=mem_ready.1 hi
 have:=(Array.getElem?_eq_some_iff.1 hoi).1
 exact⟨this,by rw[fF (by omega)] at h0;exact h0⟩
theorem AAnyE_first {p:Nat} {K:Array Bool→St→Prop} (hC:Confs ops rs p) {i:Nat} {oi:Oper} (hi:ops[i]?=some oi) (hip:i<p) (hK:∀ listed s,K listed s→listed=fK ops.size p) :
  ∀ (fuel:Nat) (listed:Array Bool) (s:St) (v:AV) (O:Key→Option Ob),listed.size=ops.size→DownC ops listed→aR rs listed s→i∈Region.ready .any ops listed→PkN E N ops rs i oi s v O →
   AAnyE E N ops rs p K fuel (listed.setIfInBounds i true) (jZ oi rs i v O s)→AAnyE E N ops rs p K (fuel+1) listed s:=by
 intro fuel
 have his:=(Array.getElem?_eq_some_iff.1 hi).1
 have hno:∀ (listed:Array Bool),listed.size=ops.size→DownC ops listed→i∈Region.ready .any ops listed→∀ j∈Region.ready .any ops listed,j<p:=by
  intro listed hsz hd hr j hj
  rcases Nat.lt_or_ge j p with h|h
  ·exact h
  ·have:=dO hsz hd his (gE hsz hr).2 hj
   rw[hC.anc j h (gE hsz hj).1 i hip] at this;cases this
 induction fuel with
 |zero =>
  intro listed s v O hsz hd hcl hr hy H
  refine⟨fun h=>(by rw[h] at hr;cases hr),fun j hj=>⟨hno listed hsz hd hr j hj,?_⟩⟩
  by_cases hji:j=i
  ·subst hji;exact⟨oi,v,O,hi,hy,H⟩
  ·have h1:=hK _ _ H
   have hjp:=hno listed hsz hd hr j hj
   obtain⟨hjs,hjun⟩:=gE hsz hj
   have h2:(listed.setIfInBounds i true).getD j false=true:=by rw[h1,fJ];simp[hjp,hjs]
   rcases cJ h2 with h3|h3
   ·exact absurd h3.symm hji
   ·rw[h3] at hjun;cases hjun
 |succ fuel ih =>
  intro listed s v O hsz hd hcl hr hy H
  refine⟨fun h=>(by rw[h] at hr;cases hr),fun j hj=>⟨hno listed hsz hd hr j hj,?_⟩⟩
  by_cases hji:j=i
  ·subst hji;exact⟨oi,v,O,hi,hy,H⟩
  ·have hjp:=hno listed hsz hd hr j hj
   obtain⟨_,oj,u,U,hoj,hpj,hrest⟩:=H.2 j (ready_mono hj hji)
   obtain⟨hjs,hjun⟩:=gE hsz hj
   obtain⟨_,hiun⟩:=gE hsz hr
   obtain⟨ri,hri⟩:∃ r,rs[i]?=some r:=⟨_,List.getElem?_eq_getElem (by rw[hC.len];exact hip)⟩
   obtain⟨rj,hrj⟩:∃ r,rs[j]?=some r:=⟨_,List.getElem?_eq_getElem (by rw[hC.len];exact hjp)⟩
   have nij:=dO hsz hd his hiun hj
   have nji:=dO hsz hd hjs hjun hr
   obtain⟨a1,a2,a3,a4,a5,a6,a7⟩:=(fM (hC.pair i j hip hjp (Ne.symm hji)) hi hoj hri hrj).1 nij nji
   obtain⟨b1,b2,b3⟩:=Oper.apart_spec a1
   obtain⟨c1,c2,c3⟩:=Oper.apart_spec a2
   have hOj:∀ r,rs[j]?=some r→∀ κ,cls κ∈r.rd→O κ=none:=fun r hr2 κ hk=>by
    rw[hrj] at hr2;injection hr2 with hr2;subst hr2
    cases hq:O κ with
    |none=>rfl
    |some ob=>exact absurd hk (a3 _ (hy.dom hri κ (by simp[hq])))
   have hji2:∀ d,uU rs i=some d→ri.jk=some d:=fun d hd=>by simpa[uU,hri] using hd
   have hjj2:∀ d,uU rs j=some d→rj.jk=some d:=fun d hd=>by simpa[uU,hrj] using hd
   have hpj':PkN E N ops rs j oj s u U:=hpj.back b1 (fun d hd=>(a6 d (hji2 d hd)).1) hOj
   have hUi:∀ r,rs[i]?=some r→∀ κ,cls κ∈r.rd→U κ=none:=fun r hr2 κ hk=>by
    rw[hri] at hr2;injection hr2 with hr2;subst hr2
    cases hq:U κ with
    |none=>rfl
    |some ob=>exact absurd hk (a5 _ (hpj.dom hrj κ (by simp[hq])))
   have hcl':aR rs (listed.setIfInBounds j true) (jZ oj rs j u U s):=by
    intro k r hrk hun
    have hkj:k≠j:=fun e=>by
     subst e
     have:k<listed.size:=by omega
     simp[this] at hun
    have hun0:listed.getD k false=false:=by rw[getD_set_ne false (Ne.symm hkj)] at hun;exact hun
    have hkp:k<p:=by rw[← hC.len];exact(List.getElem?_eq_some_iff.1 hrk).1
    have hks:k<ops.size:=Nat.lt_of_lt_of_le hkp hC.le
    have nkj:=dO hsz hd hks hun0 hj
    have hcf:=fun (r':Rec) (hr':rs[j]?=some r')=>(fM (hC.pair k j hkp hjp hkj) (Array.getElem?_eq_getElem hks) hoj hrk hr').2 nkj
    exact⟨fun c hc=>hpj'.clean (fun r' hr'=>hcl j r' hr' hjun) (fun r' hr'=>(hcf r' hr').1 c hc) ((hcl k r hrk hun0).1 c hc),fun d hd=>hpj'.only (fun r' hr'=>hcl j r' hr' hjun) (fun r' hr'=>(hcf r' hr').2 d hd) ((hcl k r hrk hun0).2 d hd)⟩
   refine⟨oj,u,U,hoj,hpj',?_⟩
   refine ih (listed.setIfInBounds j true) _ v O (by simpa using hsz) (hd.step hj) hcl' (ready_mono hr (Ne.symm hji)) (hy.past c1 (fun d hd=>(a7 d (hjj2 d hd)).1) hUi) ?_
   rw[Array.setIfInBounds_comm _ _ hji]
   have e:jZ oi rs i v O (jZ oj rs j u U s)=jZ oj rs j u U (jZ oi rs i v O s):=by
    unfold jZ eff
    rw[← mM,← mM,← mM,← mM]
    rw[over_comm (O:=O) (O':=U) fun κ hk=>?_]
    ·generalize over U (over O s)=z
     have p1:∀ (x:AV) (z:St),put (uU rs i) .junk (put oj.dst x z)=put oj.dst x (put (uU rs i) .junk z):=fun x z=>St.put_comm z x .junk fun d hd he=>(a6 d (hji2 d he)).2.1 hd
     have p2:put (uU rs i) .junk (put (uU rs j) .junk z)=put (uU rs j) .junk (put (uU rs i) .junk z):=St.put_comm z .junk .junk fun d hd he=>(a6 d (hji2 d he)).2.2 (hjj2 d hd)
     have p3:∀ (x y:AV) (z:St),put oi.dst y (put oj.dst x z)=put oj.dst x (put oi.dst y z):=fun x y z=>St.put_comm z x y fun d hd he=>b2 d he hd
     have p4:∀ (y:AV) (z:St),put oi.dst y (put (uU rs j) .junk z)=put (uU rs j) .junk (put oi.dst y z):=fun y z=>St.put_comm z .junk y fun d hd he=>(a7 d (hjj2 d hd)).2.1 he
     rw[p1,p3,p2,p4]
    ·cases hq:U κ with
     |none=>rfl
     |some ob=>exact absurd (hpj.dom hrj κ (by simp[hq])) (a4 _ (hy.dom hri κ hk))
   rw[e]
   exact hrest
def YRun (E:Env) (N:Nat) (ops:Array Oper) (rs:List Rec) (Q:List Oper→St→Prop):Nat→Nat→List Oper→St→Prop
 | 0,k,l,s=>Q l s
 |n+1,k,[],s=>False
 |n+1,k,o::l,s=>∃ v O,PkN E N ops rs k o s v O∧YRun E N ops rs Q n (k+1) l (jZ o rs k v O s)
theorem AOpX_sound {k:St→Prop} (h:SRel E N A w0 m s a w) (o:Oper) (ha:AOpX E N o.op o.dst s k):OSat E N A w0 o a w k:=by
 obtain⟨K1,h1,h2⟩:=ha
 intro next Q hn
 refine wE h o h1 _ _ fun m' s' a' w' hS hk=>?_
 obtain⟨s2,hw,hk2⟩:=h2 s' hk
 obtain⟨m2,hS2⟩:=hw _ _ _ _ _ hS
 exact hn m2 s2 a' w' hS2 hk2
theorem aEX_inv {op:Op} {k:KE} (h:aEX E N op dst s k):∃ v O wr fr vk,k wr fr vk (eff v O (wK op) dst s)∧Pkc E N op dst s v O wr fr vk:=by
 cases op with
 |call c =>
  obtain⟨cal,args,argT⟩:=c
  cases cal with
  |builtin b =>
   cases b with
   |append=>exact appendX_inv rfl h
   | _=>exact h.elim
  | _=>exact h.elim
 | _=>exact h.elim
theorem X_to_Y {cl:List Nat} {Q:List Oper→St→Prop}:∀ (n:Nat) (l:List Oper) (acc:List Rec) (s:St),XRun E N ops cl l acc Q n s →
  ∃ recs:List Rec,recs.length=n∧conf ops cl (acc++recs) (acc++recs).length=true∧YRun E N ops (acc++recs) Q n acc.length l s
 | 0,l,acc,s,h=>by
  cases l <;> (simp only[XRun] at h;exact⟨[],rfl,by simpa using h.1,h.2⟩)
 |n+1,[],acc,s,h=>h.elim
 |n+1,o::l,acc,s,h=>by
  obtain⟨dst,op,ty,pos,after,g⟩:=o
  simp only[XRun] at h
  split at h
  ·rename_i hw
   have hh:∃ v O wr fr vk,(fun wr fr vk s'=>XRun E N ops cl l (acc++[⟨yG (evs N s op.operands),wr,fr,vk,wK op⟩]) Q n s') wr fr vk (eff v O (wK op) dst s)∧Pkc E N op dst s v O wr fr vk:=by
    cases hb:chainB op dst ops.toList with
    |true=>rw[hb] at h;exact aEX_inv h
    |false=>rw[hb] at h;exact aE_inv h
   obtain⟨v,O,wr,fr,vk,h1,h2⟩:=hh
   obtain⟨recs,hl,hc,hy⟩:=X_to_Y n l _ _ h1
   have hg:(acc++(⟨yG (evs N s op.operands),wr,fr,vk,wK op⟩:Rec)::recs)[acc.length]?=some ⟨yG (evs N s op.operands),wr,fr,vk,wK op⟩:=by simp
   refine⟨⟨yG (evs N s op.operands),wr,fr,vk,wK op⟩::recs,by simp[hl],by simpa using hc,v,O,.inl ⟨hw,⟨yG (evs N s op.operands),wr,fr,vk,wK op⟩,hg,rfl,fun c hc=>hc,h2⟩,?_⟩
   unfold jZ
   rw[show uU (acc++(⟨yG (evs N s op.operands),wr,fr,vk,wK op⟩:Rec)::recs) acc.length=wK op from by simp only[uU,hg,Option.bind_some]]
   simpa using hy
  ·rename_i hw
   obtain⟨recs,hl,hc,hy⟩:=X_to_Y n l _ _ h
   have hg:(acc++(⟨[],[],[],[],none⟩:Rec)::recs)[acc.length]?=some ⟨[],[],[],[],none⟩:=by simp
   refine⟨⟨[],[],[],[],none⟩::recs,by simp[hl],by simpa using hc,xF,fun _=>none,.inr ⟨hw,rfl,rfl,_,hg,rfl⟩,?_⟩
   unfold jZ
   rw[show uU (acc++(⟨[],[],[],[],none⟩:Rec)::recs) acc.length=none from by simp only[uU,hg,Option.bind_some]]
   rw[eff_none,iG]
   simpa using hy
  ·exact h.elim
theorem oV {p:Nat} {Q:List Oper→St→Prop} (hC:Confs ops rs p):∀ (n k:Nat) (l:List Oper) (s:St),(∀ j,l[j]?=ops[k+j]?)→k+n=p→aR rs (fK ops.size k) s→YRun E N ops rs Q n k l s →
  AAnyE E N ops rs p (fun listed s=>listed=fK ops.size p∧Q (ops.toList.drop p) s) n (fK ops.size k) s
 | 0,k,l,s,hl,hk,_,h=>by
  have hk:k=p:=by omega
  subst hk
  refine⟨rfl,?_⟩
  have:l=ops.toList.drop k:=by
   apply List.ext_getElem?
   intro j
   rw[hl j,List.getElem?_drop,Array.getElem?_toList]
  rw[← this];exact h
 |n+1,k,[],s,hl,hk,_,h=>h.elim
 |n+1,k,o::l,s,hl,hk,hcl,h=>by
  obtain⟨v,O,h1,h2⟩:=h
  have hkp:k<p:=by omega
  have hks:k<ops.size:=Nat.lt_of_lt_of_le hkp hC.le
  have h0:ops[k]?=some o:=by simpa using (hl 0).symm
  have hdn:DownC ops (fK ops.size k):=aQ fun j hj=>hC.ready j (by omega)
  have hkr:=hC.ready k hks
  have hcl':aR rs (fK ops.size (k+1)) (jZ o rs k v O s):=by
   intro j r hr hun
   have hjp:j<p:=by rw[← hC.len];exact(List.getElem?_eq_some_iff.1 hr).1
   have hjs:j<ops.size:=Nat.lt_of_lt_of_le hjp hC.le
   rw[fJ] at hun
   have hjk:k<j:=by
    rcases Nat.lt_or_ge k j with h|h
    ·exact h
    ·simp at hun;omega
   have hun0:(fK ops.size k).getD j false=false:=by rw[fJ];simp;omega
   have hcf:=fun (r':Rec) (hr':rs[k]?=some r')=>(fM (hC.pair j k hjp hkp (by omega)) (Array.getElem?_eq_getElem hjs) h0 hr hr').2 (dO (kM _ _) hdn hjs hun0 hkr)
   have hk0:=fun (r':Rec) (hr':rs[k]?=some r')=>hcl k r' hr' (by rw[fJ];simp)
   exact⟨fun c hc=>h1.clean hk0 (fun r' hr'=>(hcf r' hr').1 c hc) ((hcl j r hr hun0).1 c hc),fun d hd=>h1.only hk0 (fun r' hr'=>(hcf r' hr').2 d hd) ((hcl j r hr hun0).2 d hd)⟩
  refine AAnyE_first hC h0 hkp (fun _ _ h=>h.1) n (fK ops.size k) s v O (kM _ _) hdn hcl hkr h1 ?_
  exact oV hC n (k+1) l _ (fun j=>by have:=hl (j+1);simpa[Nat.add_assoc,Nat.add_comm 1 j] using this) (by omega) hcl' h2
theorem bB {Q:AX→St→Prop} {p:Nat} {K:Array Bool→St→Prop} (hC:Confs ops rs p) (g:Nat) (hK:∀ listed m s a w,SRel E N A w0 m s a w→K listed s→wpAny E.P .any ops (wZ E N A w0 Q) g listed a w) :
  ∀ (fuel:Nat) (listed:Array Bool) (m:Own) (s:St) (a:Act) (w:World),listed.size=ops.size→DownC ops listed→aR rs listed s→SRel E N A w0 m s a w →
  AAnyE E N ops rs p K fuel listed s→wpAny E.P .any ops (wZ E N A w0 Q) (fuel+g) listed a w
 | 0,listed,m,s,a,w,_,_,_,h,ha=>by rw[Nat.zero_add];exact hK listed m s a w h ha
 |fuel+1,listed,m,s,a,w,hsz,hd,hcl,h,ha=>by
  rw[show fuel+1+g=(fuel+g)+1 from by omega]
  refine⟨fun h0=>absurd h0 ha.1,fun i hi=>?_⟩
  obtain⟨hip,o,v,O,ho,hp,hrest⟩:=ha.2 i hi
  obtain⟨his,hiun⟩:=gE hsz hi
  have hcl':aR rs (listed.setIfInBounds i true) (jZ o rs i v O s):=by
   intro k r hrk hun
   have hki:k≠i:=fun e=>by
    subst e
    have:k<listed.size:=by omega
    simp[this] at hun
   have hun0:listed.getD k false=false:=by rw[getD_set_ne false (Ne.symm hki)] at hun;exact hun
   have hkp:k<p:=by rw[← hC.len];exact(List.getElem?_eq_some_iff.1 hrk).1
   have hks:k<ops.size:=Nat.lt_of_lt_of_le hkp hC.le
   have hcf:=fun (r':Rec) (hr':rs[i]?=some r')=>(fM (hC.pair k i hkp hip hki) (Array.getElem?_eq_getElem hks) ho hrk hr').2 (dO hsz hd hks hun0 hi)
   exact⟨fun c hc=>hp.clean (fun r' hr'=>hcl i r' hr' hiun) (fun r' hr'=>(hcf r' hr').1 c hc) ((hcl k r hrk hun0).1 c hc),fun d hd=>hp.only (fun r' hr'=>hcl i r' hr' hiun) (fun r' hr'=>(hcf r' hr').2 d hd) ((hcl k r hrk hun0).2 d hd)⟩
  have hnext:∀ m' s' a' w',SRel E N A w0 m' s' a' w'→s'=jZ o rs i v O s→wpAny E.P .any ops (wZ E N A w0 Q) (fuel+g) (listed.setIfInBounds i true) a' w':=by
   intro m' s' a' w' hS he
   subst he
   exact bB hC g hK fuel _ m' _ a' w' (by simpa using hsz) (hd.step hi) hcl' hS hrest
  unfold wpOp
  simp only[ho]
  rcases hp with ⟨hw,r,h2,hj,h3,h4⟩|⟨hw,hv,hO,r,h2,hj⟩
  ·rw[if_pos (yU h ops o hw)]
   refine .inl (AOpX_sound h o (k:=fun s'=>s'=jZ o rs i v O s) ?_ _ _ hnext)
   refine(h4.2 s ⟨fun _ _=>rfl,fun _ _=>rfl⟩ (hcl i r h2 hiun).1 fun d hd=>(hcl i r h2 hiun).2 d (hj.trans hd)).1 _ ?_
   unfold jZ
   rw[show uU rs i=wK o.op from by simp only[uU,h2,Option.bind_some,hj]]
  ·subst hv;subst hO
   rw[if_neg (by rw[yU h ops o hw];simp)]
   refine hnext m _ _ w (h.put o.dst xC) ?_
   unfold jZ
   rw[show uU rs i=none from by simp only[uU,h2,Option.bind_some,hj],eff_none,iG]
theorem aU {Q:AX→St→Prop} (h:SRel E N A w0 m s a w) (ha:aV E N ops Q s):wpAny E.P .any ops (wZ E N A w0 Q) ops.size (Array.replicate ops.size false) a { w with drawn:=w.drawn+1 }:=by
 obtain⟨p,ex,hx⟩:=ha
 generalize hclv:sR ops.toList++ex=cl at hx
 obtain⟨recs,hl,hc,hy⟩:=X_to_Y p _ _ _ hx
 simp only[List.nil_append,List.length_nil] at hc hy
 rw[hl] at hc
 simp only[conf,Bool.and_eq_true,List.all_eq_true,List.mem_range] at hc
 obtain⟨⟨⟨⟨c1,c2⟩,c3⟩,c4⟩,c5⟩:=hc
 have hp:p≤ops.size:=Nat.le_of_ble_eq_true c1
 have hC:Confs ops recs p:=by
  refine⟨hl,hp,fun i j hi hj hij=>?_,fun k hk=>?_,fun k hk hks=>?_,fun k hk hks i hi=>?_⟩
  ·have:=c3 i hi j hj
   simp only[Bool.or_eq_true,beq_iff_eq] at this
   exact this.resolve_left hij
  ·have:=(c5 k hk).1;simpa using this
  ·have:=(c5 k hks).2
   rw[if_neg (by omega)] at this
   simp only[Bool.and_eq_true,Bool.or_eq_true,beq_iff_eq] at this
   exact this.1
  ·have:=(c5 k hks).2
   rw[if_neg (by omega)] at this
   simp only[Bool.and_eq_true,List.all_eq_true,List.mem_range] at this
   exact this.2 i hi
 have hcl:aR recs (fK ops.size 0) (s.clean cl):=fun i r hr _=>by
  obtain⟨d1,d2⟩:=c4 r (List.mem_of_getElem? hr)
  refine⟨fun c hcr=>NoK.clean (x8 (d1 c hcr)),fun d hd=>NoK.only (NoK.clean (x8 ?_)) d⟩
  rw[hd] at d2;exact d2
 have hA:=oV hC p 0 ops.toList (s.clean cl) (fun j=>by rw[Nat.zero_add,Array.getElem?_toList]) (by omega) hcl hy
 have hS:SRel E N A w0 m (s.clean cl) a { w with drawn:=w.drawn+1 }:=h.drew.clean cl
 have hW:=bB (A:=A) (w0:=w0) (Q:=Q) hC (ops.size - p) (fun listed m s a w hS hK=>by
  obtain⟨rfl,hrun⟩:=hK
  have:=uQ hC.ready hC.alone (ops.toList.drop p) p (fun j=>by rw[List.getElem?_drop,Array.getElem?_toList]) (Nat.le_refl _) (by simp;omega) hS hrun
  simpa using this) p _ m _ a _ (kM _ _) (aQ (k:=0) fun j hj=>by omega) hcl hS hA
 rw[show p+(ops.size - p)=ops.size from by omega] at hW
 exact hW
theorem m6 {Q:AX→St→Prop} {id:Nat} (h:SRel E N A w0 m s a w) (ha:aV E N ops Q s):(Code.region id ops true).wp E.P (wZ E N A w0 Q) a w :=
 wp_region_any E.hm (aU h ha)
theorem cQ (i:Nat):∀ (l:List Oper) (j k:Nat),(bR i j l)[k]?=(l[k]?).map (uC i (j+k))
 | [],j,k=>by simp[bR]
 |o::l,j,0=>by simp[bR]
 |o::l,j,k+1=>by
  simp only[bR,List.getElem?_cons_succ]
  rw[cQ i l (j+1) k,show j+1+k=j+(k+1) from by omega]
theorem fG (i k:Nat):(jG i ops)[k]?=(ops[k]?).map (uC i k):=by
 unfold jG
 rw[List.getElem?_toArray,cQ,Array.getElem?_toList,Nat.zero_add]
theorem cP (i:Nat):∀ (l:List Oper) (j:Nat),(bR i j l).length=l.length
 | [],j=>rfl
 |o::l,j=>by simp[bR,cP i l]
theorem rS (i:Nat):(jG i ops).size=ops.size:=by simp[jG,cP]
theorem aH (i k:Nat) (o:Oper):(uC i k o).dst=o.dst:=by unfold uC;cases (Nat.beq i k || fB o) <;> rfl
theorem b8 (i k:Nat) (o:Oper):(uC i k o).guard=o.guard:=by unfold uC;cases (Nat.beq i k || fB o) <;> rfl
theorem after1_wp (i k:Nat) (o:Oper) (P:Program) (a:Act) (w:World) (K:Act→World→Prop) (Q:Exit→Act→World→Prop):(uC i k o).wp P a w K Q=o.wp P a w K Q:=by unfold uC;cases (Nat.beq i k || fB o) <;> rfl
theorem after1_asks (i k:Nat) (o:Oper) (P:Program) (a:Act) (w:World):(uC i k o).asks P a w=o.asks P a w:=by unfold uC;cases (Nat.beq i k || fB o) <;> rfl
theorem eE (i:Nat) (tmps:Array Value):yielded (jG i ops) tmps=yielded ops tmps:=by
 funext g
 unfold yielded
 rw[fG]
 cases ops[g]? with
 |none=>rfl
 |some o=>simp only[Option.map_some,Option.bind_some,aH]
theorem cO (i k:Nat) (P:Program) (Q:Exit→Act→World→Prop) (K:Act→World→Prop) (a:Act) (w:World):wpOp P (jG i ops) Q k K a w=wpOp P ops Q k K a w:=by
 unfold wpOp
 rw[fG]
 cases ops[k]? with
 |none=>rfl
 |some o=>simp only[Option.map_some,eE,after1_wp,after1_asks,aH];rw[show Region.wanted (uC i k o) (yielded ops a.tmps)=Region.wanted o (yielded ops a.tmps) from by unfold Region.wanted;rw[b8]]
theorem bQ (i:Nat) (listed:Array Bool) (hl:listed.getD i false=true):Region.ready .any (jG i ops) listed=Region.ready .any ops listed:=by
 unfold Region.ready
 rw[rS]
 apply List.filter_congr
 intro k hk
 rw[fG]
 cases ops[k]? with
 |none=>rfl
 |some o =>
  simp only[Option.map_some,Option.getD_some]
  congr 1
  unfold uC
  cases (Nat.beq i k || fB o) with
  |true=>rfl
  |false =>
   simp only[cond_false,Array.all_push]
   rw[show(!Region.binds .any { on:=i,ground:=Ground.data } || listed.getD i false)=true from by rw[hl,Bool.or_true],Bool.and_true]
theorem iZ (i:Nat) {P:Program} {Q:Exit→Act→World→Prop}:∀ (fuel:Nat) (listed:Array Bool) (a:Act) (w:World),listed.getD i false=true→wpAny P .any (jG i ops) Q fuel listed a w→wpAny P .any ops Q fuel listed a w
 | 0,listed,a,w,hl,h=>⟨by rw[← bQ i listed hl];exact h.1,h.2⟩
 |fuel+1,listed,a,w,hl,h=>by
  refine⟨fun h0=>h.1 (by rw[bQ i listed hl];exact h0),fun k hk=>?_⟩
  have:=h.2 k (by rw[bQ i listed hl];exact hk)
  rw[cO] at this
  exact wpOp_mono (fun a w h2=>iZ i fuel _ a w (getD_set_true hl) h2) this
theorem aT {Q:AX→St→Prop} (h:SRel E N A w0 m s a w):∀ (is:List Nat) (ops:Array Oper),m5 E N Q s is ops→wpAny E.P .any ops (wZ E N A w0 Q) ops.size (Array.replicate ops.size false) a { w with drawn:=w.drawn+1 }
 | [],ops,ha=>aU h ha
 |i::is,ops,ha=>by
  obtain⟨ht,ha⟩:=ha
  have hA:=aT h is (jG i ops) ha
  rw[rS] at hA
  simp only[takeB,Bool.and_eq_true] at ht
  obtain⟨⟨⟨t1,t2⟩,t3⟩,t4⟩:=ht
  cases hi:ops[i]? with
  |none=>rw[hi] at t1;cases t1
  |some o =>
   rw[hi] at t1
   simp only at t1
   have his:i<ops.size:=(Array.getElem?_eq_some_iff.1 hi).1
   obtain⟨n,hn⟩:∃ n,ops.size=n+1:=⟨ops.size - 1,by omega⟩
   have hy:∃ v,Yields E.P ops o v a∧∀ (P:Program) (w:World),(execOp a.eval o).run P w=.ok (.value v) w:=by
    obtain⟨dst,op,type,pos,after,guard⟩:=o
    unfold fB at t1
    split at t1
    ·rename_i x t e1 e2 e3
     simp only at e1 e2 e3
     subst e1 e2 e3
     have hv:∀ (P:Program) (w:World),(execOp a.eval ⟨some t,.move x,type,pos,after,none⟩).run P w=.ok (.value (a.eval x)) w:=fun P w=>by simp[execOp]
     exact⟨a.eval x,.inl ⟨rfl,hv _⟩,hv⟩
    ·rename_i x t e1 e2 e3
     simp only at e1 e2 e3
     subst e1 e2 e3
     have hv:∀ (P:Program) (w:World),(execOp a.eval ⟨some t,.assign x,type,pos,after,none⟩).run P w=.ok (.value (a.eval x)) w:=fun P w=>by simp[execOp]
     exact⟨a.eval x,.inl ⟨rfl,hv _⟩,hv⟩
    ·cases t1
   obtain⟨v,hyv,hrun⟩:=hy
   rw[hn] at hA ⊢
   have hmem:i∈Region.ready .any (jG i ops) (Array.replicate (n+1) false):=by
    have h4:i∈Region.ready .any ops (Array.replicate ops.size false):=by simpa using t4
    rw[hn] at h4
    obtain⟨g0,o',g1,g2⟩:=mem_ready.1 h4
    exact mem_ready.2 ⟨g0,uC i i o',by rw[fG,g1];rfl,by unfold uC;rw[nbeq_self,Bool.true_or];exact g2⟩
   have h1:=hA.2 i hmem
   rw[cO] at h1
   have hwant:Region.wanted o (yielded ops a.tmps)=true:=by
    rcases hyv with ⟨g,_⟩|⟨g,_⟩
    ·exact g
    ·have hg:o.guard=none:=by
      unfold fB at t1
      split at t1 <;> first|assumption|cases t1
     unfold Region.wanted at g
     rw[hg] at g
     cases g
   unfold wpOp at h1
   simp only[hi,hwant,if_true] at h1
   have h2:wpAny E.P .any (jG i ops) (wZ E N A w0 Q) n ((Array.replicate (n+1) false).setIfInBounds i true) (a.put o.dst v) { w with drawn:=w.drawn+1 }:=by
    rcases h1 with h1|⟨h1,_⟩
    ·unfold Oper.wp at h1
     rw[hrun] at h1
     exact h1
    ·rename_i hlets
     obtain⟨a',w',hl⟩:=hlets
     exact hl.elim
   have h3:=iZ i n _ _ _ (by simp;omega) h2
   exact wpAny_take hi t2 (by rw[hn] at t3;exact t3) (by rw[hn] at t4;exact t4) (fun c a w hq=>hq) hyv h3
theorem ADraw_sound (ops:Array Oper) (Q:AX→St→Prop) {id:Nat} (h:SRel E N A w0 m s a w) (ha:ADraw E N ops Q s):(Code.region id ops true).wp E.P (wZ E N A w0 Q) a w :=
 m3 ops Q h (fun hE=>m6 h hE) (fun is hF=>wp_region_any E.hm (aT h is ops hF)) ha
end
end Ai
namespace Ai
open Go Go.RowKit
section
variable {E:Env} {N:Nat} {A:Fr} {w0 w w':World} {m m':Own} {s s':St} {a:Act} {dst:Option Tmp} {k:St→Prop}
def aO (P:Program) (c:Code) (Q:Exit→Act→World→Prop) (a:Act) (w:World):Prop :=
 ∀ (b:Frame) (k:List Item) (cs:List Frame),∃ e a' w',Q e a' w'∧Arrives P (lone (b.at a (.code c::.inLoop c::k)) cs w) b k cs e a' w'
theorem rI {P:Program} {c:Code} {Q:Exit→Act→World→Prop} {a:Act} {w:World} (h:c.wp P (Exit.then (aO P c Q) Q) a w):aO P c Q a w:=by
 intro b k cs
 obtain⟨e,a₁,w₁,hq,harr⟩:=h b (.inLoop c::k) cs
 cases e with
 |normal =>
  obtain⟨e₂,a₂,w₂,hq₂,harr₂⟩:=hq b k cs
  exact⟨e₂,a₂,w₂,hq₂,.of_steps (harr.trans (.one step_inLoop)) harr₂⟩
 |exit id=>exact⟨_,a₁,w₁,hq,.pass (x:=.inLoop c) rfl (fun _ _=>.inl (by simp)) harr⟩
 |goto l=>exact⟨_,a₁,w₁,hq,.pass (x:=.inLoop c) rfl (fun _ _=>.inl (by simp)) harr⟩
 |ret=>exact⟨_,a₁,w₁,hq,.pass (x:=.inLoop c) rfl (fun _ _=>.inl (by simp)) harr⟩
 |panic ch=>exact⟨_,a₁,w₁,hq,.pass (x:=.inLoop c) rfl (fun _ _=>.inl (by simp)) harr⟩
 |outgrown=>exact⟨_,a₁,w₁,hq,.pass (x:=.inLoop c) rfl (fun _ _=>.inl (by simp)) harr⟩
theorem lU {P:Program} {c:Code} {Q:Exit→Act→World→Prop} {a:Act} {w:World} (h:aO P c Q a w):(Code.loop c).wp P Q a w:=by
 intro b k cs
 obtain⟨e,a',w',hq,harr⟩:=h b k cs
 exact⟨e,a',w',hq,.of_steps (.one step_loop) harr⟩
theorem nN (c:Code):∀ (Q:AX→St→Prop) {m:Own} {s:St} {a:Act} {w:World},SRel E N A w0 m s a w→AW E N c Q s→c.wp E.P (wZ E N A w0 Q) a w:=by
 induction c with
 |skip=>exact fun Q m s a w h ha=>wp_skip ⟨m,s,h,ha⟩
 |region id ops draw =>
  intro Q m s a w h ha
  cases draw with
  |false =>
   have ha2:dW E N ops ops.toList Q s:=ha
   refine wp_region ?_
   have heq:=wpOps_eq_wpList (P:=E.P) (ops:=ops) (Q:=wZ E N A w0 Q) ops.toList 0 (fun j=>by simp)
   rw[List.range_eq_range']
   rw[show ops.size=ops.toList.length from by simp,heq]
   exact lT ops Q _ h ha2
  |true =>
   have ha2:ADraw E N ops Q s:=ha
   exact ADraw_sound ops Q h ha2
 |seq x y ihx ihy =>
  intro Q m s a w h ha
  have ha2:AW E N x (kZ (AW E N y Q) Q) s:=ha
  refine wp_seq (wp_mono (ihx _ h ha2) fun e a' w' hq=>?_)
  cases e with
  |normal =>
   obtain⟨m',s',hS,hk⟩:=hq
   exact ihy Q hS hk
  |exit id=>exact hq
  |ret=>exact hq
  |goto l=>exact hq.elim
  |panic ch=>exact hq.elim
  |outgrown=>exact hq.elim
 |cond c x y ihx ihy =>
  intro Q m s a w h ha
  have ha2:(match ev N s c with|.d (.bool b)=>(match b with|true=>AW E N x Q s|false=>AW E N y Q s)|_=>False):=ha
  have hc:=h.ev c
  split at ha2
  ·rename_i b hb
   rw[hb] at hc
   generalize hv:a.eval c=cv at hc
   cases hc with
   |d _ _ hd=>cases hd with
    |bool =>
     cases b with
     |true=>exact wp_cond hv (ihx Q h ha2)
     |false=>exact wp_cond hv (ihy Q h ha2)
  ·exact ha2.elim
 |block id c ih =>
  intro Q m s a w h ha
  have ha2:AW E N c (bM id Q) s:=ha
  refine wp_block (wp_mono (ih _ h ha2) fun e a' w' hq=>?_)
  cases e with
  |normal=>exact hq
  |exit i =>
   obtain⟨m',s',hS,hk⟩:=hq
   simp only[bM] at hk
   simp only[Exit.inBlock]
   by_cases hi:i=id
   ·subst hi
    rw[nbeq_self] at hk
    rw[if_pos rfl]
    exact⟨m',s',hS,hk⟩
   ·rw[nbeq_ne hi] at hk
    rw[if_neg hi]
    exact⟨m',s',hS,hk⟩
  |ret=>exact hq
  |goto l=>exact hq.elim
  |panic ch=>exact hq.elim
  |outgrown=>exact hq.elim
 |loop c ih =>
  intro Q m s a w h ha
  have ha2:ALoop E N (AW E N c) Q s:=ha
  unfold ALoop at ha2
  refine lU (ha2 (fun s=>∀ m a w,SRel E N A w0 m s a w→aO E.P c (wZ E N A w0 Q) a w) ?_ m a w h)
  intro s s' K hweak hb hKR m a w hS
  obtain⟨m',hS'⟩:=hweak A w0 m a w hS
  refine rI (wp_mono (ih _ hS' hb) fun e a' w' hq=>?_)
  cases e with
  |normal =>
   obtain⟨m2,s2,hS2,hk⟩:=hq
   exact hKR s2 hk m2 a' w' hS2
  |exit i=>exact hq
  |ret=>exact hq
  |goto l=>exact hq.elim
  |panic ch=>exact hq.elim
  |outgrown=>exact hq.elim
 |rangeFunc f ps as1 b ihas ihb=>exact fun Q m s a w h ha=>False.elim ha
 |exit id=>exact fun Q m s a w h ha=>wp_exit ⟨m,s,h,ha⟩
 |scope b ih=>exact fun Q m s a w h ha=>wp_scope_straight (wp_mono (ih Q h ha) fun e a' w' hq=>by cases e <;> first|exact hq|exact hq.elim)
 |label l=>exact fun Q m s a w h ha=>wp_label ⟨m,s,h,ha⟩
 |goto l=>exact fun Q m s a w h ha=>False.elim ha
 |ret=>exact fun Q m s a w h ha=>wp_ret ⟨m,s,h,ha⟩
 |refuse why=>exact fun Q m s a w h ha=>False.elim ha
end
end Ai
namespace Ai
open Go Go.RowKit
def St.init (xs:List AV):St:={ τ:=fun i=>xs.getD i .junk,H:=fun _=>none }
def dU (E:Env) (N:Nat) (s:St):List ResultVar→Option (List AV)
 | []=>some []
 | .tmp t::rs=>(match dU E N s rs with|some vs=>some (ev N s (.tmp t)::vs)|none=>none)
 | .cell t T::rs=>(match dU E N s rs,E.Θ T with
  |some vs,some ti=>(match vQ s (ev N s (.tmp t)) ti.sz with
   |some cs=>(match rE ti cs with|some v=>some (v::vs)|none=>none)
   |none=>none)
  | _,_=>none)
def wR (E:Env) (N:Nat) (s:St) (rs:List ResultVar):Option AV :=
 match dU E N s rs with
 |some [v]=>(match v with
  | .ref o 0 n=>(match s.H o with|some (.ds e sz els)=>some (.uq e sz (els.take n))|_=>none)
  | .d .nil=>none
  |v=>fz s v)
 |some vs=>(match fzs s vs with|some xs=>some (.tup xs)|none=>none)
 |none=>none
def OwnOK (cs:List AV):Prop:=∀ v∈cs,match v with
 | .uqd _ _ _ _ _ rows subs=>rows.length=subs.length
 | .uq ..=>True
 | .d _=>True
 | _=>False
def wQ (E:Env) (N:Nat) (s:St) (rs:List ResultVar) (R:AV→Prop):Prop :=
 match dU E N s rs with
 |some [.d .nil]=>R (.d (.sl []))∨∃ e sz,R (.uq e sz [])
 |some [v]=>(∃ y,FzA s v y∧R y)∨(∃ cs s1,Weak E N s s1∧dU E N s1 rs=some [ownR 0 cs]∧OwnOK cs∧(∀ κ,ownH cs κ≠none→s1.H κ=ownH cs κ)∧R (.own cs))
 |some vs=>∃ ys,FzL s vs ys∧R (.tup ys)
 |none=>False
def mF (E:Env) (N:Nat) (s:St) (rs:List ResultVar) (R:AV→Prop):Prop :=
 ∃ f cs s1 vs,Weak E N s s1∧dU E N s1 rs=some vs∧vs.length≠1∧ownR f cs=.tup vs∧OwnOK cs∧(∀ κ,ownH cs κ≠none→s1.H κ=ownH cs κ)∧R (.ownF f cs)
def kS:List AV→Bool
 | []=>false
 |v::vs=>(match v with|.d .nil=>true|_=>false) || kS vs
def retIO (E:Env) (fn:Func) (Post:AV→(Key→Option Ob)→Prop):AX→St→Prop
 | .exit _,_=>False
 | _,s=>∃ s1,Weak E fn.ntmps s s1∧(match dU E fn.ntmps s1 fn.results.toList with
  |some [v]=>∃ K:Key→Bool,Post (scrP (fun o=>!K o) v) (yJ K s1.H)
  |some vs=>∃ K:Key→Bool,Post (.tup (vs.map (scrP fun o=>!K o))) (yJ K s1.H)
  |none=>False)
def sG (E:Env) (fn:Func) (R:AV→Prop):AX→St→Prop
 | .exit _,_=>False
 | _,s=>match dU E fn.ntmps s fn.results.toList with
  |some [.agg cs]=>bif zT cs then (match wR E fn.ntmps s fn.results.toList with|some r=>kv r R|none=>False)∨wQ E fn.ntmps s fn.results.toList R
    else (match wR E fn.ntmps s fn.results.toList with|some r=>kv r R|none=>wQ E fn.ntmps s fn.results.toList R)
  |some (v1::v2::vs)=>bif zT (v1::v2::vs) || kS (v1::v2::vs) then (match wR E fn.ntmps s fn.results.toList with|some r=>kv r R|none=>wQ E fn.ntmps s fn.results.toList R)∨mF E fn.ntmps s fn.results.toList R
    else (match wR E fn.ntmps s fn.results.toList with|some r=>kv r R|none=>wQ E fn.ntmps s fn.results.toList R)
  | _=>(match wR E fn.ntmps s fn.results.toList with|some r=>kv r R|none=>wQ E fn.ntmps s fn.results.toList R)
section
variable {E:Env} {N:Nat} {A:Fr} {w0 w w':World} {m m':Own} {s s':St} {a:Act} {dst:Option Tmp} {k:St→Prop}
def tL (tmps:Array Value):ResultVar→Sem Value
 | .tmp t=>pure (tmps.getD t undef)
 | .cell p t=>do loadVar t (← asAddr (tmps.getD p undef))
theorem tO (fn:Func) (tmps:Array Value):results fn tmps=(do let vs ← fn.results.mapM (tL tmps);pure (if h:vs.size=1 then vs[0] else .tuple vs)):=by
 unfold results
 congr 2
theorem vN (h:SRel E N A w0 m s a w):∀ (rs:List ResultVar) (vs:List AV),dU E N s rs=some vs →
  ∃ us:List Value,(rs.mapM (tL a.tmps)).run E.P w=.ok us w∧vs.length=us.length ∧
   ∀ (i:Nat) (x:AV) (v:Value),vs[i]?=some x→us[i]?=some v→VRel w (okB A s.H m w) m s.H x v
 | [],vs,ho=>by
  simp only[dU,Option.some.injEq] at ho
  subst ho
  exact⟨[],by simp,rfl,by simp⟩
 | .tmp t::rs,vs,ho=>by
  simp only[dU] at ho
  split at ho
  ·rename_i vs' hvs
   simp only[Option.some.injEq] at ho
   subst ho
   obtain⟨us,h1,h2,h3⟩:=vN h rs vs' hvs
   refine⟨a.eval (.tmp t)::us,?_,by simp[h2],fun i x v hx hv=>?_⟩
   ·rw[List.mapM_cons]
    simp only[tL,Sem.run_bind,Sem.run_pure,Result.andThen_ok,h1]
    rfl
   ·cases i with
    |zero=>simp at hx hv;subst hx;subst hv;exact h.ev _
    |succ i=>exact h3 i x v (by simpa using hx) (by simpa using hv)
  ·cases ho
 | .cell p T::rs,vs,ho=>by
  simp only[dU] at ho
  split at ho
  ·rename_i vs' ti hvs hti
   split at ho
   ·rename_i cs hcs
    split at ho
    ·rename_i v0 hv0
     simp only[Option.some.injEq] at ho
     subst ho
     obtain⟨us,h1,h2,h3⟩:=vN h rs vs' hvs
     obtain⟨b,off,hp,hl,hcl⟩:=rP h (h.ev (.tmp p)) hcs
     obtain⟨u,hu,hr⟩:=mU (E:=E) (w:=w) hti b off hl hcl hv0
     refine⟨u::us,?_,by simp[h2],fun i x v hx hv=>?_⟩
     ·rw[List.mapM_cons]
      have hp2:a.tmps.getD p undef=.pointer (some ⟨b,off,none⟩):=hp
      have hu2:(loadVar T ⟨b,off,none⟩).run E.P w=.ok u w:=by
       simpa[Instr.loadAt,Instr.sureAddr] using hu
      have hg:(tL a.tmps (.cell p T)).run E.P w=.ok u w:=by
       simp only[tL,Sem.run_bind,hp2,asAddr,Sem.run_pure,Result.andThen_ok,hu2]
      simp only[Sem.run_bind,hg,Result.andThen_ok,h1,Sem.run_pure]
     ·cases i with
      |zero=>simp at hx hv;subst hx;subst hv;exact hr
      |succ i=>exact h3 i x v (by simpa using hx) (by simpa using hv)
    ·cases ho
   ·cases ho
  ·cases ho
theorem mN (h:SRel E N A w0 m s a w) {B:Nat→Prop} (hB:∀ b,A b→B b∨w0.heap.size≤b) (fn:Func) {r:AV} (ho:wR E N s fn.results.toList=some r) :
  ∃ v,(results fn a.tmps).run E.P w=.ok v w∧lS w0 w B r v:=by
 unfold wR at ho
 have hokall:∀ b,okB A s.H m w b→b<w.heap.size∧(B b∨w0.heap.size≤b):=fun b hb=>⟨hb.1,hB b hb.2.2⟩
 have hown:true=true→∀ o p,s.H o≠none→m o=some p→p.1<w.heap.size∧(B p.1∨w0.heap.size≤p.1):=fun _ o p ho hp=>⟨xT h ho hp,.inr (own_ge h ho hp)⟩
 have hres:∀ us:List Value,(fn.results.toList.mapM (tL a.tmps)).run E.P w=.ok us w→(results fn a.tmps).run E.P w=.ok (if h:us.toArray.size=1 then us.toArray[0] else .tuple us.toArray) w:=by
  intro us hus
  rw[tO,Array.mapM_eq_mapM_toList]
  simp only[Sem.run_bind,Sem.run_map,Sem.run_pure,hus,Result.andThen_ok]
 split at ho
 ·rename_i v hv
  obtain⟨us,h1,h2,h3⟩:=vN h _ _ hv
  have hl1:us.length=1:=by simpa using h2.symm
  obtain⟨u,rfl⟩:∃ u,us=[u]:=by
   match us,hl1 with
   | [u],_=>exact⟨u,rfl⟩
  have hrel:=h3 0 v u rfl rfl
  refine⟨u,hres _ h1,?_⟩
  split at ho
  ·rename_i o n
   split at ho
   ·rename_i e sz els hH
    simp only[Option.some.injEq] at ho
    subst ho
    cases hrel with
    |ref _ _ _ e3 sz3 els3 b full cap hH3 hn hmo hcap hnc =>
     rw[hH] at hH3
     injection hH3 with hH3
     injection hH3 with i1 i2 i3
     subst i1;subst i2;subst i3
     have hcf:=hcap rfl
     subst hcf
     obtain⟨hmn,_⟩|⟨b',full',cur,hm',hbb,hcur,hlen,hmax,hszc,hcells⟩:=h.objs o _ hH
     ·rw[hmo] at hmn;cases hmn
     ·rw[hmo] at hm'
      injection hm' with hm'
      injection hm' with e1 e2
      subst e1;subst e2
      have hll:(els.take n).length=n:=by simp;omega
      refine .inr ⟨b,cap,cur,by rw[hll,Nat.zero_mul],hbb,hcur,by omega,hmax,hszc,fun j c hj=>?_⟩
      have hj2:els[j]?=some c:=by
       have hjn:j<n:=by have:=(List.getElem?_eq_some_iff.1 hj).1;omega
       rw[List.getElem?_take,if_pos hjn] at hj;exact hj
      refine⟨(hcells j c hj2).1,fun i d hi=>?_⟩
      obtain⟨u,hu,hr⟩:=(hcells j c hj2).2 i d hi
      refine⟨u,hu,hr.mono fun x hx=>⟨⟨hokall x hx,?_⟩,rfl⟩⟩
      intro hxb
      exact hx.2.1 o (by simp[hH]) _ hmo hxb.symm
    |ref0 _ e3 sz3 hH3 hmo =>
     rw[hH] at hH3
     injection hH3 with hH3
     injection hH3 with i1 i2 i3
     subst i3
     exact .inl ⟨by simp,rfl⟩
   ·cases ho
  ·cases ho
  ·have:=q7 h hokall (B:=true) hown (fun _=>rfl) hrel ho
   unfold lS
   cases r <;> first|exact this|(cases this)
 ·rename_i vs hne hv
  split at ho
  ·rename_i xs hxs
   simp only[Option.some.injEq] at ho
   subst ho
   obtain⟨us,h1,h2,h3⟩:=vN h _ _ hv
   have hl1:us.length≠1:=by
    intro he
    rw[he] at h2
    match vs,h2 with
    | [v],_=>exact hne v rfl
   refine⟨.tuple us.toArray,?_,?_⟩
   ·rw[hres _ h1,dif_neg (by simpa using hl1)]
   ·obtain⟨g1,g2⟩:=q5 _ _ hxs
    refine .tup xs us.toArray (by simp;omega) fun i c u hc hu=>?_
    obtain⟨c0,h4,h5⟩:=g2 i c hc
    exact q7 h hokall (B:=true) hown (fun _=>rfl) (h3 i c0 u h4 (by simpa using hu)) h5
  ·cases ho
 ·cases ho
theorem scrPL_id {p:Key→Bool}:∀ {l:List AV},(∀ c∈l,scrP p c=c)→scrPL p l=l
 | [],_=>rfl
 |v::vs,h=>by simp only[scrPL];rw[h v List.mem_cons_self,scrPL_id fun c hc=>h c (List.mem_cons_of_mem _ hc)]
theorem eX {p:Key→Bool}:∀ {l:List AV},scrPL p l=l→∀ c∈l,scrP p c=c
 | [],_,c,hc=>by cases hc
 |v::vs,h,c,hc=>by
  simp only[scrPL,List.cons.injEq] at h
  rcases List.mem_cons.1 hc with rfl|hc
  ·exact h.1
  ·exact eX h.2 c hc
theorem wrap_scr {p:Key→Bool}:∀ (f:Nat) {l:List AV},scrPL p l=l→scrP p (kD f l)=kD f l
 | 0,l,h=>by simp only[kD,scrP];rw[h]
 | 1,l,h=>by
  match l,h with
  | [],h=>rfl
  | [x],h =>
   have h:[scrP p x]=[x]:=by simpa[scrPL] using h
   exact(List.cons.inj h).1
  |x::y::l,h=>show AV.tup (scrPL p (x::y::l))=.tup (x::y::l);rw[h]
 |k+2,l,h=>by
  have hc:=eX h
  simp only[kD,scrP,scrPL]
  rw[scrPL_id fun c hm=>hc c (List.mem_of_mem_take hm),scrPL_id fun c hm=>hc c (List.mem_of_mem_drop hm)]
theorem own_closed {cs : List AV} (hok : OwnOK cs) : (∀ κ ob, ownH cs κ = some ob → scrPO (fun o => !(ownH cs o).isSome) ob = ob) ∧ ∀ f, scrP (fun o => !(ownH cs o).isSome) (ownR f cs) = ownR f cs := by
  constructor
  · intro κ ob hob
    cases κ with
    | n kk =>
      have hob0 := hob
      simp only [ownH] at hob
      cases hlt : Nat.blt kk 900 with
      | true => rw [hlt] at hob; cases hob
      | false =>
        rw [hlt] at hob
        simp only [cond_false] at hob
        split at hob
        · injection hob with hob; subst hob; rfl
        · rename_i e sz cc e2 sz2 rows subs hc
          injection hob with hob; subst hob
          simp only [scrPO, Ob.rs.injEq, true_and]
          have hl : rows.length = subs.length := hok _ (List.mem_of_getElem? hc)
          refine List.ext_getElem? fun j => ?_
          rw [List.getElem?_map]
          cases hj : (ownRows kk cc rows subs)[j]? with
          | none => rfl
          | some row =>
            simp only [Option.map_some, Option.some.injEq]
            simp only [ownRows, List.getElem?_mapIdx, Option.map_eq_some_iff] at hj
            obtain ⟨row0, hrow, rfl⟩ := hj
            refine scrPL_id fun c hcm => ?_
            rcases List.mem_or_eq_of_mem_set hcm with hcm | rfl
            · obtain ⟨x, _, rfl⟩ := List.mem_map.1 hcm
              rfl
            · have hjl : j < subs.length := by rw [← hl]; exact (List.getElem?_eq_some_iff.1 hrow).1
              have : ownH cs (.s kk j) = some (.ds e2 sz2 subs[j]) := by
                simp only [ownH, hlt, cond_false, hc, List.getElem?_eq_getElem hjl, Option.map_some]
              simp only [scrP, this, Option.isSome_some, Bool.not_true, cond_false]
        · cases hob
    | s o j =>
      simp only [ownH] at hob
      cases hlt : Nat.blt o 900 with
      | true => rw [hlt] at hob; cases hob
      | false =>
        rw [hlt] at hob
        simp only [cond_false] at hob
        split at hob
        · obtain ⟨q, hq, rfl⟩ := Option.map_eq_some_iff.1 hob
          rfl
        · cases hob
    | l n => cases hob
  · intro f
    unfold ownR
    refine wrap_scr f ?_
    have gen : ∀ (l : List AV) (i : Nat), (∀ v ∈ l, match v with | .uqd _ _ _ _ _ rows subs => rows.length = subs.length | .uq .. => True | .d _ => True | _ => False) → (∀ j v, l[j]? = some v → cs[i + j]? = some v) → scrPL (fun o => !(ownH cs o).isSome) (ownR1 (900 + i) l) = ownR1 (900 + i) l := by
      intro l
      induction l with
      | nil => intro i _ _; rfl
      | cons v vs ih =>
        intro i hm hg
        have h0 := hg 0 v rfl
        have hv := hm v List.mem_cons_self
        have hrest := ih (i + 1) (fun x hx => hm x (List.mem_cons_of_mem _ hx)) (fun j v hj => by rw [show i + 1 + j = i + (j + 1) from by omega]; exact hg (j + 1) v hj)
        have hnl : Nat.blt (900 + i) 900 = false := by
          cases hb : Nat.blt (900 + i) 900 with
          | false => rfl
          | true => have : 900 + i < 900 := by simpa [Nat.blt_eq] using hb
                    omega
        simp only [Nat.add_zero] at h0
        simp only [ownR1, scrPL]
        rw [show 900 + i + 1 = 900 + (i + 1) from by omega, hrest]
        congr 1
        cases v with
        | d x => rfl
        | uq e sz els =>
          have : ownH cs (.n (900 + i)) = some (.ds e sz els) := by simp only [ownH, hnl, cond_false, Nat.add_sub_cancel_left, h0]
          simp only [scrP, this, Option.isSome_some, Bool.not_true, cond_false]
        | uqd e sz c e2 sz2 rows subs =>
          have : ownH cs (.n (900 + i)) = some (.rs e sz (ownRows (900 + i) c rows subs)) := by simp only [ownH, hnl, cond_false, Nat.add_sub_cancel_left, h0]
          simp only [scrP, this, Option.isSome_some, Bool.not_true, cond_false]
        | _ => exact hv.elim
    exact gen cs 0 hok (fun j v hj => by rw [Nat.zero_add]; exact hj)
theorem kH (fn:Func) (w:World) (tmps:Array Value) (us:List Value) (hus:(fn.results.toList.mapM (tL tmps)).run E.P w=.ok us w):(results fn tmps).run E.P w=.ok (if h:us.toArray.size=1 then us.toArray[0] else .tuple us.toArray) w:=by
 rw[tO,Array.mapM_eq_mapM_toList]
 simp only[Sem.run_bind,Sem.run_map,Sem.run_pure,hus,Result.andThen_ok]
theorem tR (h1:SRel E N A w0 m s a w) {B:Nat→Prop} (hB:∀ b,A b→B b∨w0.heap.size≤b) {f:Nat} {cs:List AV} {u:Value} (hok:OwnOK cs) (hH:∀ κ,ownH cs κ≠none→s.H κ=ownH cs κ)
  (hrel:VRel w (okB A s.H m w) m s.H (ownR f cs) u):lS w0 w B (.ownF f cs) u:=by
 obtain⟨c1,c2⟩:=own_closed hok
 have hD:=h1.toH.drop (fun o=>(ownH cs o).isSome)
 have heq:yJ (fun o=>(ownH cs o).isSome) s.H=ownH cs:=by
  funext κ
  cases hq:ownH cs κ with
  |none=>rw[fC (by rw[hq];rfl)]
  |some ob =>
   rw[vK (by rw[hq];rfl),hH κ (by rw[hq];simp),hq]
   simp only[Option.map_some,Option.some.injEq]
   exact c1 κ ob hq
 have hv2:=hrel.scr (p:=fun o=>!(ownH cs o).isSome) (m':=m) (H':=yJ (fun o=>(ownH cs o).isSome) s.H) (fun b hb=>⟨mP (K:=fun o=>(ownH cs o).isSome) hb,rfl⟩) uH
 rw[heq] at hD hv2
 rw[c2] at hv2
 have hokb:∀ b,okB A (ownH cs) m w b→okB (fun x=>x<w.heap.size∧(B x∨w0.heap.size≤x)) (ownH cs) m w b∧w.heap[b]?=w.heap[b]?:=fun b hb=>⟨⟨hb.1,hb.2.1,hb.1,hB b hb.2.2⟩,rfl⟩
 exact⟨m,fun o ob hob=>(hD.objs o ob hob).mono hokb (Like.refl _ _) rfl (fun _ _=>rfl),hD.inj,hv2.mono hokb (Like.refl _ _)⟩
theorem mE (h:SRel E N A w0 m s a w) {B:Nat→Prop} (hB:∀ b,A b→B b∨w0.heap.size≤b) (fn:Func) {R:AV→Prop} (ho:mF E N s fn.results.toList R) :
  ∃ v r,(results fn a.tmps).run E.P w=.ok v w∧R r∧lS w0 w B r v:=by
 obtain⟨f,cs,s1,vs,hw,hout,hl,he,hok,hH,hR⟩:=ho
 obtain⟨m1,h1⟩:=hw A w0 m a w h
 obtain⟨us,g1,g2,g3⟩:=vN h1 _ _ hout
 refine⟨.tuple us.toArray,.ownF f cs,by rw[kH fn w _ _ g1,dif_neg (by simp;omega)],hR,tR h1 hB hok hH ?_⟩
 rw[he]
 exact .tup vs us.toArray (by simp;omega) fun i c u hc hu=>g3 i c u hc (by simpa using hu)
theorem mG (h:SRel E N A w0 m s a w) {B:Nat→Prop} (hB:∀ b,A b→B b∨w0.heap.size≤b) (fn:Func) {R:AV→Prop} (ho:wQ E N s fn.results.toList R) :
  ∃ v r,(results fn a.tmps).run E.P w=.ok v w∧R r∧lS w0 w B r v:=by
 have hokall:∀ b,okB A s.H m w b→b<w.heap.size∧(B b∨w0.heap.size≤b):=fun b hb=>⟨hb.1,hB b hb.2.2⟩
 have hown:true=true→∀ o p,s.H o≠none→m o=some p→p.1<w.heap.size∧(B p.1∨w0.heap.size≤p.1):=fun _ o p ho hp=>⟨xT h ho hp,.inr (own_ge h ho hp)⟩
 unfold wQ at ho
 split at ho
 ·rename_i hv
  obtain⟨us,h1,h2,h3⟩:=vN h _ _ hv
  have hl1:us.length=1:=by simpa using h2.symm
  obtain⟨u,rfl⟩:∃ u,us=[u]:=by
   match us,hl1 with
   | [u],_=>exact⟨u,rfl⟩
  have hu:u=.slice none 0 0:=by
   have:=h3 0 _ u rfl rfl
   cases this with
   |d _ _ hd=>cases hd;rfl
  subst hu
  rcases ho with ho|⟨e,sz,ho⟩
  ·exact⟨_,_,kH fn w _ _ h1,ho,.d _ _ (.sl0 _ _)⟩
  ·exact⟨_,_,kH fn w _ _ h1,ho,.inl ⟨rfl,rfl⟩⟩
 ·rename_i v _ hv
  rcases ho with ⟨y,hy,hR⟩|⟨cs,s1,hw,hout,hok,hH,hR⟩
  ·obtain⟨us,h1,h2,h3⟩:=vN h _ _ hv
   have hl1:us.length=1:=by simpa using h2.symm
   obtain⟨u,rfl⟩:∃ u,us=[u]:=by
    match us,hl1 with
    | [u],_=>exact⟨u,rfl⟩
   have hrel:=j3 h hokall (B:=true) hown rfl (h3 0 v u rfl rfl) hy
   refine⟨u,y,kH fn w _ _ h1,hR,?_⟩
   unfold lS
   cases y <;> first|exact hrel|cases hrel
  ·obtain⟨m1,h1⟩:=hw A w0 m a w h
   obtain⟨us,g1,g2,g3⟩:=vN h1 _ _ hout
   have hl1:us.length=1:=by simpa using g2.symm
   obtain⟨u,rfl⟩:∃ u,us=[u]:=by
    match us,hl1 with
    | [u],_=>exact⟨u,rfl⟩
   have hrel:=g3 0 _ u rfl rfl
   exact⟨u,.ownF 0 cs,kH fn w _ _ g1,hR,tR h1 hB hok hH hrel⟩
 ·rename_i vs _ hne hv
  obtain⟨ys,hys,hR⟩:=ho
  obtain⟨us,h1,h2,h3⟩:=vN h _ _ hv
  have hl1:us.length≠1:=by
   intro he
   rw[he] at h2
   match vs,h2 with
   | [v],_=>exact hne v rfl
  refine⟨.tuple us.toArray,.tup ys,by rw[kH fn w _ _ h1,dif_neg (by simpa using hl1)],hR,?_⟩
  obtain⟨g1,g2⟩:=q8 _ _ hys
  refine .tup ys us.toArray (by simp;omega) fun i c u hc hu=>?_
  obtain⟨c0,h4,h5⟩:=g2 i c hc
  exact j3 h hokall (B:=true) hown rfl (h3 i c0 u h4 (by simpa using hu)) h5
 ·exact ho.elim
theorem calls_of_AW {A:Nat→Prop} {f:FuncId} {fn:Func} {c:Code} {as1:List AV} {R:AV→Prop} {vs:Array Value} (hf:E.P.funcs[f]?=some fn) (hb:fn.body=some c) (hN:Nat.ble as1.length fn.ntmps=true)
  (h:AW E fn.ntmps c (sG E fn R) (St.init as1)) (hI:E.I w) (hr:ARel w A as1 vs) :
  Calls E.P f vs w fun e w'=>∃ v,e=.returned v∧∃ r,R r∧Below w.heap.size w w'∧lS w w' A r v:=by
 have hN':as1.length≤fn.ntmps:=Nat.le_of_ble_eq_true hN
 have hsz:vs.size≤fn.ntmps:=by rw[← hr.1];exact hN'
 refine calls_of_wp hf hb ?_
 have hS:SRel E fn.ntmps ⟨fun b=>A b∨w.heap.size≤b,fun _=>False,fun _=>none,fun _=>none⟩ w (fun _=>none) (St.init as1) { tmps:=vs++Array.replicate (fn.ntmps - vs.size) undef,defers:=[] } w:=by
  refine⟨by simp;omega,rfl,Below.refl _ _,hI,fun i hi=>?_,fun o ob ho=>by simp[St.init] at ho,fun o o' p p' ho=>by simp[St.init] at ho,fun b hb=>.inl (.inr hb),fun b hb=>hb.elim,fun n hn=>absurd rfl hn⟩
  by_cases hlt:i<as1.length
  ·have h1:as1[i]?=some as1[i]:=List.getElem?_eq_getElem hlt
   have hlv:i<vs.size:=by rw[← hr.1];exact hlt
   have:=hr.2 i as1[i] vs[i] h1 (Array.getElem?_eq_getElem hlv)
   have e1:(St.init as1).τ i=as1[i]:=by simp[St.init,List.getD,h1]
   have e2:(vs++Array.replicate (fn.ntmps - vs.size) undef).getD i undef=vs[i]:=by
    rw[Array.getD_eq_getD_getElem?,Array.getElem?_append_left hlv,Array.getElem?_eq_getElem hlv];rfl
   rw[e1]
   show VRel _ _ _ _ _ ((vs++Array.replicate (fn.ntmps - vs.size) undef).getD i undef)
   rw[e2]
   exact this.lift fun b hb=>⟨hb.1,fun o ho=>by simp[St.init] at ho,.inl hb.2⟩
  ·have e1:(St.init as1).τ i=.junk:=by simp[St.init,List.getD,List.getElem?_eq_none (Nat.le_of_not_lt hlt)]
   rw[e1];exact .junk _
 refine wp_mono (nN c _ hS h) fun e a' w' hq=>?_
 cases e with
 |normal =>
  obtain⟨m',s',hS',hk⟩:=hq
  refine⟨hS'.defers,?_⟩
  have fin:(match wR E fn.ntmps s' fn.results.toList with|some r=>kv r R|none=>False)∨wQ E fn.ntmps s' fn.results.toList R∨mF E fn.ntmps s' fn.results.toList R:=by
   have hk2:(match dU E fn.ntmps s' fn.results.toList with
    |some [.agg cs]=>bif zT cs then (match wR E fn.ntmps s' fn.results.toList with|some r=>kv r R|none=>False)∨wQ E fn.ntmps s' fn.results.toList R
      else (match wR E fn.ntmps s' fn.results.toList with|some r=>kv r R|none=>wQ E fn.ntmps s' fn.results.toList R)
    |some (v1::v2::vs)=>bif zT (v1::v2::vs) || kS (v1::v2::vs) then (match wR E fn.ntmps s' fn.results.toList with|some r=>kv r R|none=>wQ E fn.ntmps s' fn.results.toList R)∨mF E fn.ntmps s' fn.results.toList R
      else (match wR E fn.ntmps s' fn.results.toList with|some r=>kv r R|none=>wQ E fn.ntmps s' fn.results.toList R)
    | _=>(match wR E fn.ntmps s' fn.results.toList with|some r=>kv r R|none=>wQ E fn.ntmps s' fn.results.toList R)):=hk
   have both:(match wR E fn.ntmps s' fn.results.toList with|some r=>kv r R|none=>wQ E fn.ntmps s' fn.results.toList R)→(match wR E fn.ntmps s' fn.results.toList with|some r=>kv r R|none=>False)∨wQ E fn.ntmps s' fn.results.toList R∨mF E fn.ntmps s' fn.results.toList R:=by
    intro h
    split at h
    ·exact .inl h
    ·exact .inr (.inl h)
   split at hk2
   ·rename_i cs _
    cases hq:zT cs with
    |true =>
     rw[hq] at hk2
     rcases hk2 with hk2|hk2
     ·exact .inl hk2
     ·exact .inr (.inl hk2)
    |false=>rw[hq] at hk2;exact both hk2
   ·rename_i v1 v2 vs _
    cases hq:zT (v1::v2::vs) || kS (v1::v2::vs) with
    |true =>
     rw[hq] at hk2
     rcases hk2 with hk2|hk2
     ·exact both hk2
     ·exact .inr (.inr hk2)
    |false=>rw[hq] at hk2;exact both hk2
   ·exact both hk2
  rcases fin with hk2|hk2|hk2
  ·split at hk2
   ·rename_i r ho
    rw[yT] at hk2
    obtain⟨v,hv,hrr⟩:=mN hS' (B:=A) (fun b hb=>hb) fn ho
    exact⟨v,hv,v,rfl,r,hk2,hS'.below,hrr⟩
   ·exact hk2.elim
  ·obtain⟨v,r,hv,hR,hrr⟩:=mG hS' (B:=A) (fun b hb=>hb) fn hk2
   exact⟨v,hv,v,rfl,r,hR,hS'.below,hrr⟩
  ·obtain⟨v,r,hv,hR,hrr⟩:=mE hS' (B:=A) (fun b hb=>hb) fn hk2
   exact⟨v,hv,v,rfl,r,hR,hS'.below,hrr⟩
 |ret =>
  obtain⟨m',s',hS',hk⟩:=hq
  refine⟨hS'.defers,?_⟩
  have fin:(match wR E fn.ntmps s' fn.results.toList with|some r=>kv r R|none=>False)∨wQ E fn.ntmps s' fn.results.toList R∨mF E fn.ntmps s' fn.results.toList R:=by
   have hk2:(match dU E fn.ntmps s' fn.results.toList with
    |some [.agg cs]=>bif zT cs then (match wR E fn.ntmps s' fn.results.toList with|some r=>kv r R|none=>False)∨wQ E fn.ntmps s' fn.results.toList R
      else (match wR E fn.ntmps s' fn.results.toList with|some r=>kv r R|none=>wQ E fn.ntmps s' fn.results.toList R)
    |some (v1::v2::vs)=>bif zT (v1::v2::vs) || kS (v1::v2::vs) then (match wR E fn.ntmps s' fn.results.toList with|some r=>kv r R|none=>wQ E fn.ntmps s' fn.results.toList R)∨mF E fn.ntmps s' fn.results.toList R
      else (match wR E fn.ntmps s' fn.results.toList with|some r=>kv r R|none=>wQ E fn.ntmps s' fn.results.toList R)
    | _=>(match wR E fn.ntmps s' fn.results.toList with|some r=>kv r R|none=>wQ E fn.ntmps s' fn.results.toList R)):=hk
   have both:(match wR E fn.ntmps s' fn.results.toList with|some r=>kv r R|none=>wQ E fn.ntmps s' fn.results.toList R)→(match wR E fn.ntmps s' fn.results.toList with|some r=>kv r R|none=>False)∨wQ E fn.ntmps s' fn.results.toList R∨mF E fn.ntmps s' fn.results.toList R:=by
    intro h
    split at h
    ·exact .inl h
    ·exact .inr (.inl h)
   split at hk2
   ·rename_i cs _
    cases hq:zT cs with
    |true =>
     rw[hq] at hk2
     rcases hk2 with hk2|hk2
     ·exact .inl hk2
     ·exact .inr (.inl hk2)
    |false=>rw[hq] at hk2;exact both hk2
   ·rename_i v1 v2 vs _
    cases hq:zT (v1::v2::vs) || kS (v1::v2::vs) with
    |true =>
     rw[hq] at hk2
     rcases hk2 with hk2|hk2
     ·exact both hk2
     ·exact .inr (.inr hk2)
    |false=>rw[hq] at hk2;exact both hk2
   ·exact both hk2
  rcases fin with hk2|hk2|hk2
  ·split at hk2
   ·rename_i r ho
    rw[yT] at hk2
    obtain⟨v,hv,hrr⟩:=mN hS' (B:=A) (fun b hb=>hb) fn ho
    exact⟨v,hv,v,rfl,r,hk2,hS'.below,hrr⟩
   ·exact hk2.elim
  ·obtain⟨v,r,hv,hR,hrr⟩:=mG hS' (B:=A) (fun b hb=>hb) fn hk2
   exact⟨v,hv,v,rfl,r,hR,hS'.below,hrr⟩
  ·obtain⟨v,r,hv,hR,hrr⟩:=mE hS' (B:=A) (fun b hb=>hb) fn hk2
   exact⟨v,hv,v,rfl,r,hR,hS'.below,hrr⟩
 |exit i =>
  obtain⟨m',s',hS',hk⟩:=hq
  exact hk.elim
 |goto l=>exact hq.elim
 |panic ch=>exact hq.elim
 |outgrown=>exact hq.elim
theorem callsTo_of_AW {f : FuncId} {fn : Func} {c : Code} {as1 : List AV} {R : AV → Prop} (hf : E.P.funcs[f]? = some fn) (hb : fn.body = some c) (hn : (fn.name == "runtime.NumGoroutine") = false) (hN : Nat.ble as1.length fn.ntmps = true)
  (h:AW E fn.ntmps c (sG E fn R) (St.init as1)):CallsTo E f as1 R:=by
 intro w A vs hI hr
 have hrun:(callFunc f vs).run E.P w=.ok (.enter f vs) w:=by
  simp only[callFunc,Sem.run_bind,run_program,Result.andThen_ok,hf,hn,hb]
  rfl
 unfold Invokes
 rw[hrun]
 exact(calls_of_AW hf hb hN h hI hr).mono fun e w' ⟨v,he,hp⟩=>⟨v,he,hp⟩
theorem iR {fn:Func} {Post:AV→(Key→Option Ob)→Prop} (h:SRel E fn.ntmps A w0 m s a w) (ho:retIO E fn Post .ret s) :
  ∃ v,(results fn a.tmps).run E.P w=.ok v w∧∃ r H1 m1,Post r H1∧HRel E A w0 m1 H1 w∧VRel w (okB A H1 m1 w) m1 H1 r v:=by
 obtain⟨s1,hw,ho⟩:=ho
 obtain⟨m1,h1⟩:=hw A w0 m a w h
 split at ho
 ·rename_i v hv
  obtain⟨K,hP⟩:=ho
  obtain⟨us,g1,g2,g3⟩:=vN h1 _ _ hv
  have hl1:us.length=1:=by simpa using g2.symm
  obtain⟨u,rfl⟩:∃ u,us=[u]:=by
   match us,hl1 with
   | [u],_=>exact⟨u,rfl⟩
  exact⟨u,kH fn w _ _ g1,_,_,m1,hP,h1.toH.drop K,(g3 0 _ u rfl rfl).scr (fun b hb=>⟨mP hb,rfl⟩) uH⟩
 ·rename_i vs hne hv
  obtain⟨K,hP⟩:=ho
  obtain⟨us,g1,g2,g3⟩:=vN h1 _ _ hv
  have hl1:us.length≠1:=by
   intro he
   rw[he] at g2
   match vs,g2 with
   | [v],_=>exact hne v rfl
  refine⟨.tuple us.toArray,by rw[kH fn w _ _ g1,dif_neg (by simpa using hl1)],_,_,m1,hP,h1.toH.drop K,?_⟩
  refine .tup _ us.toArray (by simp;omega) fun i c u hc hu=>?_
  rw[List.getElem?_map] at hc
  obtain⟨c0,hc0,rfl⟩:=Option.map_eq_some_iff.1 hc
  exact(g3 i c0 u hc0 (by simpa using hu)).scr (fun b hb=>⟨mP hb,rfl⟩) uH
 ·exact ho.elim
theorem io_of_AW {f : FuncId} {fn : Func} {c : Code} {as1 : List AV} {H0 : Key → Option Ob} {Post : AV → (Key → Option Ob) → Prop} (hf : E.P.funcs[f]? = some fn) (hb : fn.body = some c) (hn : (fn.name == "runtime.NumGoroutine") = false) (hN : Nat.ble as1.length fn.ntmps = true)
  (h:AW E fn.ntmps c (retIO E fn Post) ⟨fun i=>as1.getD i .junk,H0⟩):IOCall E f as1 H0 Post:=by
 intro w0 A m w vs hH hl hr
 have hrun:(callFunc f vs).run E.P w=.ok (.enter f vs) w:=by
  simp only[callFunc,Sem.run_bind,run_program,Result.andThen_ok,hf,hn,hb]
  rfl
 unfold Invokes
 rw[hrun]
 have hN':as1.length≤fn.ntmps:=Nat.le_of_ble_eq_true hN
 have hsz:vs.size≤fn.ntmps:=by rw[← hl];exact hN'
 refine calls_of_wp hf hb ?_
 have hS:SRel E fn.ntmps A w0 m ⟨fun i=>as1.getD i .junk,H0⟩ { tmps:=vs++Array.replicate (fn.ntmps - vs.size) undef,defers:=[] } w:=by
  refine⟨by simp;omega,rfl,hH.below,hH.inv,fun i hi=>?_,hH.objs,hH.inj,hH.hA,hH.fr,hH.pin⟩
  by_cases hlt:i<as1.length
  ·have h1:as1[i]?=some as1[i]:=List.getElem?_eq_getElem hlt
   have hlv:i<vs.size:=by rw[← hl];exact hlt
   have:=hr i as1[i] vs[i] h1 (Array.getElem?_eq_getElem hlv)
   have e1:as1.getD i .junk=as1[i]:=by simp[List.getD,h1]
   have e2:(vs++Array.replicate (fn.ntmps - vs.size) undef).getD i undef=vs[i]:=by
    rw[Array.getD_eq_getD_getElem?,Array.getElem?_append_left hlv,Array.getElem?_eq_getElem hlv];rfl
   show VRel _ _ _ _ (as1.getD i .junk) ((vs++Array.replicate (fn.ntmps - vs.size) undef).getD i undef)
   rw[e1,e2]
   exact this
  ·have e1:as1.getD i .junk=.junk:=by simp[List.getD,List.getElem?_eq_none (Nat.le_of_not_lt hlt)]
   show VRel _ _ _ _ (as1.getD i .junk) _
   rw[e1];exact .junk _
 refine wp_mono (nN c _ hS h) fun e a' w' hq=>?_
 cases e with
 |normal =>
  obtain⟨m',s',hS',hk⟩:=hq
  refine⟨hS'.defers,?_⟩
  obtain⟨v,hv,hp⟩:=iR hS' hk
  exact⟨v,hv,v,rfl,hp⟩
 |ret =>
  obtain⟨m',s',hS',hk⟩:=hq
  refine⟨hS'.defers,?_⟩
  obtain⟨v,hv,hp⟩:=iR hS' hk
  exact⟨v,hv,v,rfl,hp⟩
 |exit i =>
  obtain⟨m',s',hS',hk⟩:=hq
  exact hk.elim
 |goto l=>exact hq.elim
 |panic ch=>exact hq.elim
 |outgrown=>exact hq.elim
end
end Ai
namespace Ai
open Go Go.RowKit
section
variable {E:Env} {N:Nat} {A:Fr} {w0 w w':World} {m m':Own} {s s' s1:St} {a:Act}
def mI:List (Nat × AV)→St→St
 | [],s=>s
 |(t,v)::l,s=>put (some t) v (mI l s)
def oks:List (Nat × AV)→St→Prop
 | [],_=>True
 |(t,v)::l,s=>s.τ t=v∧oks l s
def lZ:List (Key × Ob)→St→St
 | [],s=>s
 |(t,v)::l,s=>(lZ l s).setH t v
def okh:List (Key × Ob)→St→Prop
 | [],_=>True
 |(t,v)::l,s=>s.H t=some v∧okh l s
theorem put_eq {t:Nat} {v:AV} (h:s.τ t=v):put (some t) v s=s:=by
 cases s with
 |mk τ H =>
  simp only[put,St.mk.injEq,and_true]
  funext i
  by_cases hi:i=t
  ·subst hi;rw[nbeq_self];exact h.symm
  ·rw[nbeq_ne hi];rfl
theorem setH_eq {t:Key} {v:Ob} (h:s.H t=some v):s.setH t v=s:=by
 cases s with
 |mk τ H =>
  simp only[St.setH,St.mk.injEq,true_and]
  funext i
  by_cases hi:i=t
  ·subst hi;rw[zD];exact h.symm
  ·rw[zB hi];rfl
theorem dN:∀ {l:List (Nat × AV)},oks l s→mI l s=s
 | [],_=>rfl
 |(t,v)::l,h=>by
  simp only[mI]
  rw[dN h.2]
  exact put_eq h.1
theorem dH:∀ {l:List (Key × Ob)},okh l s→lZ l s=s
 | [],_=>rfl
 |(t,v)::l,h=>by
  simp only[lZ]
  rw[dH h.2]
  exact setH_eq h.1
theorem Weak.refl:Weak E N s s:=fun A w0 m a w h=>⟨m,h⟩
theorem yV {α:Type} {body:(AX→St→Prop)→St→Prop} {Q:AX→St→Prop} (l:α→List (Nat × AV)) (o:α→List (Key × Ob)) (μ:α→Nat) (pre:α→Prop) (x0:α)
  (hw:Weak E N s s1) (h0:oks (l x0) s1) (h1:okh (o x0) s1) (hp:pre x0)
  (step:∀ x τ H,pre x→body (kZ (fun s'=>∃ x',pre x'∧μ x'<μ x∧oks (l x') s'∧okh (o x') s') Q) (mI (l x) (lZ (o x) ⟨τ,H⟩))):ALoop E N body Q s:=by
 unfold ALoop
 intro R hR
 have main:∀ n x s,μ x<n→pre x→oks (l x) s→okh (o x) s→R s:=by
  intro n
  induction n with
  |zero=>intro x s h;omega
  |succ n ih =>
   intro x s hn hp h0 h1
   have hs:=step x s.τ s.H hp
   have e:mI (l x) (lZ (o x) ⟨s.τ,s.H⟩)=s:=by
    rw[show(⟨s.τ,s.H⟩:St)=s from rfl,dH h1,dN h0]
   rw[e] at hs
   exact hR s s _ Weak.refl hs fun t ⟨x',hp',hlt,h0',h1'⟩=>ih x' t (by omega) hp' h0' h1'
 -- the first round comes behind the change
 have hs:=step x0 s1.τ s1.H hp
 have e:mI (l x0) (lZ (o x0) ⟨s1.τ,s1.H⟩)=s1:=by
  rw[show(⟨s1.τ,s1.H⟩:St)=s1 from rfl,dH h1,dN h0]
 rw[e] at hs
 exact hR s s1 _ hw hs fun t ⟨x',hp',hlt,h0',h1'⟩=>main (μ x'+1) x' t (by omega) hp' h0' h1'
theorem weak_nil (t:Nat) (κ:Key) (e:TypeId) (sz:Nat) (h:s.τ t=.d .nil) (hκ:∀ n,κ≠.l n:=by intro n h;cases h):Weak E N s (put (some t) (.ref κ 0 0) (s.new κ (.ds e sz []))):=by
 intro A w0 m a w hS
 have hS1:SRel E N A w0 (wC m κ none) (s.new κ (.ds e sz [])) a w:=by
  refine hS.change κ (fun i=>rfl) (fun o hne=>?_) (fun o hne=>yY m _ hne) hS.below (fun Z b hb=>⟨⟨hb.1,fun o ho p hp=>?_,hb.2.2⟩,rfl⟩) (fun _ _ _ _ _=>rfl) (fun ob hob=>?_) (fun _ o hne ho p p' hp hp'=>?_) (fun n hn=>absurd hn (hκ n))
  ·simp[St.new,St.setH,St.kill,zB hne]
  ·by_cases hne:o=κ
   ·subst hne;rw[zI] at hp;cases hp
   ·rw[yY m _ hne] at hp
    refine hb.2.1 o (fun hh=>ho ?_) p hp
    simp[St.new,St.setH,St.kill,zB hne,hh]
  ·have:ob=.ds e sz []:=by simp[St.new,St.setH,zD,scrPO] at hob;exact hob.symm
   subst this;exact .inl ⟨zI _ _ _,rfl⟩
  ·rw[zI] at hp;cases hp
 refine⟨wC m κ none,hS1.size,hS1.defers,hS1.below,hS1.inv,fun i hi=>?_,hS1.objs,hS1.inj,hS1.hA,hS1.fr,hS1.pin⟩
 by_cases hit:i=t
 ·subst hit
  have hv:=hS.tmps i hi
  rw[h] at hv
  generalize a.tmps.getD i undef=u at hv
  simp only[put,nbeq_self,cond_true]
  cases hv with
  |d _ _ hd=>cases hd with
   |nil=>exact .ref0 κ e sz (by simp[St.new,St.setH,zD,scrPO]) (zI _ _ _)
 ·simp only[put,nbeq_ne hit,cond_false]
  exact hS1.tmps i hi
theorem Weak.trans {s2:St} (h1:Weak E N s s1) (h2:Weak E N s1 s2):Weak E N s s2:=fun A w0 m a w h=>by
 obtain⟨m1,h1⟩:=h1 A w0 m a w h
 exact h2 A w0 m1 a w h1
theorem eN (x y:Key) (hx:∀ n,x≠.l n) (hy:∀ n,y≠.l n):Weak E N s (s.swap x y):=fun A w0 m a w h=>by
 refine⟨_,h.sw x y fun n hn hs=>?_⟩
 have e1:swp x y (.l n)=.l n:=by
  unfold swp
  rw[zB (Ne.symm (hx n)),zB (Ne.symm (hy n))];rfl
 show some (m (swp x y (.l n)))=A.pin n
 simp only[swH,e1] at hs
 rw[e1]
 exact h.pin n hn (fun hh=>hs (by rw[hh];rfl))
theorem wL (k l:Nat):Weak E N s (s.swap (.n k) (.n l)):=eN _ _ (fun n h=>by cases h) (fun n h=>by cases h)
theorem jR (k o j:Nat):Weak E N s (s.swap (.n k) (.s o j)):=eN _ _ (fun n h=>by cases h) (fun n h=>by cases h)
def OwnAt (s:St):Nat→List AV→Prop
 | _,[]=>True
 |i,v::vs=>(match v with
  | .uq e sz els=>s.H (.n i)=some (.ds e sz els)
  | .uqd e sz c e2 sz2 rows subs=>s.H (.n i)=some (.rs e sz (ownRows i c rows subs))∧∀ j q,subs[j]?=some q→s.H (.s i j)=some (.ds e2 sz2 q)
  | _=>True)∧OwnAt s (i+1) vs
theorem pA:∀ (l:List AV) (b i:Nat) (v:AV),OwnAt s b l→l[i]?=some v→(match v with
  | .uq e sz els=>s.H (.n (b+i))=some (.ds e sz els)
  | .uqd e sz c e2 sz2 rows subs=>s.H (.n (b+i))=some (.rs e sz (ownRows (b+i) c rows subs))∧∀ j q,subs[j]?=some q→s.H (.s (b+i) j)=some (.ds e2 sz2 q)
  | _=>True)
 | [],b,i,v,_,h=>by simp at h
 |x::xs,b,0,v,ha,h=>by
  simp at h;subst h
  exact ha.1
 |x::xs,b,i+1,v,ha,h=>by
  have:=pA xs (b+1) i v ha.2 (by simpa using h)
  rw[show b+1+i=b+(i+1) from by omega] at this
  exact this
theorem nY {cs:List AV} (h:OwnAt s 900 cs):∀ κ,ownH cs κ≠none→s.H κ=ownH cs κ:=by
 intro κ hκ
 have hge:∀ kk,Nat.blt kk 900=false→900≤kk:=fun kk hlt=>by
  rcases Nat.lt_or_ge kk 900 with h1|h1
  ·have:Nat.blt kk 900=true:=by simpa[Nat.blt_eq] using h1
   rw[this] at hlt;cases hlt
  ·exact h1
 cases κ with
 |n kk =>
  cases hlt:Nat.blt kk 900 with
  |true=>simp only[ownH,hlt] at hκ;exact absurd rfl hκ
  |false =>
   have g:=hge kk hlt
   cases hc:cs[kk - 900]? with
   |none=>simp only[ownH,hlt,cond_false,hc] at hκ;exact absurd rfl hκ
   |some v =>
    have:=pA cs 900 (kk - 900) v h hc
    rw[show 900+(kk - 900)=kk from by omega] at this
    simp only[ownH,hlt,cond_false,hc] at hκ ⊢
    cases v <;> first|exact this|exact this.1|exact absurd rfl hκ
 |s o j =>
  cases hlt:Nat.blt o 900 with
  |true=>simp only[ownH,hlt] at hκ;exact absurd rfl hκ
  |false =>
   have g:=hge o hlt
   cases hc:cs[o - 900]? with
   |none=>simp only[ownH,hlt,cond_false,hc] at hκ;exact absurd rfl hκ
   |some v =>
    have:=pA cs 900 (o - 900) v h hc
    rw[show 900+(o - 900)=o from by omega] at this
    simp only[ownH,hlt,cond_false,hc] at hκ ⊢
    cases v <;> first|exact absurd rfl hκ|skip
    rename_i e sz c e2 sz2 rows subs
    cases hj:subs[j]? with
    |none=>simp only[hj,Option.map_none] at hκ;exact absurd rfl hκ
    |some q=>simp only[hj,Option.map_some];exact this.2 j q hj
 |l n=>exact absurd rfl hκ
def gA:List (Nat × (Nat→Option Ob))→St→St
 | [],s=>s
 |(o,f)::l,s=>{ gA l s with H:=fun κ=>match κ with|.s o' j=>bif Nat.beq o' o then f j else (gA l s).H κ|κ=>(gA l s).H κ }
def okf:List (Nat × (Nat→Option Ob))→St→Prop
 | [],_=>True
 |(o,f)::l,s=>(∀ j,s.H (.s o j)=f j)∧okf l s
theorem lY:∀ {l:List (Nat × (Nat→Option Ob))},okf l s→gA l s=s
 | [],_=>rfl
 |(o,f)::l,h=>by
  simp only[gA]
  rw[lY h.2]
  cases s with
  |mk τ H =>
   simp only[St.mk.injEq,true_and]
   funext κ
   cases κ with
   |s o' j =>
    simp only
    by_cases ho:o'=o
    ·subst ho;rw[nbeq_self];exact(h.1 j).symm
    ·rw[nbeq_ne ho];rfl
   |n k=>rfl
   |l k=>rfl
theorem aloopF {α:Type} {body:(AX→St→Prop)→St→Prop} {Q:AX→St→Prop} (l:α→List (Nat × AV)) (o:α→List (Key × Ob)) (f:α→List (Nat × (Nat→Option Ob))) (μ:α→Nat) (pre:α→Prop) (x0:α)
  (hw:Weak E N s s1) (h0:oks (l x0) s1) (h1:okh (o x0) s1) (h2:okf (f x0) s1) (hp:pre x0)
  (step:∀ x τ H,pre x→body (kZ (fun s'=>∃ x' s2,Weak E N s' s2∧pre x'∧μ x'<μ x∧oks (l x') s2∧okh (o x') s2∧okf (f x') s2) Q) (mI (l x) (lZ (o x) (gA (f x) ⟨τ,H⟩)))):ALoop E N body Q s:=by
 unfold ALoop
 intro R hR
 have main:∀ n x s s2,μ x<n→pre x→Weak E N s s2→oks (l x) s2→okh (o x) s2→okf (f x) s2→R s:=by
  intro n
  induction n with
  |zero=>intro x s s2 h;omega
  |succ n ih =>
   intro x s s2 hn hp hw h0 h1 h2
   have hs:=step x s2.τ s2.H hp
   have e:mI (l x) (lZ (o x) (gA (f x) ⟨s2.τ,s2.H⟩))=s2:=by
    rw[show(⟨s2.τ,s2.H⟩:St)=s2 from rfl,lY h2,dH h1,dN h0]
   rw[e] at hs
   exact hR s s2 _ hw hs fun t ⟨x',s3,hw',hp',hlt,h0',h1',h2'⟩=>ih x' t s3 (by omega) hp' hw' h0' h1' h2'
 exact main (μ x0+1) x0 s s1 (by omega) hp hw h0 h1 h2
theorem qB (o κ:Key) (e e2:TypeId) (sz i:Nat) (cs:List AV) (hκ:∀ n,κ≠.l n) (hne:o≠κ) (hH:s.H o=some (.vs e cs)) (hi:cs[i]?=some (.d .nil)) :
  Weak E N s (((s.kill κ).setH κ (.rs e2 sz [])).setH o (.vs e ((scrPL (isK κ) cs).set i (.dref κ 0)))):=by
 intro A w0 m a w hS
 have hS1:SRel E N A w0 (wC m κ none) ((s.kill κ).setH κ (.rs e2 sz [])) a w:=by
  refine hS.change κ (fun i=>rfl) (fun o hne=>?_) (fun o hne=>yY m _ hne) hS.below (fun Z b hb=>⟨⟨hb.1,fun o ho p hp=>?_,hb.2.2⟩,rfl⟩) (fun _ _ _ _ _=>rfl) (fun ob hob=>?_) (fun _ o hne ho p p' hp hp'=>?_) (fun n hn=>absurd hn (hκ n))
  ·simp[St.setH,St.kill,zB hne]
  ·by_cases hne:o=κ
   ·subst hne;rw[zI] at hp;cases hp
   ·rw[yY m _ hne] at hp
    refine hb.2.1 o (fun hh=>ho ?_) p hp
    simp[St.setH,St.kill,zB hne,hh]
  ·have:ob=.rs e2 sz []:=by simp[St.setH,zD] at hob;exact hob.symm
   subst this;exact .inl ⟨zI _ _ _,rfl⟩
  ·rw[zI] at hp;cases hp
 refine⟨wC m κ none,?_⟩
 generalize hs1:(s.kill κ).setH κ (.rs e2 sz [])=s1 at hS1
 have hH1:s1.H o=some (.vs e (scrPL (isK κ) cs)):=by
  rw[← hs1]
  simp[St.setH,St.kill,zB hne,hH,scrPO]
 have hi1:(scrPL (isK κ) cs)[i]?=some (.d .nil):=by rw[wY,hi];rfl
 have hκ1:s1.H κ=some (.rs e2 sz []):=by rw[← hs1];simp[St.setH,zD]
 generalize scrPL (isK κ) cs=cs1 at hH1 hi1
 have hlike:Like s1.H (s1.setH o (.vs e (cs1.set i (.dref κ 0)))).H (wC m κ none) (wC m κ none):=by
  refine⟨fun o2 e2 cs2 h2=>?_,fun o2 e2 sz2 els2 h2=>?_,fun o2 e2 sz2 els2 h2=>?_,fun o2 ag2 ps2 h2=>⟨⟨ps2,by simp[St.setH,zB (show o2≠o from fun e=>by subst e;rw[hH1] at h2;cases h2),h2]⟩,rfl⟩⟩
  ·by_cases h:o2=o
   ·subst h
    rw[hH1] at h2;injection h2 with h2;injection h2 with i1 i2;subst i1
    exact⟨⟨_,by simp[St.setH,zD];rfl⟩,rfl⟩
   ·exact⟨⟨cs2,by simp[St.setH,zB h,h2]⟩,rfl⟩
  ·by_cases h:o2=o
   ·subst h;rw[hH1] at h2;injection h2 with h2;cases h2
   ·exact⟨⟨els2,by simp[St.setH,zB h,h2],rfl⟩,rfl⟩
  ·by_cases h:o2=o
   ·subst h;rw[hH1] at h2;injection h2 with h2;cases h2
   ·exact⟨⟨els2,by simp[St.setH,zB h,h2],rfl⟩,rfl⟩
 obtain⟨b,full,cur,hm,hbb,hcur,hsz,hc⟩:=hS1.objs o _ hH1
 have hok:∀ k,okB A s1.H (wC m κ none) w k→okB A (s1.setH o (.vs e (cs1.set i (.dref κ 0)))).H (wC m κ none) w k∧w.heap[k]?=w.heap[k]?:=by
  intro k hk
  refine⟨⟨hk.1,fun o2 ho2 p hp=>hk.2.1 o2 ?_ p hp,hk.2.2⟩,rfl⟩
  by_cases h:o2=o
  ·subst h;simp[hH1]
  ·simpa[St.setH,zB h] using ho2
 refine hS1.update o _ (.vs e (cs1.set i (.dref κ 0))) hH1 hlike b full hm hS1.below rfl (fun _ _=>rfl) ⟨b,full,cur,hm,hbb,hcur,by simpa using hsz,fun j c hj=>?_⟩ (fun _ _ _=>⟨_,_,rfl⟩)
 rw[List.getElem?_set] at hj
 split at hj
 ·rename_i hij
  subst hij
  split at hj
  ·injection hj with hj;subst hj
   obtain⟨u,hu,hv⟩:=hc i _ hi1
   refine⟨u,hu,?_⟩
   cases hv with
   |d _ _ hd=>cases hd with
    |nil=>exact .dref0 κ e2 sz (by simp[St.setH,zB (Ne.symm hne),hκ1]) (zI _ _ _)
  ·cases hj
 ·obtain⟨u,hu,hv⟩:=hc j c hj
  exact⟨u,hu,hv.mono hok hlike⟩
end
end Ai
namespace Ai
set_option maxRecDepth 100000
open Go Go.Proofs
abbrev ti2:TI:=⟨1,false,8,[.int .i64 0],.int .i64⟩
theorem tf2:TFact Tryz.prog 2 ti2:=⟨⟨Tryz.t2,(match Tryz.t2.zero with|some z=>z|none=>undef),by kernel_rfl,by kernel_rfl,by kernel_rfl,by kernel_rfl,by kernel_rfl⟩,by kernel_rfl,by kernel_rfl,⟨Tryz.t2.desc,by kernel_rfl,by kernel_rfl⟩,(by kernel_rfl:Tryz.prog.underlying 2=some (.int .i64))⟩
abbrev ti3:TI:=⟨1,false,8,[.int .i64 0],.int .i64⟩
theorem tf3:TFact Tryz.prog 3 ti3:=⟨⟨Tryz.t3,(match Tryz.t3.zero with|some z=>z|none=>undef),by kernel_rfl,by kernel_rfl,by kernel_rfl,by kernel_rfl,by kernel_rfl⟩,by kernel_rfl,by kernel_rfl,⟨Tryz.t3.desc,by kernel_rfl,by kernel_rfl⟩,(by kernel_rfl:Tryz.prog.underlying 3=some (.int .i64))⟩
abbrev ti4:TI:=⟨1,false,1,[.bool false],.bool⟩
theorem tf4:TFact Tryz.prog 4 ti4:=⟨⟨Tryz.t4,(match Tryz.t4.zero with|some z=>z|none=>undef),by kernel_rfl,by kernel_rfl,by kernel_rfl,by kernel_rfl,by kernel_rfl⟩,by kernel_rfl,by kernel_rfl,⟨Tryz.t4.desc,by kernel_rfl,by kernel_rfl⟩,(by kernel_rfl:Tryz.prog.underlying 4=some (.bool))⟩
abbrev ti5:TI:=⟨1,false,1,[.int .u8 0],.int .u8⟩
theorem tf5:TFact Tryz.prog 5 ti5:=⟨⟨Tryz.t5,(match Tryz.t5.zero with|some z=>z|none=>undef),by kernel_rfl,by kernel_rfl,by kernel_rfl,by kernel_rfl,by kernel_rfl⟩,by kernel_rfl,by kernel_rfl,⟨Tryz.t5.desc,by kernel_rfl,by kernel_rfl⟩,(by kernel_rfl:Tryz.prog.underlying 5=some (.int .u8))⟩
abbrev ti6:TI:=⟨1,false,1,[.int .u8 0],.int .u8⟩
theorem tf6:TFact Tryz.prog 6 ti6:=⟨⟨Tryz.t6,(match Tryz.t6.zero with|some z=>z|none=>undef),by kernel_rfl,by kernel_rfl,by kernel_rfl,by kernel_rfl,by kernel_rfl⟩,by kernel_rfl,by kernel_rfl,⟨Tryz.t5.desc,by kernel_rfl,by kernel_rfl⟩,(by kernel_rfl:Tryz.prog.underlying 6=some (.int .u8))⟩
abbrev ti7:TI:=⟨4,true,24,[.int .i64 0,.int .i64 0,.bool false,.int .u8 0],.struct [(0,2),(1,3),(2,4),(3,6)]⟩
theorem tf7:TFact Tryz.prog 7 ti7:=⟨⟨Tryz.t7,(match Tryz.t7.zero with|some z=>z|none=>undef),by kernel_rfl,by kernel_rfl,by kernel_rfl,by kernel_rfl,by kernel_rfl⟩,by kernel_rfl,by kernel_rfl,⟨Tryz.t7.desc,by kernel_rfl,by kernel_rfl⟩,⟨(match Tryz.t7.desc with|.struct F=>F|_=>#[]),by kernel_rfl,by kernel_rfl⟩⟩
abbrev ti8:TI:=⟨4,true,24,[.int .i64 0,.int .i64 0,.bool false,.int .u8 0],.struct [(0,2),(1,3),(2,4),(3,6)]⟩
theorem tf8:TFact Tryz.prog 8 ti8:=⟨⟨Tryz.t8,(match Tryz.t8.zero with|some z=>z|none=>undef),by kernel_rfl,by kernel_rfl,by kernel_rfl,by kernel_rfl,by kernel_rfl⟩,by kernel_rfl,by kernel_rfl,⟨Tryz.t7.desc,by kernel_rfl,by kernel_rfl⟩,⟨(match Tryz.t7.desc with|.struct F=>F|_=>#[]),by kernel_rfl,by kernel_rfl⟩⟩
abbrev ti9:TI:=⟨1,false,16,[.str []],.str⟩
theorem tf9:TFact Tryz.prog 9 ti9:=⟨⟨Tryz.t9,(match Tryz.t9.zero with|some z=>z|none=>undef),by kernel_rfl,by kernel_rfl,by kernel_rfl,by kernel_rfl,by kernel_rfl⟩,by kernel_rfl,by kernel_rfl,⟨Tryz.t9.desc,by kernel_rfl,by kernel_rfl⟩,(by kernel_rfl:Tryz.prog.underlying 9=some (.string))⟩
abbrev ti10:TI:=⟨1,false,16,[.str []],.str⟩
theorem tf10:TFact Tryz.prog 10 ti10:=⟨⟨Tryz.t10,(match Tryz.t10.zero with|some z=>z|none=>undef),by kernel_rfl,by kernel_rfl,by kernel_rfl,by kernel_rfl,by kernel_rfl⟩,by kernel_rfl,by kernel_rfl,⟨Tryz.t9.desc,by kernel_rfl,by kernel_rfl⟩,(by kernel_rfl:Tryz.prog.underlying 10=some (.string))⟩
abbrev ti11:TI:=⟨1,false,16,[.str []],.str⟩
theorem tf11:TFact Tryz.prog 11 ti11:=⟨⟨Tryz.t11,(match Tryz.t11.zero with|some z=>z|none=>undef),by kernel_rfl,by kernel_rfl,by kernel_rfl,by kernel_rfl,by kernel_rfl⟩,by kernel_rfl,by kernel_rfl,⟨Tryz.t9.desc,by kernel_rfl,by kernel_rfl⟩,(by kernel_rfl:Tryz.prog.underlying 11=some (.string))⟩
abbrev ti12:TI:=⟨1,false,8,[.int .u64 0],.int .u64⟩
theorem tf12:TFact Tryz.prog 12 ti12:=⟨⟨Tryz.t12,(match Tryz.t12.zero with|some z=>z|none=>undef),by kernel_rfl,by kernel_rfl,by kernel_rfl,by kernel_rfl,by kernel_rfl⟩,by kernel_rfl,by kernel_rfl,⟨Tryz.t12.desc,by kernel_rfl,by kernel_rfl⟩,(by kernel_rfl:Tryz.prog.underlying 12=some (.int .u64))⟩
abbrev ti13:TI:=⟨2,true,24,[.str [],.int .u64 0],.struct [(0,9),(1,12)]⟩
theorem tf13:TFact Tryz.prog 13 ti13:=⟨⟨Tryz.t13,(match Tryz.t13.zero with|some z=>z|none=>undef),by kernel_rfl,by kernel_rfl,by kernel_rfl,by kernel_rfl,by kernel_rfl⟩,by kernel_rfl,by kernel_rfl,⟨Tryz.t13.desc,by kernel_rfl,by kernel_rfl⟩,⟨(match Tryz.t13.desc with|.struct F=>F|_=>#[]),by kernel_rfl,by kernel_rfl⟩⟩
abbrev ti14:TI:=⟨2,true,24,[.str [],.int .u64 0],.struct [(0,9),(1,12)]⟩
theorem tf14:TFact Tryz.prog 14 ti14:=⟨⟨Tryz.t14,(match Tryz.t14.zero with|some z=>z|none=>undef),by kernel_rfl,by kernel_rfl,by kernel_rfl,by kernel_rfl,by kernel_rfl⟩,by kernel_rfl,by kernel_rfl,⟨Tryz.t13.desc,by kernel_rfl,by kernel_rfl⟩,⟨(match Tryz.t13.desc with|.struct F=>F|_=>#[]),by kernel_rfl,by kernel_rfl⟩⟩
abbrev ti21:TI:=⟨1,false,4,[.int .i32 0],.int .i32⟩
theorem tf21:TFact Tryz.prog 21 ti21:=⟨⟨Tryz.t21,(match Tryz.t21.zero with|some z=>z|none=>undef),by kernel_rfl,by kernel_rfl,by kernel_rfl,by kernel_rfl,by kernel_rfl⟩,by kernel_rfl,by kernel_rfl,⟨Tryz.t21.desc,by kernel_rfl,by kernel_rfl⟩,(by kernel_rfl:Tryz.prog.underlying 21=some (.int .i32))⟩
abbrev ti22:TI:=⟨1,false,24,[.nil],.slice 95⟩
theorem tf22:TFact Tryz.prog 22 ti22:=⟨⟨Tryz.t22,(match Tryz.t22.zero with|some z=>z|none=>undef),by kernel_rfl,by kernel_rfl,by kernel_rfl,by kernel_rfl,by kernel_rfl⟩,by kernel_rfl,by kernel_rfl,⟨Tryz.t22.desc,by kernel_rfl,by kernel_rfl⟩,(by kernel_rfl:Tryz.prog.underlying 22=some (.slice 95))⟩
abbrev ti23:TI:=⟨4,true,48,[.int .i64 0,.int .i64 0,.int .i64 0,.nil],.struct [(0,3),(1,3),(2,3),(3,22)]⟩
theorem tf23:TFact Tryz.prog 23 ti23:=⟨⟨Tryz.t23,(match Tryz.t23.zero with|some z=>z|none=>undef),by kernel_rfl,by kernel_rfl,by kernel_rfl,by kernel_rfl,by kernel_rfl⟩,by kernel_rfl,by kernel_rfl,⟨Tryz.t23.desc,by kernel_rfl,by kernel_rfl⟩,⟨(match Tryz.t23.desc with|.struct F=>F|_=>#[]),by kernel_rfl,by kernel_rfl⟩⟩
abbrev ti24:TI:=⟨4,true,48,[.int .i64 0,.int .i64 0,.int .i64 0,.nil],.struct [(0,3),(1,3),(2,3),(3,22)]⟩
theorem tf24:TFact Tryz.prog 24 ti24:=⟨⟨Tryz.t24,(match Tryz.t24.zero with|some z=>z|none=>undef),by kernel_rfl,by kernel_rfl,by kernel_rfl,by kernel_rfl,by kernel_rfl⟩,by kernel_rfl,by kernel_rfl,⟨Tryz.t23.desc,by kernel_rfl,by kernel_rfl⟩,⟨(match Tryz.t23.desc with|.struct F=>F|_=>#[]),by kernel_rfl,by kernel_rfl⟩⟩
abbrev ti25:TI:=⟨1,false,24,[.nil],.slice 114⟩
theorem tf25:TFact Tryz.prog 25 ti25:=⟨⟨Tryz.t25,(match Tryz.t25.zero with|some z=>z|none=>undef),by kernel_rfl,by kernel_rfl,by kernel_rfl,by kernel_rfl,by kernel_rfl⟩,by kernel_rfl,by kernel_rfl,⟨Tryz.t25.desc,by kernel_rfl,by kernel_rfl⟩,(by kernel_rfl:Tryz.prog.underlying 25=some (.slice 114))⟩
abbrev ti26:TI:=⟨1,false,24,[.nil],.slice 3⟩
theorem tf26:TFact Tryz.prog 26 ti26:=⟨⟨Tryz.t26,(match Tryz.t26.zero with|some z=>z|none=>undef),by kernel_rfl,by kernel_rfl,by kernel_rfl,by kernel_rfl,by kernel_rfl⟩,by kernel_rfl,by kernel_rfl,⟨Tryz.t26.desc,by kernel_rfl,by kernel_rfl⟩,(by kernel_rfl:Tryz.prog.underlying 26=some (.slice 3))⟩
abbrev ti27:TI:=⟨1,false,24,[.nil],.slice 142⟩
theorem tf27:TFact Tryz.prog 27 ti27:=⟨⟨Tryz.t27,(match Tryz.t27.zero with|some z=>z|none=>undef),by kernel_rfl,by kernel_rfl,by kernel_rfl,by kernel_rfl,by kernel_rfl⟩,by kernel_rfl,by kernel_rfl,⟨Tryz.t27.desc,by kernel_rfl,by kernel_rfl⟩,(by kernel_rfl:Tryz.prog.underlying 27=some (.slice 142))⟩
abbrev ti28:TI:=⟨1,false,24,[.nil],.slice 100⟩
theorem tf28:TFact Tryz.prog 28 ti28:=⟨⟨Tryz.t28,(match Tryz.t28.zero with|some z=>z|none=>undef),by kernel_rfl,by kernel_rfl,by kernel_rfl,by kernel_rfl,by kernel_rfl⟩,by kernel_rfl,by kernel_rfl,⟨Tryz.t28.desc,by kernel_rfl,by kernel_rfl⟩,(by kernel_rfl:Tryz.prog.underlying 28=some (.slice 100))⟩
abbrev ti29:TI:=⟨4,true,80,[.nil,.nil,.nil,.int .i64 0],.struct [(0,27),(1,28),(2,26),(3,3)]⟩
theorem tf29:TFact Tryz.prog 29 ti29:=⟨⟨Tryz.t29,(match Tryz.t29.zero with|some z=>z|none=>undef),by kernel_rfl,by kernel_rfl,by kernel_rfl,by kernel_rfl,by kernel_rfl⟩,by kernel_rfl,by kernel_rfl,⟨Tryz.t29.desc,by kernel_rfl,by kernel_rfl⟩,⟨(match Tryz.t29.desc with|.struct F=>F|_=>#[]),by kernel_rfl,by kernel_rfl⟩⟩
abbrev ti30:TI:=⟨4,true,80,[.nil,.nil,.nil,.int .i64 0],.struct [(0,27),(1,28),(2,26),(3,3)]⟩
theorem tf30:TFact Tryz.prog 30 ti30:=⟨⟨Tryz.t30,(match Tryz.t30.zero with|some z=>z|none=>undef),by kernel_rfl,by kernel_rfl,by kernel_rfl,by kernel_rfl,by kernel_rfl⟩,by kernel_rfl,by kernel_rfl,⟨Tryz.t29.desc,by kernel_rfl,by kernel_rfl⟩,⟨(match Tryz.t29.desc with|.struct F=>F|_=>#[]),by kernel_rfl,by kernel_rfl⟩⟩
abbrev ti31:TI:=⟨7,true,136,[.int .i64 0,.nil,.nil,.nil,.nil,.nil,.int .i64 0],.struct [(0,3),(1,25),(2,26),(3,30)]⟩
theorem tf31:TFact Tryz.prog 31 ti31:=⟨⟨Tryz.t31,(match Tryz.t31.zero with|some z=>z|none=>undef),by kernel_rfl,by kernel_rfl,by kernel_rfl,by kernel_rfl,by kernel_rfl⟩,by kernel_rfl,by kernel_rfl,⟨Tryz.t31.desc,by kernel_rfl,by kernel_rfl⟩,⟨(match Tryz.t31.desc with|.struct F=>F|_=>#[]),by kernel_rfl,by kernel_rfl⟩⟩
abbrev ti32:TI:=⟨7,true,136,[.int .i64 0,.nil,.nil,.nil,.nil,.nil,.int .i64 0],.struct [(0,3),(1,25),(2,26),(3,30)]⟩
theorem tf32:TFact Tryz.prog 32 ti32:=⟨⟨Tryz.t32,(match Tryz.t32.zero with|some z=>z|none=>undef),by kernel_rfl,by kernel_rfl,by kernel_rfl,by kernel_rfl,by kernel_rfl⟩,by kernel_rfl,by kernel_rfl,⟨Tryz.t31.desc,by kernel_rfl,by kernel_rfl⟩,⟨(match Tryz.t31.desc with|.struct F=>F|_=>#[]),by kernel_rfl,by kernel_rfl⟩⟩
abbrev ti37:TI:=⟨1,false,24,[.nil],.slice 99⟩
theorem tf37:TFact Tryz.prog 37 ti37:=⟨⟨Tryz.t37,(match Tryz.t37.zero with|some z=>z|none=>undef),by kernel_rfl,by kernel_rfl,by kernel_rfl,by kernel_rfl,by kernel_rfl⟩,by kernel_rfl,by kernel_rfl,⟨Tryz.t37.desc,by kernel_rfl,by kernel_rfl⟩,(by kernel_rfl:Tryz.prog.underlying 37=some (.slice 99))⟩
abbrev ti38:TI:=⟨4,true,48,[.int .i64 0,.int .i64 0,.int .i64 0,.nil],.struct [(0,3),(1,3),(2,3),(3,37)]⟩
theorem tf38:TFact Tryz.prog 38 ti38:=⟨⟨Tryz.t38,(match Tryz.t38.zero with|some z=>z|none=>undef),by kernel_rfl,by kernel_rfl,by kernel_rfl,by kernel_rfl,by kernel_rfl⟩,by kernel_rfl,by kernel_rfl,⟨Tryz.t38.desc,by kernel_rfl,by kernel_rfl⟩,⟨(match Tryz.t38.desc with|.struct F=>F|_=>#[]),by kernel_rfl,by kernel_rfl⟩⟩
abbrev ti39:TI:=⟨4,true,48,[.int .i64 0,.int .i64 0,.int .i64 0,.nil],.struct [(0,3),(1,3),(2,3),(3,37)]⟩
theorem tf39:TFact Tryz.prog 39 ti39:=⟨⟨Tryz.t39,(match Tryz.t39.zero with|some z=>z|none=>undef),by kernel_rfl,by kernel_rfl,by kernel_rfl,by kernel_rfl,by kernel_rfl⟩,by kernel_rfl,by kernel_rfl,⟨Tryz.t38.desc,by kernel_rfl,by kernel_rfl⟩,⟨(match Tryz.t38.desc with|.struct F=>F|_=>#[]),by kernel_rfl,by kernel_rfl⟩⟩
abbrev ti41:TI:=⟨1,false,24,[.nil],.slice 107⟩
theorem tf41:TFact Tryz.prog 41 ti41:=⟨⟨Tryz.t41,(match Tryz.t41.zero with|some z=>z|none=>undef),by kernel_rfl,by kernel_rfl,by kernel_rfl,by kernel_rfl,by kernel_rfl⟩,by kernel_rfl,by kernel_rfl,⟨Tryz.t41.desc,by kernel_rfl,by kernel_rfl⟩,(by kernel_rfl:Tryz.prog.underlying 41=some (.slice 107))⟩
abbrev ti42:TI:=⟨1,false,24,[.nil],.slice 109⟩
theorem tf42:TFact Tryz.prog 42 ti42:=⟨⟨Tryz.t42,(match Tryz.t42.zero with|some z=>z|none=>undef),by kernel_rfl,by kernel_rfl,by kernel_rfl,by kernel_rfl,by kernel_rfl⟩,by kernel_rfl,by kernel_rfl,⟨Tryz.t42.desc,by kernel_rfl,by kernel_rfl⟩,(by kernel_rfl:Tryz.prog.underlying 42=some (.slice 109))⟩
abbrev ti43:TI:=⟨4,true,80,[.nil,.nil,.nil,.int .i64 0],.struct [(0,42),(1,28),(2,26),(3,3)]⟩
theorem tf43:TFact Tryz.prog 43 ti43:=⟨⟨Tryz.t43,(match Tryz.t43.zero with|some z=>z|none=>undef),by kernel_rfl,by kernel_rfl,by kernel_rfl,by kernel_rfl,by kernel_rfl⟩,by kernel_rfl,by kernel_rfl,⟨Tryz.t43.desc,by kernel_rfl,by kernel_rfl⟩,⟨(match Tryz.t43.desc with|.struct F=>F|_=>#[]),by kernel_rfl,by kernel_rfl⟩⟩
abbrev ti44:TI:=⟨4,true,80,[.nil,.nil,.nil,.int .i64 0],.struct [(0,42),(1,28),(2,26),(3,3)]⟩
theorem tf44:TFact Tryz.prog 44 ti44:=⟨⟨Tryz.t44,(match Tryz.t44.zero with|some z=>z|none=>undef),by kernel_rfl,by kernel_rfl,by kernel_rfl,by kernel_rfl,by kernel_rfl⟩,by kernel_rfl,by kernel_rfl,⟨Tryz.t43.desc,by kernel_rfl,by kernel_rfl⟩,⟨(match Tryz.t43.desc with|.struct F=>F|_=>#[]),by kernel_rfl,by kernel_rfl⟩⟩
abbrev ti45:TI:=⟨7,true,136,[.int .i64 0,.nil,.nil,.nil,.nil,.nil,.int .i64 0],.struct [(0,3),(1,41),(2,26),(3,44)]⟩
theorem tf45:TFact Tryz.prog 45 ti45:=⟨⟨Tryz.t45,(match Tryz.t45.zero with|some z=>z|none=>undef),by kernel_rfl,by kernel_rfl,by kernel_rfl,by kernel_rfl,by kernel_rfl⟩,by kernel_rfl,by kernel_rfl,⟨Tryz.t45.desc,by kernel_rfl,by kernel_rfl⟩,⟨(match Tryz.t45.desc with|.struct F=>F|_=>#[]),by kernel_rfl,by kernel_rfl⟩⟩
abbrev ti46:TI:=⟨7,true,136,[.int .i64 0,.nil,.nil,.nil,.nil,.nil,.int .i64 0],.struct [(0,3),(1,41),(2,26),(3,44)]⟩
theorem tf46:TFact Tryz.prog 46 ti46:=⟨⟨Tryz.t46,(match Tryz.t46.zero with|some z=>z|none=>undef),by kernel_rfl,by kernel_rfl,by kernel_rfl,by kernel_rfl,by kernel_rfl⟩,by kernel_rfl,by kernel_rfl,⟨Tryz.t45.desc,by kernel_rfl,by kernel_rfl⟩,⟨(match Tryz.t45.desc with|.struct F=>F|_=>#[]),by kernel_rfl,by kernel_rfl⟩⟩
abbrev ti51:TI:=⟨1,false,24,[.nil],.slice 9⟩
theorem tf51:TFact Tryz.prog 51 ti51:=⟨⟨Tryz.t51,(match Tryz.t51.zero with|some z=>z|none=>undef),by kernel_rfl,by kernel_rfl,by kernel_rfl,by kernel_rfl,by kernel_rfl⟩,by kernel_rfl,by kernel_rfl,⟨Tryz.t51.desc,by kernel_rfl,by kernel_rfl⟩,(by kernel_rfl:Tryz.prog.underlying 51=some (.slice 9))⟩
abbrev ti78:TI:=⟨1,false,24,[.nil],.slice 26⟩
theorem tf78:TFact Tryz.prog 78 ti78:=⟨⟨Tryz.t78,(match Tryz.t78.zero with|some z=>z|none=>undef),by kernel_rfl,by kernel_rfl,by kernel_rfl,by kernel_rfl,by kernel_rfl⟩,by kernel_rfl,by kernel_rfl,⟨Tryz.t78.desc,by kernel_rfl,by kernel_rfl⟩,(by kernel_rfl:Tryz.prog.underlying 78=some (.slice 26))⟩
abbrev ti79:TI:=⟨1,false,24,[.nil],.slice 41⟩
theorem tf79:TFact Tryz.prog 79 ti79:=⟨⟨Tryz.t79,(match Tryz.t79.zero with|some z=>z|none=>undef),by kernel_rfl,by kernel_rfl,by kernel_rfl,by kernel_rfl,by kernel_rfl⟩,by kernel_rfl,by kernel_rfl,⟨Tryz.t79.desc,by kernel_rfl,by kernel_rfl⟩,(by kernel_rfl:Tryz.prog.underlying 79=some (.slice 41))⟩
abbrev ti80:TI:=⟨10,true,144,[.int .i64 0,.int .i64 0,.int .i64 0,.nil,.int .i64 0,.bool false,.nil,.nil,.nil,.bool false],.struct [(0,39),(4,3),(5,4),(6,78),(7,79),(8,51),(9,4)]⟩
theorem tf80:TFact Tryz.prog 80 ti80:=⟨⟨Tryz.t80,(match Tryz.t80.zero with|some z=>z|none=>undef),by kernel_rfl,by kernel_rfl,by kernel_rfl,by kernel_rfl,by kernel_rfl⟩,by kernel_rfl,by kernel_rfl,⟨Tryz.t80.desc,by kernel_rfl,by kernel_rfl⟩,⟨(match Tryz.t80.desc with|.struct F=>F|_=>#[]),by kernel_rfl,by kernel_rfl⟩⟩
abbrev ti81:TI:=⟨10,true,144,[.int .i64 0,.int .i64 0,.int .i64 0,.nil,.int .i64 0,.bool false,.nil,.nil,.nil,.bool false],.struct [(0,39),(4,3),(5,4),(6,78),(7,79),(8,51),(9,4)]⟩
theorem tf81:TFact Tryz.prog 81 ti81:=⟨⟨Tryz.t81,(match Tryz.t81.zero with|some z=>z|none=>undef),by kernel_rfl,by kernel_rfl,by kernel_rfl,by kernel_rfl,by kernel_rfl⟩,by kernel_rfl,by kernel_rfl,⟨Tryz.t80.desc,by kernel_rfl,by kernel_rfl⟩,⟨(match Tryz.t80.desc with|.struct F=>F|_=>#[]),by kernel_rfl,by kernel_rfl⟩⟩
abbrev ti82:TI:=⟨1,false,24,[.nil],.slice 46⟩
theorem tf82:TFact Tryz.prog 82 ti82:=⟨⟨Tryz.t82,(match Tryz.t82.zero with|some z=>z|none=>undef),by kernel_rfl,by kernel_rfl,by kernel_rfl,by kernel_rfl,by kernel_rfl⟩,by kernel_rfl,by kernel_rfl,⟨Tryz.t82.desc,by kernel_rfl,by kernel_rfl⟩,(by kernel_rfl:Tryz.prog.underlying 82=some (.slice 46))⟩
abbrev ti95:TI:=⟨1,false,24,[.nil],.slice 152⟩
theorem tf95:TFact Tryz.prog 95 ti95:=⟨⟨Tryz.t95,(match Tryz.t95.zero with|some z=>z|none=>undef),by kernel_rfl,by kernel_rfl,by kernel_rfl,by kernel_rfl,by kernel_rfl⟩,by kernel_rfl,by kernel_rfl,⟨Tryz.t95.desc,by kernel_rfl,by kernel_rfl⟩,(by kernel_rfl:Tryz.prog.underlying 95=some (.slice 152))⟩
abbrev ti99:TI:=⟨1,false,24,[.nil],.slice 102⟩
theorem tf99:TFact Tryz.prog 99 ti99:=⟨⟨Tryz.t99,(match Tryz.t99.zero with|some z=>z|none=>undef),by kernel_rfl,by kernel_rfl,by kernel_rfl,by kernel_rfl,by kernel_rfl⟩,by kernel_rfl,by kernel_rfl,⟨Tryz.t99.desc,by kernel_rfl,by kernel_rfl⟩,(by kernel_rfl:Tryz.prog.underlying 99=some (.slice 102))⟩
abbrev ti100:TI:=⟨1,false,8,[.flt 0],.flt⟩
theorem tf100:TFact Tryz.prog 100 ti100:=⟨⟨Tryz.t100,(match Tryz.t100.zero with|some z=>z|none=>undef),by kernel_rfl,by kernel_rfl,by kernel_rfl,by kernel_rfl,by kernel_rfl⟩,by kernel_rfl,by kernel_rfl,⟨Tryz.t100.desc,by kernel_rfl,by kernel_rfl⟩,(by kernel_rfl:Tryz.prog.underlying 100=some (.float .f64))⟩
abbrev ti101:TI:=⟨4,true,32,[.int .i64 0,.int .i64 0,.int .i64 0,.flt 0],.struct [(0,3),(1,3),(2,3),(3,100)]⟩
theorem tf101:TFact Tryz.prog 101 ti101:=⟨⟨Tryz.t101,(match Tryz.t101.zero with|some z=>z|none=>undef),by kernel_rfl,by kernel_rfl,by kernel_rfl,by kernel_rfl,by kernel_rfl⟩,by kernel_rfl,by kernel_rfl,⟨Tryz.t101.desc,by kernel_rfl,by kernel_rfl⟩,⟨(match Tryz.t101.desc with|.struct F=>F|_=>#[]),by kernel_rfl,by kernel_rfl⟩⟩
abbrev ti102:TI:=⟨4,true,32,[.int .i64 0,.int .i64 0,.int .i64 0,.flt 0],.struct [(0,3),(1,3),(2,3),(3,100)]⟩
theorem tf102:TFact Tryz.prog 102 ti102:=⟨⟨Tryz.t102,(match Tryz.t102.zero with|some z=>z|none=>undef),by kernel_rfl,by kernel_rfl,by kernel_rfl,by kernel_rfl,by kernel_rfl⟩,by kernel_rfl,by kernel_rfl,⟨Tryz.t101.desc,by kernel_rfl,by kernel_rfl⟩,⟨(match Tryz.t101.desc with|.struct F=>F|_=>#[]),by kernel_rfl,by kernel_rfl⟩⟩
abbrev ti106:TI:=⟨5,true,40,[.int .i64 0,.int .i64 0,.int .i64 0,.int .i64 0,.int .i64 0],.struct [(0,3),(1,3),(2,3),(3,3),(4,3)]⟩
theorem tf106:TFact Tryz.prog 106 ti106:=⟨⟨Tryz.t106,(match Tryz.t106.zero with|some z=>z|none=>undef),by kernel_rfl,by kernel_rfl,by kernel_rfl,by kernel_rfl,by kernel_rfl⟩,by kernel_rfl,by kernel_rfl,⟨Tryz.t106.desc,by kernel_rfl,by kernel_rfl⟩,⟨(match Tryz.t106.desc with|.struct F=>F|_=>#[]),by kernel_rfl,by kernel_rfl⟩⟩
abbrev ti107:TI:=⟨5,true,40,[.int .i64 0,.int .i64 0,.int .i64 0,.int .i64 0,.int .i64 0],.struct [(0,3),(1,3),(2,3),(3,3),(4,3)]⟩
theorem tf107:TFact Tryz.prog 107 ti107:=⟨⟨Tryz.t107,(match Tryz.t107.zero with|some z=>z|none=>undef),by kernel_rfl,by kernel_rfl,by kernel_rfl,by kernel_rfl,by kernel_rfl⟩,by kernel_rfl,by kernel_rfl,⟨Tryz.t106.desc,by kernel_rfl,by kernel_rfl⟩,⟨(match Tryz.t106.desc with|.struct F=>F|_=>#[]),by kernel_rfl,by kernel_rfl⟩⟩
abbrev ti108:TI:=⟨6,true,64,[.int .i64 0,.int .i64 0,.int .i64 0,.int .i64 0,.int .i64 0,.nil],.struct [(0,3),(1,3),(2,3),(3,3),(4,3),(5,28)]⟩
theorem tf108:TFact Tryz.prog 108 ti108:=⟨⟨Tryz.t108,(match Tryz.t108.zero with|some z=>z|none=>undef),by kernel_rfl,by kernel_rfl,by kernel_rfl,by kernel_rfl,by kernel_rfl⟩,by kernel_rfl,by kernel_rfl,⟨Tryz.t108.desc,by kernel_rfl,by kernel_rfl⟩,⟨(match Tryz.t108.desc with|.struct F=>F|_=>#[]),by kernel_rfl,by kernel_rfl⟩⟩
abbrev ti109:TI:=⟨6,true,64,[.int .i64 0,.int .i64 0,.int .i64 0,.int .i64 0,.int .i64 0,.nil],.struct [(0,3),(1,3),(2,3),(3,3),(4,3),(5,28)]⟩
theorem tf109:TFact Tryz.prog 109 ti109:=⟨⟨Tryz.t109,(match Tryz.t109.zero with|some z=>z|none=>undef),by kernel_rfl,by kernel_rfl,by kernel_rfl,by kernel_rfl,by kernel_rfl⟩,by kernel_rfl,by kernel_rfl,⟨Tryz.t108.desc,by kernel_rfl,by kernel_rfl⟩,⟨(match Tryz.t108.desc with|.struct F=>F|_=>#[]),by kernel_rfl,by kernel_rfl⟩⟩
abbrev ti114:TI:=⟨5,true,40,[.int .i64 0,.int .i64 0,.int .i64 0,.int .i64 0,.int .i64 0],.struct [(0,3),(1,3),(2,3),(3,3),(4,3)]⟩
theorem tf114:TFact Tryz.prog 114 ti114:=⟨⟨Tryz.t114,(match Tryz.t114.zero with|some z=>z|none=>undef),by kernel_rfl,by kernel_rfl,by kernel_rfl,by kernel_rfl,by kernel_rfl⟩,by kernel_rfl,by kernel_rfl,⟨Tryz.t106.desc,by kernel_rfl,by kernel_rfl⟩,⟨(match Tryz.t106.desc with|.struct F=>F|_=>#[]),by kernel_rfl,by kernel_rfl⟩⟩
abbrev ti130:TI:=⟨7,true,88,[.int .i64 0,.int .i64 0,.int .i64 0,.nil,.int .i64 0,.nil,.bool false],.struct [(0,39),(4,3),(5,82),(6,4)]⟩
theorem tf130:TFact Tryz.prog 130 ti130:=⟨⟨Tryz.t130,(match Tryz.t130.zero with|some z=>z|none=>undef),by kernel_rfl,by kernel_rfl,by kernel_rfl,by kernel_rfl,by kernel_rfl⟩,by kernel_rfl,by kernel_rfl,⟨Tryz.t130.desc,by kernel_rfl,by kernel_rfl⟩,⟨(match Tryz.t130.desc with|.struct F=>F|_=>#[]),by kernel_rfl,by kernel_rfl⟩⟩
abbrev ti131:TI:=⟨7,true,88,[.int .i64 0,.int .i64 0,.int .i64 0,.nil,.int .i64 0,.nil,.bool false],.struct [(0,39),(4,3),(5,82),(6,4)]⟩
theorem tf131:TFact Tryz.prog 131 ti131:=⟨⟨Tryz.t131,(match Tryz.t131.zero with|some z=>z|none=>undef),by kernel_rfl,by kernel_rfl,by kernel_rfl,by kernel_rfl,by kernel_rfl⟩,by kernel_rfl,by kernel_rfl,⟨Tryz.t130.desc,by kernel_rfl,by kernel_rfl⟩,⟨(match Tryz.t130.desc with|.struct F=>F|_=>#[]),by kernel_rfl,by kernel_rfl⟩⟩
abbrev ti135:TI:=⟨1,false,24,[.nil],.slice 5⟩
theorem tf135:TFact Tryz.prog 135 ti135:=⟨⟨Tryz.t135,(match Tryz.t135.zero with|some z=>z|none=>undef),by kernel_rfl,by kernel_rfl,by kernel_rfl,by kernel_rfl,by kernel_rfl⟩,by kernel_rfl,by kernel_rfl,⟨Tryz.t135.desc,by kernel_rfl,by kernel_rfl⟩,(by kernel_rfl:Tryz.prog.underlying 135=some (.slice 5))⟩
abbrev ti142:TI:=⟨6,true,64,[.int .i64 0,.int .i64 0,.int .i64 0,.int .i64 0,.int .i64 0,.nil],.struct [(0,3),(1,3),(2,3),(3,3),(4,3),(5,28)]⟩
theorem tf142:TFact Tryz.prog 142 ti142:=⟨⟨Tryz.t142,(match Tryz.t142.zero with|some z=>z|none=>undef),by kernel_rfl,by kernel_rfl,by kernel_rfl,by kernel_rfl,by kernel_rfl⟩,by kernel_rfl,by kernel_rfl,⟨Tryz.t108.desc,by kernel_rfl,by kernel_rfl⟩,⟨(match Tryz.t108.desc with|.struct F=>F|_=>#[]),by kernel_rfl,by kernel_rfl⟩⟩
abbrev ti152:TI:=⟨4,true,32,[.int .i64 0,.int .i64 0,.int .i64 0,.flt 0],.struct [(0,3),(1,3),(2,3),(3,100)]⟩
theorem tf152:TFact Tryz.prog 152 ti152:=⟨⟨Tryz.t152,(match Tryz.t152.zero with|some z=>z|none=>undef),by kernel_rfl,by kernel_rfl,by kernel_rfl,by kernel_rfl,by kernel_rfl⟩,by kernel_rfl,by kernel_rfl,⟨Tryz.t101.desc,by kernel_rfl,by kernel_rfl⟩,⟨(match Tryz.t101.desc with|.struct F=>F|_=>#[]),by kernel_rfl,by kernel_rfl⟩⟩
abbrev ti155:TI:=⟨100,true,800,[.int .i64 0,.int .i64 0,.int .i64 0,.int .i64 0,.int .i64 0,.int .i64 0,.int .i64 0,.int .i64 0,.int .i64 0,.int .i64 0,.int .i64 0,.int .i64 0,.int .i64 0,.int .i64 0,.int .i64 0,.int .i64 0,.int .i64 0,.int .i64 0,.int .i64 0,.int .i64 0,.int .i64 0,.int .i64 0,.int .i64 0,.int .i64 0,.int .i64 0,.int .i64 0,.int .i64 0,.int .i64 0,.int .i64 0,.int .i64 0,.int .i64 0,.int .i64 0,.int .i64 0,.int .i64 0,.int .i64 0,.int .i64 0,.int .i64 0,.int .i64 0,.int .i64 0,.int .i64 0,.int .i64 0,.int .i64 0,.int .i64 0,.int .i64 0,.int .i64 0,.int .i64 0,.int .i64 0,.int .i64 0,.int .i64 0,.int .i64 0,.int .i64 0,.int .i64 0,.int .i64 0,.int .i64 0,.int .i64 0,.int .i64 0,.int .i64 0,.int .i64 0,.int .i64 0,.int .i64 0,.int .i64 0,.int .i64 0,.int .i64 0,.int .i64 0,.int .i64 0,.int .i64 0,.int .i64 0,.int .i64 0,.int .i64 0,.int .i64 0,.int .i64 0,.int .i64 0,.int .i64 0,.int .i64 0,.int .i64 0,.int .i64 0,.int .i64 0,.int .i64 0,.int .i64 0,.int .i64 0,.int .i64 0,.int .i64 0,.int .i64 0,.int .i64 0,.int .i64 0,.int .i64 0,.int .i64 0,.int .i64 0,.int .i64 0,.int .i64 0,.int .i64 0,.int .i64 0,.int .i64 0,.int .i64 0,.int .i64 0,.int .i64 0,.int .i64 0,.int .i64 0,.int .i64 0,.int .i64 0],.array 100 3⟩
theorem tf155:TFact Tryz.prog 155 ti155:=⟨⟨Tryz.t155,(match Tryz.t155.zero with|some z=>z|none=>undef),by kernel_rfl,by kernel_rfl,by kernel_rfl,by kernel_rfl,by kernel_rfl⟩,by kernel_rfl,by kernel_rfl,⟨Tryz.t155.desc,by kernel_rfl,by kernel_rfl⟩,(by kernel_rfl:Tryz.prog.underlying 155=some (.array 100 3))⟩
abbrev ti168:TI:=⟨1,false,24,[.nil],.slice 3⟩
theorem tf168:TFact Tryz.prog 168 ti168:=⟨⟨Tryz.t168,(match Tryz.t168.zero with|some z=>z|none=>undef),by kernel_rfl,by kernel_rfl,by kernel_rfl,by kernel_rfl,by kernel_rfl⟩,by kernel_rfl,by kernel_rfl,⟨Tryz.t26.desc,by kernel_rfl,by kernel_rfl⟩,(by kernel_rfl:Tryz.prog.underlying 168=some (.slice 3))⟩
abbrev ti178:TI:=⟨1,false,8,[.int .u64 0],.int .u64⟩
theorem tf178:TFact Tryz.prog 178 ti178:=⟨⟨Tryz.t178,(match Tryz.t178.zero with|some z=>z|none=>undef),by kernel_rfl,by kernel_rfl,by kernel_rfl,by kernel_rfl,by kernel_rfl⟩,by kernel_rfl,by kernel_rfl,⟨Tryz.t178.desc,by kernel_rfl,by kernel_rfl⟩,(by kernel_rfl:Tryz.prog.underlying 178=some (.int .u64))⟩
abbrev ti220:TI:=⟨1,false,8,[.int .i64 0],.int .i64⟩
theorem tf220:TFact Tryz.prog 220 ti220:=⟨⟨Tryz.t220,(match Tryz.t220.zero with|some z=>z|none=>undef),by kernel_rfl,by kernel_rfl,by kernel_rfl,by kernel_rfl,by kernel_rfl⟩,by kernel_rfl,by kernel_rfl,⟨Tryz.t3.desc,by kernel_rfl,by kernel_rfl⟩,(by kernel_rfl:Tryz.prog.underlying 220=some (.int .i64))⟩
abbrev ti228:TI:=⟨1,false,4,[.int .u32 0],.int .u32⟩
theorem tf228:TFact Tryz.prog 228 ti228:=⟨⟨Tryz.t228,(match Tryz.t228.zero with|some z=>z|none=>undef),by kernel_rfl,by kernel_rfl,by kernel_rfl,by kernel_rfl,by kernel_rfl⟩,by kernel_rfl,by kernel_rfl,⟨Tryz.t228.desc,by kernel_rfl,by kernel_rfl⟩,(by kernel_rfl:Tryz.prog.underlying 228=some (.int .u32))⟩
abbrev ti230:TI:=⟨1,false,8,[.int .u64 0],.int .u64⟩
theorem tf230:TFact Tryz.prog 230 ti230:=⟨⟨Tryz.t230,(match Tryz.t230.zero with|some z=>z|none=>undef),by kernel_rfl,by kernel_rfl,by kernel_rfl,by kernel_rfl,by kernel_rfl⟩,by kernel_rfl,by kernel_rfl,⟨Tryz.t230.desc,by kernel_rfl,by kernel_rfl⟩,(by kernel_rfl:Tryz.prog.underlying 230=some (.int .u64))⟩
abbrev ti246:TI:=⟨24,true,24,[.int .u8 0,.int .u8 0,.int .u8 0,.int .u8 0,.int .u8 0,.int .u8 0,.int .u8 0,.int .u8 0,.int .u8 0,.int .u8 0,.int .u8 0,.int .u8 0,.int .u8 0,.int .u8 0,.int .u8 0,.int .u8 0,.int .u8 0,.int .u8 0,.int .u8 0,.int .u8 0,.int .u8 0,.int .u8 0,.int .u8 0,.int .u8 0],.array 24 5⟩
theorem tf246:TFact Tryz.prog 246 ti246:=⟨⟨Tryz.t246,(match Tryz.t246.zero with|some z=>z|none=>undef),by kernel_rfl,by kernel_rfl,by kernel_rfl,by kernel_rfl,by kernel_rfl⟩,by kernel_rfl,by kernel_rfl,⟨Tryz.t246.desc,by kernel_rfl,by kernel_rfl⟩,(by kernel_rfl:Tryz.prog.underlying 246=some (.array 24 5))⟩
abbrev ti253:TI:=⟨1,false,8,[.int .u64 0],.int .u64⟩
theorem tf253:TFact Tryz.prog 253 ti253:=⟨⟨Tryz.t253,(match Tryz.t253.zero with|some z=>z|none=>undef),by kernel_rfl,by kernel_rfl,by kernel_rfl,by kernel_rfl,by kernel_rfl⟩,by kernel_rfl,by kernel_rfl,⟨Tryz.t230.desc,by kernel_rfl,by kernel_rfl⟩,(by kernel_rfl:Tryz.prog.underlying 253=some (.int .u64))⟩
abbrev ti271:TI:=⟨20,true,160,[.int .u64 0,.int .u64 0,.int .u64 0,.int .u64 0,.int .u64 0,.int .u64 0,.int .u64 0,.int .u64 0,.int .u64 0,.int .u64 0,.int .u64 0,.int .u64 0,.int .u64 0,.int .u64 0,.int .u64 0,.int .u64 0,.int .u64 0,.int .u64 0,.int .u64 0,.int .u64 0],.array 20 230⟩
theorem tf271:TFact Tryz.prog 271 ti271:=⟨⟨Tryz.t271,(match Tryz.t271.zero with|some z=>z|none=>undef),by kernel_rfl,by kernel_rfl,by kernel_rfl,by kernel_rfl,by kernel_rfl⟩,by kernel_rfl,by kernel_rfl,⟨Tryz.t271.desc,by kernel_rfl,by kernel_rfl⟩,(by kernel_rfl:Tryz.prog.underlying 271=some (.array 20 230))⟩
abbrev ti278:TI:=⟨32,true,32,[.int .u8 0,.int .u8 0,.int .u8 0,.int .u8 0,.int .u8 0,.int .u8 0,.int .u8 0,.int .u8 0,.int .u8 0,.int .u8 0,.int .u8 0,.int .u8 0,.int .u8 0,.int .u8 0,.int .u8 0,.int .u8 0,.int .u8 0,.int .u8 0,.int .u8 0,.int .u8 0,.int .u8 0,.int .u8 0,.int .u8 0,.int .u8 0,.int .u8 0,.int .u8 0,.int .u8 0,.int .u8 0,.int .u8 0,.int .u8 0,.int .u8 0,.int .u8 0],.array 32 5⟩
theorem tf278:TFact Tryz.prog 278 ti278:=⟨⟨Tryz.t278,(match Tryz.t278.zero with|some z=>z|none=>undef),by kernel_rfl,by kernel_rfl,by kernel_rfl,by kernel_rfl,by kernel_rfl⟩,by kernel_rfl,by kernel_rfl,⟨Tryz.t278.desc,by kernel_rfl,by kernel_rfl⟩,(by kernel_rfl:Tryz.prog.underlying 278=some (.array 32 5))⟩
abbrev ti279:TI:=⟨64,true,64,[.int .u8 0,.int .u8 0,.int .u8 0,.int .u8 0,.int .u8 0,.int .u8 0,.int .u8 0,.int .u8 0,.int .u8 0,.int .u8 0,.int .u8 0,.int .u8 0,.int .u8 0,.int .u8 0,.int .u8 0,.int .u8 0,.int .u8 0,.int .u8 0,.int .u8 0,.int .u8 0,.int .u8 0,.int .u8 0,.int .u8 0,.int .u8 0,.int .u8 0,.int .u8 0,.int .u8 0,.int .u8 0,.int .u8 0,.int .u8 0,.int .u8 0,.int .u8 0,.int .u8 0,.int .u8 0,.int .u8 0,.int .u8 0,.int .u8 0,.int .u8 0,.int .u8 0,.int .u8 0,.int .u8 0,.int .u8 0,.int .u8 0,.int .u8 0,.int .u8 0,.int .u8 0,.int .u8 0,.int .u8 0,.int .u8 0,.int .u8 0,.int .u8 0,.int .u8 0,.int .u8 0,.int .u8 0,.int .u8 0,.int .u8 0,.int .u8 0,.int .u8 0,.int .u8 0,.int .u8 0,.int .u8 0,.int .u8 0,.int .u8 0,.int .u8 0],.array 64 5⟩
theorem tf279:TFact Tryz.prog 279 ti279:=⟨⟨Tryz.t279,(match Tryz.t279.zero with|some z=>z|none=>undef),by kernel_rfl,by kernel_rfl,by kernel_rfl,by kernel_rfl,by kernel_rfl⟩,by kernel_rfl,by kernel_rfl,⟨Tryz.t279.desc,by kernel_rfl,by kernel_rfl⟩,(by kernel_rfl:Tryz.prog.underlying 279=some (.array 64 5))⟩
abbrev ti282:TI:=⟨0,true,0,[],.array 0 16⟩
theorem tf282:TFact Tryz.prog 282 ti282:=⟨⟨Tryz.t282,(match Tryz.t282.zero with|some z=>z|none=>undef),by kernel_rfl,by kernel_rfl,by kernel_rfl,by kernel_rfl,by kernel_rfl⟩,by kernel_rfl,by kernel_rfl,⟨Tryz.t282.desc,by kernel_rfl,by kernel_rfl⟩,(by kernel_rfl:Tryz.prog.underlying 282=some (.array 0 16))⟩
abbrev ti283:TI:=⟨0,true,0,[],.struct [(0,282)]⟩
theorem tf283:TFact Tryz.prog 283 ti283:=⟨⟨Tryz.t283,(match Tryz.t283.zero with|some z=>z|none=>undef),by kernel_rfl,by kernel_rfl,by kernel_rfl,by kernel_rfl,by kernel_rfl⟩,by kernel_rfl,by kernel_rfl,⟨Tryz.t283.desc,by kernel_rfl,by kernel_rfl⟩,⟨(match Tryz.t283.desc with|.struct F=>F|_=>#[]),by kernel_rfl,by kernel_rfl⟩⟩
abbrev ti284:TI:=⟨0,true,0,[],.struct [(0,282)]⟩
theorem tf284:TFact Tryz.prog 284 ti284:=⟨⟨Tryz.t284,(match Tryz.t284.zero with|some z=>z|none=>undef),by kernel_rfl,by kernel_rfl,by kernel_rfl,by kernel_rfl,by kernel_rfl⟩,by kernel_rfl,by kernel_rfl,⟨Tryz.t283.desc,by kernel_rfl,by kernel_rfl⟩,⟨(match Tryz.t283.desc with|.struct F=>F|_=>#[]),by kernel_rfl,by kernel_rfl⟩⟩
abbrev ti285:TI:=⟨1,false,1,[.int .u8 0],.int .u8⟩
theorem tf285:TFact Tryz.prog 285 ti285:=⟨⟨Tryz.t285,(match Tryz.t285.zero with|some z=>z|none=>undef),by kernel_rfl,by kernel_rfl,by kernel_rfl,by kernel_rfl,by kernel_rfl⟩,by kernel_rfl,by kernel_rfl,⟨Tryz.t5.desc,by kernel_rfl,by kernel_rfl⟩,(by kernel_rfl:Tryz.prog.underlying 285=some (.int .u8))⟩
abbrev ti286:TI:=⟨1,false,1,[.int .u8 0],.int .u8⟩
theorem tf286:TFact Tryz.prog 286 ti286:=⟨⟨Tryz.t286,(match Tryz.t286.zero with|some z=>z|none=>undef),by kernel_rfl,by kernel_rfl,by kernel_rfl,by kernel_rfl,by kernel_rfl⟩,by kernel_rfl,by kernel_rfl,⟨Tryz.t5.desc,by kernel_rfl,by kernel_rfl⟩,(by kernel_rfl:Tryz.prog.underlying 286=some (.int .u8))⟩
abbrev ti288:TI:=⟨1,false,4,[.int .i32 0],.int .i32⟩
theorem tf288:TFact Tryz.prog 288 ti288:=⟨⟨Tryz.t288,(match Tryz.t288.zero with|some z=>z|none=>undef),by kernel_rfl,by kernel_rfl,by kernel_rfl,by kernel_rfl,by kernel_rfl⟩,by kernel_rfl,by kernel_rfl,⟨Tryz.t21.desc,by kernel_rfl,by kernel_rfl⟩,(by kernel_rfl:Tryz.prog.underlying 288=some (.int .i32))⟩
abbrev ti289:TI:=⟨1,false,4,[.int .i32 0],.int .i32⟩
theorem tf289:TFact Tryz.prog 289 ti289:=⟨⟨Tryz.t289,(match Tryz.t289.zero with|some z=>z|none=>undef),by kernel_rfl,by kernel_rfl,by kernel_rfl,by kernel_rfl,by kernel_rfl⟩,by kernel_rfl,by kernel_rfl,⟨Tryz.t21.desc,by kernel_rfl,by kernel_rfl⟩,(by kernel_rfl:Tryz.prog.underlying 289=some (.int .i32))⟩
inductive TT where|leaf|node (k:Nat) (v:TI) (l r:TT)
def TT.get (t:Nat):TT→Option TI
 | .leaf=>none
 | .node k v l r=>bif Nat.beq t k then some v else bif Nat.blt t k then l.get t else r.get t
inductive TT.All (p:Nat→TI→Prop):TT→Prop where
 |leaf:TT.All p .leaf
 |node (k v l r) (h:p k v) (hl:TT.All p l) (hr:TT.All p r):TT.All p (.node k v l r)
theorem TT.get_all {p:Nat→TI→Prop} {t:Nat} {v:TI} {T:TT} (h:TT.All p T):T.get t=some v→p t v:=by
 induction h with
 |leaf=>intro h;cases h
 |node k w l r h hl hr ihl ihr =>
  intro hg
  simp only[TT.get] at hg
  cases hb:Nat.beq t k with
  |true=>rw[hb] at hg;simp only[cond_true,Option.some.injEq] at hg;subst hg;rw[Nat.eq_of_beq_eq_true hb];exact h
  |false =>
   rw[hb] at hg
   simp only[cond_false] at hg
   cases hc:Nat.blt t k with
   |true=>rw[hc] at hg;exact ihl hg
   |false=>rw[hc] at hg;exact ihr hg
def tyT:TT:=(.node 79 ti79 (.node 26 ti26 (.node 11 ti11 (.node 6 ti6 (.node 4 ti4 (.node 3 ti3 (.node 2 ti2 .leaf .leaf) .leaf) (.node 5 ti5 .leaf .leaf)) (.node 9 ti9 (.node 8 ti8 (.node 7 ti7 .leaf .leaf) .leaf) (.node 10 ti10 .leaf .leaf))) (.node 22 ti22 (.node 14 ti14 (.node 13 ti13 (.node 12 ti12 .leaf .leaf) .leaf) (.node 21 ti21 .leaf .leaf)) (.node 24 ti24 (.node 23 ti23 .leaf .leaf) (.node 25 ti25 .leaf .leaf)))) (.node 39 ti39 (.node 31 ti31 (.node 29 ti29 (.node 28 ti28 (.node 27 ti27 .leaf .leaf) .leaf) (.node 30 ti30 .leaf .leaf)) (.node 37 ti37 (.node 32 ti32 .leaf .leaf) (.node 38 ti38 .leaf .leaf))) (.node 45 ti45 (.node 43 ti43 (.node 42 ti42 (.node 41 ti41 .leaf .leaf) .leaf) (.node 44 ti44 .leaf .leaf)) (.node 51 ti51 (.node 46 ti46 .leaf .leaf) (.node 78 ti78 .leaf .leaf))))) (.node 155 ti155 (.node 107 ti107 (.node 99 ti99 (.node 82 ti82 (.node 81 ti81 (.node 80 ti80 .leaf .leaf) .leaf) (.node 95 ti95 .leaf .leaf)) (.node 102 ti102 (.node 101 ti101 (.node 100 ti100 .leaf .leaf) .leaf) (.node 106 ti106 .leaf .leaf))) (.node 131 ti131 (.node 114 ti114 (.node 109 ti109 (.node 108 ti108 .leaf .leaf) .leaf) (.node 130 ti130 .leaf .leaf)) (.node 142 ti142 (.node 135 ti135 .leaf .leaf) (.node 152 ti152 .leaf .leaf)))) (.node 278 ti278 (.node 230 ti230 (.node 220 ti220 (.node 178 ti178 (.node 168 ti168 .leaf .leaf) .leaf) (.node 228 ti228 .leaf .leaf)) (.node 253 ti253 (.node 246 ti246 .leaf .leaf) (.node 271 ti271 .leaf .leaf))) (.node 285 ti285 (.node 283 ti283 (.node 282 ti282 (.node 279 ti279 .leaf .leaf) .leaf) (.node 284 ti284 .leaf .leaf)) (.node 288 ti288 (.node 286 ti286 .leaf .leaf) (.node 289 ti289 .leaf .leaf))))))
def tyF (t:TypeId):Option TI:=tyT.get t
theorem tyF_ok (t:TypeId) (ti:TI) (h:tyF t=some ti):TFact Tryz.prog t ti:=TT.get_all (p:=TFact Tryz.prog) (T:=tyT) (.node _ _ _ _ tf79 (.node _ _ _ _ tf26 (.node _ _ _ _ tf11 (.node _ _ _ _ tf6 (.node _ _ _ _ tf4 (.node _ _ _ _ tf3 (.node _ _ _ _ tf2 .leaf .leaf) .leaf) (.node _ _ _ _ tf5 .leaf .leaf)) (.node _ _ _ _ tf9 (.node _ _ _ _ tf8 (.node _ _ _ _ tf7 .leaf .leaf) .leaf) (.node _ _ _ _ tf10 .leaf .leaf))) (.node _ _ _ _ tf22 (.node _ _ _ _ tf14 (.node _ _ _ _ tf13 (.node _ _ _ _ tf12 .leaf .leaf) .leaf) (.node _ _ _ _ tf21 .leaf .leaf)) (.node _ _ _ _ tf24 (.node _ _ _ _ tf23 .leaf .leaf) (.node _ _ _ _ tf25 .leaf .leaf)))) (.node _ _ _ _ tf39 (.node _ _ _ _ tf31 (.node _ _ _ _ tf29 (.node _ _ _ _ tf28 (.node _ _ _ _ tf27 .leaf .leaf) .leaf) (.node _ _ _ _ tf30 .leaf .leaf)) (.node _ _ _ _ tf37 (.node _ _ _ _ tf32 .leaf .leaf) (.node _ _ _ _ tf38 .leaf .leaf))) (.node _ _ _ _ tf45 (.node _ _ _ _ tf43 (.node _ _ _ _ tf42 (.node _ _ _ _ tf41 .leaf .leaf) .leaf) (.node _ _ _ _ tf44 .leaf .leaf)) (.node _ _ _ _ tf51 (.node _ _ _ _ tf46 .leaf .leaf) (.node _ _ _ _ tf78 .leaf .leaf))))) (.node _ _ _ _ tf155 (.node _ _ _ _ tf107 (.node _ _ _ _ tf99 (.node _ _ _ _ tf82 (.node _ _ _ _ tf81 (.node _ _ _ _ tf80 .leaf .leaf) .leaf) (.node _ _ _ _ tf95 .leaf .leaf)) (.node _ _ _ _ tf102 (.node _ _ _ _ tf101 (.node _ _ _ _ tf100 .leaf .leaf) .leaf) (.node _ _ _ _ tf106 .leaf .leaf))) (.node _ _ _ _ tf131 (.node _ _ _ _ tf114 (.node _ _ _ _ tf109 (.node _ _ _ _ tf108 .leaf .leaf) .leaf) (.node _ _ _ _ tf130 .leaf .leaf)) (.node _ _ _ _ tf142 (.node _ _ _ _ tf135 .leaf .leaf) (.node _ _ _ _ tf152 .leaf .leaf)))) (.node _ _ _ _ tf278 (.node _ _ _ _ tf230 (.node _ _ _ _ tf220 (.node _ _ _ _ tf178 (.node _ _ _ _ tf168 .leaf .leaf) .leaf) (.node _ _ _ _ tf228 .leaf .leaf)) (.node _ _ _ _ tf253 (.node _ _ _ _ tf246 .leaf .leaf) (.node _ _ _ _ tf271 .leaf .leaf))) (.node _ _ _ _ tf285 (.node _ _ _ _ tf283 (.node _ _ _ _ tf282 (.node _ _ _ _ tf279 .leaf .leaf) .leaf) (.node _ _ _ _ tf284 .leaf .leaf)) (.node _ _ _ _ tf288 (.node _ _ _ _ tf286 .leaf .leaf) (.node _ _ _ _ tf289 .leaf .leaf)))))) h
end Ai
namespace Ai
open Go
def dropC:Nat→Code→Code
 |n+1,.seq _ b=>dropC n b
 | _,c=>c
section
variable {E:Env} {N:Nat} {s:St} {Q:AX→St→Prop}
noncomputable def mK (E:Env) (N:Nat) (K:St→Prop) (Q:AX→St→Prop):Nat→Code→St→Prop
 | 0,_=>K
 |n+1,.seq a b=>AW E N a (kZ (mK E N K Q n b) Q)
 | _+1,c=>AW E N c Q
theorem x3:∀ (n:Nat) (c:Code),mK E N (AW E N (dropC n c) Q) Q n c=AW E N c Q
 | 0,c=>by cases c <;> rfl
 |n+1,.seq a b=>by
  show AW E N a (kZ (mK E N (AW E N (dropC n b) Q) Q n b) Q)=AW E N a (kZ (AW E N b Q) Q)
  rw[x3 n b]
 |n+1,c=>by cases c <;> first|rfl|(rename_i a b;show AW E N a (kZ (mK E N (AW E N (dropC n b) Q) Q n b) Q)=AW E N a (kZ (AW E N b Q) Q);rw[x3 n b])
theorem dD {c:Code} (n:Nat) (C:St→Prop) (h1:∀ K:St→Prop,(∀ s,C s→K s)→mK E N K Q n c s) (h2:∀ s,C s→AW E N (dropC n c) Q s):AW E N c Q s:=by
 rw[← x3 (Q:=Q) n c]
 exact h1 _ h2
def At (l:List (Nat × AV)) (o:List (Key × Ob)) (f:List (Nat × (Nat→Option Ob))) (s:St):Prop:=oks l s∧okh o s∧okf f s
theorem At.form {l:List (Nat × AV)} {o:List (Key × Ob)} {f:List (Nat × (Nat→Option Ob))} (h:At l o f s):∃ τ H,s=mI l (lZ o (gA f ⟨τ,H⟩)) :=
 ⟨s.τ,s.H,by rw[show(⟨s.τ,s.H⟩:St)=s from rfl,lY h.2.2,dH h.2.1,dN h.1]⟩
end
end Ai
namespace Ai
open Go Go.RowKit
def dsOf:List AV→Option (List D)
 | []=>some []
 | .d x::cs=>(dsOf cs).map (x::·)
 | _::_=>none
theorem dsOf_get:∀ (cs:List AV) (ds:List D) (i:Nat) (d:D),dsOf cs=some ds→ds[i]?=some d→cs[i]?=some (.d d)
 | [],ds,i,d,h,hi=>by simp only[dsOf,Option.some.injEq] at h;subst h;simp at hi
 |c::cs,ds,i,d,h,hi=>by
  unfold dsOf at h
  split at h
  ·rename_i heq;cases heq
  ·rename_i x cs' heq
   injection heq with h1 h2
   subst h1 h2
   obtain⟨ds',h3,rfl⟩:=Option.map_eq_some_iff.1 h
   cases i with
   |zero=>simpa using hi
   |succ i=>simpa using dsOf_get cs ds' i d h3 (by simpa using hi)
  ·cases h
mutual
def frz (p:Key→Bool) (H:Key→Option Ob):AV→AV
 | .ref o off n=>bif p o then (match H o with|some (.ds _ _ els)=>.d (.sl ((els.drop off).take n))|_=>.junk) else .ref o off n
 | .ptr o off=>bif p o then (match H o with|some (.vs _ cs)=>(match dsOf cs with|some ds=>.fp (ds.drop off)|none=>.junk)|_=>.junk) else .ptr o off
 | .eptr o j off=>bif p o then .junk else .eptr o j off
 | .dref o n=>bif p o then .junk else .dref o n
 | .dptr o j off=>bif p o then .junk else .dptr o j off
 | .mref o=>bif p o then .junk else .mref o
 | .lit v=>.lit v
 | .agg cs=>.agg (lM p H cs)
 | .tup vs=>.tup (lM p H vs)
 | .fn f caps=>.fn f (lM p H caps)
 | .junk=>.junk
 | .d x=>.d x
 | .fp cs=>.fp cs
 | .uq e sz els=>.uq e sz els
 | .uqd e sz c e2 sz2 rows subs=>.uqd e sz c e2 sz2 rows subs
 | .ownF f cs=>.ownF f cs
def lM (p:Key→Bool) (H:Key→Option Ob):List AV→List AV
 | []=>[]
 |v::vs=>frz p H v::lM p H vs
end
def frzO (p:Key→Bool) (H:Key→Option Ob):Ob→Ob
 | .vs e cs=>.vs e (lM p H cs)
 | .ds e sz els=>.ds e sz els
 | .rs e sz rows=>.rs e sz (rows.map (lM p H))
 | .mp ag ps=>.mp ag ps
def St.frz (p:Key→Bool) (s:St):St:={ τ:=fun i=>Ai.frz p s.H (s.τ i),H:=fun o=>bif p o then none else (s.H o).map (frzO p s.H) }
theorem uK (p:Key→Bool) (H:Key→Option Ob):∀ vs:List AV,(lM p H vs).length=vs.length
 | []=>by simp[lM]
 |v::vs=>by simp[lM,uK p H vs]
theorem gO (p:Key→Bool) (H:Key→Option Ob):∀ (vs:List AV) (i:Nat),(lM p H vs)[i]?=(vs[i]?).map (frz p H)
 | [],i=>by simp[lM]
 |v::vs,0=>by simp[lM]
 |v::vs,i+1=>by simp[lM,gO p H vs i]
section
variable {E:Env} {N:Nat} {A:Fr} {w0 w w':World} {m m':Own} {s s' s1:St} {a:Act}
theorem VRel.frz {p:Key→Bool} {H H':Key→Option Ob} {ok ok':Nat→Prop} (hH:∀ o,H' o=bif p o then none else (H o).map (frzO p H)) (hok:∀ b,ok b→ok' b)
  (hfz:∀ o off n v els e sz,p o=true→H o=some (.ds e sz els)→VRel w ok m H (.ref o off n) v→RepD w ok' (.sl ((els.drop off).take n)) v)
  (hfp:∀ o off e cs ds b full,p o=true→H o=some (.vs e cs)→dsOf cs=some ds→m o=some (b,full)→VRel w ok' m H' (.fp (ds.drop off)) (.pointer (some ⟨b,off,none⟩))) {c:AV} {v:Value} (r:VRel w ok m H c v):VRel w ok' m H' (Ai.frz p H c) v:=by
 have hh:∀ b,ok b→ok' b∧w.heap[b]?=w.heap[b]?:=fun b hb=>⟨hok b hb,rfl⟩
 have at_:∀ {o:Key} {ob:Ob},p o=false→H o=some ob→H' o=some (frzO p H ob):=fun h1 h2=>by rw[hH,h1,h2];rfl
 induction r with
 |junk v=>exact .junk v
 |d x v hx=>exact .d x v (hx.mono hh)
 |fp cs b off us hb hc=>exact .fp cs b off us (hok b hb) fun i d hi=>⟨(hc i d hi).1,(hc i d hi).2.mono hh⟩
 |ref o off n e sz els b full cap hHo hn hm hcap hnc =>
  simp only[Ai.frz]
  cases hp:p o with
  |true =>
   simp only[cond_true,hHo]
   exact .d _ _ (hfz o off n _ els e sz hp hHo (.ref o off n e sz els b full cap hHo hn hm hcap hnc))
  |false=>exact .ref o off n e sz els b full cap (at_ hp hHo) hn hm hcap hnc
 |ref0 o e sz hHo hm =>
  simp only[Ai.frz]
  cases hp:p o with
  |true =>
   simp only[cond_true,hHo]
   exact .d _ _ (hfz o 0 0 _ [] e sz hp hHo (.ref0 o e sz hHo hm))
  |false=>exact .ref0 o e sz (at_ hp hHo) hm
 |ptr o off e cs b full hHo hm =>
  simp only[Ai.frz]
  cases hp:p o with
  |true =>
   simp only[cond_true,hHo]
   cases hd:dsOf cs with
   |none=>exact .junk _
   |some ds=>exact hfp o off e cs ds b full hp hHo hd hm
  |false=>exact .ptr o off e _ b full (at_ hp hHo) hm
 |eptr o j off e sz els b full hHo hj hm =>
  simp only[Ai.frz]
  cases hp:p o with
  |true=>exact .junk _
  |false=>exact .eptr o j off e sz els b full (at_ hp hHo) hj hm
 |dref o n e sz rows b full hHo hn hm hnc =>
  simp only[Ai.frz]
  cases hp:p o with
  |true=>exact .junk _
  |false=>exact .dref o n e sz _ b full (at_ hp hHo) (by simpa using hn) hm hnc
 |dref0 o e sz hHo hm =>
  simp only[Ai.frz]
  cases hp:p o with
  |true=>exact .junk _
  |false=>exact .dref0 o e sz (at_ hp hHo) hm
 |dptr o j off e sz rows b full hHo hj hm =>
  simp only[Ai.frz]
  cases hp:p o with
  |true=>exact .junk _
  |false=>exact .dptr o j off e sz _ b full (at_ hp hHo) (by simpa using hj) hm
 |lit v h=>exact .lit v h
 |mref o ag ps b full hHo hm =>
  simp only[Ai.frz]
  cases hp:p o with
  |true=>exact .junk _
  |false=>exact .mref o ag ps b full (at_ hp hHo) hm
 |agg cs us hl hr ih =>
  simp only[Ai.frz]
  refine .agg _ us (by rw[uK];exact hl) fun i c u hc hu=>?_
  rw[gO,Option.map_eq_some_iff] at hc
  obtain⟨c0,h1,rfl⟩:=hc
  exact ih i c0 u h1 hu
 |tup cs us hl hr ih =>
  simp only[Ai.frz]
  refine .tup _ us (by rw[uK];exact hl) fun i c u hc hu=>?_
  rw[gO,Option.map_eq_some_iff] at hc
  obtain⟨c0,h1,rfl⟩:=hc
  exact ih i c0 u h1 hu
 |fn f cs us hl hr ih =>
  simp only[Ai.frz]
  refine .fn f _ us (by rw[uK];exact hl) fun i c u hc hu=>?_
  rw[gO,Option.map_eq_some_iff] at hc
  obtain⟨c0,h1,rfl⟩:=hc
  exact ih i c0 u h1 hu
theorem SRel.frz (p:Key→Bool) (h:SRel E N A w0 m s a w):SRel E N A w0 m (s.frz p) a w:=by
 have hne:∀ {o:Key},(s.frz p).H o≠none→p o=false∧s.H o≠none:=fun {o} ho=>by
  cases hp:p o with
  |true=>exact absurd (by simp[St.frz,hp]) ho
  |false=>exact⟨rfl,fun hn=>ho (by simp[St.frz,hp,hn])⟩
 have hok:∀ (Z:Nat→Prop) b,okB Z s.H m w b→okB Z (s.frz p).H m w b:=fun Z b hb=>⟨hb.1,fun o ho x hx=>hb.2.1 o (hne ho).2 x hx,hb.2.2⟩
 have hfz:∀ o off n v els e sz,p o=true→s.H o=some (.ds e sz els)→VRel w (okB A s.H m w) m s.H (.ref o off n) v→RepD w (okB A (s.frz p).H m w) (.sl ((els.drop off).take n)) v:=by
  intro o off n v els e sz hp hH hv
  refine j4 h (hok A) (fun o' off' n' he x hx=>?_) hv (by simp[fz1,hH])
  injection he with i1 i2 i3
  subst i1 i2 i3
  have hl:s.H o≠none:=by rw[hH];simp
  refine⟨xT h hl hx,fun o2 ho2 y hy heq=>?_,h.hAo hl hx⟩
  have:=h.inj o2 o y x (hne ho2).2 hl hy hx heq
  rw[this] at ho2
  exact absurd (hne ho2).1 (by rw[hp];simp)
 have hfp:∀ o off e cs ds b full,p o=true→s.H o=some (.vs e cs)→dsOf cs=some ds→m o=some (b,full)→VRel w (okB A (s.frz p).H m w) m (s.frz p).H (.fp (ds.drop off)) (.pointer (some ⟨b,off,none⟩)):=by
  intro o off e cs ds b full hp hH hd hm
  obtain⟨b',full',cur,h1,hb,hcur,hsz,hc⟩:=h.objs o _ hH
  have e1:(b',full')=(b,full):=Option.some.inj (h1.symm.trans hm)
  injection e1 with e1 e2
  subst e1 e2
  have hl:s.H o≠none:=by rw[hH];simp
  refine .fp _ b' off (fun i=>(cur[off+i]?).getD undef) ⟨xT h hl hm,fun o2 ho2 y hy heq=>?_,h.hAo hl hm⟩ (fun i d hi=>?_)
  ·have:=h.inj o2 o y _ (hne ho2).2 hl hy hm heq
   rw[this] at ho2
   exact absurd (hne ho2).1 (by rw[hp];simp)
  ·rw[List.getElem?_drop] at hi
   obtain⟨u,hu,hv⟩:=hc (off+i) (.d d) (dsOf_get cs ds _ _ hd hi)
   have hr:RepD w (okB A s.H m w) d u:=by cases hv with|d _ _ hx=>exact hx
   exact⟨by simp[World.cell?,hcur,hu],by rw[hu];exact hr.mono fun b hb=>⟨hok A b hb,rfl⟩⟩
 have hV:∀ {c:AV} {v:Value},VRel w (okB A s.H m w) m s.H c v→VRel w (okB A (s.frz p).H m w) m (s.frz p).H (Ai.frz p s.H c) v:=fun r=>r.frz (fun _=>rfl) (hok A) hfz hfp
 have hob:∀ o ob,(s.frz p).H o=some ob→∃ ob0,s.H o=some ob0∧ob=frzO p s.H ob0:=fun o ob ho=>by
  have h1:=(hne (o:=o) (by rw[ho];simp)).1
  simp only[St.frz,h1,cond_false] at ho
  obtain⟨ob0,h2,h3⟩:=Option.map_eq_some_iff.1 ho
  exact⟨ob0,h2,h3.symm⟩
 refine⟨h.size,h.defers,h.below,h.inv,fun i hi=>hV (h.tmps i hi),fun o ob ho=>?_,fun o o' x x' ho ho' hx hx' he=>h.inj o o' x x' (hne ho).2 (hne ho').2 hx hx' he,h.hA,
  fun b hb=>⟨(h.fr b hb).1,fun o ho x hx=>(h.fr b hb).2.1 o (hne ho).2 x hx,(h.fr b hb).2.2⟩,fun n hn hs=>?_⟩
 ·obtain⟨ob0,h0,rfl⟩:=hob o ob ho
  have hor:=h.objs o _ h0
  cases ob0 with
  |vs e cs =>
   obtain⟨b,full,cur,h1,hb,hcur,hsz,hc⟩:=hor
   refine⟨b,full,cur,h1,hb,hcur,by rw[uK];exact hsz,fun i c hi=>?_⟩
   rw[gO] at hi
   obtain⟨c0,hc0,rfl⟩:=Option.map_eq_some_iff.1 hi
   obtain⟨u,hu,hv⟩:=hc i c0 hc0
   exact⟨u,hu,hV hv⟩
  |ds e sz els =>
   rcases hor with ⟨h1,he⟩|⟨b,full,cur,h1,hb,hcur,hlen,hmax,hsz,hc⟩
   ·exact .inl ⟨h1,he⟩
   ·exact .inr ⟨b,full,cur,h1,hb,hcur,hlen,hmax,hsz,fun j c hj=>⟨(hc j c hj).1,fun i d hi=>let ⟨u,hu,hr⟩:=(hc j c hj).2 i d hi;⟨u,hu,hr.mono fun b hb=>⟨hok A b hb,rfl⟩⟩⟩⟩
  |rs e sz els =>
   rcases hor with ⟨h1,he⟩|⟨b,full,cur,h1,hb,hcur,hlen,hmax,hsz,hc⟩
   ·exact .inl ⟨h1,by rw[he];rfl⟩
   ·refine .inr ⟨b,full,cur,h1,hb,hcur,by simpa using hlen,hmax,hsz,fun j c hj=>?_⟩
    rw[List.getElem?_map] at hj
    obtain⟨c0,hc0,rfl⟩:=Option.map_eq_some_iff.1 hj
    refine⟨by rw[uK];exact(hc j c0 hc0).1,fun i d hi=>?_⟩
    rw[gO] at hi
    obtain⟨d0,hd0,rfl⟩:=Option.map_eq_some_iff.1 hi
    obtain⟨u,hu,h1,hr⟩:=(hc j c0 hc0).2 i d0 hd0
    exact⟨u,hu,h1,hV hr⟩
  |mp ag ps =>
   obtain⟨b,full,es,h1,hb,hcur,hr⟩:=hor
   exact⟨b,full,es,h1,hb,hcur,hr.mono fun b hb=>⟨hok A b hb,rfl⟩⟩
 ·cases hq:(s.frz p).H (.l n) with
  |none=>exact absurd hq hs
  |some ob =>
   obtain⟨ob0,h0,h1⟩:=hob _ _ hq
   exact h.pin n hn (by rw[h0];simp)
theorem weak_frz (p:Key→Bool):Weak E N s (s.frz p):=fun A w0 m a w h=>⟨m,h.frz p⟩
mutual
def cvt (κ:Key):AV→AV
 | .ref o off n=>.ref o off n
 | .ptr o off=>.ptr o off
 | .eptr o j off=>.eptr o j off
 | .dref o n=>bif Key.beq o κ then .ref o 0 n else .dref o n
 | .dptr o j off=>bif Key.beq o κ then .eptr o j off else .dptr o j off
 | .mref o=>.mref o
 | .lit v=>.lit v
 | .agg cs=>.agg (pO κ cs)
 | .tup vs=>.tup (pO κ vs)
 | .fn f caps=>.fn f (pO κ caps)
 | .junk=>.junk
 | .d x=>.d x
 | .fp cs=>.fp cs
 | .uq e sz els=>.uq e sz els
 | .uqd e sz c e2 sz2 rows subs=>.uqd e sz c e2 sz2 rows subs
 | .ownF f cs=>.ownF f cs
def pO (κ:Key):List AV→List AV
 | []=>[]
 |v::vs=>cvt κ v::pO κ vs
end
def cvtO (κ:Key):Ob→Ob
 | .vs e cs=>.vs e (pO κ cs)
 | .ds e sz els=>.ds e sz els
 | .rs e sz rows=>.rs e sz (rows.map (pO κ))
 | .mp ag ps=>.mp ag ps
theorem uM (κ:Key):∀ vs:List AV,(pO κ vs).length=vs.length
 | []=>by simp[pO]
 |v::vs=>by simp[pO,uM κ vs]
theorem gQ (κ:Key):∀ (vs:List AV) (i:Nat),(pO κ vs)[i]?=(vs[i]?).map (cvt κ)
 | [],i=>by simp[pO]
 |v::vs,0=>by simp[pO]
 |v::vs,i+1=>by simp[pO,gQ κ vs i]
def St.cvt (κ:Key) (e:TypeId) (sz:Nat) (els:List (List D)) (s:St):St:={ τ:=fun i=>Ai.cvt κ (s.τ i),H:=fun o=>bif Key.beq o κ then some (.ds e sz els) else (s.H o).map (cvtO κ) }
theorem VRel.cvt {κ:Key} {H H':Key→Option Ob} {ok ok':Nat→Prop} {e:TypeId} {sz:Nat} {els:List (List D)} {rows:List (List AV)} (hκ:H κ=some (.rs e sz rows)) (hr:rows.length=els.length)
  (hH:∀ o,H' o=bif Key.beq o κ then some (.ds e sz els) else (H o).map (cvtO κ)) (hok:∀ b,ok b→ok' b) {c:AV} {v:Value} (r:VRel w ok m H c v):VRel w ok' m H' (Ai.cvt κ c) v:=by
 have hh:∀ b,ok b→ok' b∧w.heap[b]?=w.heap[b]?:=fun b hb=>⟨hok b hb,rfl⟩
 have hκ':H' κ=some (.ds e sz els):=by rw[hH,zD];rfl
 have at_:∀ {o:Key} {ob:Ob},Key.beq o κ=false→H o=some ob→H' o=some (cvtO κ ob):=fun h1 h2=>by rw[hH,h1,h2];rfl
 have ne_:∀ {o:Key} {ob:Ob},H o=some ob→(∀ e sz rows,ob≠.rs e sz rows)→Key.beq o κ=false:=fun {o ob} h1 h2=>by
  cases hb:Key.beq o κ with
  |false=>rfl
  |true=>have:=yI hb;subst this;rw[hκ] at h1;injection h1 with h1;exact absurd h1.symm (h2 _ _ _)
 induction r with
 |junk v=>exact .junk v
 |d x v hx=>exact .d x v (hx.mono hh)
 |fp cs b off us hb hc=>exact .fp cs b off us (hok b hb) fun i d hi=>⟨(hc i d hi).1,(hc i d hi).2.mono hh⟩
 |ref o off n e sz els b full cap hHo hn hm hcap hnc=>exact .ref o off n e sz els b full cap (at_ (ne_ hHo (by simp)) hHo) hn hm hcap hnc
 |ref0 o e sz hHo hm=>exact .ref0 o e sz (at_ (ne_ hHo (by simp)) hHo) hm
 |ptr o off e cs b full hHo hm=>exact .ptr o off e _ b full (at_ (ne_ hHo (by simp)) hHo) hm
 |eptr o j off e sz els b full hHo hj hm=>exact .eptr o j off e sz els b full (at_ (ne_ hHo (by simp)) hHo) hj hm
 |dref o n e2 sz2 rows2 b full hHo hn hm hnc =>
  simp only[Ai.cvt]
  cases hp:Key.beq o κ with
  |true =>
   have:=yI hp;subst this
   rw[hκ] at hHo;injection hHo with hHo;injection hHo with i1 i2 i3;subst i1 i2 i3
   have:=VRel.ref (w:=w) (ok:=ok') o 0 n e sz els b full full hκ' (by omega) hm (fun _=>rfl) hnc
   rw[Nat.zero_mul] at this
   exact this
  |false=>exact .dref o n e2 sz2 _ b full (at_ hp hHo) (by simpa using hn) hm hnc
 |dref0 o e2 sz2 hHo hm =>
  simp only[Ai.cvt]
  cases hp:Key.beq o κ with
  |true =>
   have:=yI hp;subst this
   rw[hκ] at hHo;injection hHo with hHo;injection hHo with i1 i2 i3;subst i1 i2 i3
   have:els=[]:=List.eq_nil_of_length_eq_zero (by simpa using hr.symm)
   subst this
   exact .ref0 o e sz hκ' hm
  |false=>exact .dref0 o e2 sz2 (at_ hp hHo) hm
 |dptr o j off e2 sz2 rows2 b full hHo hj hm =>
  simp only[Ai.cvt]
  cases hp:Key.beq o κ with
  |true =>
   have:=yI hp;subst this
   rw[hκ] at hHo;injection hHo with hHo;injection hHo with i1 i2 i3;subst i1 i2 i3
   exact .eptr o j off e sz els b full hκ' (by omega) hm
  |false=>exact .dptr o j off e2 sz2 _ b full (at_ hp hHo) (by simpa using hj) hm
 |lit v h=>exact .lit v h
 |mref o ag ps b full hHo hm=>exact .mref o ag ps b full (at_ (ne_ hHo (by simp)) hHo) hm
 |agg cs us hl hr ih =>
  simp only[Ai.cvt]
  refine .agg _ us (by rw[uM];exact hl) fun i c u hc hu=>?_
  rw[gQ,Option.map_eq_some_iff] at hc
  obtain⟨c0,h1,rfl⟩:=hc
  exact ih i c0 u h1 hu
 |tup cs us hl hr ih =>
  simp only[Ai.cvt]
  refine .tup _ us (by rw[uM];exact hl) fun i c u hc hu=>?_
  rw[gQ,Option.map_eq_some_iff] at hc
  obtain⟨c0,h1,rfl⟩:=hc
  exact ih i c0 u h1 hu
 |fn f cs us hl hr ih =>
  simp only[Ai.cvt]
  refine .fn f _ us (by rw[uM];exact hl) fun i c u hc hu=>?_
  rw[gQ,Option.map_eq_some_iff] at hc
  obtain⟨c0,h1,rfl⟩:=hc
  exact ih i c0 u h1 hu
theorem SRel.cvt (κ:Key) (h:SRel E N A w0 m s a w) {e:TypeId} {sz:Nat} {els:List (List D)} (hκ:s.H κ=some (.rs e sz (els.map (List.map .d)))):SRel E N A w0 m (s.cvt κ e sz els) a w:=by
 have hne:∀ {o:Key},(s.cvt κ e sz els).H o≠none→s.H o≠none:=fun {o} ho=>by
  cases hp:Key.beq o κ with
  |true=>have:=yI hp;subst this;rw[hκ];simp
  |false=>exact fun hn=>ho (by simp[St.cvt,hp,hn])
 have hok:∀ (Z:Nat→Prop) b,okB Z s.H m w b→okB Z (s.cvt κ e sz els).H m w b:=fun Z b hb=>⟨hb.1,fun o ho x hx=>hb.2.1 o (hne ho) x hx,hb.2.2⟩
 have hV:∀ {c:AV} {v:Value},VRel w (okB A s.H m w) m s.H c v→VRel w (okB A (s.cvt κ e sz els).H m w) m (s.cvt κ e sz els).H (Ai.cvt κ c) v:=fun r=>r.cvt hκ (by simp) (fun _=>rfl) (hok A)
 have hob:∀ o ob,(s.cvt κ e sz els).H o=some ob→(o=κ∧ob=.ds e sz els)∨(∃ ob0,s.H o=some ob0∧ob=cvtO κ ob0):=fun o ob ho=>by
  cases hp:Key.beq o κ with
  |true=>left;exact⟨yI hp,by simp only[St.cvt,hp,cond_true,Option.some.injEq] at ho;exact ho.symm⟩
  |false =>
   right
   simp only[St.cvt,hp,cond_false] at ho
   obtain⟨ob0,h2,h3⟩:=Option.map_eq_some_iff.1 ho
   exact⟨ob0,h2,h3.symm⟩
 refine⟨h.size,h.defers,h.below,h.inv,fun i hi=>hV (h.tmps i hi),fun o ob ho=>?_,fun o o' x x' ho ho' hx hx' he=>h.inj o o' x x' (hne ho) (hne ho') hx hx' he,h.hA,
  fun b hb=>⟨(h.fr b hb).1,fun o ho x hx=>(h.fr b hb).2.1 o (hne ho) x hx,(h.fr b hb).2.2⟩,fun n hn hs=>?_⟩
 ·rcases hob o ob ho with ⟨rfl,rfl⟩|⟨ob0,h0,rfl⟩
  ·rcases h.objs o _ hκ with ⟨h1,he⟩|⟨b,full,cur,h1,hb,hcur,hlen,hmax,hsz,hc⟩
   ·exact .inl ⟨h1,by simpa using he⟩
   ·refine .inr ⟨b,full,cur,h1,hb,hcur,by simpa using hlen,hmax,hsz,fun j c hj=>?_⟩
    have hj2:(els.map (List.map AV.d))[j]?=some (c.map .d):=by rw[List.getElem?_map,hj];rfl
    refine⟨by simpa using (hc j _ hj2).1,fun i d hi=>?_⟩
    obtain⟨u,hu,h1,hr⟩:=(hc j _ hj2).2 i (.d d) (by rw[List.getElem?_map,hi];rfl)
    cases hr with
    |d _ _ hr=>exact⟨u,hu,hr.mono fun b hb=>⟨hok A b hb,rfl⟩⟩
  have hor:=h.objs o _ h0
  cases ob0 with
  |vs e cs =>
   obtain⟨b,full,cur,h1,hb,hcur,hsz,hc⟩:=hor
   refine⟨b,full,cur,h1,hb,hcur,by rw[uM];exact hsz,fun i c hi=>?_⟩
   rw[gQ] at hi
   obtain⟨c0,hc0,rfl⟩:=Option.map_eq_some_iff.1 hi
   obtain⟨u,hu,hv⟩:=hc i c0 hc0
   exact⟨u,hu,hV hv⟩
  |ds e sz els =>
   rcases hor with ⟨h1,he⟩|⟨b,full,cur,h1,hb,hcur,hlen,hmax,hsz,hc⟩
   ·exact .inl ⟨h1,he⟩
   ·exact .inr ⟨b,full,cur,h1,hb,hcur,hlen,hmax,hsz,fun j c hj=>⟨(hc j c hj).1,fun i d hi=>let ⟨u,hu,hr⟩:=(hc j c hj).2 i d hi;⟨u,hu,hr.mono fun b hb=>⟨hok A b hb,rfl⟩⟩⟩⟩
  |rs e sz els =>
   rcases hor with ⟨h1,he⟩|⟨b,full,cur,h1,hb,hcur,hlen,hmax,hsz,hc⟩
   ·exact .inl ⟨h1,by rw[he];rfl⟩
   ·refine .inr ⟨b,full,cur,h1,hb,hcur,by simpa using hlen,hmax,hsz,fun j c hj=>?_⟩
    rw[List.getElem?_map] at hj
    obtain⟨c0,hc0,rfl⟩:=Option.map_eq_some_iff.1 hj
    refine⟨by rw[uM];exact(hc j c0 hc0).1,fun i d hi=>?_⟩
    rw[gQ] at hi
    obtain⟨d0,hd0,rfl⟩:=Option.map_eq_some_iff.1 hi
    obtain⟨u,hu,h1,hr⟩:=(hc j c0 hc0).2 i d0 hd0
    exact⟨u,hu,h1,hV hr⟩
  |mp ag ps =>
   obtain⟨b,full,es,h1,hb,hcur,hr⟩:=hor
   exact⟨b,full,es,h1,hb,hcur,hr.mono fun b hb=>⟨hok A b hb,rfl⟩⟩
 ·refine h.pin n hn fun hh=>hs ?_
  show(bif Key.beq (.l n) κ then _ else (s.H (.l n)).map _)=none
  cases hq:Key.beq (.l n) κ with
  |true=>rw[yI hq] at hh;rw[hκ] at hh;cases hh
  |false=>rw[hh];rfl
theorem weak_cvt (κ:Key) {e:TypeId} {sz:Nat} {els:List (List D)} (hκ:s.H κ=some (.rs e sz (els.map (List.map .d)))):Weak E N s (s.cvt κ e sz els):=fun A w0 m a w h=>⟨m,h.cvt κ hκ⟩
mutual
def cvr (κ:Key):AV→AV
 | .ref o off n=>bif Key.beq o κ then (match off with|0=>.dref o n|_=>.junk) else .ref o off n
 | .ptr o off=>.ptr o off
 | .eptr o j off=>bif Key.beq o κ then .dptr o j off else .eptr o j off
 | .dref o n=>.dref o n
 | .dptr o j off=>.dptr o j off
 | .mref o=>.mref o
 | .lit v=>.lit v
 | .agg cs=>.agg (pP κ cs)
 | .tup vs=>.tup (pP κ vs)
 | .fn f caps=>.fn f (pP κ caps)
 | .junk=>.junk
 | .d x=>.d x
 | .fp cs=>.fp cs
 | .uq e sz els=>.uq e sz els
 | .uqd e sz c e2 sz2 rows subs=>.uqd e sz c e2 sz2 rows subs
 | .ownF f cs=>.ownF f cs
def pP (κ:Key):List AV→List AV
 | []=>[]
 |v::vs=>cvr κ v::pP κ vs
end
def cvrO (κ:Key):Ob→Ob
 | .vs e cs=>.vs e (pP κ cs)
 | .ds e sz els=>.ds e sz els
 | .rs e sz rows=>.rs e sz (rows.map (pP κ))
 | .mp ag ps=>.mp ag ps
theorem uN (κ:Key):∀ vs:List AV,(pP κ vs).length=vs.length
 | []=>by simp[pP]
 |v::vs=>by simp[pP,uN κ vs]
theorem gR (κ:Key):∀ (vs:List AV) (i:Nat),(pP κ vs)[i]?=(vs[i]?).map (cvr κ)
 | [],i=>by simp[pP]
 |v::vs,0=>by simp[pP]
 |v::vs,i+1=>by simp[pP,gR κ vs i]
def St.cvr (κ:Key) (e:TypeId) (sz:Nat) (els:List (List D)) (s:St):St:={ τ:=fun i=>Ai.cvr κ (s.τ i),H:=fun o=>bif Key.beq o κ then some (.rs e sz (els.map (List.map .d))) else (s.H o).map (cvrO κ) }
theorem VRel.cvr {κ:Key} {H H':Key→Option Ob} {ok ok':Nat→Prop} {e:TypeId} {sz:Nat} {els:List (List D)} (hκ:H κ=some (.ds e sz els))
  (hH:∀ o,H' o=bif Key.beq o κ then some (.rs e sz (els.map (List.map .d))) else (H o).map (cvrO κ)) (hok:∀ b,ok b→ok' b) {c:AV} {v:Value} (hfull:∀ b full,m κ=some (b,full)→els.length≤full) (r:VRel w ok m H c v):VRel w ok' m H' (Ai.cvr κ c) v:=by
 have hh:∀ b,ok b→ok' b∧w.heap[b]?=w.heap[b]?:=fun b hb=>⟨hok b hb,rfl⟩
 have hκ':H' κ=some (.rs e sz (els.map (List.map .d))):=by rw[hH,zD];rfl
 have at_:∀ {o:Key} {ob:Ob},Key.beq o κ=false→H o=some ob→H' o=some (cvrO κ ob):=fun h1 h2=>by rw[hH,h1,h2];rfl
 have ne_:∀ {o:Key} {ob:Ob},H o=some ob→(∀ e sz rows,ob≠.ds e sz rows)→Key.beq o κ=false:=fun {o ob} h1 h2=>by
  cases hb:Key.beq o κ with
  |false=>rfl
  |true=>have:=yI hb;subst this;rw[hκ] at h1;injection h1 with h1;exact absurd h1.symm (h2 _ _ _)
 induction r with
 |junk v=>exact .junk v
 |d x v hx=>exact .d x v (hx.mono hh)
 |fp cs b off us hb hc=>exact .fp cs b off us (hok b hb) fun i d hi=>⟨(hc i d hi).1,(hc i d hi).2.mono hh⟩
 |ref o off n e2 sz2 els2 b full cap hHo hn hm hcap hnc =>
  simp only[Ai.cvr]
  cases hp:Key.beq o κ with
  |true =>
   have:=yI hp;subst this
   rw[hκ] at hHo;injection hHo with hHo;injection hHo with i1 i2 i3;subst i1 i2 i3
   cases off with
   |zero =>
    have hc:=hcap rfl
    subst hc
    have:=VRel.dref (w:=w) (ok:=ok') o n e sz _ b cap hκ' (by simpa using hn) hm hnc
    rw[Nat.zero_mul]
    exact this
   |succ off=>exact .junk _
  |false=>exact .ref o off n e2 sz2 els2 b full cap (at_ hp hHo) hn hm hcap hnc
 |ref0 o e2 sz2 hHo hm =>
  simp only[Ai.cvr]
  cases hp:Key.beq o κ with
  |true =>
   have:=yI hp;subst this
   rw[hκ] at hHo;injection hHo with hHo;injection hHo with i1 i2 i3;subst i1 i2 i3
   exact .dref0 o e sz hκ' hm
  |false=>exact .ref0 o e2 sz2 (at_ hp hHo) hm
 |ptr o off e cs b full hHo hm=>exact .ptr o off e _ b full (at_ (ne_ hHo (by simp)) hHo) hm
 |eptr o j off e2 sz2 els2 b full hHo hj hm =>
  simp only[Ai.cvr]
  cases hp:Key.beq o κ with
  |true =>
   have:=yI hp;subst this
   rw[hκ] at hHo;injection hHo with hHo;injection hHo with i1 i2 i3;subst i1 i2 i3
   exact .dptr o j off e sz _ b full hκ' (by simpa using hj) hm
  |false=>exact .eptr o j off e2 sz2 els2 b full (at_ hp hHo) hj hm
 |dref o n e2 sz2 rows2 b full hHo hn hm hnc=>exact .dref o n e2 sz2 _ b full (at_ (ne_ hHo (by simp)) hHo) (by simpa using hn) hm hnc
 |dref0 o e2 sz2 hHo hm=>exact .dref0 o e2 sz2 (at_ (ne_ hHo (by simp)) hHo) hm
 |dptr o j off e2 sz2 rows2 b full hHo hj hm=>exact .dptr o j off e2 sz2 _ b full (at_ (ne_ hHo (by simp)) hHo) (by simpa using hj) hm
 |lit v h=>exact .lit v h
 |mref o ag ps b full hHo hm=>exact .mref o ag ps b full (at_ (ne_ hHo (by simp)) hHo) hm
 |agg cs us hl hr ih =>
  simp only[Ai.cvr]
  refine .agg _ us (by rw[uN];exact hl) fun i c u hc hu=>?_
  rw[gR,Option.map_eq_some_iff] at hc
  obtain⟨c0,h1,rfl⟩:=hc
  exact ih i c0 u h1 hu
 |tup cs us hl hr ih =>
  simp only[Ai.cvr]
  refine .tup _ us (by rw[uN];exact hl) fun i c u hc hu=>?_
  rw[gR,Option.map_eq_some_iff] at hc
  obtain⟨c0,h1,rfl⟩:=hc
  exact ih i c0 u h1 hu
 |fn f cs us hl hr ih =>
  simp only[Ai.cvr]
  refine .fn f _ us (by rw[uN];exact hl) fun i c u hc hu=>?_
  rw[gR,Option.map_eq_some_iff] at hc
  obtain⟨c0,h1,rfl⟩:=hc
  exact ih i c0 u h1 hu
theorem SRel.cvr (κ:Key) (h:SRel E N A w0 m s a w) {e:TypeId} {sz:Nat} {els:List (List D)} (hκ:s.H κ=some (.ds e sz els)):SRel E N A w0 m (s.cvr κ e sz els) a w:=by
 have hne:∀ {o:Key},(s.cvr κ e sz els).H o≠none→s.H o≠none:=fun {o} ho=>by
  cases hp:Key.beq o κ with
  |true=>have:=yI hp;subst this;rw[hκ];simp
  |false=>exact fun hn=>ho (by simp[St.cvr,hp,hn])
 have hok:∀ (Z:Nat→Prop) b,okB Z s.H m w b→okB Z (s.cvr κ e sz els).H m w b:=fun Z b hb=>⟨hb.1,fun o ho x hx=>hb.2.1 o (hne ho) x hx,hb.2.2⟩
 have hfull:∀ b full,m κ=some (b,full)→els.length≤full:=fun b full hm=>by
  rcases h.objs κ _ hκ with ⟨h1,_⟩|⟨b',full',cur,h1,hb,hcur,hlen,_⟩
  ·rw[hm] at h1;cases h1
  ·rw[hm] at h1;injection h1 with h1;injection h1 with i1 i2;subst i1 i2;exact hlen
 have hV:∀ {c:AV} {v:Value},VRel w (okB A s.H m w) m s.H c v→VRel w (okB A (s.cvr κ e sz els).H m w) m (s.cvr κ e sz els).H (Ai.cvr κ c) v:=fun r=>r.cvr hκ (fun _=>rfl) (hok A) hfull
 have hob:∀ o ob,(s.cvr κ e sz els).H o=some ob→(o=κ∧ob=.rs e sz (els.map (List.map .d)))∨(∃ ob0,s.H o=some ob0∧ob=cvrO κ ob0):=fun o ob ho=>by
  cases hp:Key.beq o κ with
  |true=>left;exact⟨yI hp,by simp only[St.cvr,hp,cond_true,Option.some.injEq] at ho;exact ho.symm⟩
  |false =>
   right
   simp only[St.cvr,hp,cond_false] at ho
   obtain⟨ob0,h2,h3⟩:=Option.map_eq_some_iff.1 ho
   exact⟨ob0,h2,h3.symm⟩
 refine⟨h.size,h.defers,h.below,h.inv,fun i hi=>hV (h.tmps i hi),fun o ob ho=>?_,fun o o' x x' ho ho' hx hx' he=>h.inj o o' x x' (hne ho) (hne ho') hx hx' he,h.hA,
  fun b hb=>⟨(h.fr b hb).1,fun o ho x hx=>(h.fr b hb).2.1 o (hne ho) x hx,(h.fr b hb).2.2⟩,fun n hn hs=>?_⟩
 ·rcases hob o ob ho with ⟨rfl,rfl⟩|⟨ob0,h0,rfl⟩
  ·rcases h.objs o _ hκ with ⟨h1,he⟩|⟨b,full,cur,h1,hb,hcur,hlen,hmax,hsz,hc⟩
   ·exact .inl ⟨h1,by rw[he];rfl⟩
   ·refine .inr ⟨b,full,cur,h1,hb,hcur,by simpa using hlen,hmax,hsz,fun j c hj=>?_⟩
    rw[List.getElem?_map] at hj
    obtain⟨c0,hc0,rfl⟩:=Option.map_eq_some_iff.1 hj
    refine⟨by simpa using (hc j _ hc0).1,fun i d hi=>?_⟩
    rw[List.getElem?_map] at hi
    obtain⟨d0,hd0,rfl⟩:=Option.map_eq_some_iff.1 hi
    obtain⟨u,hu,hr⟩:=(hc j _ hc0).2 i d0 hd0
    exact⟨u,hu,hr.oneCell.1,.d _ _ (hr.mono fun b hb=>⟨hok A b hb,rfl⟩)⟩
  have hor:=h.objs o _ h0
  cases ob0 with
  |vs e cs =>
   obtain⟨b,full,cur,h1,hb,hcur,hsz,hc⟩:=hor
   refine⟨b,full,cur,h1,hb,hcur,by rw[uN];exact hsz,fun i c hi=>?_⟩
   rw[gR] at hi
   obtain⟨c0,hc0,rfl⟩:=Option.map_eq_some_iff.1 hi
   obtain⟨u,hu,hv⟩:=hc i c0 hc0
   exact⟨u,hu,hV hv⟩
  |ds e sz els =>
   rcases hor with ⟨h1,he⟩|⟨b,full,cur,h1,hb,hcur,hlen,hmax,hsz,hc⟩
   ·exact .inl ⟨h1,he⟩
   ·exact .inr ⟨b,full,cur,h1,hb,hcur,hlen,hmax,hsz,fun j c hj=>⟨(hc j c hj).1,fun i d hi=>let ⟨u,hu,hr⟩:=(hc j c hj).2 i d hi;⟨u,hu,hr.mono fun b hb=>⟨hok A b hb,rfl⟩⟩⟩⟩
  |rs e sz els =>
   rcases hor with ⟨h1,he⟩|⟨b,full,cur,h1,hb,hcur,hlen,hmax,hsz,hc⟩
   ·exact .inl ⟨h1,by rw[he];rfl⟩
   ·refine .inr ⟨b,full,cur,h1,hb,hcur,by simpa using hlen,hmax,hsz,fun j c hj=>?_⟩
    rw[List.getElem?_map] at hj
    obtain⟨c0,hc0,rfl⟩:=Option.map_eq_some_iff.1 hj
    refine⟨by rw[uN];exact(hc j c0 hc0).1,fun i d hi=>?_⟩
    rw[gR] at hi
    obtain⟨d0,hd0,rfl⟩:=Option.map_eq_some_iff.1 hi
    obtain⟨u,hu,h1,hr⟩:=(hc j c0 hc0).2 i d0 hd0
    exact⟨u,hu,h1,hV hr⟩
  |mp ag ps =>
   obtain⟨b,full,es,h1,hb,hcur,hr⟩:=hor
   exact⟨b,full,es,h1,hb,hcur,hr.mono fun b hb=>⟨hok A b hb,rfl⟩⟩
 ·refine h.pin n hn fun hh=>hs ?_
  show(bif Key.beq (.l n) κ then _ else (s.H (.l n)).map _)=none
  cases hq:Key.beq (.l n) κ with
  |true=>rw[yI hq] at hh;rw[hκ] at hh;cases hh
  |false=>rw[hh];rfl
theorem m8 (κ:Key) {e:TypeId} {sz:Nat} {els:List (List D)} (hκ:s.H κ=some (.ds e sz els)):Weak E N s (s.cvr κ e sz els):=fun A w0 m a w h=>⟨m,h.cvr κ hκ⟩
mutual
def cut (κ:Key) (q:Nat):AV→AV
 | .ref o off m=>bif Key.beq o κ then (bif Nat.ble (off+m) q then .ref o off m else .junk) else .ref o off m
 | .ptr o off=>.ptr o off
 | .eptr o j off=>bif Key.beq o κ then .junk else .eptr o j off
 | .dref o n=>.dref o n
 | .dptr o j off=>.dptr o j off
 | .mref o=>.mref o
 | .lit v=>.lit v
 | .agg cs=>.agg (kA κ q cs)
 | .tup vs=>.tup (kA κ q vs)
 | .fn f caps=>.fn f (kA κ q caps)
 | .junk=>.junk
 | .d x=>.d x
 | .fp cs=>.fp cs
 | .uq e sz els=>.uq e sz els
 | .uqd e sz c e2 sz2 rows subs=>.uqd e sz c e2 sz2 rows subs
 | .ownF f cs=>.ownF f cs
def kA (κ:Key) (q:Nat):List AV→List AV
 | []=>[]
 |v::vs=>cut κ q v::kA κ q vs
end
def cutO (κ:Key) (q:Nat):Ob→Ob
 | .vs e cs=>.vs e (kA κ q cs)
 | .ds e sz els=>.ds e sz els
 | .rs e sz rows=>.rs e sz (rows.map (kA κ q))
 | .mp ag ps=>.mp ag ps
theorem uO (κ:Key) (q:Nat):∀ vs:List AV,(kA κ q vs).length=vs.length
 | []=>by simp[kA]
 |v::vs=>by simp[kA,uO κ q vs]
theorem gS (κ:Key) (q:Nat):∀ (vs:List AV) (i:Nat),(kA κ q vs)[i]?=(vs[i]?).map (cut κ q)
 | [],i=>by simp[kA]
 |v::vs,0=>by simp[kA]
 |v::vs,i+1=>by simp[kA,gS κ q vs i]
def St.cut (κ:Key) (e:TypeId) (sz:Nat) (els:List (List D)) (q:Nat) (s:St):St:={ τ:=fun i=>Ai.cut κ q (s.τ i),H:=fun o=>bif Key.beq o κ then some (.ds e sz (els.take q)) else (s.H o).map (cutO κ q) }
theorem VRel.cut {κ:Key} {q:Nat} {H H':Key→Option Ob} {ok ok':Nat→Prop} {e:TypeId} {sz:Nat} {els:List (List D)} (hκ:H κ=some (.ds e sz els))
  (hH:∀ o,H' o=bif Key.beq o κ then some (.ds e sz (els.take q)) else (H o).map (cutO κ q)) (hok:∀ b,ok b→ok' b) {c:AV} {v:Value} (r:VRel w ok m H c v):VRel w ok' m H' (Ai.cut κ q c) v:=by
 have hh:∀ b,ok b→ok' b∧w.heap[b]?=w.heap[b]?:=fun b hb=>⟨hok b hb,rfl⟩
 have hκ':H' κ=some (.ds e sz (els.take q)):=by rw[hH,zD];rfl
 have at_:∀ {o:Key} {ob:Ob},Key.beq o κ=false→H o=some ob→H' o=some (cutO κ q ob):=fun h1 h2=>by rw[hH,h1,h2];rfl
 have ne_:∀ {o:Key} {ob:Ob},H o=some ob→(∀ e sz rows,ob≠.ds e sz rows)→Key.beq o κ=false:=fun {o ob} h1 h2=>by
  cases hb:Key.beq o κ with
  |false=>rfl
  |true=>have:=yI hb;subst this;rw[hκ] at h1;injection h1 with h1;exact absurd h1.symm (h2 _ _ _)
 induction r with
 |junk v=>exact .junk v
 |d x v hx=>exact .d x v (hx.mono hh)
 |fp cs b off us hb hc=>exact .fp cs b off us (hok b hb) fun i d hi=>⟨(hc i d hi).1,(hc i d hi).2.mono hh⟩
 |ref o off n e2 sz2 els2 b full cap hHo hn hm hcap hnc =>
  simp only[Ai.cut]
  cases hp:Key.beq o κ with
  |true =>
   have:=yI hp;subst this
   rw[hκ] at hHo;injection hHo with hHo;injection hHo with i1 i2 i3;subst i1 i2 i3
   cases hq:Nat.ble (off+n) q with
   |true=>exact .ref o off n e sz (els.take q) b full cap hκ' (by have:=Nat.le_of_ble_eq_true hq;simp;omega) hm hcap hnc
   |false=>exact .junk _
  |false=>exact .ref o off n e2 sz2 els2 b full cap (at_ hp hHo) hn hm hcap hnc
 |ref0 o e2 sz2 hHo hm =>
  simp only[Ai.cut]
  cases hp:Key.beq o κ with
  |true =>
   have:=yI hp;subst this
   rw[hκ] at hHo;injection hHo with hHo;injection hHo with i1 i2 i3;subst i1 i2 i3
   cases hq:Nat.ble (0+0) q with
   |true=>exact .ref0 o e sz (by rw[hκ',List.take_nil]) hm
   |false=>exact .junk _
  |false=>exact .ref0 o e2 sz2 (at_ hp hHo) hm
 |ptr o off e cs b full hHo hm=>exact .ptr o off e _ b full (at_ (ne_ hHo (by simp)) hHo) hm
 |eptr o j off e2 sz2 els2 b full hHo hj hm =>
  simp only[Ai.cut]
  cases hp:Key.beq o κ with
  |true=>exact .junk _
  |false=>exact .eptr o j off e2 sz2 els2 b full (at_ hp hHo) hj hm
 |dref o n e2 sz2 rows2 b full hHo hn hm hnc=>exact .dref o n e2 sz2 _ b full (at_ (ne_ hHo (by simp)) hHo) (by simpa using hn) hm hnc
 |dref0 o e2 sz2 hHo hm=>exact .dref0 o e2 sz2 (at_ (ne_ hHo (by simp)) hHo) hm
 |dptr o j off e2 sz2 rows2 b full hHo hj hm=>exact .dptr o j off e2 sz2 _ b full (at_ (ne_ hHo (by simp)) hHo) (by simpa using hj) hm
 |lit v h=>exact .lit v h
 |mref o ag ps b full hHo hm=>exact .mref o ag ps b full (at_ (ne_ hHo (by simp)) hHo) hm
 |agg cs us hl hr ih =>
  simp only[Ai.cut]
  refine .agg _ us (by rw[uO];exact hl) fun i c u hc hu=>?_
  rw[gS,Option.map_eq_some_iff] at hc
  obtain⟨c0,h1,rfl⟩:=hc
  exact ih i c0 u h1 hu
 |tup cs us hl hr ih =>
  simp only[Ai.cut]
  refine .tup _ us (by rw[uO];exact hl) fun i c u hc hu=>?_
  rw[gS,Option.map_eq_some_iff] at hc
  obtain⟨c0,h1,rfl⟩:=hc
  exact ih i c0 u h1 hu
 |fn f cs us hl hr ih =>
  simp only[Ai.cut]
  refine .fn f _ us (by rw[uO];exact hl) fun i c u hc hu=>?_
  rw[gS,Option.map_eq_some_iff] at hc
  obtain⟨c0,h1,rfl⟩:=hc
  exact ih i c0 u h1 hu
theorem SRel.cut (κ:Key) (q:Nat) (h:SRel E N A w0 m s a w) {e:TypeId} {sz:Nat} {els:List (List D)} (hκ:s.H κ=some (.ds e sz els)):SRel E N A w0 m (s.cut κ e sz els q) a w:=by
 have hne:∀ {o:Key},(s.cut κ e sz els q).H o≠none→s.H o≠none:=fun {o} ho=>by
  cases hp:Key.beq o κ with
  |true=>have:=yI hp;subst this;rw[hκ];simp
  |false=>exact fun hn=>ho (by simp[St.cut,hp,hn])
 have hok:∀ (Z:Nat→Prop) b,okB Z s.H m w b→okB Z (s.cut κ e sz els q).H m w b:=fun Z b hb=>⟨hb.1,fun o ho x hx=>hb.2.1 o (hne ho) x hx,hb.2.2⟩
 have hV:∀ {c:AV} {v:Value},VRel w (okB A s.H m w) m s.H c v→VRel w (okB A (s.cut κ e sz els q).H m w) m (s.cut κ e sz els q).H (Ai.cut κ q c) v:=fun r=>r.cut hκ (fun _=>rfl) (hok A)
 have hob:∀ o ob,(s.cut κ e sz els q).H o=some ob→(o=κ∧ob=.ds e sz (els.take q))∨(∃ ob0,s.H o=some ob0∧ob=cutO κ q ob0):=fun o ob ho=>by
  cases hp:Key.beq o κ with
  |true=>left;exact⟨yI hp,by simp only[St.cut,hp,cond_true,Option.some.injEq] at ho;exact ho.symm⟩
  |false =>
   right
   simp only[St.cut,hp,cond_false] at ho
   obtain⟨ob0,h2,h3⟩:=Option.map_eq_some_iff.1 ho
   exact⟨ob0,h2,h3.symm⟩
 refine⟨h.size,h.defers,h.below,h.inv,fun i hi=>hV (h.tmps i hi),fun o ob ho=>?_,fun o o' x x' ho ho' hx hx' he=>h.inj o o' x x' (hne ho) (hne ho') hx hx' he,h.hA,
  fun b hb=>⟨(h.fr b hb).1,fun o ho x hx=>(h.fr b hb).2.1 o (hne ho) x hx,(h.fr b hb).2.2⟩,fun n hn hs=>?_⟩
 ·rcases hob o ob ho with ⟨rfl,rfl⟩|⟨ob0,h0,rfl⟩
  ·rcases h.objs o _ hκ with ⟨h1,he⟩|⟨b,full,cur,h1,hb,hcur,hlen,hmax,hsz,hc⟩
   ·exact .inl ⟨h1,by rw[he];exact List.take_nil⟩
   ·refine .inr ⟨b,full,cur,h1,hb,hcur,by simp;omega,hmax,hsz,fun j c hj=>?_⟩
    have hj2:els[j]?=some c:=by
     rw[List.getElem?_take] at hj
     split at hj
     ·exact hj
     ·cases hj
    exact⟨(hc j c hj2).1,fun i d hi=>let ⟨u,hu,hr⟩:=(hc j c hj2).2 i d hi;⟨u,hu,hr.mono fun b hb=>⟨hok A b hb,rfl⟩⟩⟩
  have hor:=h.objs o _ h0
  cases ob0 with
  |vs e cs =>
   obtain⟨b,full,cur,h1,hb,hcur,hsz,hc⟩:=hor
   refine⟨b,full,cur,h1,hb,hcur,by rw[uO];exact hsz,fun i c hi=>?_⟩
   rw[gS] at hi
   obtain⟨c0,hc0,rfl⟩:=Option.map_eq_some_iff.1 hi
   obtain⟨u,hu,hv⟩:=hc i c0 hc0
   exact⟨u,hu,hV hv⟩
  |ds e sz els =>
   rcases hor with ⟨h1,he⟩|⟨b,full,cur,h1,hb,hcur,hlen,hmax,hsz,hc⟩
   ·exact .inl ⟨h1,he⟩
   ·exact .inr ⟨b,full,cur,h1,hb,hcur,hlen,hmax,hsz,fun j c hj=>⟨(hc j c hj).1,fun i d hi=>let ⟨u,hu,hr⟩:=(hc j c hj).2 i d hi;⟨u,hu,hr.mono fun b hb=>⟨hok A b hb,rfl⟩⟩⟩⟩
  |rs e sz els =>
   rcases hor with ⟨h1,he⟩|⟨b,full,cur,h1,hb,hcur,hlen,hmax,hsz,hc⟩
   ·exact .inl ⟨h1,by rw[he];rfl⟩
   ·refine .inr ⟨b,full,cur,h1,hb,hcur,by simpa using hlen,hmax,hsz,fun j c hj=>?_⟩
    rw[List.getElem?_map] at hj
    obtain⟨c0,hc0,rfl⟩:=Option.map_eq_some_iff.1 hj
    refine⟨by rw[uO];exact(hc j c0 hc0).1,fun i d hi=>?_⟩
    rw[gS] at hi
    obtain⟨d0,hd0,rfl⟩:=Option.map_eq_some_iff.1 hi
    obtain⟨u,hu,h1,hr⟩:=(hc j c0 hc0).2 i d0 hd0
    exact⟨u,hu,h1,hV hr⟩
  |mp ag ps =>
   obtain⟨b,full,es,h1,hb,hcur,hr⟩:=hor
   exact⟨b,full,es,h1,hb,hcur,hr.mono fun b hb=>⟨hok A b hb,rfl⟩⟩
 ·refine h.pin n hn fun hh=>hs ?_
  show(bif Key.beq (.l n) κ then _ else (s.H (.l n)).map _)=none
  cases hq:Key.beq (.l n) κ with
  |true=>rw[yI hq] at hh;rw[hκ] at hh;cases hh
  |false=>rw[hh];rfl
theorem m9 (κ:Key) (q:Nat) {e:TypeId} {sz:Nat} {els:List (List D)} (hκ:s.H κ=some (.ds e sz els)):Weak E N s (s.cut κ e sz els q):=fun A w0 m a w h=>⟨m,h.cut κ q hκ⟩
theorem qE (x y:Key):∀ cs:List AV,(∀ c∈cs,Ai.ren (swp x y) (Ai.ren (swp x y) c)=c)→renL (swp x y) (renL (swp x y) cs)=cs
 | [],_=>rfl
 |c::cs,h=>by simp only[renL];rw[h c List.mem_cons_self,qE x y cs fun c hc=>h c (List.mem_cons_of_mem _ hc)]
theorem ren_ren (x y:Key):∀ c:AV,Ai.ren (swp x y) (Ai.ren (swp x y) c)=c
 | .ref o off n=>by simp[Ai.ren,qP]
 | .ptr o off=>by simp[Ai.ren,qP]
 | .eptr o j off=>by simp[Ai.ren,qP]
 | .dref o n=>by simp[Ai.ren,qP]
 | .dptr o j off=>by simp[Ai.ren,qP]
 | .mref o=>by simp[Ai.ren,qP]
 | .lit v=>rfl
 | .agg cs=>by simp only[Ai.ren];rw[qE x y cs fun c _=>ren_ren x y c]
 | .tup cs=>by simp only[Ai.ren];rw[qE x y cs fun c _=>ren_ren x y c]
 | .fn f cs=>by simp only[Ai.ren];rw[qE x y cs fun c _=>ren_ren x y c]
 | .junk=>rfl
 | .d x=>rfl
 | .fp cs=>rfl
 | .uq e sz els=>rfl
 | .uqd e sz c e2 sz2 rows subs=>rfl
 | .ownF f cs=>rfl
theorem renO_renO (x y:Key) (ob:Ob):renO (swp x y) (renO (swp x y) ob)=ob:=by
 cases ob with
 |vs e cs=>simp only[renO];rw[qE x y cs fun c _=>ren_ren x y c]
 |ds e sz els=>rfl
 |rs e sz rows =>
  simp only[renO,List.map_map,Ob.rs.injEq,true_and]
  calc rows.map (renL (swp x y) ∘ renL (swp x y))=rows.map id:=List.map_congr_left fun r _=>qE x y r fun c _=>ren_ren x y c
   _=rows:=List.map_id rows
 |mp ag ps=>rfl
theorem swH_swH (x y:Key) (H:Key→Option Ob):swH x y (swH x y H)=H:=by
 funext κ
 simp only[swH,qP,Option.map_map]
 cases H κ with
 |none=>rfl
 |some ob=>simp[renO_renO]
theorem HRel.sw {H:Key→Option Ob} (x y:Key) (hx:∀ n,x≠.l n) (hy:∀ n,y≠.l n) (h:HRel E A w0 m H w):HRel E A w0 (swM x y m) (swH x y H) w:=by
 have h1:=(h.toS).sw x y (fun n hn hs=>by
  have e1:swp x y (.l n)=.l n:=by
   unfold swp
   rw[zB (Ne.symm (hx n)),zB (Ne.symm (hy n))];rfl
  show some (m (swp x y (.l n)))=A.pin n
  have hs:swH x y H (.l n)≠none:=hs
  simp only[swH,e1] at hs
  rw[e1]
  exact h.pin n hn (fun hh=>hs (by rw[hh];rfl)))
 exact h1.toH
theorem IOCall.sw {g:FuncId} {as1:List AV} {H0:Key→Option Ob} {Post:AV→(Key→Option Ob)→Prop} (x y:Key) (hx:∀ n,x≠.l n) (hy:∀ n,y≠.l n) (h:IOCall E g as1 H0 Post) :
  IOCall E g (as1.map (ren (swp x y))) (swH x y H0) (fun r H1=>Post (ren (swp x y) r) (swH x y H1)):=by
 intro w0 A m w vs hH hl hrel
 have hH':=hH.sw x y hx hy
 rw[swH_swH] at hH'
 refine(h w0 A (swM x y m) w vs hH' (by simpa using hl) fun i a v ha hv=>?_).mono ?_
 ·have:=(hrel i (ren (swp x y) a) v (by rw[List.getElem?_map,ha];rfl) hv).ren (x:=x) (y:=y) (ok':=okB A (swH x y (swH x y H0)) (swM x y m) w) fun b hb=>x6 hb
  rw[ren_ren,swH_swH] at this
  exact this
 ·rintro v w' ⟨r,H1,m1,hP,hH1,hv⟩
  refine⟨ren (swp x y) r,swH x y H1,swM x y m1,?_,hH1.sw x y hx hy,hv.ren fun b hb=>x6 hb⟩
  show Post (ren (swp x y) (ren (swp x y) r)) (swH x y (swH x y H1))
  rw[ren_ren,swH_swH];exact hP
end
end Ai
namespace Ai
open Go Go.RowKit
section
variable {E:Env} {N:Nat} {A:Fr} {w0 w w':World} {m m':Own} {s s' s1:St} {a:Act}
structure Sh extends Sw where
 hl:∀ n,f (.l n)=.l n
def reH (z:Sh) (H:Key→Option Ob):Key→Option Ob:=fun κ=>(H (z.f κ)).map (renO z.f)
def reM (z:Sh) (m:Own):Own:=fun κ=>m (z.f κ)
theorem VRel.re {z:Sh} {ok ok':Nat→Prop} {H:Key→Option Ob} (h:∀ b,ok b→ok' b) {c:AV} {v:Value} (r:VRel w ok m H c v):VRel w ok' (reM z m) (reH z H) (Ai.ren z.f c) v:=VRel.rw (z:=z.toSw) h r
theorem okB_re {z:Sh} {Z:Nat→Prop} {H:Key→Option Ob} {b:Nat} (h:okB Z H m w b):okB Z (reH z H) (reM z m) w b:=fA (z:=z.toSw) h
def St.re (z:Sh) (s:St):St:={ τ:=fun i=>Ai.ren z.f (s.τ i),H:=reH z s.H }
theorem SRel.re0 (z:Sh) (h:SRel E N A w0 m s a w) (hp:∀ n,A.pin n≠none→reH z s.H (.l n)≠none→some (reM z m (.l n))=A.pin n):SRel E N A w0 (reM z m) (s.re z) a w:=h.rw0 z.toSw hp
theorem re_re (z:Sh) (c:AV):Ai.ren z.f (Ai.ren z.f c)=c:=eY z.toSw c
theorem y7 (z:Sh) (H:Key→Option Ob):reH z (reH z H)=H:=rwH_rwH z.toSw H
theorem HRel.re {H:Key→Option Ob} (z:Sh) (h:HRel E A w0 m H w):HRel E A w0 (reM z m) (reH z H) w:=by
 have h1:=(h.toS).re0 z (fun n hn hs=>by
  show some (m (z.f (.l n)))=A.pin n
  have hs:reH z H (.l n)≠none:=hs
  simp only[reH,z.hl] at hs
  rw[z.hl]
  exact h.pin n hn (fun hh=>hs (by rw[hh];rfl)))
 exact h1.toH
theorem IOCall.re {g:FuncId} {as1:List AV} {H0:Key→Option Ob} {Post:AV→(Key→Option Ob)→Prop} (z:Sh) (h:IOCall E g as1 H0 Post) :
  IOCall E g (as1.map (ren z.f)) (reH z H0) (fun r H1=>Post (ren z.f r) (reH z H1)):=by
 intro w0 A m w vs hH hl hrel
 have hH':=hH.re z
 rw[y7] at hH'
 refine(h w0 A (reM z m) w vs hH' (by simpa using hl) fun i a v ha hv=>?_).mono ?_
 ·have:=(hrel i (ren z.f a) v (by rw[List.getElem?_map,ha];rfl) hv).re (z:=z) (ok':=okB A (reH z (reH z H0)) (reM z m) w) fun b hb=>okB_re hb
  rw[re_re,y7] at this
  exact this
 ·rintro v w' ⟨r,H1,m1,hP,hH1,hv⟩
  refine⟨ren z.f r,reH z H1,reM z m1,?_,hH1.re z,hv.re fun b hb=>okB_re hb⟩
  show Post (ren z.f (ren z.f r)) (reH z (reH z H1))
  rw[re_re,y7];exact hP
theorem weak_re (z:Sh):Weak E N s (s.re z):=fun A w0 m a w h=>by
 refine⟨_,h.re0 z fun n hn hs=>?_⟩
 show some (m (z.f (.l n)))=A.pin n
 simp only[reH,z.hl] at hs
 rw[z.hl]
 exact h.pin n hn (fun hh=>hs (by rw[hh];rfl))
end
end Ai
namespace Ai
open Go Go.RowKit
section
variable {E:Env} {N:Nat} {A:Fr} {w0 w w':World} {m m':Own} {s s' s1:St} {a:Act}
def mL:AV→Option AV
 | .uq _ _ els=>some (.d (.sl els))
 | .ownF _ _=>none
 |r=>some r
theorem io_of_calls {g:FuncId} {xs:List AV} {R:AV→Prop} (h:CallsTo E g xs R):IOCall E g xs (fun _=>none) (fun r H1=>(∃ r0,R r0∧(mL r0=none∨mL r0=some r))∧H1=fun _=>none):=by
 intro w0 A m w vs hH hl hrel
 have hI:E.I w:=E.Imono _ _ hH.inv hH.below
 have hA:∀ b,w.heap.size≤b→A b:=fun b hb=>by
  rcases hH.hA b (Nat.le_trans hH.below.size hb) with h|h
  ·exact h
  ·have:=(hH.fr b h).1;omega
 refine(h w A vs hI ⟨hl,fun i a v ha hv=>?_⟩).mono ?_
 ·refine(hrel i a v ha hv).mono (fun b hb=>⟨⟨hb.1,hb.2.2⟩,rfl⟩) ⟨fun o e cs h=>(absurd (show(none:Option Ob)=some _ from h) (by simp)),fun o e sz els h=>(absurd (show(none:Option Ob)=some _ from h) (by simp)),fun o e sz rows h=>(absurd (show(none:Option Ob)=some _ from h) (by simp)),fun o ag ps h=>(absurd (show(none:Option Ob)=some _ from h) (by simp))⟩
 ·rintro v w' ⟨r0,hr,hb,hv⟩
  have hb0:Below w0.heap.size w0 w':=hH.below.trans (hb.mono hH.below.size)
  have hH':HRel E A w0 m (fun _=>none) w':=⟨hb0,hH.inv,fun o ob h=>(by cases h),fun o o' p p' h=>absurd rfl h,hH.hA,fun b hx=>by
   obtain⟨h1,h2,h3⟩:=hH.fr b hx
   exact⟨Nat.lt_of_lt_of_le h1 hb.size,h2,by rw[hb.block b h1];exact h3⟩,fun n hn h=>absurd rfl h⟩
  have hok:∀ x,(x<w'.heap.size∧(A x∨w.heap.size≤x))→okB A (fun _=>none) m w' x:=fun x hx=>⟨hx.1,fun o ho=>absurd rfl ho,hx.2.elim id (hA x)⟩
  have plain:VRel w' (fun x=>x<w'.heap.size∧(A x∨w.heap.size≤x)) noM noH r0 v→mL r0=some r0→∃ r H1 m1,((∃ r0,R r0∧(mL r0=none∨mL r0=some r))∧H1=fun _=>none)∧HRel E A w0 m1 H1 w'∧VRel w' (okB A H1 m1 w') m1 H1 r v :=
   fun h hp=>⟨r0,_,m,⟨⟨r0,hr,.inr hp⟩,rfl⟩,hH',h.lift hok⟩
  unfold lS at hv
  cases r0 with
  |uq e sz els =>
   simp only[RRok] at hv
   refine⟨.d (.sl els),_,m,⟨⟨_,hr,.inr rfl⟩,rfl⟩,hH',?_⟩
   rcases hv with ⟨rfl,rfl⟩|⟨b,full,cur,rfl,hbb,hcur,hle,hmax,hsz,hc⟩
   ·exact .d _ _ (.sl0 _ _)
   ·refine .d _ _ (.sl els sz b 0 full (fun q=>(cur[q]?).getD undef) (hok b ⟨(Array.getElem?_eq_some_iff.1 hcur).1,.inr hbb⟩) hle (fun j c hj=>⟨(hc j c hj).1,fun i d hi=>?_⟩) (fun j c hj i d hi=>?_))
    ·obtain⟨u,hu,_⟩:=(hc j c hj).2 i d hi
     simp[World.cell?,hcur,hu]
    ·obtain⟨u,hu,hr⟩:=(hc j c hj).2 i d hi
     rw[hu]
     exact hr.mono fun x hx=>⟨hok x hx.1,rfl⟩
  |ownF f cs=>exact⟨.junk,_,m,⟨⟨_,hr,.inl rfl⟩,rfl⟩,hH',.junk _⟩
  | _=>exact plain hv rfl
end
end Ai
namespace Ai
open Go Go.RowKit
theorem calls_of_io {E:Env} {g:FuncId} {xs:List AV} {f:Nat} {cs:List AV} (hok:OwnOK cs) (h:IOCall E g xs (fun _=>none) (fun r H1=>r=ownR f cs∧∀ κ,ownH cs κ≠none→H1 κ=ownH cs κ)):CallsTo E g xs (·=.ownF f cs):=by
 intro w A vs hI hr
 have hH:HRel E ⟨fun b=>A b∨w.heap.size≤b,fun _=>False,fun _=>none,fun _=>none⟩ w (fun _=>none) (fun _=>none) w :=
  ⟨Below.refl _ _,hI,fun o ob ho=>(by cases ho),fun o o' p p' ho=>absurd rfl ho,fun b hb=>.inl (.inr hb),fun b hb=>hb.elim,fun n hn=>absurd rfl hn⟩
 refine(h w _ _ w vs hH hr.1 fun i a v ha hv=>?_).mono ?_
 ·exact(hr.2 i a v ha hv).lift fun b hb=>⟨hb.1,fun o ho=>absurd rfl ho,.inl hb.2⟩
 ·rintro v w' ⟨r,H1,m1,⟨rfl,hq⟩,hH1,hv⟩
  exact⟨_,rfl,hH1.below,tR (A:=⟨fun b=>A b∨w.heap.size≤b,fun _=>False,fun _=>none,fun _=>none⟩) hH1.toS (fun b hb=>hb) hok hq hv⟩
end Ai
namespace Ai
open Go Go.Proofs
theorem var_mono {P:Program} {name:String} {cs:Array Value} {w w':World} (h:w.var? P name=some cs) (hb:RowKit.Below w.heap.size w w'):w'.var? P name=some cs:=by
 unfold World.var? at *
 cases hg:P.globalNamed name with
 |none=>rw[hg] at h;exact h
 |some g =>
  rw[hg] at h
  simp only[Option.bind_some] at h ⊢
  cases hh:w.heap[g]? with
  |none=>rw[hh] at h;cases h
  |some ob =>
   have hlt:g<w.heap.size:=(Array.getElem?_eq_some_iff.1 hh).1
   rw[hb.block g hlt,hh]
   rw[hh] at h
   exact h
def IT (w : World) : Prop := Lib.TabIs Tryz.prog w "internal/strconv.uint64pow10" .u64 Lib.pow10Tab
theorem IT_mono (w w':World) (h:IT w) (hb:RowKit.Below w.heap.size w w'):IT w':=var_mono h hb
def mapF (t:TypeId):Option TypeId:=bif Nat.beq t 195 then some 3 else none
theorem mapF_ok (t e:TypeId) (h:mapF t=some e):∃ k,Tryz.prog.underlying t=some (.map k e)∧Tryz.prog.underlying k=some (.int .i64):=by
 unfold mapF at h
 cases hb0:Nat.beq t 195 with
 |true =>
  rw[hb0] at h
  have:=Nat.eq_of_beq_eq_true hb0
  subst this
  injection h with h;subst h
  exact⟨3,(by kernel_rfl:Tryz.prog.underlying 195=some (.map 3 3)),(by kernel_rfl:Tryz.prog.underlying 3=some (.int .i64))⟩
 |false =>
  rw[hb0] at h
  cases h
def ioF (g:FuncId):Bool:=Nat.beq g 42
def funT (t:TypeId):Bool:=false
theorem funT_ok (t:TypeId) (h:funT t=true):∃ i z u,Tryz.prog.info? t=some i∧i.size=1∧i.zero=some z∧z.cells=#[z]∧Tryz.prog.underlying t=some u∧isAggD u=false:=by
 cases h
def eqT (t:TypeId):Nat:=bif Nat.beq t 107 then 5 else 0
theorem s7 {P:Program} {w:World} {T:TypeId} (hT:(isAgg T).run P w=.ok false w) (cs:Array Value) (i:Nat) (v:Value) (h:cs[i]?=some v):(part T cs i).run P w=.ok v w:=by
 simp[part,hT,h]
theorem eqF {P : Program} {w : World} {d : Nat} (xs ys : List Int) : ∀ (fs : List Field) (i : Nat),(∀ j f,fs[j]? = some f → f.name ≠ "_" ∧ f.offset = i + j ∧ P.underlying f.type = some (.int .i64) ∧ (isAgg f.type).run P w = .ok false w) → i + fs.length = xs.length → xs.length = ys.length →
  (Op.eqFields (d+1) (xs.map (Value.int .i64)).toArray (ys.map (Value.int .i64)).toArray fs).run P w=.ok (xs.drop i==ys.drop i) w
 | [],i,hf,h1,h2=>by
  simp only[List.length_nil,Nat.add_zero] at h1
  rw[List.drop_of_length_le (by omega),List.drop_of_length_le (by omega)]
  simp[Op.eqFields]
 |f::fs,i,hf,h1,h2=>by
  simp only[List.length_cons] at h1
  obtain⟨g1,g2,g3,g4⟩:=hf 0 f rfl
  have hx:i<xs.length:=by omega
  have hy:i<ys.length:=by omega
  have ih:=eqF (P:=P) (w:=w) (d:=d) xs ys fs (i+1) (fun j f' hj=>by
   obtain⟨k1,k2,k3,k4⟩:=hf (j+1) f' hj
   exact⟨k1,by omega,k3,k4⟩) (by omega) h2
  have px:=s7 (T:=f.type) g4 (xs.map (Value.int .i64)).toArray f.offset (.int .i64 xs[i]) (by rw[g2];simp[hx])
  have py:=s7 (T:=f.type) g4 (ys.map (Value.int .i64)).toArray f.offset (.int .i64 ys[i]) (by rw[g2];simp[hy])
  have pe:(Op.equalIn (d+1) f.type (.int .i64 xs[i]) (.int .i64 ys[i])).run P w=.ok (xs[i]==ys[i]) w:=run_equalIn_int w d f.type .i64 .i64 _ _ g3
  rw[List.drop_eq_getElem_cons hx,List.drop_eq_getElem_cons hy]
  simp only[Op.eqFields,if_pos g1,Sem.run_bind,px,py,pe,Result.andThen_ok]
  rw[show(xs[i]::xs.drop (i+1)==ys[i]::ys.drop (i+1))=((xs[i]==ys[i])&&(xs.drop (i+1)==ys.drop (i+1))) from List.cons_beq_cons]
  cases hb:xs[i]==ys[i] with
  |false =>
   rw[Bool.false_and,Bool.not_false,if_pos rfl]
   rfl
  |true =>
   rw[Bool.true_and,Bool.not_true,if_neg (by simp)]
   exact ih
theorem eqT_of {t : TypeId} {n : Nat} (h1 : Tryz.prog.underlying t = some (.struct (Tryz.prog.fieldsOf t))) (h2 : Tryz.prog.stoodInHeld t = false) (h3 : (Tryz.prog.fieldsOf t).size = n) (h4 : (List.range n).all (fun j => match (Tryz.prog.fieldsOf t)[j]? with | some f => f.name != "_" && f.offset == j && f.type == 3 | none => false) = true)
  (xs ys:List Int) (w:World) (hx:xs.length=n) (hy:ys.length=n):(Op.equal t (.agg (xs.map (Value.int .i64)).toArray) (.agg (ys.map (Value.int .i64)).toArray)).run Tryz.prog w=.ok (xs==ys) w:=by
 show(Op.equalIn 10000 t _ _).run Tryz.prog w=_
 rw[run_equalIn_struct w 9999 t _ _ h1 h2]
 have:=eqF (P:=Tryz.prog) (w:=w) (d:=9998) xs ys (Tryz.prog.fieldsOf t).toList 0 (fun j f hj=>by
  rw[Array.getElem?_toList] at hj
  have hjn:j<n:=by have:=(Array.getElem?_eq_some_iff.1 hj).1;omega
  have:=List.all_eq_true.1 h4 j (by simpa using hjn)
  rw[hj] at this
  simp only[Bool.and_eq_true,bne_iff_ne,ne_eq,beq_iff_eq] at this
  obtain⟨⟨a1,a2⟩,a3⟩:=this
  refine⟨a1,by omega,?_,?_⟩
  ·rw[a3];exact Tryz.underlying3
  ·rw[a3];exact sS (E:=⟨Tryz.prog,tyF,tyF_ok,mapF,mapF_ok,by kernel_rfl,IT,IT_mono,ioF,funT,funT_ok,fun _=>0,fun t h=>absurd rfl h⟩) (t:=3) (ti:=ti3) rfl w) (by simp;omega) (by omega)
 simpa using this
theorem eqT_ok (t:TypeId) (h:eqT t≠0):Tryz.prog.eqGuardType Tryz.prog.depth t=false∧∀ (xs ys:List Int) (w:World),xs.length=eqT t→ys.length=eqT t →
  (Op.equal t (.agg (xs.map (Value.int .i64)).toArray) (.agg (ys.map (Value.int .i64)).toArray)).run Tryz.prog w=.ok (xs==ys) w:=by
 unfold eqT at h ⊢
 cases hb:Nat.beq t 107 with
 |true =>
  have:=Nat.eq_of_beq_eq_true hb
  subst this
  exact⟨by kernel_rfl,fun xs ys w hx hy=>eqT_of (n:=5) (by kernel_rfl) (by kernel_rfl) (by kernel_rfl) (by kernel_rfl) xs ys w hx hy⟩
 |false =>
  rw[hb] at h
  exact absurd rfl h
noncomputable abbrev EE:Env:=⟨Tryz.prog,tyF,tyF_ok,mapF,mapF_ok,by kernel_rfl,IT,IT_mono,ioF,funT,funT_ok,eqT,eqT_ok⟩
abbrev i64 (n:Int):AV:=.d (.int .i64 n)
abbrev bv (b:Bool):AV:=.d (.bool b)
abbrev sv (s:List UInt8):AV:=.d (.str s)
abbrev sl (els:List (List D)):AV:=.d (.sl els)
abbrev di (n:Int):D:=.int .i64 n
def ints (l:List Int):List (List D):=l.map fun n=>[di n]
theorem zE {n:Int} (h1:-9223372036854775808≤n) (h2:n≤9223372036854775807):IntKind.i64.wrap n=n:=by rw[IntKind.wrap_i64];omega
end Ai
section
set_option maxRecDepth 100000
namespace Ai
open Go Go.Proofs
theorem v7 {a b:Int} (h:a=b):AV.d (.int .i64 a)=i64 b:=by rw[h]
theorem next_i64 {k n:Nat} (h:k<n) (hn:n≤9223372036854775807):AV.d (.int .i64 (IntKind.i64.wrap ((k:Int)+1)))=i64 ((k+1:Nat):Int) :=
 v7 (by rw[zE (by omega) (by omega)];rfl)
theorem lt_of_dec {k n:Nat} (h:decide ((k:Int)<(n:Int))=true):k<n:=by simpa using h
theorem ge_of_dec {k n:Nat} (h:decide ((k:Int)<(n:Int))=false):n≤k:=by simpa using h
theorem yD {α:Type} {xs:List α} (enc:α→List D) {k n:Nat} (h:k<xs.length) (hl:(enc xs[k]).length=n):0≤(k:Int)∧(xs.map enc)[(k:Int).toNat]?=some (enc xs[k])∧(enc xs[k]).length=n:=⟨by omega,by simp[h],hl⟩
theorem xO {α:Type} {xs:List α} {enc:α→List D} {k:Nat} (h:decide ((k:Int)<((xs.map enc).length:Int))=true):k<xs.length:=by simpa using h
theorem ge_map {α:Type} {xs:List α} {enc:α→List D} {k:Nat} (h:decide ((k:Int)<((xs.map enc).length:Int))=false):xs.length≤k:=by simpa using h
def bE {α:Type} (f:α→Nat) (xs:List α):Nat:=xs.length+(xs.map f).sum
theorem aW (l:List Nat) (k:Nat) (h:k<l.length):(l.take (k+1)).sum=(l.take k).sum+l[k]:=by
 rw[List.take_add_one,List.sum_append,List.getElem?_eq_getElem h];simp
structure OpL where
 code:Int
 a:Int
 b:Int
 v:Nat
structure PctL where
 ranks:List Int
 changes:List Int
structure PairL where
 cell:Int
 one:Int
 two:Int
structure FoundL where
 sign:List UInt8
 picks:List Int
structure ProgL where
 cells:Int
 locks:Int
 conds:Int
 rs:List (List OpL)
structure HuntL where
 p:ProgL
 kept:List PctL
 cov:List PairL
 finds:List FoundL
 tried:Int
def encInt (n:Int):List D:=[di n]
def encOp (o:OpL):List D:=[di o.code,di o.a,di o.b,.flt o.v]
def zO (l:List OpL):List D:=[.sl (l.map encOp)]
def encProg (p:ProgL):List D:=[di p.cells,di p.locks,di p.conds,.sl (p.rs.map zO)]
def agg (l:List D):AV:=.agg (l.map .d)
def ProgL.wf (p:ProgL):Prop:=p.rs.length≤9223372036854775807∧∀ r∈p.rs,r.length≤9223372036854775807
def PctL.wf (s:PctL):Prop:=s.ranks.length≤9223372036854775807∧s.changes.length≤9223372036854775807
def FoundL.wf (f:FoundL):Prop:=f.sign.length≤9223372036854775807∧f.picks.length≤9223372036854775807
def HuntL.wf (h:HuntL):Prop:=h.p.wf∧h.kept.length≤9223372036854775807∧(∀ s∈h.kept,s.wf)∧h.cov.length≤9223372036854775807∧h.finds.length≤9223372036854775807∧∀ f∈h.finds,f.wf
def PctL.size (s:PctL):Nat:=s.ranks.length+s.changes.length
def FoundL.size (f:FoundL):Nat:=f.sign.length+f.picks.length
def ProgL.size (p:ProgL):Nat:=bE List.length p.rs
def HuntL.size (h:HuntL):Nat:=h.p.size+bE PctL.size h.kept+h.cov.length+bE FoundL.size h.finds
def szR (left:Int) (size:Nat) (r:AV):Prop:=∃ n:Int,r=i64 n∧-1≤n∧n≤left∧(0≤n→(size:Int)+n≤left)
end Ai
namespace Ai
open Go
theorem nt {c:Bool} (h:c=false):¬ c=true:=by simp[h]
theorem j6 (x y:Nat):fcmp .neq x y=!fcmp .eql x y:=rfl
end Ai
namespace Ai
theorem kbi {c:Bool} {A B:Prop} (h1:c=true→A) (h2:¬ c=true→B):(c=true→A)∧(c=false→B):=⟨h1,fun h=>h2 (by simp[h])⟩
end Ai
namespace Ai
open Go
noncomputable def pb (P:Prop):Bool:=@decide P (Classical.propDecidable P)
theorem tQ {P:Prop} (h:P):pb P=true:=by simp[pb,h]
theorem x4 {P:Prop} (h:¬ P):pb P=false:=by simp[pb,h]
noncomputable abbrev bp (P:Prop):AV:=bv (pb P)
theorem bpt {P:Prop} (h:P):AV.d (.bool true)=bp P:=by simp only[bp,tQ h]
theorem bpf {P:Prop} (h:¬ P):AV.d (.bool false)=bp P:=by simp only[bp,x4 h]
theorem aF {P:Prop} {G:AV→Prop} (h1:P→G (bv true)) (h2:¬ P→G (bv false)):G (bp P):=by
 by_cases h:P
 ·have:bp P=bv true:=by simp only[bp,tQ h]
  rw[this];exact h1 h
 ·have:bp P=bv false:=by simp only[bp,x4 h]
  rw[this];exact h2 h
theorem qcase {E:Env} {g:FuncId} {ar:List AV} {P:Prop} {G:AV→Prop} (h:CallsTo E g ar (·=bp P)) (h1:P→G (bv true)) (h2:¬ P→G (bv false)):∃ r,CallsTo E g ar (·=r)∧G r:=⟨_,h,aF h1 h2⟩
theorem ocase {E:Env} {g:FuncId} {ar:List AV} {P:Prop} {G:AV→Prop} (h:CallsTo E g ar (·=bp P)) (h1:P→G (bv true)) (h2:¬ P→G (bv false)):∃ R,CallsTo E g ar R∧∀ r,R r→G r :=
 ⟨_,h,fun r hr=>by subst hr;exact aF h1 h2⟩
theorem fcase {E:Env} {g:FuncId} {ar:List AV} {P:Prop} {G:AV→Prop} (h:CallsTo E g ar (·=bp P)) (h1:P→G (bv true)) (h2:¬ P→G (bv false)):∃ R,CallsTo E g ar R∧∀ r,R r→aP r∧G r :=
 ⟨_,h,fun r hr=>⟨by subst hr;rfl,by subst hr;exact aF h1 h2⟩⟩
theorem qO {α:Type} {xs:List α} {p:α→Prop} {k:Nat} (h:∀ x∈xs.take k,p x) (hk:k<xs.length) (hp:p xs[k]):∀ x∈xs.take (k+1),p x:=by
 intro x hx
 rw[List.take_add_one,List.getElem?_eq_getElem hk] at hx
 simp only[Option.toList,List.mem_append,List.mem_singleton] at hx
 rcases hx with hx|hx
 ·exact h x hx
 ·subst hx;exact hp
theorem kQ {α:Type} {xs:List α} {p:α→Prop} {k:Nat} (h:∀ x∈xs.take k,p x) (hk:xs.length≤k):∀ x∈xs,p x:=by
 rw[List.take_of_length_le hk] at h;exact h
theorem kE {α:Type} {xs:List α} {p:α→Prop}:∀ x∈xs.take 0,p x:=by simp
end Ai
end
namespace Ai
set_option maxRecDepth 100000
open Go Go.Proofs
theorem r4 {α:Type} (xs:List α) (enc:α→List D) (z:List D) (k sz:Nat) (h:k<xs.length) (hs:(enc xs[k]).length=sz) :
  vJ ((xs.take k).map enc++List.replicate (xs.length - k) z) sz (0+(k:Int).toNat) 0 (enc xs[k])=(xs.take (k+1)).map enc++List.replicate (xs.length - (k+1)) z:=by
 have e:vJ ((xs.take k).map enc++List.replicate (xs.length - k) z) sz (0+(k:Int).toNat) 0 (enc xs[k])=((xs.take k).map enc++List.replicate (xs.length - k) z).set k (enc xs[k]):=by
  unfold vJ
  rw[hs,nbeq_self,nbeq_self]
  simp
 rw[e,List.set_append]
 have hl:((xs.take k).map enc).length=k:=by simp;omega
 rw[if_neg (by omega),hl,Nat.sub_self]
 have:xs.length - k=(xs.length - (k+1))+1:=by omega
 rw[this,List.replicate_succ,List.set_cons_zero,List.take_add_one,List.getElem?_eq_getElem h,List.map_append]
 simp only[Option.toList,List.map_cons,List.map_nil,List.append_assoc,List.singleton_append]
theorem set_end {α:Type} (xs:List α) (enc:α→List D) (z:List D) (k n:Nat) (h:xs.length≤k) (hk:k≤xs.length) (hn:n=xs.length):((xs.take k).map enc++List.replicate (xs.length - k) z).take n=xs.map enc:=by
 have:k=xs.length:=by omega
 subst this;subst hn
 simp
 exact List.take_of_length_le (by simp)
theorem toOp_ok (x:OpL):CallsTo EE 104 [agg (encOp x)] (·=agg (encOp x)):=by
 refine callsTo_of_AW (fn:=Tryz.f104) Tryz.func104 rfl (by kernel_rfl) rfl ?_
 conv=>whnf
 rfl
theorem p6 (xs:List OpL) (hx:xs.length≤1048576):CallsTo EE 63 [sl (xs.map encOp)] (·=.uq 102 4 (xs.map encOp)):=by
 refine callsTo_of_AW (fn:=Tryz.f63) Tryz.func63 rfl (by kernel_rfl) rfl ?_
 conv=>whnf
 refine⟨by simp;omega,?_⟩
 conv=>whnf
 refine yV (fun k:Nat=>[(0,sl (xs.map encOp)),(3,.ref 7 0 (xs.map encOp).length),(4,i64 k)]) (fun k=>[(7,.ds 102 4 ((xs.take k).map encOp++List.replicate (xs.length - k) [di 0,di 0,di 0,.flt 0]))]) (fun k=>xs.length - k) (fun k=>k≤xs.length) 0 .refl ⟨rfl,by simp[put,St.new,St.setH,St.kill];rfl,rfl,trivial⟩ ⟨?_,trivial⟩ (Nat.zero_le _) ?_
 ·simp[put,St.new,St.setH,St.kill,r6];rfl
 intro k τ H hk
 conv=>whnf
 refine⟨fun h=>?_,fun h=>?_⟩
 ·have hlt:=xO h
  conv=>whnf
  refine⟨encOp xs[k],yD encOp hlt rfl,?_⟩
  conv=>whnf
  refine⟨_,toOp_ok xs[k],?_⟩
  rintro r rfl
  conv=>whnf
  refine⟨⟨by omega,by simp;omega⟩,?_⟩
  conv=>whnf
  refine⟨k+1,by omega,by show xs.length - (k+1)<xs.length - k;omega,⟨rfl,rfl,next_i64 hlt (by omega),trivial⟩,⟨?_,trivial⟩⟩
  exact congrArg (fun l=>some (Ob.ds 102 4 l)) (r4 xs encOp [di 0,di 0,di 0,.flt 0] k 4 hlt rfl)
 ·have hge:=ge_map h
  conv=>whnf
  exact congrArg (AV.uq 102 4) (set_end xs encOp [di 0,di 0,di 0,.flt 0] k _ hge hk (by simp))
theorem toOpSS_ok (xs:List (List OpL)) (hx:xs.length≤1048576) (hx2:∀ x∈xs,x.length≤1048576):CallsTo EE 32 [sl (xs.map zO)] (·=.uq 99 1 (xs.map zO)):=by
 refine callsTo_of_AW (fn:=Tryz.f32) Tryz.func32 rfl (by kernel_rfl) rfl ?_
 conv=>whnf
 refine⟨by simp;omega,?_⟩
 conv=>whnf
 refine yV (fun k:Nat=>[(0,sl (xs.map zO)),(3,.ref 7 0 (xs.map zO).length),(4,i64 k)]) (fun k=>[(7,.ds 99 1 ((xs.take k).map zO++List.replicate (xs.length - k) [.nil]))]) (fun k=>xs.length - k) (fun k=>k≤xs.length) 0 .refl ⟨rfl,by simp[put,St.new,St.setH,St.kill];rfl,rfl,trivial⟩ ⟨?_,trivial⟩ (Nat.zero_le _) ?_
 ·simp[put,St.new,St.setH,St.kill,r6];rfl
 intro k τ H hk
 conv=>whnf
 refine⟨fun h=>?_,fun h=>?_⟩
 ·have hlt:=xO h
  conv=>whnf
  refine⟨zO xs[k],yD zO hlt rfl,?_⟩
  conv=>whnf
  refine⟨_,p6 xs[k] (hx2 _ (List.getElem_mem hlt)),?_⟩
  rintro r rfl
  conv=>whnf
  refine .inl ?_
  conv=>whnf
  refine⟨⟨by omega,by simp;omega⟩,?_⟩
  conv=>whnf
  refine⟨k+1,by omega,by show xs.length - (k+1)<xs.length - k;omega,⟨rfl,rfl,next_i64 hlt (by omega),trivial⟩,⟨?_,trivial⟩⟩
  exact congrArg (fun l=>some (Ob.ds 99 1 l)) (r4 xs zO [.nil] k 1 hlt rfl)
 ·have hge:=ge_map h
  conv=>whnf
  exact congrArg (AV.uq 99 1) (set_end xs zO [.nil] k _ hge hk (by simp))
theorem kY (p:ProgL) (h:p.rs.length≤1048576∧∀ x∈p.rs,x.length≤1048576):CallsTo EE 10 [agg (encProg p)] (·=agg (encProg p)):=by
 refine callsTo_of_AW (fn:=Tryz.f10) Tryz.func10 rfl (by kernel_rfl) rfl ?_
 conv=>whnf
 refine⟨_,toOpSS_ok _ h.1 h.2,?_⟩
 rintro r rfl
 refine .inl ?_
 conv=>whnf
 rfl
def HuntL.small (h:HuntL):Prop:=(h.p.rs.length≤1048576∧∀ x∈h.p.rs,x.length≤1048576)∧(h.kept.length≤1048576∧∀ x∈h.kept,x.ranks.length≤1048576∧x.changes.length≤1048576)∧h.cov.length≤1048576∧(h.finds.length≤1048576∧∀ x∈h.finds,x.picks.length≤1048576)
end Ai
namespace Ai
set_option maxRecDepth 100000
open Go Go.Proofs
def InR (n lo hi:Int):Prop:=lo≤n∧n≤hi
theorem qR (n lo hi:Int):CallsTo EE 55 [i64 n,i64 lo,i64 hi] (·=bp (InR n lo hi)):=by
 refine callsTo_of_AW (fn:=Tryz.f55) Tryz.func55 rfl (by kernel_rfl) rfl ?_
 conv=>whnf
 repeat' (refine kbi (fun h=>?_) (fun h=>?_) <;> first|contradiction|conv=>whnf)
 all_goals simp only[decide_eq_true_eq] at *
 all_goals first|exact bpt (by unfold InR;omega)|exact bpf (by unfold InR;omega)
def PairL.good (x:PairL):Prop:=InR x.cell 0 99∧InR x.one 0 999∧InR x.two 0 999
theorem l1Has_ok (xs:List Int) (n:Int) (hx:xs.length≤1048576):CallsTo EE 117 [sl (xs.map encInt),i64 n] (·=bp (n∈xs)):=by
 refine callsTo_of_AW (fn:=Tryz.f117) Tryz.func117 rfl (by kernel_rfl) rfl ?_
 conv=>whnf
 refine yV (fun k:Nat=>[(1,i64 n),(7,sl (xs.map encInt)),(8,i64 (xs.map encInt).length),(9,i64 k)]) (fun k=>[]) (fun k=>xs.length - k) (fun k=>k≤xs.length∧∀ x∈xs.take k,x≠n) 0 .refl ⟨rfl,rfl,rfl,rfl,trivial⟩ trivial ⟨Nat.zero_le _,kE⟩ ?_
 rintro k τ H ⟨hk,ih⟩
 conv=>whnf
 refine kbi (fun h=>?_) (fun h=>?_)
 ·have hlt:=xO h
  conv=>whnf
  refine⟨encInt xs[k],yD encInt hlt rfl,?_⟩
  conv=>whnf
  refine kbi (fun h=>?_) (fun h=>?_)
  ·conv=>whnf
   refine bpt ?_
   simp at h
   exact h▸List.getElem_mem hlt
  ·conv=>whnf
   simp at h
   exact⟨k+1,⟨by omega,qO ih hlt h⟩,by show xs.length - (k+1)<xs.length - k;omega,⟨rfl,rfl,rfl,next_i64 hlt (by omega),trivial⟩,trivial⟩
 ·conv=>whnf
  refine bpf fun hm=>?_
  exact kQ ih (by simp at h;omega) n hm rfl
def AllIn (xs:List Int) (lo hi:Int):Prop:=∀ x∈xs,InR x lo hi
theorem l1All_ok (xs:List Int) (lo hi:Int) (hx:xs.length≤1048576):CallsTo EE 95 [sl (xs.map encInt),i64 lo,i64 hi] (·=bp (AllIn xs lo hi)):=by
 refine callsTo_of_AW (fn:=Tryz.f95) Tryz.func95 rfl (by kernel_rfl) rfl ?_
 conv=>whnf
 refine yV (fun k:Nat=>[(1,i64 lo),(2,i64 hi),(9,sl (xs.map encInt)),(10,i64 (xs.map encInt).length),(11,i64 k)]) (fun k=>[]) (fun k=>xs.length - k) (fun k=>k≤xs.length∧∀ x∈xs.take k,InR x lo hi) 0 .refl ⟨rfl,rfl,rfl,rfl,rfl,trivial⟩ trivial ⟨Nat.zero_le _,kE⟩ ?_
 rintro k τ H ⟨hk,ih⟩
 conv=>whnf
 refine kbi (fun h=>?_) (fun h=>?_)
 ·have hlt:=xO h
  conv=>whnf
  refine⟨encInt xs[k],yD encInt hlt rfl,?_⟩
  conv=>whnf
  refine ocase (qR _ _ _) (fun h=>?_) (fun h=>?_)
  ·conv=>whnf
   exact⟨k+1,⟨by omega,qO ih hlt h⟩,by show xs.length - (k+1)<xs.length - k;omega,⟨rfl,rfl,rfl,rfl,next_i64 hlt (by omega),trivial⟩,trivial⟩
  ·conv=>whnf
   exact bpf fun hm=>h (hm _ (List.getElem_mem hlt))
 ·conv=>whnf
  exact bpt (kQ ih (by simp at h;omega))
def Rise (xs:List Int) (lo hi:Int):Prop:=∀ (i:Nat) (h:i<xs.length),InR xs[i] lo hi∧∀ (j:Nat) (hj:j+1=i),xs[j]<xs[i]
end Ai
namespace Ai
set_option maxRecDepth 100000
open Go Go.Proofs
theorem l1Has_at (ys:List (List D)) (xs:List Int) (n:Int) (hy:ys=xs.map encInt) (hx:xs.length≤1048576):CallsTo EE 117 [sl ys,i64 n] (·=bp (n∈xs)):=hy▸l1Has_ok xs n hx
def PctL.goodS (s:PctL):Prop:=s.ranks.length=5∧AllIn s.ranks 0 4∧(∀ (k:Nat) (h:k<s.ranks.length),s.ranks[k] ∉ s.ranks.take k)∧s.changes.length≤4∧Rise s.changes 0 199
def PairL.key (x:PairL):Int:=x.cell*1000000+x.one*1000+x.two
def PairsR (xs:List PairL):Prop:=(∀ (i:Nat) (h:i<xs.length),xs[i].good∧∀ (j:Nat) (hj:j+1=i),xs[j].key<xs[i].key)∧xs.length≤200
def Picks (xs:List Int):Prop:=xs.length≤200∧AllIn xs 0 999
end Ai
namespace Ai
set_option maxRecDepth 100000
open Go Go.Proofs Ieee
theorem gF:double.read 0=.number false 0 double.leastPlace:=by decide
theorem order_zero {v:Nat} (hv:v<18446744073709551616) (h:double.order v 0=some .eq):v=0∨v=9223372036854775808:=by
 unfold Format.order at h
 rw[gF] at h
 unfold Format.read at h
 have e1:double.signWeight=9223372036854775808:=by decide
 have e2:double.binade=4503599627370496:=by decide
 rw[e1,e2] at h
 simp only at h
 split at h
 ·simp only[Datum.order,Option.some.injEq] at h
  have hb:(Min.min double.leastPlace double.leastPlace)=double.leastPlace:=by decide
  rw[hb,Int.sub_self] at h
  have h2:=Std.LawfulEqCmp.eq_of_compare h
  simp only[signed] at h2
  have hs:v % 9223372036854775808=0:=by
   split at h2
   ·simp at h2;omega
   ·simp at h2;omega
  omega
 ·split at h
  ·simp only[Datum.order,Option.some.injEq] at h
   have h2:=Std.LawfulEqCmp.eq_of_compare h
   simp only[signed] at h2
   exfalso
   split at h2
   ·simp[Nat.shiftLeft_eq] at h2
    rcases Int.mul_eq_zero.1 h2 with h3|h3
    ·omega
    ·exact absurd h3 (Int.ne_of_gt (Int.pow_pos (by decide)))
   ·simp[Nat.shiftLeft_eq] at h2
    rcases Int.mul_eq_zero.1 h2 with h3|h3
    ·omega
    ·exact absurd h3 (Int.ne_of_gt (Int.pow_pos (by decide)))
  ·split at h
   ·simp only[Datum.order,Option.some.injEq] at h
    split at h <;> cases h
   ·cases h
theorem lI (v:Nat):fcmp .neq v v=zM v:=by
 unfold fcmp zM Format.order
 simp only
 cases h:double.read v with
 |nan s f=>rfl
 |infinity s=>cases s <;> rfl
 |number s m e=>simp[Datum.order,Datum.isNaN,Std.ReflCmp.compare_self]
def kC (x:Nat):Prop:=fcmp .lss x 0=true∨(fcmp .eql x 0=true∧fcmp .lss (fop .quo 4607182418800017408 x) 0=true)
theorem vX (x:Nat):CallsTo EE 198 [.d (.flt x)] (·=bp (zM x=true)):=by
 refine callsTo_of_AW (fn:=Tryz.f198) Tryz.func198 rfl (by kernel_rfl) rfl ?_
 conv=>whnf
 refine kbi (fun h=>?_) (fun h=>?_)
 ·conv=>whnf
  exact bpt (by rw[← lI];exact h)
 ·conv=>whnf
  exact bpf (by rw[← lI];exact h)
theorem qM (x:Nat):CallsTo EE 192 [.d (.flt x)] (·=bp (kC x)):=by
 refine callsTo_of_AW (fn:=Tryz.f192) Tryz.func192 rfl (by kernel_rfl) rfl ?_
 conv=>whnf
 repeat' (refine kbi (fun h=>?_) (fun h=>?_) <;> first|contradiction|conv=>whnf)
 ·exact bpt (.inl h)
 ·rename_i h1 h2
  exact bpt (.inr ⟨h2,h⟩)
 ·rename_i h1 h2
  exact bpf (fun hm=>hm.elim (fun a=>h1 a) fun a=>h a.2)
 ·rename_i h1
  exact bpf (fun hm=>hm.elim (fun a=>h1 a) fun a=>h a.1)
theorem zero_iff {v:Nat} (hv:v<18446744073709551616) (hn:¬ zM v=true):(fcmp .eql v 0=true∧(kC v↔kC 0))↔v=0:=by
 constructor
 ·rintro⟨h1,h2⟩
  have h3:double.order v 0=some .eq:=by simpa[fcmp] using h1
  rcases order_zero hv h3 with h4|h4
  ·exact h4
  ·subst h4
   exfalso
   have m1:kC 9223372036854775808:=.inr ⟨by decide,by decide⟩
   have m0:¬ kC 0:=by unfold kC;decide
   exact m0 (h2.1 m1)
 ·rintro rfl
  exact⟨by decide,Iff.rfl⟩
theorem eB (v:Nat) (hv:v<18446744073709551616):CallsTo EE 143 [.d (.flt v),.d (.flt 0)] (·=bp (v=0)):=by
 refine callsTo_of_AW (fn:=Tryz.f143) Tryz.func143 rfl (by kernel_rfl) rfl ?_
 conv=>whnf
 refine ocase (vX v) (fun h=>?_) (fun h=>?_)
 ·conv=>whnf
  refine ocase (vX v) (fun h2=>?_) (fun h2=>?_)
  ·conv=>whnf
   refine ocase (vX 0) (fun h3=>?_) (fun h3=>?_)
   ·exact absurd h3 (by decide)
   ·conv=>whnf
    exact bpf fun e=>h3 (e▸h)
  ·exact absurd h h2
 ·conv=>whnf
  refine ocase (vX 0) (fun h3=>?_) (fun h3=>?_)
  ·exact absurd h3 (by decide)
  ·conv=>whnf
   refine kbi (fun h4=>?_) (fun h4=>?_)
   ·conv=>whnf
    refine ocase (qM v) (fun h5=>?_) (fun h5=>?_)
    ·conv=>whnf
     refine ocase (qM 0) (fun h6=>?_) (fun h6=>?_)
     ·exact absurd h6 (by unfold kC;decide)
     ·conv=>whnf
      refine kbi (fun h7=>?_) (fun h7=>?_)
      ·exact absurd h7 (by decide)
      ·conv=>whnf
       exact bpf fun e=>by subst e;exact h6 h5
    ·conv=>whnf
     refine ocase (qM 0) (fun h6=>?_) (fun h6=>?_)
     ·exact absurd h6 (by unfold kC;decide)
     ·conv=>whnf
      refine kbi (fun h7=>?_) (fun h7=>?_)
      ·conv=>whnf
       exact bpt ((zero_iff hv h).1 ⟨h4,⟨fun a=>absurd a h5,fun a=>absurd a h6⟩⟩)
      ·exact absurd (by decide) h7
   ·conv=>whnf
    exact bpf fun e=>h4 (by subst e;decide)
end Ai
namespace Ai
set_option maxRecDepth 100000
open Go Go.Proofs
def dP (c:Int):Prop:=c=2∨c=3∨c=10∨c=11∨c=12∨c=13∨c=14∨c=17
def bD (c:Int):List UInt8:=if c=1 then [118] else if c=2∨c=3∨c=10∨c=11∨c=12∨c=13∨c=14∨c=17 then [97] else if c=16 then [97,98] else []
theorem l2Uses_ok (c:Int):CallsTo EE 142 [i64 c] (·=sv (bD c)):=by
 refine callsTo_of_AW (fn:=Tryz.f142) Tryz.func142 rfl (by kernel_rfl) rfl ?_
 conv=>whnf
 repeat' (refine kbi (fun h=>?_) (fun h=>?_) <;> first|contradiction|conv=>whnf)
 all_goals simp only[beq_iff_eq] at *
 all_goals subst_vars
 all_goals first|rfl|(simp[bD,sv, *];done)
def OpL.plainS (o:OpL):Prop:=InR o.code 1 17∧InR o.a 0 999∧InR o.b 0 999∧(o.code=1∨o.v=0)∧(dP o.code∨o.code=16∨o.a=0)∧(o.code=16∨o.b=0)
theorem u1 (c:Int):bD c=[118]↔c=1:=by
 unfold bD;split
 ·simp[*]
 ·split
  ·simp[*]
  ·split <;> simp[*]
theorem u2 (c:Int):bD c=[97]↔dP c:=by
 unfold bD dP;split
 ·rename_i h;subst h;simp
 ·split
  ·simp[*]
  ·split <;> simp[*]
theorem u3 (c:Int):bD c=[97,98]↔c=16:=by
 unfold bD;split
 ·rename_i h;subst h;simp
 ·split
  ·rename_i h;constructor
   ·intro h2;simp at h2
   ·intro h2;omega
  ·split <;> simp[*]
theorem l2Plain_ok (o:OpL) (hv:o.v<18446744073709551616):CallsTo EE 94 [agg (encOp o)] (·=bp o.plainS):=by
 refine callsTo_of_AW (fn:=Tryz.f94) Tryz.func94 rfl (by kernel_rfl) rfl ?_
 conv=>whnf
 refine⟨_,l2Uses_ok _,?_⟩
 rintro r rfl
 conv=>whnf
 repeat' first
  |(refine kbi (fun h=>?_) (fun h=>?_) <;> first|contradiction|conv=>whnf)
  |(refine ocase (qR _ _ _) (fun h=>?_) (fun h=>?_) <;> first|contradiction|conv=>whnf)
  |(refine ocase (eB _ hv) (fun h=>?_) (fun h=>?_) <;> first|contradiction|conv=>whnf)
 all_goals try simp only[u1,u2,u3,beq_iff_eq] at *
 all_goals first|exact bpt (by unfold OpL.plainS;simp_all)|exact bpf (by unfold OpL.plainS;simp_all)
def OpL.atS (p:ProgL) (long:Int) (o:OpL):Prop:=((o.code=2∨o.code=3)→o.a<p.cells)∧((o.code=10∨o.code=11)→o.a≤long)∧((o.code=12∨o.code=13)→o.a<p.locks)∧(o.code=14→o.a<p.rs.length)∧(o.code=16→o.a<p.conds∧o.b<p.locks)∧(o.code=17→o.a<p.conds)
def OpL.goodS (p:ProgL) (long:Int) (o:OpL):Prop:=o.plainS∧o.atS p long
theorem l2Op_ok (p:ProgL) (long:Int) (o:OpL) (hv:o.v<18446744073709551616):CallsTo EE 56 [agg (encProg p),i64 long,agg (encOp o)] (·=bp (o.goodS p long)):=by
 refine callsTo_of_AW (fn:=Tryz.f56) Tryz.func56 rfl (by kernel_rfl) rfl ?_
 conv=>whnf
 refine ocase (l2Plain_ok o hv) (fun h0=>?_) (fun h0=>?_)
 rotate_left
 ·conv=>whnf
  exact bpf fun hm=>h0 hm.1
 conv=>whnf
 repeat' (refine kbi (fun h=>?_) (fun h=>?_) <;> first|contradiction|conv=>whnf)
 all_goals simp only[beq_iff_eq,decide_eq_true_eq,List.length_map] at *
 all_goals first
  |exact bpt ⟨h0,by unfold OpL.atS;refine⟨?_,?_,?_,?_,?_,?_⟩ <;> intros <;> omega⟩
  |exact bpf fun hm=>by
    obtain⟨_,a1,a2,a3,a4,a5,a6⟩:=hm
    omega
def ProgL.headS (p:ProgL):Prop:=InR p.cells 0 4∧InR p.locks 0 4∧InR p.conds 0 2∧InR p.rs.length 1 4
def ProgL.goodS (p:ProgL):Prop:=p.headS∧∀ r∈p.rs,(∀ o∈r,o.goodS p r.length)∧r.length≤24
def ProgL.flt (p:ProgL):Prop:=∀ r∈p.rs,∀ o∈r,o.v<18446744073709551616
theorem nM (p:ProgL) (hs:p.rs.length≤1048576∧∀ x∈p.rs,x.length≤1048576) (hv:p.flt):CallsTo EE 29 [agg (encProg p)] (·=bp p.goodS):=by
 refine callsTo_of_AW (fn:=Tryz.f29) Tryz.func29 rfl (by kernel_rfl) rfl ?_
 conv=>whnf
 refine ocase (qR _ _ _) (fun h1=>?_) (fun h1=>?_)
 rotate_left
 ·conv=>whnf
  exact bpf fun hm=>h1 hm.1.1
 conv=>whnf
 refine ocase (qR _ _ _) (fun h2=>?_) (fun h2=>?_)
 rotate_left
 ·conv=>whnf
  exact bpf fun hm=>h2 hm.1.2.1
 conv=>whnf
 refine ocase (qR _ _ _) (fun h3=>?_) (fun h3=>?_)
 rotate_left
 ·conv=>whnf
  exact bpf fun hm=>h3 hm.1.2.2.1
 conv=>whnf
 refine ocase (qR _ _ _) (fun h4=>?_) (fun h4=>?_)
 rotate_left
 ·conv=>whnf
  exact bpf fun hm=>h4 (by simpa using hm.1.2.2.2)
 have hh:p.headS:=⟨h1,h2,h3,by simpa using h4⟩
 conv=>whnf
 refine yV (fun k:Nat=>[(1,.ptr 1 0),(31,sl (p.rs.map zO)),(32,i64 (p.rs.map zO).length),(33,i64 k)]) (fun k=>[(1,.vs 39 ((encProg p).map .d))]) (fun k=>p.rs.length - k) (fun k=>k≤p.rs.length∧∀ r∈p.rs.take k,(∀ o∈r,o.goodS p r.length)∧r.length≤24) 0 .refl ⟨rfl,rfl,rfl,rfl,trivial⟩ ⟨rfl,trivial⟩ ⟨Nat.zero_le _,kE⟩ ?_
 rintro k τ H ⟨hk,ih⟩
 conv=>whnf
 refine kbi (fun h=>?_) (fun h=>?_)
 ·have hlt:=xO h
  conv=>whnf
  refine⟨zO p.rs[k],yD zO hlt rfl,?_⟩
  conv=>whnf
  have hrl:=hs.2 _ (List.getElem_mem hlt)
  refine yV (fun j:Nat=>[(1,.ptr 1 0),(31,sl (p.rs.map zO)),(32,i64 (p.rs.map zO).length),(33,i64 k),(4,sl (p.rs[k].map encOp)),(37,sl (p.rs[k].map encOp)),(38,i64 (p.rs[k].map encOp).length),(39,i64 j)]) (fun j=>[(1,.vs 39 ((encProg p).map .d))]) (fun j=>p.rs[k].length - j) (fun j=>j≤p.rs[k].length∧∀ o∈p.rs[k].take j,o.goodS p p.rs[k].length) 0 .refl ⟨rfl,rfl,rfl,rfl,rfl,rfl,rfl,rfl,trivial⟩ ⟨rfl,trivial⟩ ⟨Nat.zero_le _,kE (xs:=p.rs[k])⟩ ?_
  rintro j τ2 H2 ⟨hj,ih2⟩
  conv=>whnf
  refine kbi (fun h5=>?_) (fun h5=>?_)
  ·have hlt2:=xO h5
   conv=>whnf
   refine⟨encOp p.rs[k][j],yD encOp hlt2 rfl,?_⟩
   conv=>whnf
   have hop:CallsTo EE 56 [agg (encProg p),i64 (p.rs[k].map encOp).length,agg (encOp p.rs[k][j])] (·=bp (p.rs[k][j].goodS p p.rs[k].length)):=by
    rw[List.length_map]
    exact l2Op_ok p _ _ (hv _ (List.getElem_mem hlt) _ (List.getElem_mem hlt2))
   refine ocase hop (fun h6=>?_) (fun h6=>?_)
   ·conv=>whnf
    exact⟨j+1,⟨by omega,qO ih2 hlt2 h6⟩,by show p.rs[k].length - (j+1)<p.rs[k].length - j;omega,⟨rfl,rfl,rfl,rfl,rfl,rfl,rfl,next_i64 hlt2 (by omega),trivial⟩,⟨rfl,trivial⟩⟩
   ·conv=>whnf
    exact bpf fun hm=>h6 ((hm.2 _ (List.getElem_mem hlt)).1 _ (List.getElem_mem hlt2))
  ·have hge2:p.rs[k].length≤j:=by simpa using h5
   have hall:=kQ ih2 hge2
   conv=>whnf
   refine kbi (fun h7=>?_) (fun h7=>?_)
   ·conv=>whnf
    refine bpf fun hm=>?_
    have:=(hm.2 _ (List.getElem_mem hlt)).2
    simp at h7
    omega
   ·conv=>whnf
    simp at h7
    exact⟨k+1,⟨by omega,qO ih hlt ⟨hall,by omega⟩⟩,by show p.rs.length - (k+1)<p.rs.length - k;omega,⟨rfl,rfl,rfl,next_i64 hlt (by omega),trivial⟩,⟨rfl,trivial⟩⟩
 ·have hge:p.rs.length≤k:=by simpa using h
  conv=>whnf
  exact bpt ⟨hh,kQ ih hge⟩
end Ai
namespace Ai
set_option maxRecDepth 100000
open Go Go.Proofs
def FindsR (xs:List FoundL):Prop:=∀ (i:Nat) (h:i<xs.length),Picks xs[i].picks∧∀ x∈xs.take i,x.sign≠xs[i].sign
def HuntL.goodS (h:HuntL):Prop:=(∀ s∈h.kept,s.goodS)∧h.p.goodS∧h.kept.length≤30∧PairsR h.cov∧FindsR h.finds∧InR h.tried 0 60
end Ai
namespace Ai
set_option maxRecDepth 100000
open Go Go.Proofs
theorem wW (u n:Nat) (hn:1≤n) (h:u<10 ^ n):(Lib.decDigits u).length≤n:=by
 induction n generalizing u with
 |zero=>omega
 |succ n ih =>
  by_cases hu:u<10
  ·rw[Lib.decDigits,dif_pos hu];simp
  ·rw[Lib.decDigits,dif_neg hu]
   have:1≤n:=by
    rcases Nat.eq_zero_or_pos n with h0|h0
    ·subst h0;simp at h;omega
    ·exact h0
   have:=ih (u / 10) this (by rw[Nat.pow_succ] at h;omega)
   simp;omega
theorem aD (n:Nat) (h:n<10):UInt8.ofNat (IntKind.u8.wrap (48+(n:Int))).toNat=UInt8.ofNat (48+n):=by
 have:IntKind.u8.wrap (48+(n:Int))=((48+n:Nat):Int):=by
  rw[IntKind.wrap_u8];omega
 rw[this];rfl
theorem l1Num_nat:∀ (n:Nat),n≤9223372036854775807→CallsTo EE 60 [i64 n] (·=sv (Lib.decDigits n)):=by
 intro n
 induction n using Nat.strongRecOn with
 | _ n ih =>
  intro hn
  refine callsTo_of_AW (fn:=Tryz.f60) Tryz.func60 rfl (by kernel_rfl) rfl ?_
  conv=>whnf
  refine kbi (fun h=>?_) (fun h=>?_)
  ·have hlt:n<10:=by simp at h;omega
   conv=>whnf
   refine⟨[48+(n:Int)].map fun m=>IntKind.u8.wrap m,?_,?_⟩
   ·rw[zE (by omega) (by omega)];rfl
   conv=>whnf
   rw[Lib.decDigits,dif_pos hlt]
   exact congrArg (fun b=>sv [b]) (aD n hlt)
  ·have hge:10≤n:=by simp at h;omega
   conv=>whnf
   refine⟨by kernel_rfl,?_⟩
   conv=>whnf
   refine⟨by omega,?_⟩
   conv=>whnf
   have e1:IntKind.i64.wrap ((n:Int).tdiv 10)=((n / 10:Nat):Int):=by
    rw[zE]
    ·rw[Int.tdiv_eq_ediv_of_nonneg (by omega)];omega
    ·rw[Int.tdiv_eq_ediv_of_nonneg (by omega)];omega
    ·rw[Int.tdiv_eq_ediv_of_nonneg (by omega)];omega
   have hc:=ih (n / 10) (by omega) (by omega)
   rw[← e1] at hc
   refine⟨_,hc,?_⟩
   conv=>whnf
   refine⟨by omega,?_⟩
   conv=>whnf
   have e2:(n:Int).tmod 10=((n % 10:Nat):Int):=by rw[Int.tmod_eq_emod_of_nonneg (by omega)];omega
   refine⟨[48+((n % 10:Nat):Int)].map fun m=>IntKind.u8.wrap m,?_,?_⟩
   ·rw[e2,zE (by omega) (by omega)];rfl
   conv=>whnf
   refine⟨?_,?_⟩
   ·have:=wW (n / 10) 19 (by omega) (by omega)
    simp;omega
   conv=>whnf
   conv=>rhs;rw[Lib.decDigits,dif_neg (by omega)]
   exact congrArg (fun b=>sv (Lib.decDigits (n / 10)++[b])) (aD (n % 10) (by omega))
theorem gM (n:Int) (h0:0≤n) (h1:n≤9223372036854775807):CallsTo EE 60 [i64 n] (·=sv (Lib.decDigits n.toNat)):=by
 have:=l1Num_nat n.toNat (by omega)
 rwa [Int.toNat_of_nonneg h0] at this
def txt (xs:List Int):List UInt8:=Lib.join (xs.map fun n=>Lib.decDigits n.toNat) [44]
theorem eC (sep x:List UInt8) (r:List (List UInt8)):Lib.joinTail sep (r++[x])=Lib.joinTail sep r++(sep++x):=by simp[Lib.joinTail]
theorem txt_nil:txt []=[]:=rfl
theorem txt_one (xs:List Int) (h:0<xs.length):txt (xs.take (0+1))=Lib.decDigits (xs[0]).toNat:=by
 rw[List.take_add_one,List.getElem?_eq_getElem h]
 simp[txt,Lib.join_one]
theorem n9 (xs:List Int) (k:Nat) (h:k<xs.length) (hk:0<k):txt (xs.take (k+1))=txt (xs.take k)++[44]++Lib.decDigits (xs[k]).toNat:=by
 rw[List.take_add_one,List.getElem?_eq_getElem h]
 generalize xs[k]=x
 cases xs with
 |nil=>simp at h
 |cons y ys =>
  obtain⟨j,rfl⟩:∃ j,k=j+1:=⟨k - 1,by omega⟩
  simp only[txt,List.take_succ_cons,List.map_append,List.map_cons,List.cons_append,Lib.join_cons,Option.toList,List.map_nil]
  rw[eC]
  simp
theorem z6 (xs:List Int) (hp:∀ x∈xs,InR x 0 999):∀ k,k≤xs.length→(txt (xs.take k)).length≤4*k:=by
 intro k
 induction k with
 |zero=>intro _;simp[txt_nil]
 |succ k ih =>
  intro hk
  have hlt:k<xs.length:=by omega
  have:=ih (by omega)
  have hd:(Lib.decDigits (xs[k]).toNat).length≤3:=wW _ 3 (by omega) (by have:=hp _ (List.getElem_mem hlt);unfold InR at this;omega)
  rcases Nat.eq_zero_or_pos k with h0|h0
  ·subst h0;rw[txt_one _ hlt];omega
  ·rw[n9 _ _ hlt h0];simp;omega
theorem l4List_ok (xs:List Int) (hp:Picks xs):CallsTo EE 62 [sl (xs.map encInt)] (·=sv (txt xs)):=by
 have hx:=hp.1
 refine callsTo_of_AW (fn:=Tryz.f62) Tryz.func62 rfl (by kernel_rfl) rfl ?_
 conv=>whnf
 refine yV (fun k:Nat=>[(3,sv (txt (xs.take k))),(6,sl (xs.map encInt)),(7,i64 (xs.map encInt).length),(8,i64 k)]) (fun k=>[]) (fun k=>xs.length - k) (fun k=>k≤xs.length) 0 .refl ⟨rfl,rfl,rfl,rfl,trivial⟩ trivial (Nat.zero_le _) ?_
 rintro k τ H hk
 conv=>whnf
 refine kbi (fun h=>?_) (fun h=>?_)
 ·have hlt:=xO h
  have hr:=hp.2 _ (List.getElem_mem hlt)
  unfold InR at hr
  have htl:=z6 xs hp.2 k hk
  have hd:(Lib.decDigits (xs[k]).toNat).length≤3:=wW _ 3 (by omega) (by omega)
  conv=>whnf
  refine⟨encInt xs[k],yD encInt hlt rfl,?_⟩
  conv=>whnf
  refine kbi (fun h2=>?_) (fun h2=>?_)
  ·simp at h2
   conv=>whnf
   refine⟨?_,?_⟩
   ·simp;omega
   conv=>whnf
   refine⟨_,gM _ hr.1 (by omega),?_⟩
   rintro r rfl
   conv=>whnf
   refine⟨?_,?_⟩
   ·simp;omega
   conv=>whnf
   refine⟨k+1,by omega,by show xs.length - (k+1)<xs.length - k;omega,⟨?_,rfl,rfl,next_i64 hlt (by omega),trivial⟩,trivial⟩
   exact congrArg sv (n9 xs k hlt (by omega)).symm
  ·simp at h2
   subst h2
   conv=>whnf
   refine⟨_,gM _ hr.1 (by omega),?_⟩
   rintro r rfl
   conv=>whnf
   refine⟨?_,?_⟩
   ·simp[txt_nil];omega
   conv=>whnf
   refine⟨1,by omega,by show xs.length - 1<xs.length - 0;omega,⟨?_,rfl,rfl,next_i64 hlt (by omega),trivial⟩,trivial⟩
   exact congrArg sv (txt_one xs hlt).symm
 ·have hge:xs.length≤k:=by simpa using h
  conv=>whnf
  rw[List.take_of_length_le hge]
def dashT (s:List UInt8):List UInt8:=if s=[] then [45] else s
def HuntL.texts (h:HuntL):Prop:=h.finds.length≤1048576∧∀ f∈h.finds,f.sign.length≤1048576
end Ai
namespace Ai
set_option maxRecDepth 100000
open Go Go.Proofs
theorem in_ok (n lo hi:Int):CallsTo EE 80 [i64 n,i64 lo,i64 hi] (·=bp (InR n lo hi)):=by
 refine callsTo_of_AW (fn:=Tryz.f80) Tryz.func80 rfl (by kernel_rfl) rfl ?_
 conv=>whnf
 repeat' (refine kbi (fun h=>?_) (fun h=>?_) <;> first|contradiction|conv=>whnf)
 all_goals simp only[decide_eq_true_eq] at *
 all_goals first|exact bpt (by unfold InR;omega)|exact bpf (by unfold InR;omega)
def lJ (c:Int):Int:=if c=2∨c=3∨c=10∨c=11∨c=12∨c=13∨c=14∨c=17 then 1 else if c=16 then 2 else 0
theorem names_ok (o:OpL):CallsTo EE 218 [agg (encOp o)] (·=i64 (lJ o.code)):=by
 refine callsTo_of_AW (fn:=Tryz.f218) Tryz.func218 rfl (by kernel_rfl) rfl ?_
 conv=>whnf
 repeat' (refine kbi (fun h=>?_) (fun h=>?_) <;> first|contradiction|conv=>whnf)
 all_goals simp only[beq_iff_eq] at *
 all_goals refine v7 ?_
 all_goals unfold lJ
 all_goals first|rw[if_pos (by omega)]|rw[if_neg (by omega),if_pos (by omega)]|rw[if_neg (by omega),if_neg (by omega)]
theorem IsNaN_ok (x:Nat):CallsTo EE 235 [.d (.flt x)] (·=bp (zM x=true)):=by
 refine callsTo_of_AW (fn:=Tryz.f235) Tryz.func235 rfl (by kernel_rfl) rfl ?_
 conv=>whnf
 refine kbi (fun h=>?_) (fun h=>?_)
 ·conv=>whnf
  exact bpt (by rw[← lI];exact h)
 ·conv=>whnf
  exact bpf (by rw[← lI];exact h)
theorem bits_run (b:Nat) (w:World):(callFunc 243 #[.float .f64 b]).run Tryz.prog w=.ok (.value (.int .u64 b)) w:=by
 kernel_rfl
theorem uX (x:Nat):CallsTo EE 243 [.d (.flt x)] (fun r=>∃ b:Nat,r=.d (.int .u64 b)∧canon b=x):=by
 intro w A vs hI hA
 obtain⟨hl,hr⟩:=hA
 have h1:vs.size=1:=hl.symm
 obtain⟨v,hv⟩:∃ v,vs=#[v]:=⟨vs[0],by apply Array.ext (by simp[h1]);intro i h2 h3;simp at h3;subst h3;rfl⟩
 subst hv
 have:=hr 0 _ v rfl rfl
 cases this with
 |d _ _ hd=>cases hd with
  |flt b =>
   unfold Invokes
   rw[show Sem.run EE.P (callFunc 243 #[Value.float .f64 b]) w=_ from bits_run b w]
   exact⟨_,⟨b,rfl,rfl⟩,RowKit.Below.refl _ _,.d _ _ (.int _ _)⟩
theorem aC {b:Nat} (h:canon b=0):b=0:=by
 unfold canon at h
 cases hn:zM b with
 |true=>rw[hn] at h;exact absurd (show nanC=0 from h) (by decide)
 |false=>rw[hn] at h;exact h
theorem bits_eq {v b c:Nat} (hb:canon b=v) (hc:canon c=0) (h:((b:Int)==(c:Int))=true):v=0:=by
 have h1:b=c:=by
  have h2:(b:Int)=c:=by simpa using h
  omega
 rw[← hb,h1,hc]
theorem bits_ne {v b c:Nat} (hb:canon b=v) (hc:canon c=0) (h:¬ ((b:Int)==(c:Int))=true):¬ v=0:=by
 intro e
 subst e
 have h1:=aC hb
 have h2:=aC hc
 subst h1;subst h2
 exact h (by decide)
theorem SameNum0_ok (v:Nat):CallsTo EE 206 [.d (.flt v),.d (.flt 0)] (·=bp (v=0)):=by
 refine callsTo_of_AW (fn:=Tryz.f206) Tryz.func206 rfl (by kernel_rfl) rfl ?_
 conv=>whnf
 refine ocase (IsNaN_ok v) (fun h=>?_) (fun h=>?_)
 ·conv=>whnf
  refine ocase (IsNaN_ok 0) (fun h3=>?_) (fun h3=>?_)
  ·exact absurd h3 (by decide)
  ·conv=>whnf
   refine⟨_,uX v,?_⟩
   rintro r ⟨b,rfl,hb⟩
   conv=>whnf
   refine⟨_,uX 0,?_⟩
   rintro r ⟨c,rfl,hc⟩
   conv=>whnf
   refine kbi (fun h4=>?_) (fun h4=>?_)
   ·conv=>whnf
    exact bpt (bits_eq hb hc h4)
   ·conv=>whnf
    exact bpf (bits_ne hb hc h4)
 ·conv=>whnf
  refine⟨_,uX v,?_⟩
  rintro r ⟨b,rfl,hb⟩
  conv=>whnf
  refine⟨_,uX 0,?_⟩
  rintro r ⟨c,rfl,hc⟩
  conv=>whnf
  refine kbi (fun h4=>?_) (fun h4=>?_)
  ·conv=>whnf
   exact bpt (bits_eq hb hc h4)
  ·conv=>whnf
   exact bpf (bits_ne hb hc h4)
def OpL.fitsI (o:OpL):Prop:=InR o.code 1 17∧(0<lJ o.code∨o.a=0)∧(1<lJ o.code∨o.b=0)∧(o.code=1∨o.v=0)
theorem fits_ok (o : OpL) : CallsTo EE 169 [agg (encOp o)] (· = bp o.fitsI) := by
  refine callsTo_of_AW (fn := Tryz.f169) Tryz.func169 rfl (by kernel_rfl) rfl ?_
  conv => whnf
  refine ⟨_, names_ok o, ?_⟩
  rintro r rfl
  conv => whnf
  repeat' first
    | (refine kbi (fun h => ?_) (fun h => ?_) <;> first | contradiction | conv => whnf)
    | (refine ocase (in_ok _ _ _) (fun h => ?_) (fun h => ?_) <;> first | contradiction | conv => whnf)
    | (refine ocase (SameNum0_ok _) (fun h => ?_) (fun h => ?_) <;> first | contradiction | conv => whnf)
  all_goals try simp only [decide_eq_true_eq, beq_iff_eq, gt_iff_lt] at *
  all_goals first
    | (refine bpt ?_; unfold OpL.fitsI; simp_all; done)
    | (refine bpf ?_; unfold OpL.fitsI; simp_all; done)
    | (refine bpf fun hm => ?_
       obtain ⟨b1, b2, b3, b4⟩ := hm
       rcases b2 with b2 | b2 <;> rcases b3 with b3 | b3 <;> rcases b4 with b4 | b4 <;> first | omega | contradiction)
def OpL.atI (p:ProgL) (many:Int) (o:OpL):Prop:=((o.code=2∨o.code=3)→InR o.a 0 (p.cells - 1))∧((o.code=10∨o.code=11)→InR o.a 0 many)∧((o.code=12∨o.code=13)→InR o.a 0 (p.locks - 1))∧(o.code=14→InR o.a 0 (p.rs.length - 1))∧(o.code=16→InR o.a 0 (p.conds - 1)∧InR o.b 0 (p.locks - 1))∧(o.code=17→InR o.a 0 (p.conds - 1))
def OpL.goodI (p:ProgL) (long:Int) (o:OpL):Prop:=o.fitsI∧o.atI p long
theorem isGood_ok (p:ProgL) (hp:p.headS) (long:Int) (o:OpL):CallsTo EE 123 [agg (encProg p),agg (encOp o),i64 long] (·=bp (o.goodI p long)):=by
 obtain⟨a1,a2,a3,a4⟩:=hp
 unfold InR at a1 a2 a3 a4
 have e1:IntKind.i64.wrap (p.cells - 1)=p.cells - 1:=zE (by omega) (by omega)
 have e2:IntKind.i64.wrap (p.locks - 1)=p.locks - 1:=zE (by omega) (by omega)
 have e3:IntKind.i64.wrap (p.conds - 1)=p.conds - 1:=zE (by omega) (by omega)
 have e4:IntKind.i64.wrap (((p.rs.map zO).length:Int) - 1)=(p.rs.length:Int) - 1:=by rw[List.length_map];exact zE (by omega) (by omega)
 refine callsTo_of_AW (fn:=Tryz.f123) Tryz.func123 rfl (by kernel_rfl) rfl ?_
 conv=>whnf
 refine ocase (fits_ok o) (fun h0=>?_) (fun h0=>?_)
 rotate_left
 ·conv=>whnf
  exact bpf fun hm=>h0 hm.1
 conv=>whnf
 repeat' first
  |(refine kbi (fun h=>?_) (fun h=>?_) <;> first|contradiction|conv=>whnf)
  |(refine ocase (in_ok _ _ _) (fun h=>?_) (fun h=>?_) <;> first|contradiction|conv=>whnf)
 all_goals simp only[beq_iff_eq,e1,e2,e3,e4] at *
 all_goals first
  |exact bpt ⟨h0,by unfold OpL.atI;refine⟨?_,?_,?_,?_,?_,?_⟩ <;> intros <;> first|assumption|omega|exact⟨by assumption,by assumption⟩⟩
  |exact bpf fun hm=>by
    obtain⟨_,a1,a2,a3,a4,a5,a6⟩:=hm
    first
     |exact absurd (a1 (by omega)) (by assumption)
     |exact absurd (a2 (by omega)) (by assumption)
     |exact absurd (a3 (by omega)) (by assumption)
     |exact absurd (a4 (by omega)) (by assumption)
     |exact absurd (a5 (by omega)).1 (by assumption)
     |exact absurd (a5 (by omega)).2 (by assumption)
     |exact absurd (a6 (by omega)) (by assumption)
end Ai
namespace Ai
set_option maxRecDepth 100000
open Go Go.Proofs Go.Shelf
theorem ent26:∀ args w,(callFunc 72 args).run Tryz.prog w=.ok (.enter 72 args) w:=enters_of Tryz.func72 (by kernel_rfl) rfl
theorem ent60:∀ args w,(callFunc 111 args).run Tryz.prog w=.ok (.enter 111 args) w:=enters_of Tryz.func111 (by kernel_rfl) rfl
theorem ent50:∀ args w,(callFunc 131 args).run Tryz.prog w=.ok (.enter 131 args) w:=enters_of Tryz.func131 (by kernel_rfl) rfl
theorem below_grow (w:World) (k:Nat) (os:Array Obj):RowKit.Below w.heap.size w (Sort.grow (w.drewN k) os):=by
 refine⟨?_,?_,?_,?_,fun q hq=>?_⟩
 ·rfl
 ·rfl
 ·rfl
 ·simp[Sort.grow,World.drewN]
 ·show(w.heap++os)[q]?=w.heap[q]?
  exact Array.getElem?_append_left hq
theorem one_arg {w:World} {A:Nat→Prop} {x:AV} {vs:Array Value} (h:ARel w A [x] vs):∃ v,vs=#[v]∧VRel w (fun x=>x<w.heap.size∧A x) (fun _=>none) (fun _=>none) x v:=by
 obtain⟨hl,hr⟩:=h
 have h1:vs.size=1:=hl.symm
 refine⟨vs[0],?_,hr 0 x _ rfl (by simp[h1])⟩
 apply Array.ext (by simp[h1])
 intro i h2 h3
 simp at h3
 subst h3
 rfl
theorem two_args {w:World} {A:Nat→Prop} {x y:AV} {vs:Array Value} (h:ARel w A [x,y] vs):∃ v u,vs=#[v,u]∧VRel w (fun x=>x<w.heap.size∧A x) (fun _=>none) (fun _=>none) x v∧VRel w (fun x=>x<w.heap.size∧A x) (fun _=>none) (fun _=>none) y u:=by
 obtain⟨hl,hr⟩:=h
 have h1:vs.size=2:=hl.symm
 refine⟨vs[0],vs[1],?_,hr 0 x _ rfl (by simp[h1]),hr 1 y _ rfl (by simp[h1])⟩
 apply Array.ext (by simp[h1])
 intro i h2 h3
 simp at h3
 match i,h3 with
 | 0,_=>rfl
 | 1,_=>rfl
theorem strRel {w:World} {ok:Nat→Prop} {m:Own} {H:Key→Option Ob} (l:List UInt8):VRel w ok m H (sv l) (.string ⟨l.toArray⟩):=by
 have:=RepD.str (w:=w) (ok:=ok) ⟨l.toArray⟩
 exact .d _ _ (by simpa using this)
theorem strInv {w:World} {ok:Nat→Prop} {l:List UInt8} {v:Value} (h:RepD w ok (.str l) v):v=.string ⟨l.toArray⟩:=by
 cases h with
 |str s=>simp
theorem intInv {w:World} {ok:Nat→Prop} {n:Int} {k:IntKind} {v:Value} (h:RepD w ok (.int k n) v):v=.int k n:=by cases h;rfl
theorem Itoa_ok (n:Int) (h0:-9223372036854775808≤n) (h1:n≤9223372036854775807):CallsTo EE 72 [i64 n] (·=sv (Lib.itoa n)):=by
 intro w A vs hI hA
 obtain⟨v,rfl,hv⟩:=one_arg hA
 cases hv with
 |d _ _ hd =>
  have:=intInv hd
  subst this
  unfold Invokes
  rw[show Sem.run EE.P (callFunc 72 #[Value.int .i64 n]) w=_ from ent26 _ w]
  refine Calls.mono (show Calls Tryz.prog 72 _ _ _ from Any.strconv_Itoa Tryz.laysItoa n h0 h1 w hI) ?_
  rintro e w' ⟨rfl,k,os,rfl⟩
  exact⟨_,rfl,_,rfl,below_grow w k os,strRel _⟩
theorem row1 {α:Type} {w:World} {ok:Nat→Prop} {xs:List α} {d:α→D} {v:Value} (h:RepD w ok (.sl (xs.map fun x=>[d x])) v) :
  (xs=[]∧∃ a cap,v=.slice a 0 cap)∨∃ (b off cap:Nat) (us:Nat→Value),v=.slice (some ⟨b,off,none⟩) xs.length cap∧ok b∧xs.length≤cap∧∀ (j:Nat) (x:α),xs[j]?=some x→w.cell? ⟨b,off+j,none⟩=some (us j)∧RepD w ok (d x) (us j):=by
 generalize he:xs.map (fun x=>[d x])=els at h
 cases h with
 |sl0 a cap =>
  left
  cases xs with
  |nil=>exact⟨rfl,a,cap,rfl⟩
  |cons x xs=>simp at he
 |sl _ sz b off cap us hok hlc hc hr =>
  subst he
  right
  cases xs with
  |nil=>exact⟨b,off,cap,us,rfl,hok,by simp,by simp⟩
  |cons x0 xs =>
   have hsz:sz=1:=by
    have:=(hc 0 [d x0] rfl).1
    simpa using this.symm
   subst hsz
   refine⟨b,off,cap,us,by simp,hok,by simpa using hlc,fun j x hj=>?_⟩
   have hj2:((x0::xs).map fun x=>[d x])[j]?=some [d x]:=by rw[List.getElem?_map,hj];rfl
   have h1:=(hc j _ hj2).2 0 (d x) rfl
   have h2:=hr j _ hj2 0 (d x) rfl
   simp only[Nat.mul_one,Nat.add_zero] at h1 h2
   exact⟨h1,h2⟩
theorem rowLt {w:World} {b off:Nat} {v:Value} (h:w.cell? ⟨b,off,none⟩=some v):b<w.heap.size:=by
 rcases Nat.lt_or_ge b w.heap.size with h1|h1
 ·exact h1
 ·rw[World.cell?,Array.getElem?_eq_none h1] at h;cases h
def encStr (s:List UInt8):List D:=[.str s]
theorem join_fin {w:World} {A:Nat→Prop} {vs:Array Value} {l:List UInt8} (hC:Calls Tryz.prog 111 vs w fun e w'=>e=.returned (.string ⟨l.toArray⟩)∧RowKit.Below w.heap.size w w') :
  Calls Tryz.prog 111 vs w fun e w''=>∃ v,e=.returned v∧∃ r,r=sv l∧RowKit.Below w.heap.size w w''∧lS w w'' A r v:=by
 refine Calls.mono hC ?_
 rintro e w' ⟨rfl,hb⟩
 exact⟨_,rfl,_,rfl,hb,strRel l⟩
theorem Join_ok (xs:List (List UInt8)) (sep:List UInt8) (hN:xs.length≤1048576) (hlen:(Lib.join xs sep).length≤140737488355328):CallsTo EE 111 [sl (xs.map encStr),sv sep] (·=sv (Lib.join xs sep)):=by
 intro w A vs hI hA
 obtain⟨v,u,rfl,hv,hu⟩:=two_args hA
 cases hu with
 |d _ _ hd2 =>
  have:=strInv hd2
  subst this
  cases hv with
  |d _ _ hd =>
   unfold Invokes
   rw[show Sem.run EE.P (callFunc 111 #[v,Value.string ⟨sep.toArray⟩]) w=_ from ent60 _ w]
   have emp:∀ (a:Option Addr) (c:Nat),Calls Tryz.prog 111 #[.slice a 0 c,.string ⟨sep.toArray⟩] w fun e w''=>∃ v,e=.returned v∧∃ r,r=sv (Lib.join [] sep)∧RowKit.Below w.heap.size w w''∧lS w w'' A r v:=by
    intro a c
    refine Calls.mono (show Calls Tryz.prog 111 _ _ _ from Any.strings_Join_none Tryz.laysJoin Tryz.extraJoin a c ⟨sep.toArray⟩ w) ?_
    rintro e w' ⟨rfl,rfl⟩
    exact⟨_,rfl,_,rfl,RowKit.Below.refl _ _,strRel []⟩
   rcases row1 (d:=D.str) (xs:=xs) hd with ⟨rfl,a,cap,rfl⟩|⟨b,off,cap,us,rfl,hok,hcap,hc⟩
   ·exact emp a cap
   ·have h1:xs.length=(xs.map fun s=>(⟨s.toArray⟩:ByteArray)).length:=by simp
    have h2:(xs.map fun s=>(⟨s.toArray⟩:ByteArray)).map (·.data.toList)=xs:=by
     rw[List.map_map]
     conv=>rhs;rw[← List.map_id xs]
     exact List.map_congr_left fun s _=>by simp
    have h3:Lib.join ((xs.map fun s=>(⟨s.toArray⟩:ByteArray)).map (·.data.toList)) (⟨sep.toArray⟩:ByteArray).data.toList=Lib.join xs sep:=by rw[h2]
    have hcells:∀ (j:Nat) (x:ByteArray),(xs.map fun s=>(⟨s.toArray⟩:ByteArray))[j]?=some x→w.cell? ⟨b,off+j,none⟩=some (.string x):=by
     intro j x hj
     rw[List.getElem?_map,Option.map_eq_some_iff] at hj
     obtain⟨s,hs,rfl⟩:=hj
     obtain⟨g1,g2⟩:=hc j s hs
     rw[g1,strInv g2]
    have hC:=Any.strings_Join Tryz.laysJoin Tryz.extraJoin b off cap (xs.map fun s=>(⟨s.toArray⟩:ByteArray)) ⟨sep.toArray⟩ w hcells hok.1 (by rw[← h1];omega) (by rw[← h1];exact hcap) (by rw[h3];exact hlen)
    rw[h3,← h1] at hC
    exact join_fin hC
end Ai
namespace Go.Proofs
open Go.Shelf
def Tryz.laysClone_ren:Go.Shelf.Ren:=⟨fun|15=>131|n=>n,fun|22=>26|3=>3|4=>4|n=>n,fun|n=>n⟩
theorem Tryz.laysClone:Go.Proofs.Lays2.n15 Tryz.prog Tryz.laysClone_ren:={
 mixed:=by kernel_rfl
 f15:=Tryz.func131.trans (congrArg some (by kernel_rfl))
 t3:=Tryz.underlying3
 a3:=Tryz.isAgg3
 z3:=Tryz.sizeOf3
 v3:=Tryz.zeroValue3
 t4:=Tryz.underlying4
 a4:=Tryz.isAgg4
 z4:=Tryz.sizeOf4
 v4:=Tryz.zeroValue4
 t22:=Tryz.underlying26
 a22:=Tryz.isAgg26
 z22:=Tryz.sizeOf26
 v22:=Tryz.zeroValue26
 i3:=by kernel_rfl }
end Go.Proofs
namespace Ai
set_option maxRecDepth 100000
open Go Go.Proofs Go.Shelf
theorem uq_of_owns {w w':World} {A:Nat→Prop} {e:TypeId} {v:Value} {xs:List Int} (h:w'.ownsRow w.heap.size e 1 v xs.length (xs.map (Value.int .i64))):lS w w' A (.uq e 1 (xs.map encInt)) v:=by
 obtain⟨h1,h2⟩:=h
 rcases h2 with ⟨rfl,h0⟩|⟨g,cap,cur,rfl,hg,hcur,hn,hm,hsz,ht⟩
 ·left
  have:xs=[]:=List.eq_nil_of_length_eq_zero h0
  subst this
  exact⟨rfl,rfl⟩
 ·right
  refine⟨g,cap,cur,by simp,hg,hcur,by simpa using hn,hm,hsz,fun j c hj=>?_⟩
  rw[List.getElem?_map,Option.map_eq_some_iff] at hj
  obtain⟨x,hx,rfl⟩:=hj
  refine⟨rfl,fun i d hi=>?_⟩
  match i,hi with
  | 0,hi =>
   simp only[encInt,List.getElem?_cons_zero,Option.some.injEq] at hi
   subst hi
   have hjl:j<xs.length:=(List.getElem?_eq_some_iff.1 hx).1
   refine⟨.int .i64 x,?_,.int _ _⟩
   have h3:(cur.toList.take (xs.length*1))[j]?=some (Value.int .i64 x):=by rw[ht,List.getElem?_map,hx];rfl
   rw[List.getElem?_take_of_lt (by omega)] at h3
   simpa using h3
  |i+1,hi=>simp[encInt] at hi
theorem oK {w:World} {A:Nat→Prop} {vs:Array Value} {xs:List Int} (hC:Calls Tryz.prog 131 vs w fun e w'=>∃ v',e=.returned v'∧w'.ownsRow w.heap.size 3 1 v' xs.length (xs.map (Value.int .i64))∧v'≠.slice none 0 0∧RowKit.Below w.heap.size w w') :
  Calls Tryz.prog 131 vs w fun e w''=>∃ v,e=.returned v∧∃ r,r=.uq 3 1 (xs.map encInt)∧RowKit.Below w.heap.size w w''∧lS w w'' A r v:=by
 refine Calls.mono hC ?_
 rintro e w' ⟨v,rfl,ho,_,hb⟩
 exact⟨_,rfl,_,rfl,hb,uq_of_owns ho⟩
theorem Clone_ok (xs:List Int) (hx:xs.length≤1048576):CallsTo EE 131 [sl (xs.map encInt)] (·=.uq 3 1 (xs.map encInt)):=by
 intro w A vs hI hA
 obtain⟨v,rfl,hv⟩:=one_arg hA
 cases hv with
 |d _ _ hd =>
  unfold Invokes
  rw[show Sem.run EE.P (callFunc 131 #[v]) w=_ from ent50 _ w]
  rcases row1 (d:=D.int .i64) (xs:=xs) hd with ⟨rfl,a,cap,rfl⟩|⟨b,off,cap,us,rfl,hok,hcap,hc⟩
  ·cases a with
   |none =>
    have hC:=Any.slices_Clone_int_nil Tryz.laysClone 0 cap w
    refine Calls.mono (show Calls Tryz.prog 131 _ _ _ from hC) ?_
    rintro e w' ⟨rfl,rfl⟩
    exact⟨_,rfl,_,rfl,RowKit.Below.refl _ _,.inl ⟨rfl,rfl⟩⟩
   |some ad =>
    have hC:=Any.slices_Clone_int_zero Tryz.laysClone ad cap w
    exact oK (xs:=[]) hC
  ·have hcells:∀ j,j<xs.length→w.cell? ⟨b,off+j,none⟩=some (.int .i64 (xs.getD j 0)):=by
    intro j hj
    obtain⟨g1,g2⟩:=hc j xs[j] (List.getElem?_eq_getElem hj)
    rw[g1,intInv g2]
    simp[List.getD_eq_getElem?_getD,List.getElem?_eq_getElem hj]
   have hC:=Any.slices_Clone_int Tryz.laysClone b off xs.length cap xs w (Nat.le_refl _) (by omega) hcells
   rw[List.take_of_length_le (Nat.le_refl _)] at hC
   exact oK hC
end Ai
namespace Ai
set_option maxRecDepth 100000
open Go Go.Proofs Go.Shelf Go.Sort Go.RowKit
def sorted (zs:List Int):List Int:=zs.mergeSort fun x y=>decide (x≤y)
end Ai
namespace Ai
set_option maxRecDepth 100000
open Go Go.Proofs
def PctL.goodI (s:PctL):Prop:=s.ranks.length=5∧(Lib.compact (sorted s.ranks)).length=5∧Rise (Lib.compact (sorted s.ranks)) 0 4∧s.changes.length≤4∧Rise s.changes 0 199
end Ai
namespace Ai
set_option maxRecDepth 100000
open Go Go.Proofs
theorem indexOp_ok (xs:List OpL) (hx:xs.length≤1048576) (g:FuncId) (c1 c2:List D) (P:OpL→Prop) (hc:∀ x∈xs,CallsTo EE g ([agg (encOp x)]++[.fp c1,.fp c2]) (·=bp (P x))) :
  CallsTo EE 168 [sl (xs.map encOp),.fn g [.fp c1,.fp c2]] (fun r=>∃ n:Int,r=i64 n∧(0≤n↔∃ x∈xs,P x)):=by
 refine callsTo_of_AW (fn:=Tryz.f168) Tryz.func168 rfl (by kernel_rfl) rfl ?_
 conv=>whnf
 refine yV (fun k:Nat=>[(0,sl (xs.map encOp)),(1,.fn g [.fp c1,.fp c2]),(6,sl (xs.map encOp)),(7,i64 (xs.map encOp).length),(8,i64 k)]) (fun k=>[]) (fun k=>xs.length - k) (fun k=>k≤xs.length∧∀ x∈xs.take k,¬ P x) 0 .refl ⟨rfl,rfl,rfl,rfl,rfl,trivial⟩ trivial ⟨Nat.zero_le _,kE⟩ ?_
 rintro k τ H ⟨hk,ih⟩
 conv=>whnf
 refine kbi (fun h=>?_) (fun h=>?_)
 ·have hlt:=xO h
  conv=>whnf
  refine⟨encOp xs[k],yD encOp hlt rfl,?_⟩
  conv=>whnf
  refine ocase (hc _ (List.getElem_mem hlt)) (fun h1=>?_) (fun h1=>?_)
  ·conv=>whnf
   exact⟨_,rfl,fun _=>⟨_,List.getElem_mem hlt,h1⟩,fun _=>by omega⟩
  ·conv=>whnf
   exact⟨k+1,⟨by omega,qO ih hlt h1⟩,by show xs.length - (k+1)<xs.length - k;omega,⟨rfl,rfl,rfl,rfl,next_i64 hlt (by omega),trivial⟩,trivial⟩
 ·have hge:xs.length≤k:=by simpa using h
  have hall:=kQ ih hge
  conv=>whnf
  exact⟨_,rfl,fun h=>absurd h (by decide),fun ⟨x,hx,hp⟩=>absurd hp (hall x hx)⟩
theorem eF (xs:List OpL) (hx:xs.length≤1048576) (g:FuncId) (c1 c2:List D) (P:OpL→Prop) (hc:∀ x∈xs,CallsTo EE g ([agg (encOp x)]++[.fp c1,.fp c2]) (·=bp (P x))) :
  CallsTo EE 121 [sl (xs.map encOp),.fn g [.fp c1,.fp c2]] (·=bp (∃ x∈xs,P x)):=by
 refine callsTo_of_AW (fn:=Tryz.f121) Tryz.func121 rfl (by kernel_rfl) rfl ?_
 conv=>whnf
 refine⟨_,indexOp_ok xs hx g c1 c2 P hc,?_⟩
 rintro r ⟨n,rfl,hn⟩
 conv=>whnf
 refine kbi (fun h=>?_) (fun h=>?_)
 ·conv=>whnf
  exact bpt (hn.1 (by simpa using h))
 ·conv=>whnf
  exact bpf fun hm=>h (by simpa using hn.2 hm)
theorem v8 (p:ProgL) (hp:p.headS) (r:List OpL) (o:OpL):CallsTo EE 122 ([agg (encOp o)]++[.fp (encProg p),.fp (zO r)]) (·=bp (¬ o.goodI p r.length)):=by
 refine callsTo_of_AW (fn:=Tryz.f122) Tryz.func122 rfl (by kernel_rfl) rfl ?_
 conv=>whnf
 have hop:CallsTo EE 123 [agg (encProg p),agg (encOp o),i64 (r.map encOp).length] (·=bp (o.goodI p r.length)):=by
  rw[List.length_map]
  exact isGood_ok p hp _ o
 refine ocase hop (fun h=>?_) (fun h=>?_)
 ·conv=>whnf
  exact bpf fun hm=>hm h
 ·conv=>whnf
  exact bpt h
def ProgL.goodI (p:ProgL):Prop:=p.headS∧∀ r∈p.rs,r.length≤24∧∀ o∈r,o.goodI p r.length
theorem l8 (p:ProgL) (hs:p.rs.length≤1048576∧∀ x∈p.rs,x.length≤1048576):CallsTo EE 79 [agg (encProg p)] (·=bp p.goodI):=by
 refine callsTo_of_AW (fn:=Tryz.f79) Tryz.func79 rfl (by kernel_rfl) rfl ?_
 conv=>whnf
 refine ocase (in_ok _ _ _) (fun h1=>?_) (fun h1=>?_)
 rotate_left
 ·conv=>whnf
  exact bpf fun hm=>h1 hm.1.1
 conv=>whnf
 refine ocase (in_ok _ _ _) (fun h2=>?_) (fun h2=>?_)
 rotate_left
 ·conv=>whnf
  exact bpf fun hm=>h2 hm.1.2.1
 conv=>whnf
 refine ocase (in_ok _ _ _) (fun h3=>?_) (fun h3=>?_)
 rotate_left
 ·conv=>whnf
  exact bpf fun hm=>h3 hm.1.2.2.1
 conv=>whnf
 refine ocase (in_ok _ _ _) (fun h4=>?_) (fun h4=>?_)
 rotate_left
 ·conv=>whnf
  exact bpf fun hm=>h4 (by simpa using hm.1.2.2.2)
 have hh:p.headS:=⟨h1,h2,h3,by simpa using h4⟩
 conv=>whnf
 refine yV (fun k:Nat=>[(1,.ptr 1 0),(29,sl (p.rs.map zO)),(30,i64 (p.rs.map zO).length),(31,i64 k)]) (fun k=>[(1,.vs 39 ((encProg p).map .d))]) (fun k=>p.rs.length - k) (fun k=>k≤p.rs.length∧∀ r∈p.rs.take k,r.length≤24∧∀ o∈r,o.goodI p r.length) 0 .refl ⟨rfl,rfl,rfl,rfl,trivial⟩ ⟨rfl,trivial⟩ ⟨Nat.zero_le _,kE⟩ ?_
 rintro k τ H ⟨hk,ih⟩
 conv=>whnf
 refine kbi (fun h=>?_) (fun h=>?_)
 ·have hlt:=xO h
  conv=>whnf
  refine⟨zO p.rs[k],yD zO hlt rfl,?_⟩
  conv=>whnf
  have hrl:=hs.2 _ (List.getElem_mem hlt)
  refine kbi (fun h5=>?_) (fun h5=>?_)
  ·conv=>whnf
   refine bpf fun hm=>?_
   have:=(hm.2 _ (List.getElem_mem hlt)).1
   simp at h5
   omega
  ·conv=>whnf
   have hcf:=eF p.rs[k] hrl 122 (encProg p) (zO p.rs[k]) (fun o=>¬ o.goodI p p.rs[k].length) (fun o _=>v8 p hh p.rs[k] o)
   refine .inl (fcase hcf (fun h6=>?_) (fun h6=>?_))
   ·conv=>whnf
    refine bpf fun hm=>?_
    obtain⟨o,ho,hb⟩:=h6
    exact hb ((hm.2 _ (List.getElem_mem hlt)).2 o ho)
   ·conv=>whnf
    simp at h5
    refine⟨k+1,⟨by omega,qO ih hlt ⟨by omega,fun o ho=>?_⟩⟩,by show p.rs.length - (k+1)<p.rs.length - k;omega,⟨rfl,rfl,rfl,next_i64 hlt (by omega),trivial⟩,⟨rfl,trivial⟩⟩
    exact Classical.byContradiction fun hb=>h6 ⟨o,ho,hb⟩
 ·have hge:p.rs.length≤k:=by simpa using h
  conv=>whnf
  exact bpt ⟨hh,kQ ih hge⟩
end Ai
namespace Ai
set_option maxRecDepth 100000
open Go Go.Proofs
theorem op_same (p:ProgL) (hp:p.headS) (n:Nat) (hn:n≤24) (o:OpL):o.goodS p n↔o.goodI p n:=by
 obtain⟨a1,a2,a3,a4⟩:=hp
 unfold InR at a1 a2 a3 a4
 have hc:(0<lJ o.code↔(dP o.code∨o.code=16))∧(1<lJ o.code↔o.code=16):=by
  unfold lJ dP
  split
  ·omega
  ·split <;> omega
 unfold OpL.goodS OpL.goodI OpL.plainS OpL.fitsI OpL.atS OpL.atI InR
 rw[hc.1,hc.2]
 unfold dP
 constructor
 ·rintro⟨⟨b1,b2,b3,b4,b5,b6⟩,c1,c2,c3,c4,c5,c6⟩
  refine⟨⟨b1,?_,b6,b4⟩,?_,?_,?_,?_,?_,?_⟩ <;> omega
 ·rintro⟨⟨b1,b2,b3,b4⟩,c1,c2,c3,c4,c5,c6⟩
  refine⟨⟨b1,?_,?_,b4,?_,b3⟩,?_,?_,?_,?_,?_,?_⟩ <;> omega
theorem iE (p:ProgL):p.goodS↔p.goodI:=by
 constructor
 ·rintro⟨h1,h2⟩
  exact⟨h1,fun r hr=>⟨(h2 r hr).2,fun o ho=>(op_same p h1 _ (h2 r hr).2 o).1 ((h2 r hr).1 o ho)⟩⟩
 ·rintro⟨h1,h2⟩
  exact⟨h1,fun r hr=>⟨fun o ho=>(op_same p h1 _ (h2 r hr).1 o).2 ((h2 r hr).2 o ho),(h2 r hr).1⟩⟩
theorem size_le {α:Type} (f:α→Nat) (xs:List α) (n:Nat) (h:bE f xs≤n):xs.length≤n∧∀ x∈xs,f x≤n:=by
 unfold bE at h
 refine⟨by omega,fun x hx=>?_⟩
 have:f x≤(xs.map f).sum:=by
  clear h
  induction xs with
  |nil=>cases hx
  |cons y ys ih =>
   simp only[List.map_cons,List.sum_cons]
   rcases List.mem_cons.1 hx with h1|h1
   ·subst h1;omega
   ·have:=ih h1;omega
 omega
end Ai
namespace Ai
set_option maxRecDepth 100000
open Go Go.Proofs Go.Deep
def Fits (w:World) (ds:List D) (cs:List Value):Prop:=ds.length=cs.length∧∀ (i:Nat) (d:D) (u:Value),ds[i]?=some d→cs[i]?=some u→RepD w (fun b=>b<w.heap.size∧True) d u
section
variable {H:Type} {enc':TypeId × Value→H} {w:World} {sp:Nat→Bool} {held:Bool}
theorem list_of {α:Type} {p:Nat→α→Prop}:∀ n,(∀ i,i<n→∃ a,p i a)→∃ xs:List α,xs.length=n∧∀ (i:Nat) (a:α),xs[i]?=some a→p i a
 | 0,_=>⟨[],rfl,by simp⟩
 |n+1,h=>by
  obtain⟨xs,hl,hx⟩:=list_of n fun i hi=>h i (by omega)
  obtain⟨a,ha⟩:=h n (by omega)
  refine⟨xs++[a],by simp[hl],fun i b hb=>?_⟩
  rcases Nat.lt_or_ge i n with h1|h1
  ·rw[List.getElem?_append_left (by omega)] at hb
   exact hx i b hb
  ·rw[List.getElem?_append_right (by omega)] at hb
   have:i=n:=by
    have:=(List.getElem?_eq_some_iff.1 hb).1
    simp at this
    omega
   subst this
   rw[hl,Nat.sub_self] at hb
   simp at hb
   subst hb
   exact ha
theorem spot_none {a:Addr} {v:Value} (h:w.cell? a=some v):a=⟨a.block,a.off,none⟩:=by
 obtain⟨b,off,s⟩:=a
 cases s with
 |none=>rfl
 |some s =>
  simp only[World.cell?] at h
  split at h <;> simp at h
theorem add_none (b off k:Nat):(⟨b,off,none⟩:Addr).add k=⟨b,off+k,none⟩:=by
 unfold Addr.add
 split
 ·rename_i h;subst h;rfl
 ·rfl
theorem s5 {α:Type} {t e:TypeId} (ht:Tryz.prog.underlying t=some (.slice e)) (sz:Nat) (hsz:Tryz.prog.cellsOf e=sz) (h0:0<sz) (enc:α→List D) (wf:α→Prop)
  (hel:∀ n cs x,DataW.trod enc' Tryz.prog w 0 sp held n e cs=some x→∃ a,wf a∧Fits w (enc a) cs) {fuel:Nat} {cs:List Value} {x:DataW H × List MemPlace}
  (h:DataW.trod enc' Tryz.prog w 0 sp held fuel t cs=some x):∃ xs:List α,(∀ a∈xs,wf a)∧xs.length≤9223372036854775807∧Fits w [.sl (xs.map enc)] cs:=by
 rcases open_slice ht h with ⟨rfl,_⟩|⟨a,len,cap,m,n,Dd,Pl,rfl,hb,hl,hm,hmm,hx,hall⟩
 ·refine⟨[],by simp,by simp,rfl,fun i d u hd hu=>?_⟩
  match i,hd,hu with
  | 0,hd,hu=>simp at hd hu;subst hd;subst hu;exact .sl0 _ _
  |i+1,hd,hu=>simp at hd
 ·have hlm:len≤m:=by rw[hmm];split <;> omega
  obtain⟨xs,hxl,hxs⟩:=list_of (α:=α) (p:=fun i y=>wf y∧∃ cs',w.cells? 0 (a.add (i*sz)) sz=some cs'∧Fits w (enc y) cs') len fun i hi=>by
   obtain⟨cs',h1,h2⟩:=hall i (by omega)
   obtain⟨y,hy1,hy2⟩:=hel _ _ _ h2
   rw[hsz] at h1
   exact⟨y,hy1,cs',h1,hy2⟩
  have hmx:maxLen=9223372036854775807:=rfl
  refine⟨xs,fun y hy=>?_,by omega,rfl,fun i d u hd hu=>?_⟩
  ·obtain⟨i,hi⟩:=List.getElem?_of_mem hy
   exact(hxs i y hi).1
  match i,hd,hu with
  |i+1,hd,hu=>simp at hd
  | 0,hd,hu =>
   simp at hd hu
   subst hd;subst hu
   cases xs with
   |nil =>
    simp at hxl
    subst hxl
    exact .sl0 _ _
   |cons y0 ys =>
    have hA:a=⟨a.block,a.off,none⟩:=by
     obtain⟨_,cs',hc,hf1,hf2⟩:=hxs 0 y0 rfl
     obtain⟨_,hcl,hcc⟩:=World.cells?_some hc
     have h9:=hcc 0 h0
     have h10:cs'[0]?=some cs'[0]:=List.getElem?_eq_getElem (by omega)
     rw[h10] at h9
     have e:(a.add (0*sz)).add 0=a:=by simp[Addr.add]
     rw[e] at h9
     exact spot_none h9
    obtain⟨b,off,spt⟩:=a
    have hsp:spt=none:=by simpa using hA
    subst hsp
    clear hA
    have cellAt:∀ (j:Nat) (y:α),(y0::ys)[j]?=some y→(enc y).length=sz∧∀ (q:Nat) (d:D),(enc y)[q]?=some d→∃ u,w.cell? ⟨b,off+(j*sz+q),none⟩=some u∧RepD w (fun b=>b<w.heap.size∧True) d u:=by
     intro j y hj
     obtain⟨_,cs',hc,hf1,hf2⟩:=hxs j y hj
     obtain⟨_,hcl,hcc⟩:=World.cells?_some hc
     refine⟨by omega,fun q d hq=>?_⟩
     have hql:q<sz:=by have:=(List.getElem?_eq_some_iff.1 hq).1;omega
     have hq2:cs'[q]?=some cs'[q]:=List.getElem?_eq_getElem (by omega)
     have h9:=hcc q hql
     rw[add_none,add_none,hq2,Nat.add_assoc] at h9
     exact⟨cs'[q],h9,hf2 q d _ hq hq2⟩
    have hlt:b<w.heap.size:=by
     obtain⟨g1,g2⟩:=cellAt 0 y0 rfl
     have h00:0<(enc y0).length:=by omega
     obtain⟨u,hu,_⟩:=g2 0 _ (List.getElem?_eq_getElem h00)
     exact rowLt hu
    have:=RepD.sl (w:=w) (ok:=fun b=>b<w.heap.size∧True) ((y0::ys).map enc) sz b off cap (fun q=>(w.cell? ⟨b,off+q,none⟩).getD undef) ⟨hlt,trivial⟩ (by rw[List.length_map,hxl];exact hl)
     (fun j c hj=>by
      rw[List.getElem?_map,Option.map_eq_some_iff] at hj
      obtain⟨y,hy,rfl⟩:=hj
      obtain⟨g1,g2⟩:=cellAt j y hy
      refine⟨g1,fun q d hq=>?_⟩
      obtain⟨u,hu,_⟩:=g2 q d hq
      rw[hu];rfl)
     (fun j c hj q d hq=>by
      rw[List.getElem?_map,Option.map_eq_some_iff] at hj
      obtain⟨y,hy,rfl⟩:=hj
      obtain⟨g1,g2⟩:=cellAt j y hy
      obtain⟨u,hu,hr⟩:=g2 q d hq
      rw[hu];exact hr)
    rw[List.length_map,hxl] at this
    exact this
theorem rd_int {n:Nat} {cs:List Value} {x:DataW H × List MemPlace} (h:DataW.trod enc' Tryz.prog w 0 sp held n 3 cs=some x):∃ k:Int,Fits w [di k] cs:=by
 obtain⟨k,rfl,_,_⟩:=DataW.trod_int Tryz.underlying3 h
 refine⟨k,rfl,fun i d u hd hu=>?_⟩
 match i,hd,hu with
 | 0,hd,hu=>simp at hd hu;subst hd;subst hu;exact .int _ _
 |i+1,hd,hu=>simp at hd
theorem rd_flt {n:Nat} {cs:List Value} {x:DataW H × List MemPlace} (h:DataW.trod enc' Tryz.prog w 0 sp held n 100 cs=some x):∃ v:Nat,v<18446744073709551616∧Fits w [.flt v] cs:=by
 cases n with
 |zero=>simp[DataW.trod] at h
 |succ n =>
  unfold DataW.trod at h
  rw[Tryz.underlying100] at h
  split at h <;> simp_all
  rename_i kk b e2
  obtain⟨⟨e1,hb⟩,_⟩:=h
  subst e2
  have hb0:(Lit.float FloatKind.f64 b).wf=true:=hb
  refine⟨canon b,?_,rfl,fun i d u hd hu=>?_⟩
  ·have hb2:b<18446744073709551616:=by simpa[Lit.wf] using hb0
   unfold canon nanC
   cases zM b <;> simp <;> omega
  match i,hd,hu with
  | 0,hd,hu=>simp at hd hu;subst hd;subst hu;exact .flt _
  |i+1,hd,hu=>simp at hd
theorem fits_app {ds ds2:List D} {cs:List Value} {k:Nat} (h1:Fits w ds (cs.take k)) (hk:ds.length=k) (h2:Fits w ds2 (cs.drop k)) (hc:k≤cs.length):Fits w (ds++ds2) cs:=by
 refine⟨by have:=h2.1;simp at this ⊢;omega,fun i d u hd hu=>?_⟩
 rcases Nat.lt_or_ge i k with h|h
 ·rw[List.getElem?_append_left (by omega)] at hd
  exact h1.2 i d u hd (by rw[List.getElem?_take_of_lt h];exact hu)
 ·rw[List.getElem?_append_right (by omega)] at hd
  exact h2.2 (i - k) d u (by rw[hk] at hd;exact hd) (by rw[List.getElem?_drop];rw[show k+(i - k)=i by omega];exact hu)
theorem uL {d:D} {ds:List D} {cs:List Value} {k:Nat} (h1:Fits w [d] ((cs.drop k).take 1)) (h2:Fits w ds (cs.drop (k+1))):Fits w (d::ds) (cs.drop k):=by
 have hl:1≤(cs.drop k).length:=by
  have:=h1.1
  simp at this ⊢
  omega
 refine fits_app (ds:=[d]) (k:=1) h1 rfl ?_ hl
 rw[List.drop_drop]
 exact h2
theorem fits_nil {cs:List Value} {k:Nat} (h:cs.length=k):Fits w [] (cs.drop k):=⟨by simp[h],by simp⟩
def OpL.fl (o:OpL):Prop:=o.v<18446744073709551616
theorem rd_op {n:Nat} {cs:List Value} {x:DataW H × List MemPlace} (h:DataW.trod enc' Tryz.prog w 0 sp held n 152 cs=some x):∃ o:OpL,o.fl∧Fits w (encOp o) cs:=by
 obtain⟨xs,m,_,_,hcl,hxl,hf⟩:=DataW.trod_struct Tryz.underlying152 h
 have c3:Tryz.prog.cellsOf 3=1:=by kernel_rfl
 have c105:Tryz.prog.cellsOf 100=1:=by kernel_rfl
 have c151:Tryz.prog.cellsOf 152=4:=by kernel_rfl
 have hxl4:xs.length=4:=hxl
 have g0:DataW.trod enc' Tryz.prog w 0 sp held m 3 ((cs.drop 0).take (Tryz.prog.cellsOf 3))=xs[0]?:=hf 0 _ rfl
 have g1:DataW.trod enc' Tryz.prog w 0 sp held m 3 ((cs.drop 1).take (Tryz.prog.cellsOf 3))=xs[1]?:=hf 1 _ rfl
 have g2:DataW.trod enc' Tryz.prog w 0 sp held m 3 ((cs.drop 2).take (Tryz.prog.cellsOf 3))=xs[2]?:=hf 2 _ rfl
 have g3:DataW.trod enc' Tryz.prog w 0 sp held m 100 ((cs.drop 3).take (Tryz.prog.cellsOf 100))=xs[3]?:=hf 3 _ rfl
 simp only[c3,c105] at g0 g1 g2 g3
 rw[List.getElem?_eq_getElem (by omega)] at g0 g1 g2 g3
 obtain⟨k0,f0⟩:=rd_int g0
 obtain⟨k1,f1⟩:=rd_int g1
 obtain⟨k2,f2⟩:=rd_int g2
 obtain⟨v,hv,f3⟩:=rd_flt g3
 exact⟨⟨k0,k1,k2,v⟩,hv,uL (k:=0) f0 (uL (k:=1) f1 (uL (k:=2) f2 (uL (k:=3) f3 (fits_nil (by omega)))))⟩
theorem c3:Tryz.prog.cellsOf 3=1:=by kernel_rfl
theorem rd_row {n:Nat} {cs:List Value} {x:DataW H × List MemPlace} (h:DataW.trod enc' Tryz.prog w 0 sp held n 95 cs=some x):∃ l:List OpL,(l.length≤9223372036854775807∧∀ o∈l,o.fl)∧Fits w (zO l) cs:=by
 obtain⟨xs,hw,hl,hf⟩:=s5 (α:=OpL) Tryz.underlying95 4 (by kernel_rfl) (by omega) encOp OpL.fl (fun n cs x h=>rd_op h) h
 exact⟨xs,⟨hl,hw⟩,hf⟩
theorem rd_rows {n:Nat} {cs:List Value} {x:DataW H × List MemPlace} (h:DataW.trod enc' Tryz.prog w 0 sp held n 22 cs=some x):∃ l:List (List OpL),(l.length≤9223372036854775807∧∀ r∈l,r.length≤9223372036854775807∧∀ o∈r,o.fl)∧Fits w [.sl (l.map zO)] cs:=by
 obtain⟨xs,hw,hl,hf⟩:=s5 (α:=List OpL) Tryz.underlying22 1 (by kernel_rfl) (by omega) zO (fun r=>r.length≤9223372036854775807∧∀ o∈r,o.fl) (fun n cs x h=>rd_row h) h
 exact⟨xs,⟨hl,hw⟩,hf⟩
theorem rd_prog {n:Nat} {cs:List Value} {x:DataW H × List MemPlace} (h:DataW.trod enc' Tryz.prog w 0 sp held n 24 cs=some x):∃ p:ProgL,(p.wf∧p.flt)∧Fits w (encProg p) cs:=by
 obtain⟨xs,m,_,_,hcl,hxl,hf⟩:=DataW.trod_struct Tryz.underlying24 h
 have c22:Tryz.prog.cellsOf 22=1:=by kernel_rfl
 have c24:Tryz.prog.cellsOf 24=4:=by kernel_rfl
 have hxl4:xs.length=4:=hxl
 have g0:DataW.trod enc' Tryz.prog w 0 sp held m 3 ((cs.drop 0).take (Tryz.prog.cellsOf 3))=xs[0]?:=hf 0 _ rfl
 have g1:DataW.trod enc' Tryz.prog w 0 sp held m 3 ((cs.drop 1).take (Tryz.prog.cellsOf 3))=xs[1]?:=hf 1 _ rfl
 have g2:DataW.trod enc' Tryz.prog w 0 sp held m 3 ((cs.drop 2).take (Tryz.prog.cellsOf 3))=xs[2]?:=hf 2 _ rfl
 have g3:DataW.trod enc' Tryz.prog w 0 sp held m 22 ((cs.drop 3).take (Tryz.prog.cellsOf 22))=xs[3]?:=hf 3 _ rfl
 simp only[c3,c22] at g0 g1 g2 g3
 rw[List.getElem?_eq_getElem (by omega)] at g0 g1 g2 g3
 obtain⟨k0,f0⟩:=rd_int g0
 obtain⟨k1,f1⟩:=rd_int g1
 obtain⟨k2,f2⟩:=rd_int g2
 obtain⟨v,⟨hv1,hv2⟩,f3⟩:=rd_rows g3
 exact⟨⟨k0,k1,k2,v⟩,⟨⟨hv1,fun r hr=>(hv2 r hr).1⟩,fun r hr=>(hv2 r hr).2⟩,uL (k:=0) f0 (uL (k:=1) f1 (uL (k:=2) f2 (uL (k:=3) f3 (fits_nil (by omega)))))⟩
end
end Ai
namespace Ai
set_option maxRecDepth 100000
open Go Go.Proofs
structure Th where
 rt:Int
 pc:Int
 st:Int
 cond:Int
 lock:Int
 stack:List Nat
structure StL where
 ths:List Th
 cells:List Nat
 owner:List Int
 fault:Int
structure Ev where
 th:Int
 kind:Int
 obj:Int
 lock:Int
 pc:Int
def encF (x:Nat):List D:=[.flt x]
def zF (t:Th):List D:=[di t.rt,di t.pc,di t.st,di t.cond,di t.lock,.sl (t.stack.map encF)]
def bT (t:Th):List D:=[di t.rt,di t.pc,di t.st,di t.cond,di t.lock,.nil]
def stk (t:Th):List (List D):=t.stack.map encF
def encSt (s:StL):List D:=[.sl (s.ths.map zF),.sl (s.cells.map encF),.sl (s.owner.map encInt),di s.fault]
def encEv (e:Ev):List D:=[di e.th,di e.kind,di e.obj,di e.lock,di e.pc]
def kI (s:StL):List AV:=[.uqd 109 6 5 100 1 (s.ths.map bT) (s.ths.map stk),.uq 100 1 (s.cells.map encF),.uq 3 1 (s.owner.map encInt),.d (di s.fault)]
def thRows (o:Nat) (l:List Th):List (List AV):=ownRows o 5 (l.map bT) (l.map stk)
def thRow (o j:Nat) (t:Th):List AV:=[i64 t.rt,i64 t.pc,i64 t.st,i64 t.cond,i64 t.lock,.ref (.s o j) 0 t.stack.length]
theorem xJ {o:Nat} {l:List Th} {j:Nat} (h:j<l.length):(thRows o l)[j]?=some (thRow o j l[j]):=by
 simp only[thRows,ownRows,List.getElem?_mapIdx,List.getElem?_map,List.getElem?_eq_getElem h,Option.map_some,Option.some.injEq,List.getD_eq_getElem?_getD,Option.getD_some]
 simp[thRow,bT,stk]
theorem zR {o:Nat} {l:List Th}:(thRows o l).length=l.length:=by simp[thRows,ownRows]
theorem zY {p:Key→Bool} {o j:Nat} {t:Th} (h:p (.s o j)=false):scrPL p (thRow o j t)=thRow o j t:=by
 simp[thRow,scrPL,scrP,h]
theorem yF {p:Key→Bool} {o:Nat} {l:List Th} (h:∀ j,j<l.length→p (.s o j)=false):(thRows o l).map (scrPL p)=thRows o l:=by
 apply List.ext_getElem?
 intro j
 rw[List.getElem?_map]
 by_cases hj:j<l.length
 ·rw[xJ hj]
  simp only[Option.map_some]
  rw[zY (h j hj)]
 ·rw[List.getElem?_eq_none (by rw[zR];omega)]
  rfl
theorem qT (o k:Nat) (l:List Th):(thRows o l).map (scrPL (isK (.n k)))=thRows o l:=yF fun _ _=>rfl
theorem eQ {a o j i:Nat} {t:Th} (h:i≠j):renL (swp (.n a) (.s o j)) (thRow o i t)=thRow o i t:=by
 have e:swp (.n a) (.s o j) (.s o i)=.s o i:=by
  simp[swp,Key.beq,nbeq_ne h]
 simp[thRow,renL,ren,e]
theorem lF {a o j:Nat} {l:List Th} (h:l.length≤j):(thRows o l).map (renL (swp (.n a) (.s o j)))=thRows o l:=by
 apply List.ext_getElem?
 intro i
 rw[List.getElem?_map]
 by_cases hj:i<l.length
 ·rw[xJ hj]
  simp only[Option.map_some]
  rw[eQ (by omega)]
 ·rw[List.getElem?_eq_none (by rw[zR];omega)]
  rfl
theorem kF (a b o:Nat) (l:List Th):(thRows o l).map (renL (swp (.n a) (.n b)))=thRows o l:=by
 apply List.ext_getElem?
 intro i
 rw[List.getElem?_map]
 by_cases hj:i<l.length
 ·rw[xJ hj]
  rfl
 ·rw[List.getElem?_eq_none (by rw[zR];omega)]
  rfl
theorem pY (o:Nat) (l:List Th) (t:Th):thRows o (l++[t])=thRows o l++[thRow o l.length t]:=by
 apply List.ext_getElem?
 intro i
 rcases Nat.lt_trichotomy i l.length with h|h|h
 ·rw[List.getElem?_append_left (by rw[zR];exact h),xJ h,xJ (l:=l++[t]) (by simp;omega)]
  simp[List.getElem_append_left h]
 ·subst h
  rw[List.getElem?_append_right (by rw[zR];omega),xJ (l:=l++[t]) (by simp)]
  simp[zR]
 ·rw[List.getElem?_eq_none (by rw[zR];simp;omega),List.getElem?_eq_none (by simp[zR];omega)]
theorem dF {α:Type} (xs:List α) (k:Nat) (h:k<xs.length):xs.take (k+1)=xs.take k++[xs[k]]:=by
 rw[List.take_add_one,List.getElem?_eq_getElem h];rfl
theorem p7 (l:List Th) (k a:Nat) (h:k<l.length) (n:Nat) (hn:n=l[k].stack.length) :
  ((((thRows 900 (l.take k)).take k++[[i64 l[k].rt,i64 l[k].pc,i64 l[k].st,i64 l[k].cond,i64 l[k].lock,AV.ref (.n a) 0 n]]).map (scrPL (isK (.n 900)))).map (renL (swp (.n a) (.s 900 k))))=thRows 900 (l.take (k+1))∨a=900:=by
 by_cases ha:a=900
 ·exact .inr ha
 left
 have hl:(l.take k).length=k:=by simp;omega
 rw[List.take_of_length_le (by rw[zR];omega),List.map_append,List.map_append,qT 900 900,lF (by omega),dF l k h,pY,hl]
 congr 1
 have e1:isK (.n 900) (.n a)=false:=by
  show Nat.beq a 900=false
  exact nbeq_ne ha
 have e2:swp (.n a) (.s 900 k) (.n a)=.s 900 k:=by simp[swp,zD]
 simp[scrPL,scrP,e1,renL,ren,e2,thRow,hn]
def zS (l:List Th) (j:Nat):Option Ob:=(l[j]?).map fun t=>.ds 100 1 (stk t)
theorem yH (p:Key→Bool) (l:List Th) (j:Nat):(zS l j).map (scrPO p)=zS l j:=by
 unfold zS;cases l[j]? <;> rfl
theorem thFam_ren (f:Key→Key) (l:List Th) (j:Nat):(zS l j).map (renO f)=zS l j:=by
 unfold zS;cases l[j]? <;> rfl
theorem tC {l:List Th} {k j:Nat} (h:j≠k):zS (l.take k) j=zS (l.take (k+1)) j:=by
 unfold zS
 rw[List.getElem?_take,List.getElem?_take]
 by_cases h1:j<k
 ·rw[if_pos h1,if_pos (by omega)]
 ·rw[if_neg h1,if_neg (by omega)]
end Ai
namespace Ai
set_option maxRecDepth 100000
open Go Go.Proofs
theorem gV (xs:List Nat) (hx:xs.length≤1048576):CallsTo EE 173 [sl (xs.map encF)] (·=.uq 100 1 (xs.map encF)):=by
 refine callsTo_of_AW (fn:=Tryz.f173) Tryz.func173 rfl (by kernel_rfl) rfl ?_
 conv=>whnf
 refine⟨fun h=>?_,?_⟩
 ·have:xs=[]:=by simpa using h
  subst this
  conv=>whnf
  exact .inr ⟨100,1,rfl⟩
 ·conv=>whnf
  refine⟨⟨by simp[encF],by simp;omega,by simp;omega⟩,?_⟩
  conv=>whnf
  exact congrArg (AV.uq 100 1) (by simp[List.take_of_length_le])
theorem CloneI_ok (xs:List Int) (hx:xs.length≤1048576):CallsTo EE 131 [sl (xs.map encInt)] (·=.uq 3 1 (xs.map encInt)):=by
 refine callsTo_of_AW (fn:=Tryz.f131) Tryz.func131 rfl (by kernel_rfl) rfl ?_
 conv=>whnf
 refine⟨fun h=>?_,?_⟩
 ·have:xs=[]:=by simpa using h
  subst this
  conv=>whnf
  exact .inr ⟨3,1,rfl⟩
 ·conv=>whnf
  refine⟨⟨by simp[encInt],by simp;omega,by simp;omega⟩,?_⟩
  conv=>whnf
  exact congrArg (AV.uq 3 1) (by simp[List.take_of_length_le])
theorem CloneT_ok (xs:List Th) (hx:xs.length≤1048576):CallsTo EE 174 [sl (xs.map zF)] (·=.uq 109 6 (xs.map zF)):=by
 refine callsTo_of_AW (fn:=Tryz.f174) Tryz.func174 rfl (by kernel_rfl) rfl ?_
 conv=>whnf
 refine⟨fun h=>?_,?_⟩
 ·have:xs=[]:=by simpa using h
  subst this
  conv=>whnf
  exact .inr ⟨109,6,rfl⟩
 ·conv=>whnf
  refine⟨⟨by simp[zF],by simp;omega,by simp;omega⟩,?_⟩
  conv=>whnf
  exact congrArg (AV.uq 109 6) (by simp[List.take_of_length_le])
theorem CloneE_ok (xs:List Ev) (hx:xs.length≤1048576):CallsTo EE 130 [sl (xs.map encEv)] (·=.uq 107 5 (xs.map encEv)):=by
 refine callsTo_of_AW (fn:=Tryz.f130) Tryz.func130 rfl (by kernel_rfl) rfl ?_
 conv=>whnf
 refine⟨fun h=>?_,?_⟩
 ·have:xs=[]:=by simpa using h
  subst this
  conv=>whnf
  exact .inr ⟨107,5,rfl⟩
 ·conv=>whnf
  refine⟨⟨by simp[encEv],by simp;omega,by simp;omega⟩,?_⟩
  conv=>whnf
  exact congrArg (AV.uq 107 5) (by simp[List.take_of_length_le])
theorem l1Own_ok (xs:List Int) (hx:xs.length≤1048576):CallsTo EE 116 [sl (xs.map encInt)] (·=.uq 3 1 (xs.map encInt)):=by
 refine callsTo_of_AW (fn:=Tryz.f116) Tryz.func116 rfl (by kernel_rfl) rfl ?_
 conv=>whnf
 refine⟨⟨by simp[encInt],by simp;omega,by simp;omega⟩,?_⟩
 conv=>whnf
 exact congrArg (AV.uq 3 1) (by simp[List.take_of_length_le])
theorem hJ (r:Int):CallsTo EE 120 [i64 r] (·=agg [di r,di 0,di 1,di (-1),di (-1),.sl []]):=by
 refine callsTo_of_AW (fn:=Tryz.f120) Tryz.func120 rfl (by kernel_rfl) rfl ?_
 conv=>whnf
 rfl
theorem kR (r:Int):CallsTo EE 135 [i64 r] (·=.own [i64 r,i64 0,i64 1,i64 (-1),i64 (-1),.uq 100 1 []]):=by
 refine callsTo_of_AW (fn:=Tryz.f135) Tryz.func135 rfl (by kernel_rfl) rfl ?_
 conv=>whnf
 refine .inr (.inr ⟨_,_,wL 4 905,rfl,?_,?_,rfl⟩)
 ·intro v hv
  simp only[List.mem_cons,List.not_mem_nil,or_false] at hv
  rcases hv with rfl|rfl|rfl|rfl|rfl|rfl <;> trivial
 ·exact nY ⟨trivial,trivial,trivial,trivial,trivial,rfl,trivial⟩
end Ai
namespace Ai
set_option maxRecDepth 100000
open Go Go.Proofs
def StL.small (s:StL):Prop:=s.ths.length≤1048576∧(∀ t∈s.ths,t.stack.length≤1048576)∧s.cells.length≤1048576∧s.owner.length≤1048576
theorem mX (s:StL) (hs:s.small):CallsTo EE 147 [agg (encSt s)] (·=.own (kI s)):=by
 obtain⟨s1,s2,s3,s4⟩:=hs
 refine callsTo_of_AW (fn:=Tryz.f147) Tryz.func147 rfl (by kernel_rfl) rfl ?_
 conv=>whnf
 refine .inr (.inl ⟨12,[],?_⟩)
 conv=>whnf
 refine⟨⟨by simp[encF],by simp;omega,by simp;omega⟩,?_⟩
 conv=>whnf
 refine⟨_,l1Own_ok s.owner s4,.inr ⟨_,rfl,?_⟩⟩
 conv=>whnf
 refine⟨by kernel_rfl,?_⟩
 conv=>whnf
 refine aloopF (fun k:Nat=>[(1,.ptr 1 0),(2,.ptr 2 0),(3,.ptr 3 0),(17,sl (s.ths.map zF)),(18,i64 (s.ths.map zF).length),(19,i64 k)])
  (fun k=>[(2,.vs 44 [.d .nil,.d .nil,.d .nil,i64 0]),(3,.vs 44 [.dref 900 k,.ref 6 0 (0+(s.cells.map encF).length),.ref 12 0 (s.owner.map encInt).length,i64 s.fault]),(6,.ds 100 1 (s.cells.map encF)),(12,.ds 3 1 (s.owner.map encInt)),(900,.rs 109 6 (thRows 900 (s.ths.take k)))])
  (fun k=>[(900,zS (s.ths.take k))]) (fun k=>s.ths.length - k) (fun k=>k≤s.ths.length) 0 (qB 3 900 44 109 6 0 _ (by intro n h;cases h) (by intro h;cases h) rfl rfl) ?_ ?_ ?_ (Nat.zero_le _) ?_
 ·exact⟨rfl,rfl,rfl,rfl,rfl,rfl,trivial⟩
 ·exact⟨rfl,rfl,rfl,rfl,rfl,trivial⟩
 ·refine⟨fun j=>?_,trivial⟩
  simp[zS]
  rfl
 rintro k τ H hk
 conv=>whnf
 refine kbi (fun h=>?_) (fun h=>?_)
 ·have hlt:=xO h
  conv=>whnf
  refine⟨zF s.ths[k],yD zF hlt rfl,?_⟩
  conv=>whnf
  refine⟨⟨by simp[encF],by simp;have:=s2 _ (List.getElem_mem hlt);omega,by simp;have:=s2 _ (List.getElem_mem hlt);omega⟩,?_⟩
  conv=>whnf
  refine .inr ?_
  conv=>whnf
  refine⟨⟨fun c hc=>?_,?_,?_⟩,?_⟩
  ·have hc:c∈[[i64 s.ths[k].rt,i64 s.ths[k].pc,i64 s.ths[k].st,i64 s.ths[k].cond,i64 s.ths[k].lock,AV.ref (.n 23) 0 (0+(List.map encF s.ths[k].stack).length)]]:=hc
   simp only[List.mem_singleton] at hc
   subst hc;rfl
  ·show(k+1)*64≤_
   omega
  ·show k+1≤_
   omega
  conv=>whnf
  refine⟨k+1,_,jR 23 900 k,by omega,by show s.ths.length - (k+1)<s.ths.length - k;omega,⟨rfl,rfl,rfl,rfl,rfl,next_i64 hlt (by omega),trivial⟩,⟨rfl,rfl,rfl,rfl,?_,trivial⟩,⟨fun j=>?_,trivial⟩⟩
  ·show some (Ob.rs 109 6 ((((((((thRows 900 (s.ths.take k)).map (scrPL (isK (.n 5)))).map (scrPL (isK (.n 23)))).map (scrPL (isK (.n 23)))).map (scrPL (isK (.n 31)))).take k++[[i64 s.ths[k].rt,i64 s.ths[k].pc,i64 s.ths[k].st,i64 s.ths[k].cond,i64 s.ths[k].lock,AV.ref (.n 23) 0 (0+(List.map encF s.ths[k].stack).length)]]).map (scrPL (isK (.n 900)))).map (renL (swp (.n 23) (.s 900 k)))))=_
   rw[qT,qT,qT,qT]
   rw[(p7 s.ths k 23 hlt _ (by simp)).resolve_right (by omega)]
  ·have hl:(s.ths.take k).length=k:=by simp;omega
   by_cases hj:j=k
   ·subst hj
    have e:swp (.n 23) (.s 900 j) (.s 900 j)=.n 23:=by simp[swp,Key.beq]
    show(St.H _ (swp (.n 23) (.s 900 j) (.s 900 j))).map _=_
    rw[e]
    show some (Ob.ds 100 ti100.sz (List.take 0 []++List.map encF s.ths[j].stack))=_
    rw[zS,dF s.ths j hlt,List.getElem?_append_right (by omega),hl]
    simp[stk]
   ·have e:swp (.n 23) (.s 900 k) (.s 900 j)=.s 900 j:=by simp[swp,Key.beq,nbeq_ne hj]
    show(St.H _ (swp (.n 23) (.s 900 k) (.s 900 j))).map _=_
    rw[e]
    show((((((zS (s.ths.take k) j).map (scrPO (isK (.n 5)))).map (scrPO (isK (.n 23)))).map (scrPO (isK (.n 23)))).map (scrPO (isK (.n 31)))).map (scrPO (isK (.n 900)))).map (renO _)=_
    rw[yH,yH,yH,yH,yH,thFam_ren]
    exact tC hj
 ·have hge:s.ths.length≤k:=by simpa using h
  have hkk:k=s.ths.length:=by omega
  subst hkk
  conv=>whnf
  refine .inr (.inr ⟨kI s,_,(wL 6 901).trans (wL 12 902),?_,?_,nY ⟨⟨?_,fun j q hq=>?_⟩,rfl,rfl,trivial,trivial⟩,rfl⟩)
  ·show some [AV.agg [.dref 900 s.ths.length,.ref 901 0 (0+(List.map encF s.cells).length),.ref 902 0 (List.map encInt s.owner).length,i64 s.fault]]=_
   simp[ownR,ownR1,kI,kD]
   exact⟨rfl,rfl,rfl⟩
  ·intro v hv
   simp only[kI,List.mem_cons,List.not_mem_nil,or_false] at hv
   rcases hv with rfl|rfl|rfl|rfl
   ·show(s.ths.map bT).length=(s.ths.map stk).length
    simp
   ·trivial
   ·trivial
   ·trivial
  ·show some (Ob.rs 109 6 (((thRows 900 (s.ths.take s.ths.length)).map (renL (swp (.n 6) (.n 901)))).map (renL (swp (.n 12) (.n 902)))))=some (Ob.rs 109 6 (thRows 900 s.ths))
   rw[kF,kF,List.take_length]
  ·show((zS (s.ths.take s.ths.length) j).map (renO _)).map (renO _)=_
   rw[thFam_ren,thFam_ren,List.take_length,zS]
   rw[List.getElem?_map] at hq
   obtain⟨t,ht,rfl⟩:=Option.map_eq_some_iff.1 hq
   rw[ht];rfl
end Ai
namespace Ai
set_option maxRecDepth 100000
open Go Go.Proofs
def oneF:Nat:=4607182418800017408
def yR (x:Nat) (many:Int):Option Int :=
 if (1≤many∧many≤1000)∧fcmp .lss x 0=false∧fcmp .lss x (FloatKind.f64.nearest many)=true then
  (match floatToIntVal .f64 x .i64 with
  |some n=>if fcmp .eql (FloatKind.f64.nearest n) x=true then some n else none
  |none=>none)
 else none
def zA (c:Int):Int × Int :=
 if c=1∨c=2∨c=14 then (0,1) else if c=3∨c=11∨c=15 then (1,0) else if 4≤c∧c≤9 then (2,1) else (0,0)
theorem cD (c:Int):CallsTo EE 200 [i64 c] (·=.tup [i64 (zA c).1,i64 (zA c).2]):=by
 refine callsTo_of_AW (fn:=Tryz.f200) Tryz.func200 rfl (by kernel_rfl) rfl ?_
 have go1:(c=1∨c=2∨c=14)→zA c=(0,1):=fun h=>by simp[zA,h]
 have go2:¬ (c=1∨c=2∨c=14)→(c=3∨c=11∨c=15)→zA c=(1,0):=fun h1 h=>by simp[zA,h1,h]
 conv=>whnf
 refine kbi (fun h1=>?_) (fun h1=>?_)
 ·have:c=1:=by simpa using h1
  conv=>whnf
  rw[go1 (.inl this)]
 conv=>whnf
 refine kbi (fun h2=>?_) (fun h2=>?_)
 ·have:c=2:=by simpa using h2
  conv=>whnf
  rw[go1 (.inr (.inl this))]
 conv=>whnf
 refine kbi (fun h3=>?_) (fun h3=>?_)
 ·have:c=14:=by simpa using h3
  conv=>whnf
  rw[go1 (.inr (.inr this))]
 have hn:¬ (c=1∨c=2∨c=14):=by simp at h1 h2 h3;omega
 conv=>whnf
 refine kbi (fun g1=>?_) (fun g1=>?_)
 ·have:c=3:=by simpa using g1
  conv=>whnf
  rw[go2 hn (.inl this)]
 conv=>whnf
 refine kbi (fun g2=>?_) (fun g2=>?_)
 ·have:c=11:=by simpa using g2
  conv=>whnf
  rw[go2 hn (.inr (.inl this))]
 conv=>whnf
 refine kbi (fun g3=>?_) (fun g3=>?_)
 ·have:c=15:=by simpa using g3
  conv=>whnf
  rw[go2 hn (.inr (.inr this))]
 have hn2:¬ (c=3∨c=11∨c=15):=by simp at g1 g2 g3;omega
 conv=>whnf
 refine ocase (qR c 4 9) (fun h=>?_) (fun h=>?_)
 ·conv=>whnf
  have:zA c=(2,1):=by simp only[zA,if_neg hn,if_neg hn2];exact if_pos h
  rw[this]
 ·conv=>whnf
  have:zA c=(0,0):=by simp only[zA,if_neg hn,if_neg hn2];exact if_neg h
  rw[this]
def yA (p:ProgL) (t:Th):Option OpL:=(p.rs.getD t.rt.toNat [])[t.pc.toNat]?
def op0:OpL:=⟨0,0,0,0⟩
def Th.inP (p:ProgL) (t:Th):Prop:=InR t.rt 0 (p.rs.length - 1)∧InR t.pc 0 (p.rs.getD t.rt.toNat []).length
theorem pE (p:ProgL) (t:Th) (hp:p.wf) (h:t.inP p):CallsTo EE 146 [agg (encProg p),agg (zF t)] (·=.tup [agg (encOp ((yA p t).getD op0)),bv (yA p t).isSome]):=by
 refine callsTo_of_AW (fn:=Tryz.f146) Tryz.func146 rfl (by kernel_rfl) rfl ?_
 obtain⟨⟨a1,a2⟩,b1,b2⟩:=h
 have hr:t.rt.toNat<p.rs.length:=by omega
 conv=>whnf
 refine⟨zO p.rs[t.rt.toNat],⟨a1,?_,rfl⟩,?_⟩
 ·show(p.rs.map zO)[t.rt.toNat]?=_
  simp[hr]
 conv=>whnf
 have hrow:p.rs.getD t.rt.toNat []=p.rs[t.rt.toNat]:=by simp[List.getD_eq_getElem?_getD,hr]
 rw[hrow] at b2
 refine kbi (fun h=>?_) (fun h=>?_)
 ·have h1:t.pc=(p.rs[t.rt.toNat].length:Int):=by simpa using h
  have h2:yA p t=none:=by unfold yA;rw[hrow,h1];simp
  conv=>whnf
  rw[h2]
  rfl
 ·have h1:t.pc.toNat<p.rs[t.rt.toNat].length:=by simp at h;omega
  have h2:yA p t=some p.rs[t.rt.toNat][t.pc.toNat]:=by unfold yA;rw[hrow];simp[h1]
  conv=>whnf
  refine⟨encOp p.rs[t.rt.toNat][t.pc.toNat],⟨b1,?_,rfl⟩,?_⟩
  ·simp[h1]
  conv=>whnf
  rw[h2]
  rfl
end Ai
namespace Ai
set_option maxRecDepth 100000
open Go Go.Proofs
def xE:Prop:=∀ (x:Nat) (many:Int),CallsTo EE 241 [.d (.flt x),i64 many] (·=.tup [i64 ((yR x many).getD 0),bv (yR x many).isSome])
def zU (s:StL) (t:Th):Option Int:=(t.stack.getLast?).bind fun x=>yR x s.ths.length
theorem lL (hI:xE) (s:StL) (t:Th) (ht:t.stack.length≤1048576):CallsTo EE 199 [agg (encSt s),agg (zF t)] (·=i64 ((zU s t).getD (-1))):=by
 refine callsTo_of_AW (fn:=Tryz.f199) Tryz.func199 rfl (by kernel_rfl) rfl ?_
 conv=>whnf
 refine kbi (fun h=>?_) (fun h=>?_)
 ·have h1:t.stack=[]:=by
   have:(t.stack.map encF).length=0:=by simpa using h
   simpa using this
  conv=>whnf
  simp[zU,h1]
 ·have hne:t.stack≠[]:=fun e=>h (by rw[e];rfl)
  have hpos:0<t.stack.length:=List.length_pos_iff.2 hne
  conv=>whnf
  refine .inr (.inl ⟨17,[],?_⟩)
  conv=>whnf
  refine⟨encF (t.stack.getLast hne),⟨?_,?_,rfl⟩,?_⟩
  ·rw[zE (by simp;omega) (by simp;omega)];simp;omega
  ·rw[zE (by simp;omega) (by simp;omega)]
   have e:((((t.stack.map encF).length:Int) - 1).toNat)=t.stack.length - 1:=by simp
   rw[e,List.getElem?_map,← List.getLast?_eq_getElem?,List.getLast?_eq_some_getLast hne]
   rfl
  conv=>whnf
  refine⟨_,hI _ _,?_⟩
  conv=>whnf
  have hj:zU s t=yR (t.stack.getLast hne) (s.ths.map zF).length:=by
   unfold zU
   rw[List.getLast?_eq_some_getLast hne]
   simp
  rw[← hj]
  refine⟨by kernel_rfl,?_⟩
  conv=>whnf
  cases h2:zU s t with
  |none =>
   conv=>whnf
   rfl
  |some k =>
   conv=>whnf
   rfl
end Ai
namespace Ai
set_option maxRecDepth 100000
open Go Go.Proofs
def dC (x y:Nat):Prop:=((zM x=true∨zM y=true)∧zM x=true∧zM y=true)∨(¬ (zM x=true∨zM y=true)∧fcmp .eql x y=true∧(kC x↔kC y))
theorem w8 (x y:Nat):CallsTo EE 143 [.d (.flt x),.d (.flt y)] (·=bp (dC x y)):=by
 refine callsTo_of_AW (fn:=Tryz.f143) Tryz.func143 rfl (by kernel_rfl) rfl ?_
 conv=>whnf
 refine ocase (vX x) (fun h=>?_) (fun h=>?_)
 ·conv=>whnf
  refine ocase (vX x) (fun h2=>?_) (fun h2=>?_)
  ·conv=>whnf
   refine ocase (vX y) (fun h3=>?_) (fun h3=>?_)
   ·conv=>whnf
    exact bpt (.inl ⟨.inl h,h,h3⟩)
   ·conv=>whnf
    exact bpf fun e=>e.elim (fun a=>h3 a.2.2) fun a=>a.1 (.inl h)
  ·exact absurd h h2
 ·conv=>whnf
  refine ocase (vX y) (fun h3=>?_) (fun h3=>?_)
  ·conv=>whnf
   refine ocase (vX x) (fun h2=>?_) (fun h2=>?_)
   ·exact absurd h2 h
   ·conv=>whnf
    exact bpf fun e=>e.elim (fun a=>h a.2.1) fun a=>a.1 (.inr h3)
  ·conv=>whnf
   have hn:¬ (zM x=true∨zM y=true):=fun e=>e.elim h h3
   refine kbi (fun h4=>?_) (fun h4=>?_)
   ·conv=>whnf
    refine ocase (qM x) (fun h5=>?_) (fun h5=>?_)
    ·conv=>whnf
     refine ocase (qM y) (fun h6=>?_) (fun h6=>?_)
     ·conv=>whnf
      refine kbi (fun h7=>?_) (fun h7=>?_)
      ·conv=>whnf
       exact bpt (.inr ⟨hn,h4,fun _=>h6,fun _=>h5⟩)
      ·exact absurd (by decide) h7
     ·conv=>whnf
      refine kbi (fun h7=>?_) (fun h7=>?_)
      ·exact absurd h7 (by decide)
      ·conv=>whnf
       exact bpf fun e=>e.elim (fun a=>hn a.1) fun a=>h6 (a.2.2.1 h5)
    ·conv=>whnf
     refine ocase (qM y) (fun h6=>?_) (fun h6=>?_)
     ·conv=>whnf
      refine kbi (fun h7=>?_) (fun h7=>?_)
      ·exact absurd h7 (by decide)
      ·conv=>whnf
       exact bpf fun e=>e.elim (fun a=>hn a.1) fun a=>h5 (a.2.2.2 h6)
     ·conv=>whnf
      refine kbi (fun h7=>?_) (fun h7=>?_)
      ·conv=>whnf
       exact bpt (.inr ⟨hn,h4,fun a=>absurd a h5,fun a=>absurd a h6⟩)
      ·exact absurd (by decide) h7
   ·conv=>whnf
    exact bpf fun e=>e.elim (fun a=>hn a.1) fun a=>h4 a.2.1
open Classical in
noncomputable def yN (c:Int) (x y:Nat):Nat :=
 if c=4 then fop .add x y else if c=5 then fop .sub x y else if c=6 then fop .mul x y else if c=7 then fop .quo x y
 else if c=8 then (if fcmp .lss x y=true then oneF else 0) else if dC x y then oneF else 0
theorem l3Reckon_ok (c:Int) (x y:Nat):CallsTo EE 201 [i64 c,.d (.flt x),.d (.flt y)] (·=.d (.flt (yN c x y))):=by
 refine callsTo_of_AW (fn:=Tryz.f201) Tryz.func201 rfl (by kernel_rfl) rfl ?_
 conv=>whnf
 refine kbi (fun h1=>?_) (fun h1=>?_)
 ·have:c=4:=by simpa using h1
  conv=>whnf
  subst this;rfl
 have h1:¬ c=4:=by simpa using h1
 conv=>whnf
 refine kbi (fun h2=>?_) (fun h2=>?_)
 ·have:c=5:=by simpa using h2
  conv=>whnf
  subst this;rfl
 have h2:¬ c=5:=by simpa using h2
 conv=>whnf
 refine kbi (fun h3=>?_) (fun h3=>?_)
 ·have:c=6:=by simpa using h3
  conv=>whnf
  subst this;rfl
 have h3:¬ c=6:=by simpa using h3
 conv=>whnf
 refine kbi (fun h4=>?_) (fun h4=>?_)
 ·have:c=7:=by simpa using h4
  conv=>whnf
  subst this;rfl
 have h4:¬ c=7:=by simpa using h4
 conv=>whnf
 refine kbi (fun h5=>?_) (fun h5=>?_)
 ·have:c=8:=by simpa using h5
  conv=>whnf
  refine kbi (fun h6=>?_) (fun h6=>?_)
  ·conv=>whnf
   simp[yN,this,h6];rfl
  ·conv=>whnf
   simp[yN,this,h6];rfl
 have h5:¬ c=8:=by simpa using h5
 conv=>whnf
 refine ocase (w8 x y) (fun h=>?_) (fun h=>?_)
 ·conv=>whnf
  simp[yN,h1,h2,h3,h4,h5,h];rfl
 ·conv=>whnf
  simp[yN,h1,h2,h3,h4,h5,h];rfl
def th0:Th:=⟨0,0,0,0,0,[]⟩
def zV (s:StL) (k:Nat) (o:OpL):Int :=
 let t:=s.ths.getD k th0
 if (t.stack.length:Int)<(zA o.code).1∨8<(t.stack.length:Int) - (zA o.code).1+(zA o.code).2 then 1
 else if (o.code=13∧s.owner.getD o.a.toNat 0≠k)∨(o.code=16∧s.owner.getD o.b.toNat 0≠k) then 2
 else if o.code=15∧(zU s t).getD (-1)<0 then 3
 else if o.code=14∧s.ths.length=5 then 4 else 0
def OpL.inS (o:OpL) (s:StL):Prop:=(o.code=13→0≤o.a∧o.a<s.owner.length)∧(o.code=16→0≤o.b∧o.b<s.owner.length)
theorem l3Code_ok (hI:xE) (s:StL) (k:Nat) (o:OpL) (hk:k<s.ths.length) (hs:s.small) (ho:o.inS s):CallsTo EE 148 [agg (encSt s),i64 k,agg (encOp o)] (·=i64 (zV s k o)):=by
 refine callsTo_of_AW (fn:=Tryz.f148) Tryz.func148 rfl (by kernel_rfl) rfl ?_
 have hg:s.ths.getD k th0=s.ths[k]:=by simp[List.getD_eq_getElem?_getD,hk]
 have hst:=hs.2.1 _ (List.getElem_mem hk)
 conv=>whnf
 refine⟨zF s.ths[k],yD zF hk rfl,?_⟩
 conv=>whnf
 refine⟨_,cD o.code,?_⟩
 rintro r rfl
 conv=>whnf
 have ht:0≤(zA o.code).1∧(zA o.code).1≤2∧0≤(zA o.code).2∧(zA o.code).2≤1:=by
  unfold zA;split
  ·decide
  ·split
   ·decide
   ·split <;> decide
 have e1:(IntKind.i64.wrap ((s.ths[k].stack.length:Int) - (zA o.code).1))=(s.ths[k].stack.length:Int) - (zA o.code).1:=zE (by omega) (by omega)
 refine kbi (fun h1=>?_) (fun h1=>?_)
 ·conv=>whnf
  have h1:(s.ths[k].stack.length:Int)<(zA o.code).1:=by simpa using h1
  simp only[zV,hg]
  rw[if_pos (.inl h1)]
 have h1:¬ (s.ths[k].stack.length:Int)<(zA o.code).1:=by simpa using h1
 conv=>whnf
 rw[show(List.map encF s.ths[k].stack).length=s.ths[k].stack.length by simp,e1,zE (by omega) (by omega)]
 refine kbi (fun h2=>?_) (fun h2=>?_)
 ·have h2:8<(s.ths[k].stack.length:Int) - (zA o.code).1+(zA o.code).2:=by simpa using h2
  conv=>whnf
  simp only[zV,hg]
  rw[if_pos (.inr h2)]
 have h2:¬ 8<(s.ths[k].stack.length:Int) - (zA o.code).1+(zA o.code).2:=by simpa using h2
 have hn1:¬ ((s.ths[k].stack.length:Int)<(zA o.code).1∨8<(s.ths[k].stack.length:Int) - (zA o.code).1+(zA o.code).2):=fun e=>e.elim h1 h2
 conv=>whnf
 have fin:∀ n:Int,(if (o.code=13∧s.owner.getD o.a.toNat 0≠k)∨(o.code=16∧s.owner.getD o.b.toNat 0≠k) then 2
   else if o.code=15∧(zU s s.ths[k]).getD (-1)<0 then 3
   else if o.code=14∧s.ths.length=5 then 4 else 0)=n→AV.d (.int .i64 n)=i64 (zV s k o):=by
  intro n hn
  rw[← hn]
  simp only[zV,hg]
  rw[if_neg hn1]
 have own_get:∀ (a:Int),0≤a∧a<s.owner.length→0≤a∧(s.owner.map encInt)[a.toNat]?=some (encInt (s.owner.getD a.toNat 0))∧(encInt (s.owner.getD a.toNat 0)).length=1:=by
  intro a ha
  refine⟨ha.1,?_,rfl⟩
  have:a.toNat<s.owner.length:=by omega
  simp[this,List.getD_eq_getElem?_getD]
 -- what comes behind,the code being neither
 have tail0:∀ (c:Int),c≠15→c≠14→True:=fun _ _ _=>trivial
 refine kbi (fun h3=>?_) (fun h3=>?_)
 ·have h3:o.code=13:=by simpa using h3
  conv=>whnf
  refine⟨_,own_get o.a (ho.1 h3),?_⟩
  conv=>whnf
  refine kbi (fun h4=>?_) (fun h4=>?_)
  ·have h4:s.owner.getD o.a.toNat 0≠k:=by simpa using h4
   conv=>whnf
   exact fin 2 (by rw[if_pos (.inl ⟨h3,h4⟩)])
  have h4:¬ s.owner.getD o.a.toNat 0≠k:=by simpa using h4
  conv=>whnf
  refine kbi (fun h5=>?_) (fun h5=>?_)
  ·exact absurd h5 (by simp[h3])
  conv=>whnf
  refine kbi (fun h6=>?_) (fun h6=>?_)
  ·exact absurd h6 (by simp[h3])
  conv=>whnf
  refine kbi (fun h7=>?_) (fun h7=>?_)
  ·exact absurd h7 (by simp[h3])
  conv=>whnf
  exact fin 0 (by rw[if_neg (by rintro(⟨_,e⟩|⟨e,_⟩);exact h4 e;omega),if_neg (by omega),if_neg (by omega)])
 have h3:¬ o.code=13:=by simpa using h3
 conv=>whnf
 refine kbi (fun h4=>?_) (fun h4=>?_)
 ·have h4:o.code=16:=by simpa using h4
  conv=>whnf
  refine⟨_,own_get o.b (ho.2 h4),?_⟩
  conv=>whnf
  refine kbi (fun h5=>?_) (fun h5=>?_)
  ·have h5:s.owner.getD o.b.toNat 0≠k:=by simpa using h5
   conv=>whnf
   exact fin 2 (by rw[if_pos (.inr ⟨h4,h5⟩)])
  have h5:¬ s.owner.getD o.b.toNat 0≠k:=by simpa using h5
  conv=>whnf
  refine kbi (fun h6=>?_) (fun h6=>?_)
  ·exact absurd h6 (by simp[h4])
  conv=>whnf
  refine kbi (fun h7=>?_) (fun h7=>?_)
  ·exact absurd h7 (by simp[h4])
  conv=>whnf
  exact fin 0 (by rw[if_neg (by rintro(⟨e,_⟩|⟨_,e⟩);exact h3 e;exact h5 e),if_neg (by omega),if_neg (by omega)])
 have h4:¬ o.code=16:=by simpa using h4
 have hn2:¬ ((o.code=13∧s.owner.getD o.a.toNat 0≠k)∨(o.code=16∧s.owner.getD o.b.toNat 0≠k)):=by
  rintro(⟨e,_⟩|⟨e,_⟩)
  ·exact h3 e
  ·exact h4 e
 conv=>whnf
 refine kbi (fun h5=>?_) (fun h5=>?_)
 ·have h5:o.code=15:=by simpa using h5
  conv=>whnf
  refine⟨_,lL hI s s.ths[k] hst,?_⟩
  rintro r rfl
  conv=>whnf
  refine kbi (fun h6=>?_) (fun h6=>?_)
  ·have h6:(zU s s.ths[k]).getD (-1)<0:=by simpa using h6
   conv=>whnf
   exact fin 3 (by rw[if_neg hn2,if_pos ⟨h5,h6⟩])
  have h6:¬ (zU s s.ths[k]).getD (-1)<0:=fun e=>h6 (by simpa using e)
  conv=>whnf
  refine kbi (fun h7=>?_) (fun h7=>?_)
  ·exact absurd h7 (by simp[h5])
  conv=>whnf
  exact fin 0 (by rw[if_neg hn2,if_neg (fun e=>h6 e.2),if_neg (by omega)])
 have h5:¬ o.code=15:=by simpa using h5
 conv=>whnf
 refine kbi (fun h6=>?_) (fun h6=>?_)
 ·have h6:o.code=14:=by simpa using h6
  conv=>whnf
  refine kbi (fun h7=>?_) (fun h7=>?_)
  ·have h7:s.ths.length=5:=by
    have:((s.ths.map zF).length:Int)=5:=by simpa using h7
    simp at this;omega
   conv=>whnf
   exact fin 4 (by rw[if_neg hn2,if_neg (fun e=>h5 e.1),if_pos ⟨h6,h7⟩])
  have h7:¬ s.ths.length=5:=fun e=>h7 (by simp[e])
  conv=>whnf
  exact fin 0 (by rw[if_neg hn2,if_neg (fun e=>h5 e.1),if_neg (fun e=>h7 e.2)])
 have h6:¬ o.code=14:=by simpa using h6
 conv=>whnf
 exact fin 0 (by rw[if_neg hn2,if_neg (fun e=>h5 e.1),if_neg (fun e=>h6 e.1)])
end Ai
namespace Ai
set_option maxRecDepth 100000
open Go Go.Proofs
def StAt (o:Nat) (s:StL) (S:St):Prop :=
 S.H (.n o)=some (.rs 109 6 (thRows o s.ths))∧(∀ j,(h:j<s.ths.length)→S.H (.s o j)=some (.ds 100 1 (stk s.ths[j]))) ∧
 S.H (.n (o+1))=some (.ds 100 1 (s.cells.map encF))∧S.H (.n (o+2))=some (.ds 3 1 (s.owner.map encInt))
theorem fz_row {o j:Nat} {t:Th} {S:St} (h:S.H (.s o j)=some (.ds 100 1 (stk t))):fz1s S (thRow o j t)=some (zF t):=by
 simp[thRow,fz1s,fz1,h,i64,zF,stk,List.take_of_length_le]
theorem fz_st {o:Nat} {s:StL} {S:St} {n m l:Nat} (h:StAt o s S) (hn:n=s.ths.length) (hm:m=s.cells.length) (hl:l=s.owner.length) :
  FzC S [.dref (.n o) n,.ref (.n (o+1)) 0 m,.ref (.n (o+2)) 0 l,i64 s.fault] (encSt s):=by
 obtain⟨h1,h2,h3,h4⟩:=h
 subst hn hm hl
 refine⟨.sl (s.ths.map zF),_,rfl,⟨_,rfl,?_⟩,.sl (s.cells.map encF),_,rfl,?_,.sl (s.owner.map encInt),_,rfl,?_,di s.fault,[],rfl,rfl,rfl⟩
 ·unfold kP
  rw[h1]
  refine⟨by simp,fun j row hj hr=>?_⟩
  rw[xJ hj] at hr
  simp only[Option.some.injEq] at hr
  subst hr
  exact⟨zF s.ths[j],by simp[hj],fz_row (h2 j hj)⟩
 ·simp[FzD,fz1,h3,List.take_of_length_le]
 ·simp[FzD,fz1,h4,List.take_of_length_le]
theorem qG {s:StL} {j:Nat} (h:j<s.ths.length):ownH (kI s) (.s 900 j)=some (.ds 100 1 (stk s.ths[j])):=by
 show((s.ths.map stk)[j]?).map (Ob.ds 100 1)=_
 simp[h]
theorem fz_ev {S:St} (a b c d e:Int):FzC S [i64 a,i64 b,i64 c,i64 d,i64 e] [di a,di b,di c,di d,di e] :=
 ⟨_,_,rfl,rfl,_,_,rfl,rfl,_,_,rfl,rfl,_,_,rfl,rfl,_,_,rfl,rfl,rfl⟩
theorem yK {x X:Ob} {p:Key→Bool} (h:x=X) (hp:scrPO p X=X):scrPO p x=X:=by rw[h];exact hp
theorem hscr {x:Option Ob} {X:Ob} {p:Key→Bool} (h:x=some X) (hp:scrPO p X=X):x.map (scrPO p)=some X:=by rw[h];exact congrArg some hp
theorem l3Fault_ok (s:StL) (e:Ev) (n:Int) (hs:s.small):CallsTo EE 149 [agg (encSt s),agg (encEv e),i64 n] (·=.tup [agg (encSt { s with fault:=n }),agg (encEv { e with kind:=12,obj:=n })]):=by
 refine callsTo_of_AW (fn:=Tryz.f149) Tryz.func149 rfl (by kernel_rfl) rfl ?_
 conv=>whnf
 refine⟨_,mX s hs,?_⟩
 rintro r rfl
 conv=>whnf
 refine .inr (.inl ⟨4,[],?_⟩)
 conv=>whnf
 refine⟨by kernel_rfl,?_⟩
 conv=>whnf
 refine .inl ?_
 conv=>whnf
 refine⟨[agg (encSt { s with fault:=n }),agg (encEv { e with kind:=12,obj:=n })],⟨_,_,rfl,⟨_,rfl,fz_st (o:=900) (s:={ s with fault:=n }) ⟨?_,?_,?_,?_⟩ ?_ ?_ ?_⟩,_,_,rfl,⟨_,rfl,?_⟩,rfl⟩,rfl⟩
 ·conv=>lhs;whnf
  refine congrArg some ?_
  repeat (first|rfl|refine yK ?_ (by exact congrArg _ (yF fun _ _=>rfl)))
 ·intro j hj
  conv=>lhs;whnf
  repeat (refine hscr ?_ rfl;conv=>lhs;whnf)
  rw[qG (s:=s) hj]
 ·conv=>lhs;whnf
  rfl
 ·conv=>lhs;whnf
  rfl
 ·simp
 ·simp
 ·simp
 ·exact fz_ev e.th 12 n e.lock e.pc
end Ai
namespace Ai
set_option maxRecDepth 100000
open Go Go.Proofs
def StH (s:StL) (H:Key→Option Ob):Prop :=
 H (.n 900)=some (.rs 109 6 (thRows 900 s.ths))∧(∀ j,H (.s 900 j)=zS s.ths j)∧H (.n 901)=some (.ds 100 1 (s.cells.map encF))∧H (.n 902)=some (.ds 3 1 (s.owner.map encInt))
def stRef (s:StL):List AV:=[.dref (.n 900) s.ths.length,.ref (.n 901) 0 s.cells.length,.ref (.n 902) 0 s.owner.length,i64 s.fault]
def kU (l:List Th) (k:Nat) (els:List (List D)) (j:Nat):Option Ob:=bif Nat.beq j k then some (.ds 100 1 els) else zS l j
def xK (o:OpL):Nat:=(zA o.code).1.toNat
def zQ (t:Th) (o:OpL):Nat:=t.stack.length - xK o
def doL1 (s:StL) (k:Nat) (o:OpL) (t:Th):List (Nat × AV):=[(1,i64 k),(4,.ptr (.n 4) 0),(6,.ptr (.n 6) 0),(7,.ptr (.n 7) 0),(8,.ptr (.n 8) 0),(9,.ptr (.n 9) 0),(10,.ptr (.n 10) 0),(11,i64 (zA o.code).1),
  (13,.ref (.n 28) 0 (xK o)),(14,i64 ((zU s t).getD (-1)))]
def doO1 (s:StL) (k:Nat) (o:OpL) (e:Ev) (t:Th):List (Key × Ob):=[(.n 4,.vs 44 (stRef s)),(.n 6,.vs 102 ((encOp o).map .d)),(.n 7,.vs 107 ((encEv { e with kind:=1 }).map .d)),
  (.n 8,.vs 44 [.d .nil,.d .nil,.d .nil,i64 0]),(.n 9,.vs 107 [i64 0,i64 0,i64 0,i64 0,i64 0]),(.n 10,.vs 109 [i64 t.rt,i64 (t.pc+1),i64 t.st,i64 t.cond,i64 t.lock,.ref (.s 900 k) 0 (zQ t o)]),
  (.n 28,.ds 100 1 ((t.stack.drop (zQ t o)).map encF)),(.n 900,.rs 109 6 (thRows 900 s.ths)),(.n 901,.ds 100 1 (s.cells.map encF)),(.n 902,.ds 3 1 (s.owner.map encInt))]
theorem yZ {rows:List (List AV)} {p:Key→Bool} {c:List AV} {j:Nat} (h:rows[j]?=some c) (hp:scrPL p c=c):(rows.map (scrPL p))[j]?=some c:=by
 rw[List.getElem?_map,h];exact congrArg some hp
theorem pZ {o:Nat} {l:List Th} {k:Nat} {t:Th} (h:k<l.length) (ht:l[k]=t):(thRows o l)[((k:Nat):Int).toNat]?=some (thRow o k t):=by rw[← ht];exact xJ h
theorem famK_get {l:List Th} {k j:Nat} {t:Th} (hk:k<l.length) (ht:l[k]=t) (h:j<l.length):kU l k (stk t) j=some (.ds 100 1 (stk l[j])):=by
 subst ht
 unfold kU
 by_cases hj:j=k
 ·subst hj;rw[show Nat.beq j j=true from Nat.beq_refl j];rfl
 ·rw[nbeq_ne hj];simp[zS,h]
theorem fz_th {S:St} {o j n:Nat} {t:Th} {els:List (List D)} (h:S.H (.s o j)=some (.ds 100 1 els)) (he:els.take n=stk t):FzC S [i64 t.rt,i64 t.pc,i64 t.st,i64 t.cond,i64 t.lock,.ref (.s o j) 0 n] (zF t):=by
 refine⟨_,_,rfl,rfl,_,_,rfl,rfl,_,_,rfl,rfl,_,_,rfl,rfl,_,_,rfl,rfl,.sl (stk t),_,rfl,?_,rfl⟩
 simp[FzD,fz1,h,he]
theorem hscrO {x X:Option Ob} {p:Key→Bool} (h:x=X) (hp:X.map (scrPO p)=X):x.map (scrPO p)=X:=by rw[h];exact hp
theorem famK_scr (p:Key→Bool) (l:List Th) (k:Nat) (els:List (List D)) (j:Nat):(kU l k els j).map (scrPO p)=kU l k els j:=by
 unfold kU
 cases Nat.beq j k
 ·exact yH p l j
 ·rfl
theorem l3Do_pre (hI:xE) (s:StL) (k:Nat) (o:OpL) (e:Ev) (hk:k<s.ths.length) (h5:s.ths.length≤5) (hs:s.small) (htk:(zA o.code).1≤s.ths[k].stack.length) (hpc:InR s.ths[k].pc 0 1048576)
  (τ:Nat→AV) (H:Key→Option Ob) (Q:AX→St→Prop) (K:St→Prop) (hK:∀ s',At (doL1 s k o s.ths[k]) (doO1 s k o e s.ths[k]) [(900,kU s.ths k (stk s.ths[k]))] s'→K s') :
  mK EE Tryz.f150.ntmps K Q 8 (Tryz.f150.body.getD .skip) (mI [(0,.agg (stRef s)),(1,i64 k),(2,agg (encOp o)),(3,agg (encEv e))] (lZ [(.n 900,.rs 109 6 (thRows 900 s.ths)),(.n 901,.ds 100 1 (s.cells.map encF)),(.n 902,.ds 3 1 (s.owner.map encInt))] (gA [(900,kU s.ths k (stk s.ths[k]))] ⟨τ,H⟩))):=by
 have hst:=hs.2.1 _ (List.getElem_mem hk)
 have ht:0≤(zA o.code).1∧(zA o.code).1≤2∧0≤(zA o.code).2∧(zA o.code).2≤1:=by
  unfold zA;split
  ·decide
  ·split
   ·decide
   ·split <;> decide
 have e1:(IntKind.i64.wrap ((s.ths[k].stack.length:Int) - (zA o.code).1))=(s.ths[k].stack.length:Int) - (zA o.code).1:=zE (by omega) (by omega)
 generalize ht0:s.ths[k]=t at *
 have e2:((t.stack.length:Int) - (zA o.code).1).toNat=zQ t o:=by unfold zQ xK;omega
 have allLen:∀ a b:Nat,(((stk t).drop a).take b).all (fun c=>c.length==1)=true:=by
  intro a b
  simp only[List.all_eq_true]
  intro x hx
  have hx:=List.mem_of_mem_drop (List.mem_of_mem_take hx)
  obtain⟨y,_,rfl⟩:=List.mem_map.1 hx
  rfl
 obtain rfl|rfl|rfl|rfl|rfl:k=0∨k=1∨k=2∨k=3∨k=4:=by omega
 all_goals
  conv=>whnf
  refine⟨⟨by omega,by omega⟩,?_⟩
  conv=>whnf
  refine⟨thRow 900 _ _,⟨by repeat (first|exact pZ hk ht0|refine yZ ?_ rfl),by simp[thRow]⟩,?_⟩
  conv=>whnf
  refine⟨_,cD o.code,?_⟩
  rintro r rfl
  conv=>whnf
  rw[e1]
  rcases Int.lt_or_eq_of_le ht.1 with h0|h0
  refine .inl ⟨⟨by omega,by omega,by omega,.inr (by omega)⟩,?_⟩
  conv=>whnf
  refine⟨⟨allLen _ _,by simp;omega,by simp;omega⟩,?_⟩
  conv=>whnf
  rotate_left 1
  refine .inr ⟨⟨by omega,by omega,by omega⟩,?_⟩
  conv=>whnf
  refine⟨⟨rfl,by simp,by simp⟩,?_⟩
  conv=>whnf
  all_goals
   refine .inl ⟨[agg (encSt s),agg (zF t)],[],_,⟨_,_,rfl,⟨_,rfl,fz_st (o:=900) (s:=s) ⟨?_,?_,?_,?_⟩ ?_ ?_ ?_⟩,⟨_,_,rfl,⟨_,rfl,fz_th (t:=t) (els:=stk t) ?_ ?_⟩,rfl⟩⟩,rfl,lL hI s _ hst,?_⟩
   ·((conv=>lhs;whnf);refine congrArg some ?_;repeat (first|rfl|refine yK ?_ (by exact congrArg _ (yF fun _ _=>rfl))))
   ·intro j hj
    ((conv=>lhs;whnf);(repeat (refine hscr ?_ rfl;conv=>lhs;whnf));exact(famK_get hk ht0 hj))
   ·conv=>lhs;whnf
    rfl
   ·conv=>lhs;whnf
    rfl
   ·rfl
   ·rfl
   ·rfl
   ·conv=>lhs;whnf
    rfl
   ·simp[stk,List.take_of_length_le]
   rintro r rfl
   refine⟨rfl,?_⟩
   conv=>whnf
   rw[e1]
   refine .inl ⟨⟨by omega,by omega,by omega,.inl rfl⟩,?_⟩
   conv=>whnf
   refine hK _ ⟨?_,?_,?_⟩
   ·refine⟨rfl,rfl,rfl,rfl,rfl,rfl,rfl,rfl,?_,rfl,trivial⟩
    conv=>lhs;whnf
    refine congrArg (AV.ref (.n 28) 0) ?_
    first
     |simp only[Nat.zero_add,List.length_take,List.length_drop,stk,List.length_map,e2]
      unfold zQ xK
      omega
     |simp[xK,← h0]
   ·refine⟨rfl,rfl,rfl,rfl,rfl,?_,?_,?_,rfl,rfl,trivial⟩
    ·show some (Ob.vs 109 [_,AV.d (.int .i64 (IntKind.i64.wrap (t.pc+1))),_,_,_,AV.ref _ 0 (((t.stack.length:Int) - (zA o.code).1).toNat - 0)])=_
     rw[zE (by have:=hpc.1;omega) (by have:=hpc.2;omega),e2]
     rfl
    ·first
      |show some (Ob.ds 100 1 (List.take ((t.stack.length:Int).toNat - ((t.stack.length:Int) - (zA o.code).1).toNat) (List.drop (0+((t.stack.length:Int) - (zA o.code).1).toNat) (stk t))))=_
       rw[e2,Nat.zero_add,List.take_of_length_le (by simp[stk])]
       simp[stk]
      |show some (Ob.ds 100 1 [])=_
       simp[zQ,xK,← h0]
    ·((conv=>lhs;whnf);refine congrArg some ?_;repeat (first|rfl|refine yK ?_ (by exact congrArg _ (yF fun _ _=>rfl))))
   ·refine⟨fun j=>?_,trivial⟩
    ((conv=>lhs;whnf);(repeat (refine hscrO ?_ (famK_scr _ _ _ _ _);conv=>lhs;whnf));rfl)
end Ai
namespace Ai
set_option maxRecDepth 100000
open Go Go.Proofs
def w3 (t:Th):List AV:=[i64 t.rt,i64 t.pc,i64 t.st,i64 t.cond,i64 t.lock,.d (.sl [])]
def Rowish (l:List Th) (j:Nat) (t:Th) (row:List AV):Prop:=(∃ t0,l[j]?=some t0∧t0.stack=t.stack∧row=thRow 900 j t)∨(t.stack=[]∧row=w3 t)
def Do2 (l:List Th) (s':StL) (k:Nat) (e':Ev) (S:St):Prop :=
 ∃ (t:Th) (rows:List (List AV)) (els:List (List D)),s'.ths[k]?=some t∧(∀ j t',j≠k→s'.ths[j]?=some t'→∃ row,rows[j]?=some row∧Rowish l j t' row)∧els.take t.stack.length=stk t ∧
  At [(1,i64 k),(4,.ptr (.n 4) 0),(7,.ptr (.n 7) 0),(8,.ptr (.n 8) 0),(9,.ptr (.n 9) 0),(10,.ptr (.n 10) 0)]
   [(.n 4,.vs 44 (stRef s')),(.n 7,.vs 107 ((encEv e').map .d)),(.n 8,.vs 44 [.d .nil,.d .nil,.d .nil,i64 0]),(.n 9,.vs 107 [i64 0,i64 0,i64 0,i64 0,i64 0]),(.n 10,.vs 109 (thRow 900 k t)),
    (.n 900,.rs 109 6 rows),(.n 901,.ds 100 1 (s'.cells.map encF)),(.n 902,.ds 3 1 (s'.owner.map encInt))] [(900,kU l k els)] S
def lendK:Key→Bool
 | .n k=>Nat.beq k 900 || Nat.beq k 901 || Nat.beq k 902
 | .s o _=>Nat.beq o 900
 | .l _=>false
def doPost (s':StL) (e':Ev) (r:AV) (H1:Key→Option Ob):Prop :=
 r=.tup [.agg (stRef s'),agg (encEv e')]∧FzC ⟨fun _=>.junk,H1⟩ (stRef s') (encSt s')∧∀ κ,lendK κ=false→H1 κ=none
theorem peel {rows:List (List AV)} {p:Key→Bool} {j:Nat} {row:List AV} (h:(rows.map (scrPL p))[j]?=some row):∃ r0,rows[j]?=some r0∧row=scrPL p r0:=by
 rw[List.getElem?_map] at h
 obtain⟨r0,h1,h2⟩:=Option.map_eq_some_iff.1 h
 exact⟨r0,h1,h2.symm⟩
theorem fz_st2 {s:StL} {S:St} {rows:List (List AV)} (h1:S.H (.n 900)=some (.rs 109 6 rows)) (hv:∀ (j:Nat) (row:List AV) (t:Th),s.ths[j]?=some t→rows[j]?=some row→fz1s S row=some (zF t))
  (h3:S.H (.n 901)=some (.ds 100 1 (s.cells.map encF))) (h4:S.H (.n 902)=some (.ds 3 1 (s.owner.map encInt))):FzC S (stRef s) (encSt s):=by
 refine⟨.sl (s.ths.map zF),_,rfl,⟨_,rfl,?_⟩,.sl (s.cells.map encF),_,rfl,?_,.sl (s.owner.map encInt),_,rfl,?_,di s.fault,[],rfl,rfl,rfl⟩
 ·unfold kP
  rw[h1]
  refine⟨by simp,fun j row hj hr=>?_⟩
  exact⟨zF s.ths[j],by simp[hj],hv j row _ (List.getElem?_eq_getElem hj) hr⟩
 ·simp[FzD,fz1,h3,List.take_of_length_le]
 ·simp[FzD,fz1,h4,List.take_of_length_le]
theorem fz_rowT {o j:Nat} {t:Th} {S:St} {els:List (List D)} (h:S.H (.s o j)=some (.ds 100 1 els)) (he:els.take t.stack.length=stk t):fz1s S (thRow o j t)=some (zF t):=by
 simp[thRow,fz1s,fz1,h,i64,zF,he]
 simp[stk]
theorem fz_nil {t:Th} {S:St} (h:t.stack=[]):fz1s S (w3 t)=some (zF t):=by
 simp[w3,fz1s,fz1,i64,zF,h]
theorem fz_ish {l:List Th} {k j:Nat} {t:Th} {els:List (List D)} {S:St} {row:List AV} (hj:j≠k) (h:S.H (.s 900 j)=kU l k els j) (hr:Rowish l j t row):fz1s S row=some (zF t):=by
 rcases hr with ⟨t0,h1,h2,rfl⟩|⟨h1,rfl⟩
 ·unfold kU at h
  rw[nbeq_ne hj] at h
  simp only[cond_false,zS,h1,Option.map_some] at h
  exact fz_rowT h (by simp[stk,h2,List.take_of_length_le])
 ·exact fz_nil h1
theorem scr_ish {l:List Th} {j:Nat} {t:Th} {row:List AV} {p:Key→Bool} (hp:p (.s 900 j)=false) (hr:Rowish l j t row):scrPL p row=row:=by
 rcases hr with ⟨t0,h1,h2,rfl⟩|⟨h1,rfl⟩
 ·exact zY hp
 ·rfl
theorem l3Do_fin (l : List Th) (s' : StL) (k : Nat) (e' : Ev) (h5 : k < 5) (S : St) (h : Do2 l s' k e' S) :
    AW EE Tryz.f150.ntmps (dropC 9 (Tryz.f150.body.getD .skip)) (retIO EE Tryz.f150 (doPost s' e')) S := by
  obtain ⟨t, rows, els, hk, hrow, hels, hat⟩ := h
  obtain ⟨τ, H, rfl⟩ := hat.form
  obtain rfl | rfl | rfl | rfl | rfl : k = 0 ∨ k = 1 ∨ k = 2 ∨ k = 3 ∨ k = 4 := by omega
  all_goals
    conv => whnf
    refine ⟨⟨by omega, by have := (List.getElem?_eq_some_iff.1 hk).1; omega⟩, ?_⟩
    conv => whnf
    refine .inr (.inl ⟨4, [], ?_⟩)
    conv => whnf
    refine ⟨by kernel_rfl, ?_⟩
    conv => whnf
    refine ⟨_, Weak.refl, ?_⟩
    conv => whnf
    refine ⟨lendK, ?_, ?_, ?_⟩
    · rfl
    · refine @fz_st2 s' _ ?_ ?_ ?_ ?_ ?_
      rotate_left 1
      · conv => lhs; whnf
        rfl
      · intro j row t' ht hrr
        obtain ⟨r1, g1, q1⟩ := peel hrr
        obtain ⟨r2, g2, q2⟩ := peel g1
        subst q1 q2
        have g3 : (rows.set _ (thRow 900 _ t))[j]? = some r2 := g2
        rw [List.getElem?_set] at g3
        split at g3
        · rename_i hj
          subst hj
          split at g3
          · simp only [Option.some.injEq] at g3
            subst g3
            have hk2 : s'.ths[_]? = some t := hk
            have e : t' = t := by
              have := ht.symm.trans hk
              exact Option.some.inj this
            subst e
            show fz1s _ (thRow 900 _ t') = _
            exact fz_rowT (els := els) (by conv => lhs; whnf
                                           rfl) hels
          · cases g3
        · rename_i hj
          obtain ⟨row, hr1, hr2⟩ := hrow j t' (fun e => hj e.symm) ht
          have e : row = r2 := Option.some.inj (hr1.symm.trans g3)
          subst e
          rw [scr_ish (p := fun κ => memN _ _) ?_ hr2, scr_ish (p := fun o => !lendK o) rfl hr2]
          · refine fz_ish (els := els) (fun e => hj e.symm) ?_ hr2
            ((conv => lhs; whnf); (repeat (refine hscrO ?_ (famK_scr _ _ _ _ _); conv => lhs; whnf)); rfl)
          · rfl
      · conv => lhs; whnf
        rfl
      · conv => lhs; whnf
        rfl
    · intro κ hκ
      show (bif lendK κ then _ else none) = none
      rw [hκ]; rfl
end Ai
