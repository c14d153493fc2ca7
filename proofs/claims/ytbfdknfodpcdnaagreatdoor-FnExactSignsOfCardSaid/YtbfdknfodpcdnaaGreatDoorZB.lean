import Derived.Test.YtbfdknfodpcdnaaGreatDoorZA
import Derived.MapKept
import Derived.Still
import Derived.Deep.Quiet
set_option maxHeartbeats 8000000
set_option linter.unusedVariables false
set_option linter.unusedSimpArgs false
namespace Ai
open Go Go.RowKit
section
variable {E:Env} {N:Nat} {A:Fr} {w0 w w':World} {m m':Own} {s s':St} {a:Act} {dst:Option Tmp} {k:St→Prop}
theorem bP:∀ (cs:List AV) (xs:List D),fz1s s cs=some xs→xs.length=cs.length∧∀ (i:Nat) (x:D),xs[i]?=some x→∃ c,cs[i]?=some c∧fz1 s c=some x
 | [],xs,h=>by simp[fz1s] at h;subst h;simp
 |c::cs,xs,h=>by
  simp only[fz1s] at h
  split at h
  ·rename_i x hx
   split at h
   ·rename_i ys hy
    simp only[Option.some.injEq] at h
    subst h
    obtain⟨h1,h2⟩:=bP cs ys hy
    refine⟨by simp[h1],fun i y hi=>?_⟩
    cases i with
    |zero=>simp at hi;subst hi;exact⟨c,rfl,hx⟩
    |succ i=>simp at hi;obtain⟨c',h3,h4⟩:=h2 i y hi;exact⟨c',by simpa using h3,h4⟩
   ·cases h
  ·cases h
theorem nA:∀ (cs:List AV) (xs:List AV),bO s cs=some xs→xs.length=cs.length∧∀ (i:Nat) (x:AV),xs[i]?=some x→∃ c,cs[i]?=some c∧fzp s c=some x
 | [],xs,h=>by simp[bO] at h;subst h;simp
 |c::cs,xs,h=>by
  simp only[bO] at h
  split at h
  ·rename_i x hx
   split at h
   ·rename_i ys hy
    simp only[Option.some.injEq] at h
    subst h
    obtain⟨h1,h2⟩:=nA cs ys hy
    refine⟨by simp[h1],fun i y hi=>?_⟩
    cases i with
    |zero=>simp at hi;subst hi;exact⟨c,rfl,hx⟩
    |succ i=>simp at hi;obtain⟨c',h3,h4⟩:=h2 i y hi;exact⟨c',by simpa using h3,h4⟩
   ·cases h
  ·cases h
theorem q5:∀ (cs:List AV) (xs:List AV),fzs s cs=some xs→xs.length=cs.length∧∀ (i:Nat) (x:AV),xs[i]?=some x→∃ c,cs[i]?=some c∧fz s c=some x
 | [],xs,h=>by simp[fzs] at h;subst h;simp
 |c::cs,xs,h=>by
  simp only[fzs] at h
  split at h
  ·rename_i x hx
   split at h
   ·rename_i ys hy
    simp only[Option.some.injEq] at h
    subst h
    obtain⟨h1,h2⟩:=q5 cs ys hy
    refine⟨by simp[h1],fun i y hi=>?_⟩
    cases i with
    |zero=>simp at hi;subst hi;exact⟨c,rfl,hx⟩
    |succ i=>simp at hi;obtain⟨c',h3,h4⟩:=h2 i y hi;exact⟨c',by simpa using h3,h4⟩
   ·cases h
  ·cases h
abbrev noH:Key→Option Ob:=fun _=>none
abbrev noM:Own:=fun _=>none
theorem jV:∀ {cs:List AV} {i:Nat} {c:AV},cs[i]?=some c→pI c=true→zT cs=true
 | [],i,c,h,_=>by simp at h
 |v::vs,0,c,h,ho=>by simp at h;subst h;simp[zT,ho]
 |v::vs,i+1,c,h,ho=>by simp at h;simp[zT,jV h ho]
section
variable (h:SRel E N A w0 m s a w) {ok:Nat→Prop} (hok:∀ b,okB A s.H m w b→ok b) {B:Bool} (hown:B=true→∀ o p,s.H o≠none→m o=some p→ok p.1)
include h hok hown
theorem jT {x:AV} {v:Value} (hB:pI x=true→B=true) (hx:VRel w (okB A s.H m w) m s.H x v) {d:D} (hd:fz1 s x=some d):RepD w ok d v :=
 j4 h hok (fun o off n he p hp=>hown (hB (by rw[he];rfl)) o p (by
  subst he
  cases hx with
  |ref _ _ _ e sz els b full cap hH=>simp[hH]
  |ref0 _ e sz hH=>simp[hH]) hp) hx hd
theorem wH {x:AV} {v:Value} (hB:pI x=true→B=true) (hx:VRel w (okB A s.H m w) m s.H x v) {y:AV} (hy:fzp s x=some y):VRel w ok noM noH y v:=by
 cases hx with
 |fp cs b off us hb hc =>
  simp only[fzp,Option.some.injEq] at hy
  subst hy
  exact .fp cs b off us (hok b hb) fun i d hi=>⟨(hc i d hi).1,(hc i d hi).2.mono fun b hb=>⟨hok b hb,rfl⟩⟩
 |ptr o off e cs b full hH hm =>
  simp only[fzp,hH] at hy
  split at hy
  ·rename_i xs hxs
   simp only[Option.some.injEq] at hy
   subst hy
   obtain⟨hl,hg⟩:=bP _ _ hxs
   obtain⟨b',full',cur,hm',hbb,hcur,hsz,hcells⟩:=h.objs o _ hH
   rw[hm] at hm'
   injection hm' with hm'
   injection hm' with e1 e2
   subst e1;subst e2
   refine .fp xs b off (fun i=>(w.cell? ⟨b,off+i,none⟩).getD undef) (hown (hB rfl) o _ (by simp[hH]) hm) fun i d hi=>?_
   obtain⟨c,hc1,hc2⟩:=hg i d hi
   rw[List.getElem?_drop] at hc1
   obtain⟨u,hu,hv⟩:=hcells _ c hc1
   have hcell:w.cell? ⟨b,off+i,none⟩=some u:=by simp[World.cell?,hcur,hu]
   rw[hcell]
   exact⟨rfl,jT h hok hown (fun _=>hB rfl) hv hc2⟩
  ·cases hy
 |eptr o j off e sz els b full hH hj hm =>
  simp only[fzp,hH] at hy
  split at hy
  ·rename_i c hc
   simp only[Option.some.injEq] at hy
   subst hy
   obtain⟨hmn,_⟩|⟨b',full',cur,hm',hbb,hcur,hlen,hmax,hszc,hcells⟩:=h.objs o _ hH
   ·rw[hm] at hmn;cases hmn
   ·rw[hm] at hm'
    injection hm' with hm'
    injection hm' with e1 e2
    subst e1;subst e2
    refine .fp _ b _ (fun i=>(w.cell? ⟨b,(j*sz+off)+i,none⟩).getD undef) (hown (hB rfl) o _ (by simp[hH]) hm) fun i d hi=>?_
    rw[List.getElem?_drop] at hi
    obtain⟨u,hu,hr⟩:=(hcells j c hc).2 _ d hi
    have hcell:w.cell? ⟨b,(j*sz+off)+i,none⟩=some u:=by simp[World.cell?,hcur,Nat.add_assoc,hu]
    rw[hcell]
    exact⟨rfl,hr.mono fun b hb=>⟨hok b hb,rfl⟩⟩
  ·cases hy
 |junk v=>simp[fzp,fz1] at hy
 |d x v hx =>
  cases x <;> simp only[fzp,fz1,Option.some.injEq] at hy <;> subst hy <;> exact .d _ _ (jT h hok hown (x:=.d _) (fun hh=>by simp[pI] at hh) (.d _ _ hx) rfl)
 |ref o off n e sz els b full cap hH hn hm hcap hnc =>
  simp only[fzp] at hy
  split at hy
  ·rename_i x hx
   simp only[Option.some.injEq] at hy
   subst hy
   exact .d _ _ (jT h hok hown (fun _=>hB rfl) (.ref o off n e sz els b full cap hH hn hm hcap hnc) hx)
  ·cases hy
 |ref0 o e sz hH hm =>
  simp only[fzp] at hy
  split at hy
  ·rename_i x hx
   simp only[Option.some.injEq] at hy
   subst hy
   exact .d _ _ (jT h hok hown (fun _=>hB rfl) (.ref0 o e sz hH hm) hx)
  ·cases hy
 |dref=>simp[fzp,fz1] at hy
 |dref0=>simp[fzp,fz1] at hy
 |dptr=>simp[fzp,fz1] at hy
 |lit=>simp[fzp,fz1] at hy
 |mref=>simp[fzp,fz1] at hy
 |agg cs us hl hr=>simp[fzp,fz1] at hy
 |tup cs us hl hr=>simp[fzp,fz1] at hy
 |fn f cs us hl hr=>simp[fzp,fz1] at hy
theorem q7 {x:AV} {v:Value} (hB:pI x=true→B=true) (hx:VRel w (okB A s.H m w) m s.H x v) {y:AV} (hy:fz s x=some y):VRel w ok noM noH y v:=by
 cases x with
 |agg cs =>
  simp only[fz] at hy
  split at hy
  ·rename_i xs hxs
   simp only[Option.some.injEq] at hy
   subst hy
   obtain⟨hl,hg⟩:=bP _ _ hxs
   cases hx with
   |agg _ us hls hr =>
    refine .agg _ us (by simp;omega) fun i c u hc hu=>?_
    simp only[List.getElem?_map,Option.map_eq_some_iff] at hc
    obtain⟨d,hd,rfl⟩:=hc
    obtain⟨c0,h1,h2⟩:=hg i d hd
    exact .d _ _ (jT h hok hown (fun hh=>hB (jV h1 hh)) (hr i c0 u h1 hu) h2)
  ·cases hy
 |fn f caps =>
  simp only[fz] at hy
  split at hy
  ·rename_i xs hxs
   simp only[Option.some.injEq] at hy
   subst hy
   obtain⟨hl,hg⟩:=nA _ _ hxs
   cases hx with
   |fn _ _ us hls hr =>
    refine .fn f _ us (by omega) fun i c u hc hu=>?_
    obtain⟨c0,h1,h2⟩:=hg i c hc
    exact wH h hok hown (fun hh=>hB (jV h1 hh)) (hr i c0 u h1 hu) h2
  ·cases hy
 |junk=>exact wH h hok hown hB hx hy
 |d x=>exact wH h hok hown hB hx hy
 |fp cs=>exact wH h hok hown hB hx hy
 |ref o off n=>exact wH h hok hown hB hx hy
 |ptr o off=>exact wH h hok hown hB hx hy
 |eptr o j off=>exact wH h hok hown hB hx hy
 |tup vs=>exact wH h hok hown hB hx hy
 |uq e sz els=>exact wH h hok hown hB hx hy
 |uqd e sz c e2 sz2 rows subs=>exact wH h hok hown hB hx hy
 |ownF f cs=>exact wH h hok hown hB hx hy
 |dref o n=>exact wH h hok hown hB hx hy
 |dptr o j off=>exact wH h hok hown hB hx hy
 |lit v=>exact wH h hok hown hB hx hy
 |mref o=>exact wH h hok hown hB hx hy
theorem n6 (hB:B=true) {o:Key} {n:Nat} {v:Value} {els:List (List D)} (hx:VRel w (okB A s.H m w) m s.H (.dref o n) v) (hv:kP s o n els):RepD w ok (.sl els) v:=by
 cases hx with
 |dref _ _ e sz rows b full hH hn hm hnc =>
  unfold kP at hv
  rw[hH] at hv
  obtain⟨hl,hg⟩:=hv
  obtain⟨hmn,_⟩|⟨b',full',cur,hm',hbb,hcur,hlen,hmax,hszc,hcells⟩:=h.objs o _ hH
  ·rw[hm] at hmn;cases hmn
  ·rw[hm] at hm'
   injection hm' with hm'
   injection hm' with e1 e2
   subst e1;subst e2
   have hrow:∀ (j:Nat) (c:List D),els[j]?=some c→∃ row,rows[j]?=some row∧fz1s s row=some c:=by
    intro j c hj
    have hjn:j<n:=by have:=(List.getElem?_eq_some_iff.1 hj).1;omega
    have hjr:j<rows.length:=by omega
    obtain⟨d,h1,h2⟩:=hg j rows[j] hjn (List.getElem?_eq_getElem hjr)
    rw[hj] at h1;injection h1 with h1;subst h1
    exact⟨_,List.getElem?_eq_getElem hjr,h2⟩
   have hcell:∀ (j:Nat) (c:List D),els[j]?=some c→∀ (q:Nat) (d:D),c[q]?=some d→∃ u,w.cell? ⟨b,0+(j*sz+q),none⟩=some u∧RepD w ok d u:=by
    intro j c hj q d hq
    obtain⟨row,h1,h2⟩:=hrow j c hj
    obtain⟨c0,h3,h4⟩:=(bP _ _ h2).2 q d hq
    obtain⟨u,hu,_,hr⟩:=(hcells j row h1).2 q c0 h3
    exact⟨u,by rw[Nat.zero_add];simp[World.cell?,hcur,hu],jT h hok hown (fun _=>hB) hr h4⟩
   subst hl
   refine .sl els sz b 0 full (fun q=>(w.cell? ⟨b,0+q,none⟩).getD undef) (hown hB o _ (by simp[hH]) hm) hnc (fun j c hj=>⟨?_,fun q d hq=>?_⟩) (fun j c hj q d hq=>?_)
   ·obtain⟨row,h1,h2⟩:=hrow j c hj
    rw[(bP _ _ h2).1];exact(hcells j row h1).1
   ·obtain⟨u,hu,_⟩:=hcell j c hj q d hq
    rw[hu];rfl
   ·obtain⟨u,hu,hr⟩:=hcell j c hj q d hq
    rw[hu];exact hr
 |dref0 _ e sz hH hm =>
  unfold kP at hv
  rw[hH] at hv
  have:els=[]:=List.eq_nil_of_length_eq_zero hv.1
  subst this
  exact .sl0 _ _
theorem q9 (hB:B=true) {x:AV} {v:Value} {d:D} (hx:VRel w (okB A s.H m w) m s.H x v) (hd:FzD s x d):RepD w ok d v:=by
 unfold FzD at hd
 split at hd
 ·obtain⟨els,rfl,hv⟩:=hd
  exact n6 h hok hown hB hx hv
 ·exact jT h hok hown (fun _=>hB) hx hd
theorem j3 (hB:B=true) {x:AV} {v:Value} (hx:VRel w (okB A s.H m w) m s.H x v) {y:AV} (hy:FzA s x y):VRel w ok noM noH y v:=by
 have cget:∀ (cs:List AV) (ds:List D),FzC s cs ds→ds.length=cs.length∧∀ (i:Nat) (d:D),ds[i]?=some d→∃ c,cs[i]?=some c∧FzD s c d:=by
  intro cs
  induction cs with
  |nil=>intro ds hd;simp only[FzC] at hd;subst hd;simp
  |cons c cs ih =>
   intro ds hd
   obtain⟨x,xs,rfl,h1,h2⟩:=hd
   obtain⟨h3,h4⟩:=ih xs h2
   refine⟨by simp[h3],fun i d hi=>?_⟩
   cases i with
   |zero=>simp at hi;subst hi;exact⟨c,rfl,h1⟩
   |succ i=>simp at hi;obtain⟨c',h5,h6⟩:=h4 i d hi;exact⟨c',by simpa using h5,h6⟩
 unfold FzA at hy
 split at hy
 ·obtain⟨els,rfl,hv⟩:=hy
  exact .d _ _ (n6 h hok hown hB hx hv)
 ·rename_i cs
  obtain⟨ds,rfl,hc⟩:=hy
  obtain⟨hl,hg⟩:=cget _ _ hc
  cases hx with
  |agg _ us hls hr =>
   refine .agg _ us (by simp;omega) fun i c u hi hu=>?_
   simp only[List.getElem?_map,Option.map_eq_some_iff] at hi
   obtain⟨d,hd,rfl⟩:=hi
   obtain⟨c0,h1,h2⟩:=hg i d hd
   exact .d _ _ (q9 h hok hown hB (hr i c0 u h1 hu) h2)
 ·rename_i o off
  split at hy
  ·rename_i e0 cs hH0
   obtain⟨ds,rfl,hc⟩:=hy
   obtain⟨hl,hg⟩:=cget _ _ hc
   cases hx with
   |ptr _ _ e cs' b full hH hm =>
    rw[hH0] at hH
    injection hH with hH
    injection hH with i1 i2
    subst i1;subst i2
    obtain⟨b',full',cur,hm',hbb,hcur,hsz,hcells⟩:=h.objs o _ hH0
    rw[hm] at hm'
    injection hm' with hm'
    injection hm' with e1 e2
    subst e1;subst e2
    refine .fp ds b off (fun i=>(w.cell? ⟨b,off+i,none⟩).getD undef) (hown hB o _ (by simp[hH0]) hm) fun i d hi=>?_
    obtain⟨c,hc1,hc2⟩:=hg i d hi
    rw[List.getElem?_drop] at hc1
    obtain⟨u,hu,hv⟩:=hcells _ c hc1
    have hcell:w.cell? ⟨b,off+i,none⟩=some u:=by simp[World.cell?,hcur,hu]
    rw[hcell]
    exact⟨rfl,q9 h hok hown hB hv hc2⟩
  ·exact hy.elim
 ·rename_i o j off
  split at hy
  ·rename_i e0 sz0 rows hH0
   obtain⟨row,ds,hrow,rfl,hc⟩:=hy
   obtain⟨hl,hg⟩:=cget _ _ hc
   cases hx with
   |dptr _ _ _ e sz rows' b full hH hj hm =>
    rw[hH0] at hH
    injection hH with hH
    injection hH with i1 i2 i3
    subst i1;subst i2;subst i3
    obtain⟨hmn,_⟩|⟨b',full',cur,hm',hbb,hcur,hlen,hmax,hszc,hcells⟩:=h.objs o _ hH0
    ·rw[hm] at hmn;cases hmn
    rw[hm] at hm'
    injection hm' with hm'
    injection hm' with e1 e2
    subst e1;subst e2
    refine .fp ds b _ (fun i=>(w.cell? ⟨b,(j*sz0+off)+i,none⟩).getD undef) (hown hB o _ (by simp[hH0]) hm) fun i d hi=>?_
    obtain⟨c,hc1,hc2⟩:=hg i d hi
    rw[List.getElem?_drop] at hc1
    obtain⟨u,hu,_,hv⟩:=(hcells j row hrow).2 _ c hc1
    have hcell:w.cell? ⟨b,(j*sz0+off)+i,none⟩=some u:=by simp[World.cell?,hcur,Nat.add_assoc,hu]
    rw[hcell]
    exact⟨rfl,q9 h hok hown hB hv hc2⟩
  ·exact hy.elim
 ·exact q7 h hok hown (fun _=>hB) hx hy
end
theorem q8:∀ (cs ys:List AV),FzL s cs ys→ys.length=cs.length∧∀ (i:Nat) (y:AV),ys[i]?=some y→∃ c,cs[i]?=some c∧FzA s c y
 | [],ys,h=>by simp only[FzL] at h;subst h;simp
 |c::cs,ys,h=>by
  obtain⟨x,xs,rfl,h1,h2⟩:=h
  obtain⟨h3,h4⟩:=q8 cs xs h2
  refine⟨by simp[h3],fun i y hi=>?_⟩
  cases i with
  |zero=>simp at hi;subst hi;exact⟨c,rfl,h1⟩
  |succ i=>simp at hi;obtain⟨c',h5,h6⟩:=h4 i y hi;exact⟨c',by simpa using h5,h6⟩
theorem SRel.below' (h:SRel E N A w0 m s a w) (hb:Below w.heap.size w w'):SRel E N A w0 m s a w':=by
 have hok:∀ b,okB A s.H m w b→okB A s.H m w' b∧w'.heap[b]?=w.heap[b]?:=fun b hb2=>⟨⟨Nat.lt_of_lt_of_le hb2.1 hb.size,hb2.2⟩,hb.block b hb2.1⟩
 refine⟨h.size,h.defers,⟨hb.os.trans h.below.os,hb.tape.trans h.below.tape,hb.output.trans h.below.output,Nat.le_trans h.below.size hb.size,fun q hq=>(hb.block q (Nat.lt_of_lt_of_le hq h.below.size)).trans (h.below.block q hq)⟩,h.inv,
  fun i hi=>(h.tmps i hi).mono hok (Like.refl _ _),fun o ob ho=>?_,h.inj,h.hA,fun b hX=>⟨Nat.lt_of_lt_of_le (h.fr b hX).1 hb.size,(h.fr b hX).2.1,(hb.block b (h.fr b hX).1).trans (h.fr b hX).2.2⟩,h.pin⟩
 have hor:=h.objs o ob ho
 have hblk:∀ p,m o=some p→w'.heap[p.1]?=w.heap[p.1]?:=fun p hp=>hb.block _ (xT h (by simp[ho]) hp)
 cases ob with
 |vs e cs =>
  obtain⟨b,full,cur,hm,hbb,hcur,hsz,hc⟩:=hor
  exact⟨b,full,cur,hm,hbb,(hblk _ hm).trans hcur,hsz,fun i c hi=>let ⟨u,hu,hv⟩:=hc i c hi;⟨u,hu,hv.mono hok (Like.refl _ _)⟩⟩
 |ds e sz els =>
  rcases hor with hp|⟨b,full,cur,hm,hbb,hcur,h1,h2,h3,hc⟩
  ·exact .inl hp
  ·exact .inr ⟨b,full,cur,hm,hbb,(hblk _ hm).trans hcur,h1,h2,h3,fun j c hj=>⟨(hc j c hj).1,fun i d hi=>let ⟨u,hu,hr⟩:=(hc j c hj).2 i d hi;⟨u,hu,hr.mono hok⟩⟩⟩
 |rs e sz els =>
  rcases hor with hp|⟨b,full,cur,hm,hbb,hcur,h1,h2,h3,hc⟩
  ·exact .inl hp
  ·exact .inr ⟨b,full,cur,hm,hbb,(hblk _ hm).trans hcur,h1,h2,h3,fun j c hj=>⟨(hc j c hj).1,fun i d hi=>let ⟨u,hu,h1,hr⟩:=(hc j c hj).2 i d hi;⟨u,hu,h1,hr.mono hok (Like.refl _ _)⟩⟩⟩
 |mp ag ps =>
  obtain⟨b,full,es,hm,hbb,hcur,hr⟩:=hor
  exact⟨b,full,es,hm,hbb,(hblk _ hm).trans hcur,hr.mono hok⟩
theorem jX {ok ok':Nat→Prop} {d:D} {v:Value} (hf:qA d=true) (hr:RepD w ok d v):RepD w ok' d v:=by
 cases hr with
 |sl els sz b off cap us h1 h2 h3 h4 =>
  cases els with
  |nil=>exact .sl0 _ _
  |cons c cs=>simp[qA] at hf
 |bool b=>exact .bool b
 |int kk n=>exact .int kk n
 |flt b=>exact .flt b
 |str b=>exact .str b
 |nil=>exact .nil
 |sl0 ad cap=>exact .sl0 ad cap
theorem flat_val {ok ok':Nat→Prop} {r:AV} {v:Value} (hf:aP r) (hr:VRel w ok noM noH r v):VRel w ok' noM noH r v:=by
 cases hr with
 |junk v=>exact .junk v
 |d x v hx=>exact .d x v (jX hf hx)
 |agg cs us hl hc =>
  refine .agg cs us hl fun i c u hi hu=>?_
  obtain⟨x,rfl,hx⟩:=hf c (List.mem_of_getElem? hi)
  cases hc i _ u hi hu with
  |d _ _ hr=>exact .d _ _ (jX hx hr)
 |tup cs us hl hc =>
  refine .tup cs us hl fun i c u hi hu=>?_
  rcases hf c (List.mem_of_getElem? hi) with ⟨x,rfl,hx⟩|⟨ds,rfl,hds⟩
  ·cases hc i _ u hi hu with
   |d _ _ hr=>exact .d _ _ (jX hx hr)
  ·cases hc i _ u hi hu with
   |agg _ us' hl' hc' =>
    refine .agg _ us' hl' fun j c u' hj hu'=>?_
    have hj2:=hj
    simp only[List.getElem?_map,Option.map_eq_some_iff] at hj
    obtain⟨x,hx,rfl⟩:=hj
    cases hc' j _ u' hj2 hu' with
    |d _ _ hr=>exact .d _ _ (jX (List.all_eq_true.1 hds x (List.mem_of_getElem? hx)) hr)
 |fp cs b off us h1 h2=>exact absurd hf (by simp[aP])
 |fn f cs us hl hc=>exact absurd hf (by simp[aP])
 |ref o off n e sz els b full cap hH=>cases hH
 |ref0 o e sz hH=>cases hH
 |ptr o off e cs b full hH=>cases hH
 |eptr o j off e sz els b full hH=>cases hH
 |dref o n e sz rows b full hH=>cases hH
 |dref0 o e sz hH=>cases hH
 |dptr o j off e sz rows b full hH=>cases hH
 |lit v h=>exact .lit v h
 |mref o ag ps b full hH=>cases hH
theorem VRel.lift {ok ok':Nat→Prop} {H:Key→Option Ob} {r:AV} {v:Value} (hok:∀ b,ok b→ok' b) (hr:VRel w ok noM noH r v):VRel w ok' m H r v:=by
 induction hr with
 |junk v=>exact .junk v
 |d x v hx=>exact .d x v (hx.mono fun b hb=>⟨hok b hb,rfl⟩)
 |fp cs b off us h1 h2=>exact .fp cs b off us (hok b h1) fun i d hi=>⟨(h2 i d hi).1,(h2 i d hi).2.mono fun b hb=>⟨hok b hb,rfl⟩⟩
 |agg cs us hl hc ih=>exact .agg cs us hl ih
 |tup cs us hl hc ih=>exact .tup cs us hl ih
 |fn f cs us hl hc ih=>exact .fn f cs us hl ih
 |ref o off n e sz els b full cap hH=>cases hH
 |ref0 o e sz hH=>cases hH
 |ptr o off e cs b full hH=>cases hH
 |eptr o j off e sz els b full hH=>cases hH
 |dref o n e sz rows b full hH=>cases hH
 |dref0 o e sz hH=>cases hH
 |dptr o j off e sz rows b full hH=>cases hH
 |lit v h=>exact .lit v h
 |mref o ag ps b full hH=>cases hH
theorem iB (h:SRel E N A w0 m s a w) (hbw:Below w.heap.size w w') {ok:Nat→Prop} {r:AV} {v:Value}
  (hblk:∀ b,ok b→okB A s.H m w' b)
  (hr:RRok w' w.heap.size ok r v)
  (hk:aZ dst s k r):∃ m' s',SRel E N A w0 m' s' (a.put dst v) w'∧k s':=by
 have h':=h.below' hbw
 have plain:VRel w' ok noM noH r v→k (put dst r s)→∃ m' s',SRel E N A w0 m' s' (a.put dst v) w'∧k s' :=
  fun hv hk=>⟨m,_,h'.put dst (hv.lift hblk),hk⟩
 cases r with
 |uq e sz els =>
  simp only[RRok] at hr
  simp only[aZ] at hk
  have fresh:∀ b,w.heap.size≤b→b<w'.heap.size→okB A s.H m w' b:=fun b h1 h2 =>
   ⟨h2,fun o ho p hp he=>by have:=xT h ho hp;omega,h.hAn b h1⟩
  rcases hk with hk|⟨t,rfl,hk⟩
  ·refine⟨m,_,h'.put dst (v:=.d (.sl els)) ?_,hk⟩
   rcases hr with ⟨rfl,rfl⟩|⟨b,full,cur,rfl,hb,hcur,hle,hmax,hsz,hc⟩
   ·exact .d _ _ (.sl0 _ _)
   ·refine .d _ _ (.sl els sz b 0 full (fun q=>(cur[q]?).getD undef) (fresh b hb (Array.getElem?_eq_some_iff.1 hcur).1) hle (fun j c hj=>⟨(hc j c hj).1,fun i d hi=>?_⟩) (fun j c hj i d hi=>?_))
    ·obtain⟨u,hu,_⟩:=(hc j c hj).2 i d hi
     simp[World.cell?,hcur,hu]
    ·obtain⟨u,hu,hr⟩:=(hc j c hj).2 i d hi
     rw[hu]
     exact hr.mono fun x hx=>⟨hblk x hx.1,rfl⟩
  ·have hokw:∀ x,okB A s.H m w x→x<w.heap.size:=fun x hx=>hx.1
   rcases hr with ⟨rfl,rfl⟩|⟨b,full,cur,rfl,hb,hcur,hle,hmax,hsz,hc⟩
   ·-- nothing yet
    have hS:SRel E N A w0 (wC m t none) (s.new t (.ds e sz [])) a w':=by
     refine h'.change t (fun i=>rfl) (fun o hne=>?_) (fun o hne=>yY m _ hne) h'.below (fun Z b hb=>⟨⟨hb.1,fun o ho p hp=>?_,hb.2.2⟩,rfl⟩) (fun _ _ _ _ _=>rfl) (fun ob hob=>?_) (fun _ o hne ho p p' hp hp'=>?_) (fun n hn=>by cases hn)
     ·simp[St.new,St.setH,St.kill,zB hne]
     ·by_cases hne:o=t
      ·subst hne;rw[zI] at hp;cases hp
      ·rw[yY m _ hne] at hp
       refine hb.2.1 o (fun hh=>ho ?_) p hp
       simp[St.new,St.setH,St.kill,zB hne,hh]
     ·have:ob=.ds e sz []:=by simp[St.new,St.setH,zD,scrPO] at hob;exact hob.symm
      subst this;exact .inl ⟨zI _ _ _,rfl⟩
     ·rw[zI] at hp;cases hp
    exact⟨_,_,hS.put _ (v:=.ref t 0 0) (.ref0 t e sz (by simp[St.new,St.setH,zD,scrPO]) (zI _ _ _)),hk⟩
   ·have hblt:b<w'.heap.size:=(Array.getElem?_eq_some_iff.1 hcur).1
    have hokn:∀ (Z:Nat→Prop) x,okB Z s.H m w' x→x≠b→okB Z (s.new t (.ds e sz els)).H (wC m t (some (b,full))) w' x:=by
     intro Z x hx hxb
     refine⟨hx.1,fun o ho p hp=>?_,hx.2.2⟩
     by_cases hne:o=t
     ·subst hne
      rw[zI] at hp;injection hp with hp;subst hp
      exact fun he=>hxb he.symm
     ·rw[yY m _ hne] at hp
      refine hx.2.1 o (fun hh=>ho ?_) p hp
      simp[St.new,St.setH,St.kill,zB hne,hh]
    have hS:SRel E N A w0 (wC m t (some (b,full))) (s.new t (.ds e sz els)) a w':=by
     refine h.change t (fun i=>rfl) (fun o hne=>?_) (fun o hne=>yY m _ hne) h'.below (fun Z x hx=>⟨hokn Z x ⟨Nat.lt_of_lt_of_le hx.1 hbw.size,hx.2⟩ (by have:=hx.1;omega),hbw.block x hx.1⟩) (fun o _ ho p hp=>hbw.block _ (xT h ho hp)) (fun ob hob=>?_) (fun _ o hne ho p p' hp hp'=>?_) (fun n hn=>by cases hn)
     ·simp[St.new,St.setH,St.kill,zB hne]
     ·have:ob=.ds e sz els:=by simp[St.new,St.setH,zD,scrPO] at hob;exact hob.symm
      subst this
      exact .inr ⟨b,full,cur,zI _ _ _,Nat.le_trans h.below.size hb,hcur,hle,hmax,hsz,fun j c hj=>⟨(hc j c hj).1,fun i d hi =>
       let ⟨u,hu,hr⟩:=(hc j c hj).2 i d hi
       ⟨u,hu,hr.mono fun x hx=>⟨hokn A x (hblk x hx.1) hx.2,rfl⟩⟩⟩⟩
     ·rw[zI] at hp
      injection hp with hp;subst hp
      have:=xT h ho hp'
      simp;omega
    refine⟨_,_,hS.put _ (v:=.ref t 0 els.length) ?_,hk⟩
    have:=VRel.ref (w:=w') (ok:=okB A (s.new t (.ds e sz els)).H (wC m t (some (b,full))) w') (m:=wC m t (some (b,full))) (H:=(s.new t (.ds e sz els)).H) t 0 els.length e sz els b full full
     (by simp[St.new,St.setH,zD,scrPO]) (by omega) (zI _ _ _) (fun _=>rfl) hle
    rw[Nat.zero_mul] at this
    exact this
 |ownF f cs =>
  obtain⟨m2,ho,hi,hv⟩:=hr
  have fresh:∀ b,w.heap.size≤b→b<w'.heap.size→A b:=fun b h1 _=>h.hAn b h1
  let p:Key→Bool:=fun κ=>(ownH cs κ).isSome
  have hpt:∀ {o},ownH cs o≠none→p o=true:=fun {o} hh=>by
   show(ownH cs o).isSome=true
   cases hq:ownH cs o with
   |none=>exact absurd hq hh
   |some _=>rfl
  have hpf:∀ κ,p κ=false→ownH cs κ=none:=fun κ hk=>by
   cases hq:ownH cs κ with
   |none=>rfl
   |some ob =>
    have hk':(ownH cs κ).isSome=false:=hk
    rw[hq] at hk';cases hk'
  have hblk2:∀ o x,ownH cs o≠none→m2 o=some x→w.heap.size≤x.1∧x.1<w'.heap.size:=by
   intro o x hn hx
   cases hq:ownH cs o with
   |none=>exact absurd hq hn
   |some ob=>exact(ho o ob hq).blk hx
  have hlk:Like (ownH cs) (vP p p (ownH cs) s.H) m2 (mrg p m2 m):=cC hpf
  have hnn:∀ o,p o=false→vP p p (ownH cs) s.H o≠none→s.H o≠none:=fun o hp ho hh=>ho (by rw[vT hp,hh];rfl)
  have hokt:∀ b,okB ok (ownH cs) m2 w' b→okB A (vP p p (ownH cs) s.H) (mrg p m2 m) w' b∧w'.heap[b]?=w'.heap[b]?:=by
   intro b hb
   have hb':=hblk b hb.2.2
   refine⟨⟨hb.1,fun o hno x hx=>?_,hb'.2.2⟩,rfl⟩
   cases hp:p o with
   |true =>
    rw[wS hp] at hno
    rw[vW hp] at hx
    exact hb.2.1 o hno x hx
   |false =>
    rw[uZ hp] at hx
    exact hb'.2.1 o (hnn o hp hno) x hx
  have hS:SRel E N A w0 (mrg p m2 m) ⟨fun i=>scrP p (s.τ i),vP p p (ownH cs) s.H⟩ a w':=by
   refine h.merge p p (ownH cs) m2 (fun _ hh=>hh) (fun κ h1 h2=>by rw[h1] at h2;cases h2) h'.below ?_ ?_ ?_ ?_ ?_
   ·intro Z b hz
    refine⟨⟨Nat.lt_of_lt_of_le hz.1 hbw.size,fun o _ hno x hx he=>?_⟩,hbw.block b hz.1⟩
    have:=(hblk2 o x hno hx).1
    have:=hz.1;omega
   ·intro o hp hno x hx
    have hlt:=xT h hno hx
    refine⟨hbw.block _ hlt,fun o' _ hno' y hy he=>?_⟩
    have:=(hblk2 o' y hno' hy).1
    omega
   ·intro o ob hp hob
    exact((ho o ob hob).mono hokt hlk (vW hp) (fun _ _=>rfl)).base h.below.size
   ·intro o o' x x' _ _ h1 h2 h3 h4 h5
    exact hi o o' x x' h1 h2 h3 h4 h5
   ·intro n _ _ h1
    exact absurd rfl h1
  refine⟨_,_,hS.put dst (v:=ownR f cs) (hv.mono hokt hlk),?_⟩
  have:(⟨fun i=>scrP p (s.τ i),vP p p (ownH cs) s.H⟩:St)=s.addOwn cs:=by
   simp only[St.addOwn,St.mk.injEq]
   refine⟨rfl,?_⟩
   funext κ
   cases hq:ownH cs κ with
   |none =>
    rw[vT (show p κ=false by show(ownH cs κ).isSome=false;rw[hq];rfl)]
   |some ob =>
    rw[wS (show p κ=true by show(ownH cs κ).isSome=true;rw[hq];rfl)]
    exact hq
  rw[this]
  exact hk
 | _=>exact plain hr hk
theorem Invokes.mono {P:Program} {f:FuncId} {vs:Array Value} {w:World} {post post':Value→World→Prop} (h:Invokes P f vs w post) (hp:∀ v w',post v w'→post' v w'):Invokes P f vs w post':=by
 unfold Invokes at *
 split at h
 ·rename_i g args w1 hrun
  exact Calls.mono h fun e w2 ⟨v,he,hv⟩=>⟨v,he,hp v w2 hv⟩
 ·exact hp _ _ h
 ·exact h.elim
def OSat (E:Env) (N:Nat) (A:Fr) (w0:World) (o:Oper) (a:Act) (w:World) (k:St→Prop):Prop :=
 ∀ next Q,(∀ m' s' a' w',SRel E N A w0 m' s' a' w'→k s'→next a' w')→o.wp E.P a w next Q
theorem OSat.value {o:Oper} {r:Result Value} (hr:(execOp a.eval o).run E.P w=r.andThen fun v w=>.ok (.value v) w) (hres:Res E N A w0 a o.dst k r):OSat E N A w0 o a w k:=by
 intro next Q hn
 obtain⟨v,w',rfl,m',s',hS,hk⟩:=hres
 simp only[Oper.wp,hr,Result.andThen_ok,Oper.upon_value]
 exact hn m' s' _ _ hS hk
theorem OSat.unit {o:Oper} {r:Result Unit} (hr:(execOp a.eval o).run E.P w=r.andThen fun _ w=>.ok .skip w) (hres:ResU E N A w0 a o.dst k r):OSat E N A w0 o a w k:=by
 intro next Q hn
 obtain⟨w',rfl,m',s',hS,hk⟩:=hres
 simp only[Oper.wp,hr,Result.andThen_ok,Oper.upon_skip]
 exact hn m' s' _ _ hS hk
theorem dS (h:SRel E N A w0 m s a w) (xs:Array Operand):(evs N s xs).length=(xs.map a.eval).size∧∀ (i:Nat) (x:AV) (v:Value),(evs N s xs)[i]?=some x→(xs.map a.eval)[i]?=some v→VRel w (okB A s.H m w) m s.H x v:=by
 refine⟨by simp[evs],fun i x v hx hv=>?_⟩
 simp only[evs,List.getElem?_map,Option.map_eq_some_iff] at hx
 obtain⟨p,hp,rfl⟩:=hx
 simp only[Array.getElem?_map,Option.map_eq_some_iff] at hv
 obtain⟨q,hq,rfl⟩:=hv
 have:p=q:=by
  rw[Array.getElem?_toList] at hp
  rw[hp] at hq;injection hq
 subst this
 exact h.ev p
theorem rrel_ok {ok ok':Nat→Prop} {r:AV} {v:Value} (hf:aP r) {b0:Nat} (hr:RRok w' b0 ok r v):RRok w' b0 ok' r v:=by
 cases r with
 |uq e sz els =>
  rcases hr with hr|⟨b,full,cur,h1,h2,h3,h4,h5,h6,h7⟩
  ·exact .inl hr
  ·exact .inr ⟨b,full,cur,h1,h2,h3,h4,h5,h6,fun j c hj=>⟨(h7 j c hj).1,fun i d hi =>
    let ⟨u,hu,hr⟩:=(h7 j c hj).2 i d hi
    ⟨u,hu,jX (List.all_eq_true.1 (hf c (List.mem_of_getElem? hj)) d (List.mem_of_getElem? hi)) hr⟩⟩⟩
 |ownF f cs =>
  obtain⟨m2,ho,hi,hv⟩:=hr
  have hav:∀ (Z Z':Nat→Prop) (c:AV) (u:Value),((∃ x,c=.d x∧qA x=true)∨(∃ o off n,c=.ref o off n)∨∃ o n,c=.dref o n)→VRel w' Z m2 (ownH cs) c u→VRel w' Z' m2 (ownH cs) c u:=by
   intro Z Z' c u hc hu
   rcases hc with ⟨x,rfl,hx⟩|⟨o,off,n,rfl⟩|⟨o,n,rfl⟩
   ·cases hu with
    |d _ _ hd=>exact .d _ _ (jX hx hd)
   ·cases hu with
    |ref _ _ _ e sz els b full cap h1 h2 h3 h4 h5=>exact .ref o off n e sz els b full cap h1 h2 h3 h4 h5
    |ref0 _ e sz h1 h2=>exact .ref0 o e sz h1 h2
   ·cases hu with
    |dref _ _ e sz rows b full h1 h2 h3 h4=>exact .dref o n e sz rows b full h1 h2 h3 h4
    |dref0 _ e sz h1 h2=>exact .dref0 o e sz h1 h2
  have hds:∀ (Z Z':Nat→Prop) (o:Key) (e sz:Nat) (els:List (List D)),(∀ c∈els,c.all qA=true)→ORel Z b0 w' m2 (ownH cs) o (.ds e sz els)→ORel Z' b0 w' m2 (ownH cs) o (.ds e sz els):=by
   intro Z Z' o e sz els hfl hor
   rcases hor with hor|⟨b,full,cur,h1,h2,h3,h4,h5,h6,h7⟩
   ·exact .inl hor
   ·exact .inr ⟨b,full,cur,h1,h2,h3,h4,h5,h6,fun j c hj=>⟨(h7 j c hj).1,fun i d hi =>
     let ⟨u,hu,hr⟩:=(h7 j c hj).2 i d hi
     ⟨u,hu,jX (List.all_eq_true.1 (hfl c (List.mem_of_getElem? hj)) d (List.mem_of_getElem? hi)) hr⟩⟩⟩
  have hf':∀ c∈cs,(match c with
   | .d x=>qA x=true
   | .uq _ _ els=>∀ c∈els,c.all qA=true
   | .uqd _ _ _ _ _ rows subs=>(∀ c∈rows,c.all qA=true)∧∀ q∈subs,∀ c∈q,c.all qA=true
   | _=>False):=hf
  refine⟨m2,fun o ob hob=>?_,hi,?_⟩
  ·have hor:=ho o ob hob
   cases o with
   |n kk =>
    simp only[ownH] at hob
    cases hlt:Nat.blt kk 900 with
    |true=>rw[hlt] at hob;cases hob
    |false =>
     rw[hlt] at hob
     simp only[cond_false] at hob
     split at hob
     ·rename_i e sz els hc
      injection hob with hob;subst hob
      exact hds _ _ _ _ _ _ (hf' _ (List.mem_of_getElem? hc)) hor
     ·rename_i e sz cc e2 sz2 rows subs hc
      injection hob with hob;subst hob
      obtain⟨f1,f2⟩:=hf' _ (List.mem_of_getElem? hc)
      rcases hor with hor|⟨b,full,cur,h1,h2,h3,h4,h5,h6,h7⟩
      ·exact .inl hor
      ·refine .inr ⟨b,full,cur,h1,h2,h3,h4,h5,h6,fun j c hj=>⟨(h7 j c hj).1,fun i d hi=>?_⟩⟩
       obtain⟨u,hu,hone,hr⟩:=(h7 j c hj).2 i d hi
       refine⟨u,hu,hone,hav _ _ d u ?_ hr⟩
       simp only[ownRows,List.getElem?_mapIdx,Option.map_eq_some_iff] at hj
       obtain⟨row,hrow,rfl⟩:=hj
       rw[List.getElem?_set] at hi
       split at hi
       ·split at hi
        ·injection hi with hi;subst hi;exact .inr (.inl ⟨_,_,_,rfl⟩)
        ·cases hi
       ·rw[List.getElem?_map] at hi
        obtain⟨x,hx,rfl⟩:=Option.map_eq_some_iff.1 hi
        exact .inl ⟨x,rfl,List.all_eq_true.1 (f1 row (List.mem_of_getElem? hrow)) x (List.mem_of_getElem? hx)⟩
     ·cases hob
   |s oo j =>
    simp only[ownH] at hob
    cases hlt:Nat.blt oo 900 with
    |true=>rw[hlt] at hob;cases hob
    |false =>
     rw[hlt] at hob
     simp only[cond_false] at hob
     split at hob
     ·rename_i e sz cc e2 sz2 rows subs hc
      obtain⟨q,hq,rfl⟩:=Option.map_eq_some_iff.1 hob
      exact hds _ _ _ _ _ _ ((hf' _ (List.mem_of_getElem? hc)).2 q (List.mem_of_getElem? hq)) hor
     ·cases hob
   |l n=>cases hob
  ·refine VRel.wrap (fun i c u hc=>hav _ _ c u ?_) hv
   ·have gen:∀ (l:List AV) (n i:Nat) (c:AV),(∀ x∈l,x∈cs)→(ownR1 n l)[i]?=some c→(∃ x,c=.d x∧qA x=true)∨(∃ o off n,c=.ref o off n)∨∃ o n,c=.dref o n:=by
     intro l
     induction l with
     |nil=>intro n i c _ hc;simp[ownR1] at hc
     |cons v vs ih =>
      intro n i c hm hc
      cases i with
      |succ i=>exact ih (n+1) i c (fun x hx=>hm x (List.mem_cons_of_mem _ hx)) (by simpa[ownR1] using hc)
      |zero =>
       have hv:=hf' v (hm v List.mem_cons_self)
       simp only[ownR1,List.getElem?_cons_zero,Option.some.injEq] at hc
       subst hc
       cases v <;> first|exact hv.elim|exact .inl ⟨_,rfl,hv⟩|exact .inr (.inl ⟨_,_,_,rfl⟩)|exact .inr (.inr ⟨_,_,rfl⟩)
    exact gen cs 900 i c (fun _ h=>h) hc
 | _=>exact flat_val hf hr
theorem Kept.ne {ob:Ob} {o2:Option Ob} (h:Kept ob o2):o2≠none:=by
 cases ob with
 |vs e cs=>obtain⟨_,h⟩:=h;rw[h];simp
 |ds e sz els=>obtain⟨_,h,_⟩:=h;rw[h];simp
 |rs e sz els=>obtain⟨_,h,_⟩:=h;rw[h];simp
 |mp ag ps=>obtain⟨_,h⟩:=h;rw[h];simp
theorem nI (z:Sw) (h:SRel E N A w0 m s a w) {g:FuncId} {as1:List AV} {xs:Array Value} (hl:as1.length=xs.size)
  (hrel:∀ (i:Nat) (x:AV) (v:Value),as1[i]?=some x→xs[i]?=some v→VRel w (okB A s.H m w) m s.H x v) (ha:aKeepZ E z.f g as1 dst s k) :
  Invokes E.P g xs w (fun v w'=>∃ m' s',SRel E N A w0 m' s' (a.put dst v) w'∧k s'):=by
 obtain⟨K,Post,hc,hKa,hk⟩:=ha
 generalize hs1:s.rn z.f=s1 at hc hk
 have h1:SRel E N A.noPin w0 (rwM z m) s1 a w:=by
  rw[← hs1];exact h.noPin.rw0 z (fun n hn=>absurd rfl hn)
 generalize hm1:rwM z m=m1 at h1
 let A':Fr:=⟨fun b=>A b∧∀ o,K o=false→s1.H o≠none→∀ p,m1 o=some p→p.1≠b,fun b=>b<w.heap.size∧∀ o,K o=true→s1.H o≠none→∀ p,m1 o=some p→p.1≠b,
  fun b=>w.heap[b]?,fun n=>bif K (.l n) then some (m1 (.l n)) else none⟩
 have hoklend:∀ b,okB A s1.H m1 w b→okB A' (yJ K s1.H) m1 w b∧w.heap[b]?=w.heap[b]?:=fun b hb =>
  ⟨⟨hb.1,fun o ho p hp=>hb.2.1 o (xA ho).2 p hp,hb.2.2,fun o _ ho p hp=>hb.2.1 o ho p hp⟩,rfl⟩
 have hH:HRel E A' w0 m1 (yJ K s1.H) w:=by
  refine⟨h1.below,h1.inv,fun o ob ho=>?_,fun o o' p p' ho ho' hp hp' he=>h1.inj o o' p p' (xA ho).2 (xA ho').2 hp hp' he,fun b hb=>?_,
   fun b hb=>⟨hb.1,fun o ho p hp=>hb.2 o (xA ho).1 (xA ho).2 p hp,rfl⟩,fun n hn hs=>?_⟩
  ·have hk':K o=true:=(xA (by rw[ho];simp)).1
   rw[vK hk'] at ho
   obtain⟨ob0,h0,rfl⟩:=Option.map_eq_some_iff.1 ho
   exact(h1.objs o ob0 h0).scr (p:=fun o=>!K o) (by simp[hk']) uH h0 hoklend (fun _ _=>rfl)
  ·by_cases hX:b<w.heap.size∧∀ o,K o=true→s1.H o≠none→∀ p,m1 o=some p→p.1≠b
   ·exact .inr hX
   ·left
    have hAb:A b:=by
     rcases h1.hA b hb with g1|g1
     ·exact g1
     ·have:=h1.fr b g1
      exact absurd ⟨this.1,fun o _ ho p hp=>this.2.1 o ho p hp⟩ hX
    refine⟨hAb,fun o hKo ho p hp he=>hX ⟨by rw[← he];exact xT h1 ho hp,fun o' hKo' ho' p' hp' he'=>?_⟩⟩
    have:=h1.inj o o' p p' ho ho' hp hp' (by rw[he,he'])
    rw[this,hKo'] at hKo;cases hKo
  ·have hk':K (.l n)=true:=(xA hs).1
   show some (m1 (.l n))=(bif K (.l n) then some (m1 (.l n)) else none)
   rw[hk'];rfl
 have hargs:∀ (i:Nat) (x:AV) (v:Value),(as1.map fun x=>scrP (fun o=>!K o) (ren z.f x))[i]?=some x→xs[i]?=some v→VRel w (okB A' (yJ K s1.H) m1 w) m1 (yJ K s1.H) x v:=by
  intro i x v hx hv
  rw[List.getElem?_map] at hx
  obtain⟨x0,hx0,rfl⟩:=Option.map_eq_some_iff.1 hx
  have g1:=(hrel i x0 v hx0 hv).rw (z:=z) (ok':=okB A (rwH z s.H) (rwM z m) w) fun b hb=>fA hb
  have e1:rwH z s.H=s1.H:=by rw[← hs1];rfl
  rw[e1,hm1] at g1
  exact g1.scr hoklend uH
 refine(hc w0 A' m1 w xs hH (by simpa using hl) hargs).mono ?_
 rintro v w' ⟨r,H1,m2,hP,hH',hv⟩
 obtain⟨hn0,hl1,hk'⟩:=hk r H1 hP
 have hX:∀ b,b<w.heap.size→(∀ o,K o=true→s1.H o≠none→∀ p,m1 o=some p→p.1≠b)→b<w'.heap.size∧(∀ o,H1 o≠none→∀ p,m2 o=some p→p.1≠b)∧w'.heap[b]?=w.heap[b]? :=
  fun b g1 g2=>hH'.fr b ⟨g1,g2⟩
 have hKin:∀ o,H1 o≠none→K o=true:=fun o ho=>by
  cases hq:K o with
  |true=>rfl
  |false=>exact absurd (hn0 o hq) ho
 have hpin2:∀ n,K (.l n)=true→m2 (.l n)=m1 (.l n)∧s1.H (.l n)≠none:=by
  intro n hKn
  obtain⟨ob,g1,g2⟩:=hl1 n hKn
  refine⟨?_,by rw[g1];simp⟩
  have hp:A'.pin n=some (m1 (.l n)):=by show(bif K (.l n) then some (m1 (.l n)) else none)=_;rw[hKn];rfl
  have hq:=hH'.pin n (by rw[hp];simp) g2.ne
  rw[hp] at hq;injection hq
 have hlk:Like H1 (vP K (qW K) H1 s1.H) m2 (mrg K m2 m1):=cC hn0
 have hokt:∀ b,okB A' H1 m2 w' b→okB A.noPin (vP K (qW K) H1 s1.H) (mrg K m2 m1) w' b∧w'.heap[b]?=w'.heap[b]?:=by
  intro b hb
  refine⟨⟨hb.1,fun o ho p hp=>?_,hb.2.2.1⟩,rfl⟩
  cases hq:K o with
  |true =>
   rw[wS hq] at ho
   rw[vW hq] at hp
   exact hb.2.1 o ho p hp
  |false =>
   rw[vT hq] at ho
   rw[uZ hq] at hp
   exact hb.2.2.2 o hq (fun hh=>ho (by rw[hh];rfl)) p hp
 have hS:SRel E N A.noPin w0 (mrg K m2 m1) ⟨fun i=>scrP (qW K) (s1.τ i),vP K (qW K) H1 s1.H⟩ a w':=by
  refine h1.merge K (qW K) H1 m2 (fun κ hκ=>?_) (fun κ g1 g2 ob hob=>?_) hH'.below ?_ ?_ ?_ ?_ (fun n hn=>absurd rfl hn)
  ·cases κ <;> first|exact hκ|cases hκ
  ·cases κ with
   |n kk=>rw[show qW K (.n kk)=K (.n kk) from rfl,g1] at g2;cases g2
   |s o j=>rw[show qW K (.s o j)=K (.s o j) from rfl,g1] at g2;cases g2
   |l n =>
    obtain⟨ob',q1,q2⟩:=hl1 n g1
    rw[hob] at q1;injection q1 with q1;subst q1
    exact⟨q2,(hpin2 n g1).1⟩
  ·intro Z b hz
   obtain⟨q1,q2,q3⟩:=hX b hz.1 (fun o _ ho p hp=>hz.2.1 o ho p hp)
   exact⟨⟨q1,fun o _ ho p hp=>q2 o ho p hp⟩,q3⟩
  ·intro o hKo ho x hx
   obtain⟨q1,q2,q3⟩:=hX x.1 (xT h1 ho hx) (fun o' hKo' ho' p' hp' he'=>by
    have:=h1.inj o o' x p' ho ho' hx hp' he'.symm
    rw[this,hKo'] at hKo;cases hKo)
   exact⟨q3,fun o' _ ho' y hy=>q2 o' ho' y hy⟩
  ·intro o ob hKo hob
   exact(hH'.objs o ob hob).mono hokt hlk (vW hKo) (fun _ _=>rfl)
  ·intro o o' x x' _ _ g1 g2 g3 g4 g5
   exact hH'.inj o o' x x' g1 g2 g3 g4 g5
 have hS2:=hS.rw0 z (fun n hn=>absurd rfl hn)
 have hv2:=(hv.mono hokt hlk).rw (z:=z) (ok':=okB A (rwH z (vP K (qW K) H1 s1.H)) (rwM z (mrg K m2 m1)) w') fun b hb=>fA hb
 have hS3:SRel E N A w0 (rwM z (mrg K m2 m1)) ((s1.back K H1).rn z.f) a w':=by
  refine⟨hS2.size,hS2.defers,hS2.below,hS2.inv,hS2.tmps,hS2.objs,hS2.inj,hS2.hA,hS2.fr,fun n hn hs=>?_⟩
  have hs:rwH z (vP K (qW K) H1 s1.H) (.l n)≠none:=hs
  have e1:s1.H=rwH z s.H:=by rw[← hs1];rfl
  have key:s1.H (z.f (.l n))≠none→some (m1 (z.f (.l n)))=A.pin n:=by
   intro hq
   rw[e1] at hq
   simp only[rwH,z.hf] at hq
   rw[← hm1,rwM_at]
   exact h.pin n hn (fun hh=>hq (by rw[hh];rfl))
  show some (mrg K m2 m1 (z.f (.l n)))=A.pin n
  have g1:(vP K (qW K) H1 s1.H) (z.f (.l n))≠none:=fun hh=>hs (by simp only[rwH,hh];rfl)
  cases hq:K (z.f (.l n)) with
  |false =>
   rw[uZ hq]
   rw[vT hq] at g1
   exact key (fun hh=>g1 (by rw[hh];rfl))
  |true =>
   rw[vW hq]
   have hl:∃ n',z.f (.l n)=.l n':=hKa n hq
   obtain⟨n',hn'⟩:=hl
   rw[hn'] at hq key ⊢
   obtain⟨q1,q2⟩:=hpin2 n' hq
   rw[q1]
   exact key q2
 exact⟨_,_,hS3.put dst hv2,hk'⟩
theorem sw_pin {K:Key→Bool} {a b:Nat} (hK:K (.n a)=false):∀ n,K (swp (.n a) (.l b) (.l n))=true→∃ n',swp (.n a) (.l b) (.l n)=.l n':=by
 intro n hq
 unfold swp at hq ⊢
 have e0:Key.beq (.l n) (.n a)=false:=rfl
 rw[e0] at hq ⊢
 simp only[cond_false] at hq ⊢
 cases hb:Key.beq (.l n) (.l b) with
 |true=>rw[hb] at hq;simp only[cond_true] at hq;rw[hK] at hq;cases hq
 |false=>exact⟨n,rfl⟩
theorem rZ (h:SRel E N A w0 m s a w) {g:FuncId} {as1:List AV} {xs:Array Value} (hl:as1.length=xs.size)
  (hrel:∀ (i:Nat) (x:AV) (v:Value),as1[i]?=some x→xs[i]?=some v→VRel w (okB A s.H m w) m s.H x v) (ha:aKeep E g as1 dst s k) :
  Invokes E.P g xs w (fun v w'=>∃ m' s',SRel E N A w0 m' s' (a.put dst v) w'∧k s'):=by
 obtain⟨ka,kb,K,Post,hc,hKa,hk⟩:=ha
 exact nI (swW (.n ka) (.l kb)) h hl hrel ⟨K,Post,hc,sw_pin hKa,hk⟩
theorem aIO.keep {g:FuncId} {as1:List AV} (ha:aIO E g as1 dst s k):aKeep E g as1 dst s k:=by
 obtain⟨ka,kb,K,Post,hc,hKa,hk⟩:=ha
 refine⟨ka,kb,K,Post,hc,hKa,fun r H1 hP=>⟨(hk r H1 hP).1,fun n hn=>?_,(hk r H1 hP).2.2⟩⟩
 obtain⟨e,cs,cs',g1,g2⟩:=(hk r H1 hP).2.1 n hn
 exact⟨_,g1,cs',g2⟩
theorem SRel.retell (h:SRel E N A w0 m s a w) {κ:Key} {e:TypeId} {cells cells':List AV} (hH:s.H κ=some (.vs e cells)) (hl:cells'.length=cells.length)
  (hc:∀ (b full:Nat) (cur:Array Value),m κ=some (b,full)→w.heap[b]?=some (.cells cur e (0,0))→∀ (i:Nat) (c c':AV) (u:Value),cells[i]?=some c→cells'[i]?=some c'→cur[i]?=some u→VRel w (okB A s.H m w) m s.H c u→VRel w (okB A s.H m w) m s.H c' u):SRel E N A w0 m (s.setH κ (.vs e cells')) a w:=by
 obtain⟨b,full,cur,h1,hb,hcur,hsz,hcells⟩:=h.objs κ _ hH
 have hlike:Like s.H (s.setH κ (.vs e cells')).H m m:=by
  refine⟨fun o2 e2 cs2 h2=>?_,fun o2 e2 sz2 els2 h2=>?_,fun o2 e2 sz2 els2 h2=>?_,fun o2 ag2 ps2 h2=>?_⟩
  ·by_cases hne:o2=κ
   ·subst hne
    rw[hH] at h2;injection h2 with h2;injection h2 with i1 i2;subst i1
    exact⟨⟨_,by simp[St.setH,zD];rfl⟩,rfl⟩
   ·exact⟨⟨cs2,by simp[St.setH,zB hne,h2]⟩,rfl⟩
  ·by_cases hne:o2=κ
   ·subst hne;rw[hH] at h2;cases h2
   ·exact⟨⟨els2,by simp[St.setH,zB hne,h2],rfl⟩,rfl⟩
  ·by_cases hne:o2=κ
   ·subst hne;rw[hH] at h2;cases h2
   ·exact⟨⟨els2,by simp[St.setH,zB hne,h2],rfl⟩,rfl⟩
  ·by_cases hne:o2=κ
   ·subst hne;rw[hH] at h2;cases h2
   ·exact⟨⟨ps2,by simp[St.setH,zB hne,h2]⟩,rfl⟩
 have hok:∀ q,okB A s.H m w q→okB A (s.setH κ (.vs e cells')).H m w q∧w.heap[q]?=w.heap[q]?:=by
  intro q hq
  refine⟨⟨hq.1,fun o2 ho2 p hp=>hq.2.1 o2 ?_ p hp,hq.2.2⟩,rfl⟩
  by_cases hne:o2=κ
  ·subst hne;simp[hH]
  ·simpa[St.setH,zB hne] using ho2
 refine h.update κ _ (.vs e cells') hH hlike b full h1 h.below rfl (fun _ _=>rfl) ⟨b,full,cur,h1,hb,hcur,by omega,fun i c hi=>?_⟩ (fun _ _ _=>⟨_,_,rfl⟩)
 have hlt:i<cells.length:=by have:=(List.getElem?_eq_some_iff.1 hi).1;omega
 obtain⟨u,hu,hv⟩:=hcells i cells[i] (List.getElem?_eq_getElem hlt)
 exact⟨u,hu,(hc b full cur h1 hcur i _ c u (List.getElem?_eq_getElem hlt) hi hu hv).mono hok hlike⟩
theorem HRel.toS {H:Key→Option Ob} (h:HRel E A w0 m H w):SRel E 0 A w0 m ⟨fun _=>.junk,H⟩ ⟨#[],[]⟩ w :=
 ⟨rfl,rfl,h.below,h.inv,fun i hi=>absurd hi (Nat.not_lt_zero i),h.objs,h.inj,h.hA,h.fr,h.pin⟩
theorem detA_det {ok:Nat→Prop} {H:Key→Option Ob} {K:Key→Bool} {c:AV} {u u':Value} (hd:nE K c=true) (h1:VRel w ok m H c u) (h2:VRel w ok m H c u'):u=u':=by
 cases h1 with
 |ref o off n e sz els b full cap hH hn hm hcap hnc =>
  cases off with
  |succ off=>simp[nE] at hd
  |zero =>
   have e1:=hcap rfl
   subst e1
   cases h2 with
   |ref _ _ _ e' sz' els' b' full' cap' hH' hn' hm' hcap' hnc' =>
    have e2:=hcap' rfl
    subst e2
    rw[hm] at hm';injection hm' with hm';injection hm' with i1 i2;subst i1 i2
    simp
   |ref0 _ e' sz' hH' hm'=>rw[hm] at hm';cases hm'
 |ref0 o e sz hH hm =>
  cases h2 with
  |ref _ _ _ e' sz' els' b' full' cap' hH' hn' hm' hcap' hnc'=>rw[hm] at hm';cases hm'
  |ref0 _ e' sz' hH' hm'=>rfl
 |dref o n e sz rows b full hH hn hm hnc =>
  cases h2 with
  |dref _ _ e' sz' rows' b' full' hH' hn' hm' hnc'=>rw[hm] at hm';injection hm' with hm';injection hm' with i1 i2;subst i1 i2;rfl
  |dref0 _ e' sz' hH' hm'=>rw[hm] at hm';cases hm'
 |dref0 o e sz hH hm =>
  cases h2 with
  |dref _ _ e' sz' rows' b' full' hH' hn' hm' hnc'=>rw[hm] at hm';cases hm'
  |dref0 _ e' sz' hH' hm'=>rfl
 | _=>simp[nE] at hd
theorem LitC_get {K:Key→Bool} {cs:List AV} {lam:Nat→Value}:∀ {xs ys:List AV},LitC K cs lam xs ys→ys.length=xs.length∧∀ (i:Nat) (x y:AV),xs[i]?=some x→ys[i]?=some y→y=scrP (fun o=>!K o) x∨∃ j:Nat,cs[j]?=some x∧y=.lit (lam j)
 | [],ys,h=>by simp only[LitC] at h;subst h;simp
 |x::xs,ys,h=>by
  obtain⟨y,ys',rfl,h1,h2⟩:=h
  obtain⟨g1,g2⟩:=LitC_get h2
  refine⟨by simp[g1],fun i x' y' hx hy=>?_⟩
  cases i with
  |zero=>simp at hx hy;subst hx hy;exact h1
  |succ i=>exact g2 i x' y' (by simpa using hx) (by simpa using hy)
theorem LitB_get {cs:List AV} {lam:Nat→Value}:∀ {xs ys:List AV},LitB cs lam xs ys→ys.length=xs.length∧∀ (i:Nat) (x y:AV),xs[i]?=some x→ys[i]?=some y→x=y∨∃ j:Nat,cs[j]?=some x∧y=.lit (lam j)
 | [],ys,h=>by simp only[LitB] at h;subst h;simp
 |x::xs,ys,h=>by
  obtain⟨y,ys',rfl,h1,h2⟩:=h
  obtain⟨g1,g2⟩:=LitB_get h2
  refine⟨by simp[g1],fun i x' y' hx hy=>?_⟩
  cases i with
  |zero=>simp at hx hy;subst hx hy;exact h1
  |succ i=>exact g2 i x' y' (by simpa using hx) (by simpa using hy)
theorem det_back {K:Key→Bool} {H1:Key→Option Ob} {m1 m2:Own} {ok ok':Nat→Prop} {H:Key→Option Ob} {c:AV} {u:Value} (hd:nE K c=true) (h:VRel w ok m1 H c u):VRel w' ok' (mrg K m2 m1) (vP K (qW K) H1 H) c u:=by
 cases h with
 |ref o off n e sz els b full cap hH hn hm hcap hnc =>
  cases off with
  |succ off=>simp[nE] at hd
  |zero =>
   have hK:K o=false:=by simpa[nE] using hd
   exact .ref o 0 n e sz els b full cap (by rw[vT hK,hH];rfl) hn (by rw[uZ hK];exact hm) hcap hnc
 |ref0 o e sz hH hm =>
  have hK:K o=false:=by simpa[nE] using hd
  exact .ref0 o e sz (by rw[vT hK,hH];rfl) (by rw[uZ hK];exact hm)
 |dref o n e sz rows b full hH hn hm hnc =>
  have hK:K o=false:=by simpa[nE] using hd
  exact .dref o n e sz _ b full (by rw[vT hK,hH];rfl) (by simpa using hn) (by rw[uZ hK];exact hm) hnc
 |dref0 o e sz hH hm =>
  have hK:K o=false:=by simpa[nE] using hd
  exact .dref0 o e sz (by rw[vT hK,hH];rfl) (by rw[uZ hK];exact hm)
 | _=>simp[nE] at hd
theorem aIOL_core (h:SRel E N A w0 m s a w) {g:FuncId} {as1:List AV} {xs:Array Value} (hl:as1.length=xs.size)
  (hrel:∀ (i:Nat) (x:AV) (v:Value),as1[i]?=some x→xs[i]?=some v→VRel w (okB A s.H m w) m s.H x v) {ka kb:Nat} {K:Key→Bool} {e:TypeId} {cells cs:List AV} {vc:(Nat→Value)→List AV} {Post:(Nat→Value)→AV→(Key→Option Ob)→Prop}
  (hvar:(s.swap (.n ka) (.l kb)).H (.l kb)=some (.vs e cells)) (hKb:K (.l kb)=true) (hKa:K (.n ka)=false) (hcs:∀ c∈cs,nE K c=true∧c∈cells) (hlc:∀ lam,LitC K cs lam cells (vc lam))
  (hc:∀ lam,IOCall E g (as1.map fun x=>scrP (fun o=>!K o) (ren (swp (.n ka) (.l kb)) x)) (fun κ=>bif Key.beq κ (.l kb) then some (.vs e (vc lam)) else yJ K (s.swap (.n ka) (.l kb)).H κ) (Post lam))
  (hk:∀ lam r H1,Post lam r H1→(∀ κ,K κ=false→H1 κ=none)∧(∀ n,K (.l n)=true→∃ e cs cs',(s.swap (.n ka) (.l kb)).H (.l n)=some (.vs e cs)∧H1 (.l n)=some (.vs e cs')) ∧
   ∃ cells1 cells2,H1 (.l kb)=some (.vs e cells1)∧LitB cs lam cells2 cells1 ∧
    k (put dst (ren (swp (.n ka) (.l kb)) r) (((s.swap (.n ka) (.l kb)).back K (fun κ=>bif Key.beq κ (.l kb) then some (.vs e cells2) else H1 κ)).swap (.n ka) (.l kb)))) :
  Invokes E.P g xs w (fun v w'=>∃ m' s',SRel E N A w0 m' s' (a.put dst v) w'∧k s'):=by
 generalize hs1:s.swap (.n ka) (.l kb)=s1 at hc hk hvar
 have h1:SRel E N A.noPin w0 (swM (.n ka) (.l kb) m) s1 a w:=by
  rw[← hs1];exact h.noPin.sw _ _ (fun n hn=>absurd rfl hn)
 generalize hm1:swM (.n ka) (.l kb) m=m1 at h1
 let A':Fr:=⟨fun b=>A b∧∀ o,K o=false→s1.H o≠none→∀ p,m1 o=some p→p.1≠b,fun b=>b<w.heap.size∧∀ o,K o=true→s1.H o≠none→∀ p,m1 o=some p→p.1≠b,
  fun b=>w.heap[b]?,fun n=>bif K (.l n) then some (m1 (.l n)) else none⟩
 have hoklend:∀ b,okB A s1.H m1 w b→okB A' (yJ K s1.H) m1 w b∧w.heap[b]?=w.heap[b]?:=fun b hb =>
  ⟨⟨hb.1,fun o ho p hp=>hb.2.1 o (xA ho).2 p hp,hb.2.2,fun o _ ho p hp=>hb.2.1 o ho p hp⟩,rfl⟩
 have hH:HRel E A' w0 m1 (yJ K s1.H) w:=by
  refine⟨h1.below,h1.inv,fun o ob ho=>?_,fun o o' p p' ho ho' hp hp' he=>h1.inj o o' p p' (xA ho).2 (xA ho').2 hp hp' he,fun b hb=>?_,
   fun b hb=>⟨hb.1,fun o ho p hp=>hb.2 o (xA ho).1 (xA ho).2 p hp,rfl⟩,fun n hn hs=>?_⟩
  ·have hk':K o=true:=(xA (by rw[ho];simp)).1
   rw[vK hk'] at ho
   obtain⟨ob0,h0,rfl⟩:=Option.map_eq_some_iff.1 ho
   exact(h1.objs o ob0 h0).scr (p:=fun o=>!K o) (by simp[hk']) uH h0 hoklend (fun _ _=>rfl)
  ·by_cases hX:b<w.heap.size∧∀ o,K o=true→s1.H o≠none→∀ p,m1 o=some p→p.1≠b
   ·exact .inr hX
   ·left
    have hAb:A b:=by
     rcases h1.hA b hb with g1|g1
     ·exact g1
     ·have:=h1.fr b g1
      exact absurd ⟨this.1,fun o _ ho p hp=>this.2.1 o ho p hp⟩ hX
    refine⟨hAb,fun o hKo ho p hp he=>hX ⟨by rw[← he];exact xT h1 ho hp,fun o' hKo' ho' p' hp' he'=>?_⟩⟩
    have:=h1.inj o o' p p' ho ho' hp hp' (by rw[he,he'])
    rw[this,hKo'] at hKo;cases hKo
  ·have hk':K (.l n)=true:=(xA hs).1
   show some (m1 (.l n))=(bif K (.l n) then some (m1 (.l n)) else none)
   rw[hk'];rfl
 have hargs:∀ (i:Nat) (x:AV) (v:Value),(as1.map fun x=>scrP (fun o=>!K o) (ren (swp (.n ka) (.l kb)) x))[i]?=some x→xs[i]?=some v→VRel w (okB A' (yJ K s1.H) m1 w) m1 (yJ K s1.H) x v:=by
  intro i x v hx hv
  rw[List.getElem?_map] at hx
  obtain⟨x0,hx0,rfl⟩:=Option.map_eq_some_iff.1 hx
  have g1:=(hrel i x0 v hx0 hv).ren (x:=.n ka) (y:=.l kb) (ok':=okB A (swH (.n ka) (.l kb) s.H) (swM (.n ka) (.l kb) m) w) fun b hb=>x6 hb
  have e1:swH (.n ka) (.l kb) s.H=s1.H:=by rw[← hs1];rfl
  rw[e1,hm1] at g1
  exact g1.scr hoklend uH
 -- the values that stay
 obtain⟨bv,fullv,curv,hmv,hbv,hcurv,hszv,hcellv⟩:=h1.objs _ _ hvar
 have hlam:∃ lam:Nat→Value,∀ (j:Nat) (c:AV),cs[j]?=some c→VRel w (okB A s1.H m1 w) m1 s1.H c (lam j):=by
  refine⟨fun j=>(match cs[j]? with|some c=>Classical.epsilon fun u=>VRel w (okB A s1.H m1 w) m1 s1.H c u|none=>undef),fun j c hj=>?_⟩
  simp only[hj]
  have hex:∃ u,VRel w (okB A s1.H m1 w) m1 s1.H c u:=by
   obtain⟨i,hi⟩:=List.getElem?_of_mem (hcs c (List.mem_of_getElem? hj)).2
   obtain⟨u,_,hv⟩:=hcellv i c hi
   exact⟨u,hv⟩
  exact Classical.epsilon_spec hex
 obtain⟨lam,hlam⟩:=hlam
 obtain⟨hvl,hvg⟩:=LitC_get (hlc lam)
 have hone:∀ {c:AV} {u:Value},nE K c=true→VRel w (okB A s1.H m1 w) m1 s1.H c u→u.oneCell'=true∧u.cells=#[u]:=fun {c u} hd hv=>hv.oneCell (by cases c <;> first|rfl|simp[nE] at hd)
 have hHb:yJ K s1.H (.l kb)=some (.vs e (scrPL (fun o=>!K o) cells)):=by rw[vK hKb,hvar];rfl
 have hSL:=(hH.toS).retell (κ:=.l kb) (e:=e) (cells:=scrPL (fun o=>!K o) cells) (cells':=vc lam) hHb (by rw[xN];exact hvl) (fun b full cur hmb hcurb i c c' u hci hci' hui hvr=>by
  rw[wY] at hci
  obtain⟨c0,hc0,rfl⟩:=Option.map_eq_some_iff.1 hci
  rcases hvg i c0 c' hc0 hci' with rfl|⟨j,hj,rfl⟩
  ·exact hvr
  ·-- the cell's own value
   have hd:=(hcs c0 (List.mem_of_getElem? hj)).1
   have hmb:m1 (.l kb)=some (b,full):=hmb
   have hcurb:w.heap[b]?=some (.cells cur e (0,0)):=hcurb
   rw[hmv] at hmb;injection hmb with hmb;injection hmb with i1 i2;subst i1 i2
   rw[hcurv] at hcurb;injection hcurb with hcurb;injection hcurb with i3 _ _;subst i3
   obtain⟨u2,hu2,hv2⟩:=hcellv i c0 hc0
   rw[hui] at hu2;injection hu2 with hu2;subst hu2
   have e1:=detA_det hd hv2 (hlam j c0 hj)
   subst e1
   exact .lit _ (hone hd hv2))
 have hHV:HRel E A' w0 m1 (fun κ=>bif Key.beq κ (.l kb) then some (.vs e (vc lam)) else yJ K s1.H κ) w:=hSL.toH
 have hlikeV:Like (yJ K s1.H) (fun κ=>bif Key.beq κ (.l kb) then some (.vs e (vc lam)) else yJ K s1.H κ) m1 m1:=by
  refine⟨fun o2 e2 cs2 h2=>?_,fun o2 e2 sz2 els2 h2=>?_,fun o2 e2 sz2 els2 h2=>?_,fun o2 ag2 ps2 h2=>?_⟩
  ·by_cases hne:o2=.l kb
   ·subst hne
    rw[hHb] at h2;injection h2 with h2;injection h2 with i1 i2;subst i1
    exact⟨⟨_,by simp[zD];rfl⟩,rfl⟩
   ·exact⟨⟨cs2,by simp[zB hne,h2]⟩,rfl⟩
  ·by_cases hne:o2=.l kb
   ·subst hne;rw[hHb] at h2;cases h2
   ·exact⟨⟨els2,by simp[zB hne,h2],rfl⟩,rfl⟩
  ·by_cases hne:o2=.l kb
   ·subst hne;rw[hHb] at h2;cases h2
   ·exact⟨⟨els2,by simp[zB hne,h2],rfl⟩,rfl⟩
  ·by_cases hne:o2=.l kb
   ·subst hne;rw[hHb] at h2;cases h2
   ·exact⟨⟨ps2,by simp[zB hne,h2]⟩,rfl⟩
 have hokV:∀ b,okB A' (yJ K s1.H) m1 w b→okB A' (fun κ=>bif Key.beq κ (.l kb) then some (.vs e (vc lam)) else yJ K s1.H κ) m1 w b∧w.heap[b]?=w.heap[b]?:=fun b hb =>
  ⟨⟨hb.1,fun o ho p hp=>hb.2.1 o (by
   by_cases hne:o=.l kb
   ·subst hne;rw[hHb];simp
   ·simpa[zB hne] using ho) p hp,hb.2.2⟩,rfl⟩
 refine(hc lam w0 A' m1 w xs hHV (by simpa using hl) (fun i x v hx hv=>(hargs i x v hx hv).mono hokV hlikeV)).mono ?_
 rintro v w' ⟨r,H1,m2,hP,hH',hv⟩
 obtain⟨hn0,hl0,cells1,cells2,hH1b,hlb,hk'⟩:=hk lam r H1 hP
 have hl1:∀ n,K (.l n)=true→∃ ob,s1.H (.l n)=some ob∧Kept ob (H1 (.l n)):=fun n hn=>by
  obtain⟨e,cs,cs',g1,g2⟩:=hl0 n hn
  exact⟨_,g1,cs',g2⟩
 have hX:∀ b,b<w.heap.size→(∀ o,K o=true→s1.H o≠none→∀ p,m1 o=some p→p.1≠b)→b<w'.heap.size∧(∀ o,H1 o≠none→∀ p,m2 o=some p→p.1≠b)∧w'.heap[b]?=w.heap[b]? :=
  fun b g1 g2=>hH'.fr b ⟨g1,g2⟩
 have hKin:∀ o,H1 o≠none→K o=true:=fun o ho=>by
  cases hq:K o with
  |true=>rfl
  |false=>exact absurd (hn0 o hq) ho
 have hpin2:∀ n,K (.l n)=true→m2 (.l n)=m1 (.l n)∧s1.H (.l n)≠none:=by
  intro n hKn
  obtain⟨ob,g1,g2⟩:=hl1 n hKn
  refine⟨?_,by rw[g1];simp⟩
  have hp:A'.pin n=some (m1 (.l n)):=by show(bif K (.l n) then some (m1 (.l n)) else none)=_;rw[hKn];rfl
  have hq:=hH'.pin n (by rw[hp];simp) g2.ne
  rw[hp] at hq;injection hq
 have hlk:Like H1 (vP K (qW K) H1 s1.H) m2 (mrg K m2 m1):=cC hn0
 have hokt:∀ b,okB A' H1 m2 w' b→okB A.noPin (vP K (qW K) H1 s1.H) (mrg K m2 m1) w' b∧w'.heap[b]?=w'.heap[b]?:=by
  intro b hb
  refine⟨⟨hb.1,fun o ho p hp=>?_,hb.2.2.1⟩,rfl⟩
  cases hq:K o with
  |true =>
   rw[wS hq] at ho
   rw[vW hq] at hp
   exact hb.2.1 o ho p hp
  |false =>
   rw[vT hq] at ho
   rw[uZ hq] at hp
   exact hb.2.2.2 o hq (fun hh=>ho (by rw[hh];rfl)) p hp
 have hS:SRel E N A.noPin w0 (mrg K m2 m1) ⟨fun i=>scrP (qW K) (s1.τ i),vP K (qW K) H1 s1.H⟩ a w':=by
  refine h1.merge K (qW K) H1 m2 (fun κ hκ=>?_) (fun κ g1 g2 ob hob=>?_) hH'.below ?_ ?_ ?_ ?_ (fun n hn=>absurd rfl hn)
  ·cases κ <;> first|exact hκ|cases hκ
  ·cases κ with
   |n kk=>rw[show qW K (.n kk)=K (.n kk) from rfl,g1] at g2;cases g2
   |s o j=>rw[show qW K (.s o j)=K (.s o j) from rfl,g1] at g2;cases g2
   |l n =>
    obtain⟨ob',q1,q2⟩:=hl1 n g1
    rw[hob] at q1;injection q1 with q1;subst q1
    exact⟨q2,(hpin2 n g1).1⟩
  ·intro Z b hz
   obtain⟨q1,q2,q3⟩:=hX b hz.1 (fun o _ ho p hp=>hz.2.1 o ho p hp)
   exact⟨⟨q1,fun o _ ho p hp=>q2 o ho p hp⟩,q3⟩
  ·intro o hKo ho x hx
   obtain⟨q1,q2,q3⟩:=hX x.1 (xT h1 ho hx) (fun o' hKo' ho' p' hp' he'=>by
    have:=h1.inj o o' x p' ho ho' hx hp' he'.symm
    rw[this,hKo'] at hKo;cases hKo)
   exact⟨q3,fun o' _ ho' y hy=>q2 o' ho' y hy⟩
  ·intro o ob hKo hob
   exact(hH'.objs o ob hob).mono hokt hlk (vW hKo) (fun _ _=>rfl)
  ·intro o o' x x' _ _ g1 g2 g3 g4 g5
   exact hH'.inj o o' x x' g1 g2 g3 g4 g5
 obtain⟨hbl,hbg⟩:=LitB_get hlb
 have hMb:vP K (qW K) H1 s1.H (.l kb)=some (.vs e cells1):=by rw[wS hKb];exact hH1b
 have hSr:=hS.retell (κ:=.l kb) (e:=e) (cells:=cells1) (cells':=cells2) hMb hbl.symm (fun _ _ _ _ _ i c c' u hci hci' _ hvr=>by
  rcases hbg i c' c hci' hci with rfl|⟨j,hj,rfl⟩
  ·exact hvr
  ·have hd:=(hcs c' (List.mem_of_getElem? hj)).1
   cases hvr with
   |lit _ _=>exact det_back hd (hlam j c' hj))
 have hHr:(⟨fun i=>scrP (qW K) (s1.τ i),vP K (qW K) H1 s1.H⟩:St).setH (.l kb) (.vs e cells2)=s1.back K (fun κ=>bif Key.beq κ (.l kb) then some (.vs e cells2) else H1 κ):=by
  simp only[St.setH,St.back,St.mk.injEq,true_and]
  funext o
  by_cases hne:o=.l kb
  ·subst hne;simp[zD,hKb]
  ·simp only[zB hne,cond_false,vP]
 rw[hHr] at hSr
 have hlikeR:Like (vP K (qW K) H1 s1.H) (s1.back K (fun κ=>bif Key.beq κ (.l kb) then some (.vs e cells2) else H1 κ)).H (mrg K m2 m1) (mrg K m2 m1):=by
  rw[← hHr]
  refine⟨fun o2 e2 cs2 h2=>?_,fun o2 e2 sz2 els2 h2=>?_,fun o2 e2 sz2 els2 h2=>?_,fun o2 ag2 ps2 h2=>?_⟩
  ·by_cases hne:o2=.l kb
   ·subst hne
    rw[hMb] at h2;injection h2 with h2;injection h2 with i1 i2;subst i1
    exact⟨⟨_,by simp[St.setH,zD];rfl⟩,rfl⟩
   ·exact⟨⟨cs2,by simp[St.setH,zB hne,h2]⟩,rfl⟩
  ·by_cases hne:o2=.l kb
   ·subst hne;rw[hMb] at h2;cases h2
   ·exact⟨⟨els2,by simp[St.setH,zB hne,h2],rfl⟩,rfl⟩
  ·by_cases hne:o2=.l kb
   ·subst hne;rw[hMb] at h2;cases h2
   ·exact⟨⟨els2,by simp[St.setH,zB hne,h2],rfl⟩,rfl⟩
  ·by_cases hne:o2=.l kb
   ·subst hne;rw[hMb] at h2;cases h2
   ·exact⟨⟨ps2,by simp[St.setH,zB hne,h2]⟩,rfl⟩
 have hokR:∀ b,okB A.noPin (vP K (qW K) H1 s1.H) (mrg K m2 m1) w' b→okB A.noPin (s1.back K (fun κ=>bif Key.beq κ (.l kb) then some (.vs e cells2) else H1 κ)).H (mrg K m2 m1) w' b∧w'.heap[b]?=w'.heap[b]?:=by
  rw[← hHr]
  exact fun b hb=>⟨⟨hb.1,fun o ho p hp=>hb.2.1 o (by
   by_cases hne:o=.l kb
   ·subst hne;rw[hMb];simp
   ·simpa[St.setH,zB hne] using ho) p hp,hb.2.2⟩,rfl⟩
 have hvR:=(hv.mono hokt hlk).mono hokR hlikeR
 generalize hSB:s1.back K (fun κ=>bif Key.beq κ (.l kb) then some (.vs e cells2) else H1 κ)=sB at hSr hvR hk'
 have hS2:=hSr.sw (.n ka) (.l kb) (fun n hn=>absurd rfl hn)
 have hv2:=hvR.ren (x:=.n ka) (y:=.l kb) (ok':=okB A (swH (.n ka) (.l kb) sB.H) (swM (.n ka) (.l kb) (mrg K m2 m1)) w') fun b hb=>x6 hb
 have hS3:SRel E N A w0 (swM (.n ka) (.l kb) (mrg K m2 m1)) (sB.swap (.n ka) (.l kb)) a w':=by
  refine⟨hS2.size,hS2.defers,hS2.below,hS2.inv,hS2.tmps,hS2.objs,hS2.inj,hS2.hA,hS2.fr,fun n hn hs=>?_⟩
  have hs:swH (.n ka) (.l kb) (sB.H) (.l n)≠none:=hs
  have e1:s1.H=swH (.n ka) (.l kb) s.H:=by rw[← hs1];rfl
  have key:s1.H (swp (.n ka) (.l kb) (.l n))≠none→some (m1 (swp (.n ka) (.l kb) (.l n)))=A.pin n:=by
   intro hq
   rw[e1] at hq
   simp only[swH,qP] at hq
   rw[← hm1,swM_at]
   exact h.pin n hn (fun hh=>hq (by rw[hh];rfl))
  show some (mrg K m2 m1 (swp (.n ka) (.l kb) (.l n)))=A.pin n
  have g1:(sB.H) (swp (.n ka) (.l kb) (.l n))≠none:=fun hh=>hs (by simp only[swH,hh];rfl)
  rw[← hSB] at g1
  cases hq:K (swp (.n ka) (.l kb) (.l n)) with
  |false =>
   rw[uZ hq]
   simp only[St.back,hq,cond_false] at g1
   exact key (fun hh=>g1 (by rw[hh];rfl))
  |true =>
   rw[vW hq]
   have hl:∃ n',swp (.n ka) (.l kb) (.l n)=.l n':=by
    unfold swp at hq ⊢
    have e0:Key.beq (.l n) (.n ka)=false:=rfl
    rw[e0] at hq ⊢
    simp only[cond_false] at hq ⊢
    cases hb:Key.beq (.l n) (.l kb) with
    |true=>rw[hb] at hq;simp only[cond_true] at hq;rw[hKa] at hq;cases hq
    |false=>exact⟨n,rfl⟩
   obtain⟨n',hn'⟩:=hl
   rw[hn'] at hq key ⊢
   obtain⟨q1,q2⟩:=hpin2 n' hq
   rw[q1]
   exact key q2
 exact⟨_,_,hS3.put dst hv2,hk'⟩
theorem pQ (h:SRel E N A w0 m s a w) {g:FuncId} {xs:Array Value} {as1:List AV} {R:AV→Prop} (B:Bool) (A':Nat→Prop)
  (hA':∀ b,A' b→B=false→okB A s.H m w b) (hrel:ARel w A' as1 xs) (hc:CallsTo E g as1 R)
  (hk:∀ r,R r→(B=true→aP r)∧aZ dst s k r) :
  Invokes E.P g xs w fun v w'=>∃ m' s',SRel E N A w0 m' s' (a.put dst v) w'∧k s':=by
 have hi:=hc w A' xs h.I hrel
 have step:∀ v w',(∃ r,R r∧Below w.heap.size w w'∧lS w w' A' r v)→∃ m' s',SRel E N A w0 m' s' (a.put dst v) w'∧k s':=by
  rintro v w' ⟨r,hR,hbw,hrr⟩
  obtain⟨hf,hk1⟩:=hk r hR
  have fresh:∀ b,w.heap.size≤b→b<w'.heap.size→okB A s.H m w' b:=fun b h1 h2 =>
   ⟨h2,fun o ho p hp he=>by have:=xT h ho hp;omega,h.hAn b h1⟩
  cases B with
  |false =>
   refine iB h hbw (ok:=fun x=>x<w'.heap.size∧(A' x∨w.heap.size≤x)) (fun b hb=>?_) ?_ hk1
   ·rcases hb.2 with hb2|hb2
    ·have:=hA' b hb2 rfl
     exact⟨hb.1,this.2⟩
    ·exact fresh b hb2 hb.1
   ·exact hrr
  |true =>
   refine iB h hbw (ok:=fun x=>x<w'.heap.size∧w.heap.size≤x) (fun b hb=>fresh b hb.2 hb.1) ?_ hk1
   exact rrel_ok (hf rfl) hrr
 unfold Invokes at hi ⊢
 split at hi
 ·rename_i g' args' w1 hrun
  exact hi.mono fun e w2 ⟨v,he,hp⟩=>⟨v,he,step v w2 hp⟩
 ·exact step _ _ hi
 ·exact hi.elim
theorem aCall_sound (h:SRel E N A w0 m s a w) (o:Oper) (c:Call) (ho:o.op=.call c) (ha:fY E N c o.dst s k):OSat E N A w0 o a w k:=by
 obtain⟨cal,args,argT⟩:=c
 obtain⟨hlen,hargs⟩:=dS h args
 unfold fY at ha
 cases cal with
 |invoke r nm=>exact ha.elim
 |builtin b =>
  simp only at ha
  have hexec:∀ s0:Sem Value,(∀ cs,(Go.builtin b argT o.type cs (args.map a.eval))=(do pure (.value (← s0))))→(execOp a.eval o).run E.P w=(s0.run E.P w).andThen fun v w=>.ok (.value v) w:=by
   intro s0 hs0
   simp only[execOp,ho,resolve,invoke,Sem.run_bind,Sem.run_pure,Result.andThen_ok]
   rw[hs0]
   simp only[Sem.run_bind,Sem.run_pure]
  split at ha
  ·rename_i T TT x hT hx
   have hx0:(evs N s args)[0]?=some x:=by rw[hx];rfl
   have hl1:args.size=1:=by have:=hlen;rw[hx] at this;simpa using this.symm
   have hv0:(args.map a.eval)[0]?=some (a.eval args[0]):=by simp[hl1]
   have hT0:argT[0]?=some T:=by
    rw[← Array.getElem?_toList,hT];rfl
   exact OSat.value (hexec _ (fun _=>rfl)) (aLen_sound h T o.type (hargs 0 x _ hx0 hv0) hT0 hv0 ha)
  ·rename_i T T' x y hT hx
   cases hb:Nat.beq T T' with
   |false=>rw[hb] at ha;exact ha.elim
   |true =>
    rw[hb] at ha
    have hTT:T=T':=Nat.eq_of_beq_eq_true hb
    subst hTT
    simp only[cond_true] at ha
    have hl2:args.size=2:=by have:=hlen;rw[hx] at this;simpa using this.symm
    have hx0:(evs N s args)[0]?=some x:=by rw[hx];rfl
    have hx1:(evs N s args)[1]?=some y:=by rw[hx];rfl
    have hv0:(args.map a.eval)[0]?=some (a.eval args[0]):=by simp[hl2]
    have hv1:(args.map a.eval)[1]?=some (a.eval args[1]):=by simp[hl2]
    have he1:argT=#[T,T]:=by apply Array.ext';exact hT
    have he2:(args.map a.eval)=#[a.eval args[0],a.eval args[1]]:=by
     apply Array.ext (by simp[hl2])
     intro i h1 h2
     simp[hl2] at h1
     match i,h1 with
     | 0,_=>simp
     | 1,_=>simp
    refine OSat.value (hexec _ (fun _=>rfl)) ?_
    rw[he1,he2]
    split at ha
    ·exact dA h T o.type (hargs 0 _ _ hx0 hv0) (hargs 1 _ _ hx1 hv1) ha
    ·exact dA h T o.type (hargs 0 _ _ hx0 hv0) (hargs 1 _ _ hx1 hv1) ha
    ·exact eI h T o.type (hargs 0 _ _ hx0 hv0) (hargs 1 _ _ hx1 hv1) ha
  ·rename_i Ts k1 p k2 q hx
   have hl2:args.size=2:=by have:=hlen;rw[hx] at this;simpa using this.symm
   have hx0:(evs N s args)[0]?=some (.d (.int k1 p)):=by rw[hx];rfl
   have hx1:(evs N s args)[1]?=some (.d (.int k2 q)):=by rw[hx];rfl
   have hv0:(args.map a.eval)[0]?=some (a.eval args[0]):=by simp[hl2]
   have hv1:(args.map a.eval)[1]?=some (a.eval args[1]):=by simp[hl2]
   have r0:=hargs 0 _ _ hx0 hv0
   have r1:=hargs 1 _ _ hx1 hv1
   have he2:(args.map a.eval)=#[a.eval args[0],a.eval args[1]]:=by
    apply Array.ext (by simp[hl2])
    intro i h1 h2
    simp[hl2] at h1
    match i,h1 with
    | 0,_=>simp
    | 1,_=>simp
   refine OSat.value (hexec _ (fun _=>rfl)) ?_
   rw[he2]
   generalize a.eval args[0]=v0 at *
   generalize a.eval args[1]=v1 at *
   cases r0 with
   |d _ _ r0=>cases r0 with
    |int=>cases r1 with
     |d _ _ r1=>cases r1 with
      |int=>exact Res.same h (by simp[Builtin.min_,Builtin.min2]) (.d _ _ (.int _ _)) ha
  ·rename_i Ts k1 p k2 q hx
   have hl2:args.size=2:=by have:=hlen;rw[hx] at this;simpa using this.symm
   have hx0:(evs N s args)[0]?=some (.d (.int k1 p)):=by rw[hx];rfl
   have hx1:(evs N s args)[1]?=some (.d (.int k2 q)):=by rw[hx];rfl
   have hv0:(args.map a.eval)[0]?=some (a.eval args[0]):=by simp[hl2]
   have hv1:(args.map a.eval)[1]?=some (a.eval args[1]):=by simp[hl2]
   have r0:=hargs 0 _ _ hx0 hv0
   have r1:=hargs 1 _ _ hx1 hv1
   have he2:(args.map a.eval)=#[a.eval args[0],a.eval args[1]]:=by
    apply Array.ext (by simp[hl2])
    intro i h1 h2
    simp[hl2] at h1
    match i,h1 with
    | 0,_=>simp
    | 1,_=>simp
   refine OSat.value (hexec _ (fun _=>rfl)) ?_
   rw[he2]
   generalize a.eval args[0]=v0 at *
   generalize a.eval args[1]=v1 at *
   cases r0 with
   |d _ _ r0=>cases r0 with
    |int=>cases r1 with
     |d _ _ r1=>cases r1 with
      |int=>exact Res.same h (by simp[Builtin.max_,Builtin.max2]) (.d _ _ (.int _ _)) ha
  ·rename_i T x hT hx
   have hl1:args.size=1:=by have:=hlen;rw[hx] at this;simpa using this.symm
   have hx0:(evs N s args)[0]?=some x:=by rw[hx];rfl
   have hv0:(args.map a.eval)[0]?=some (a.eval args[0]):=by simp[hl1]
   have he1:argT=#[T]:=by apply Array.ext';exact hT
   have he2:(args.map a.eval)=#[a.eval args[0]]:=by
    apply Array.ext (by simp[hl1])
    intro i h1 h2
    simp[hl1] at h1
    subst h1;simp
   refine OSat.value (hexec _ (fun _=>rfl)) ?_
   rw[he1,he2]
   exact d9 h T o.type (hargs 0 _ _ hx0 hv0) ha
  ·exact ha.elim
 |value f =>
  simp only at ha
  have hf:=h.ev f
  split at ha
  ·rename_i g caps hev
   rw[hev] at hf
   generalize hfv:a.eval f=fv at hf
   cases hf with
   |fn _ _ us hul hur =>
    have hexec:(execOp a.eval o).run E.P w=(callFunc g ((#[]++args.map a.eval)++us)).run E.P w:=by
     simp only[execOp,ho,resolve,hfv,Deferred.ofValue,invoke,Sem.run_bind,Sem.run_pure,Result.andThen_ok]
    have close:Invokes E.P g ((#[]++args.map a.eval)++us) w (fun v w'=>∃ m' s',SRel E N A w0 m' s' (a.put o.dst v) w'∧k s')→OSat E N A w0 o a w k:=by
     intro fin next Q hn
     simp only[Oper.wp,hexec]
     unfold Invokes at fin
     split at fin
     ·rename_i g' args' w1 hrun
      rw[hrun,Oper.upon_enter]
      refine fin.mono fun e w2 ⟨v,he,m',s',hS,hk⟩=>?_
      subst he
      exact hn m' s' _ _ hS hk
     ·rename_i v w1 hrun
      rw[hrun,Oper.upon_value]
      obtain⟨m',s',hS,hk⟩:=fin
      exact hn m' s' _ _ hS hk
     ·exact fin.elim
    have io:∀ {m1:Own} {s1:St} {g1:FuncId} {caps1:List AV},SRel E N A w0 m1 s1 a w→ev N s1 f=.fn g1 caps1→aKeep E g1 (evs N s1 args++caps1) o.dst s1 k→OSat E N A w0 o a w k:=by
     intro m1 s1 g1 caps1 h1 hev1 hio
     obtain⟨hlen,hargs⟩:=dS h1 args
     have hf1:=h1.ev f
     rw[hev1,hfv] at hf1
     cases hf1 with
     |fn _ _ _ hul hur =>
     refine close (rZ h1 (as1:=evs N s1 args++caps1) (by simp at hlen ⊢;omega) (fun i x v hx hv=>?_) hio)
     have hl2:(evs N s1 args).length=args.size:=by simpa using hlen
     by_cases hi:i<(evs N s1 args).length
     ·rw[List.getElem?_append_left hi] at hx
      rw[Array.getElem?_append_left (by simp;omega)] at hv
      simp only[Array.empty_append] at hv
      exact hargs i x v hx hv
     ·rw[List.getElem?_append_right (by omega)] at hx
      rw[Array.getElem?_append_right (by simp;omega)] at hv
      have he:i - (#[]++args.map a.eval).size=i - (evs N s1 args).length:=by simp;omega
      rw[he] at hv
      exact hur _ x v hx hv
    have iol:aIOL E N f args o.dst s k→OSat E N A w0 o a w k:=by
     rintro⟨s0,g1,caps1,ka,kb,K,e,cells,cs,vc,Post,hw,he,⟨hv1,hv2,hv3⟩,hcs,hlc,hcall,hk⟩
     obtain⟨m1,h1⟩:=hw A w0 m a w h
     obtain⟨hlen,hargs⟩:=dS h1 args
     have hf1:=h1.ev f
     rw[he,hfv] at hf1
     cases hf1 with
     |fn _ _ _ hul hur =>
     refine close (aIOL_core h1 (as1:=evs N s0 args++caps1) (by simp at hlen ⊢;omega) (fun i x v hx hv=>?_) hv1 hv2 hv3 hcs hlc hcall hk)
     have hl2:(evs N s0 args).length=args.size:=by simpa using hlen
     by_cases hi:i<(evs N s0 args).length
     ·rw[List.getElem?_append_left hi] at hx
      rw[Array.getElem?_append_left (by simp;omega)] at hv
      simp only[Array.empty_append] at hv
      exact hargs i x v hx hv
     ·rw[List.getElem?_append_right (by omega)] at hx
      rw[Array.getElem?_append_right (by simp;omega)] at hv
      have he:i - (#[]++args.map a.eval).size=i - (evs N s0 args).length:=by simp;omega
      rw[he] at hv
      exact hur _ x v hx hv
    have iow:aIOW E N f args o.dst s k→OSat E N A w0 o a w k:=by
     rintro⟨s1,g1,caps1,hw,he,hio⟩
     obtain⟨m1,h1⟩:=hw A w0 m a w h
     exact io h1 he hio.keep
    have ikw:aKeepW E N f args o.dst s k→OSat E N A w0 o a w k:=by
     rintro⟨s1,g1,caps1,z,hw,hev1,hz,hio⟩
     obtain⟨m1,h1⟩:=hw A w0 m a w h
     obtain⟨hlen,hargs⟩:=dS h1 args
     have hf1:=h1.ev f
     rw[hev1,hfv] at hf1
     cases hf1 with
     |fn _ _ _ hul hur =>
     refine close (nI ⟨z,hz⟩ h1 (as1:=evs N s1 args++caps1) (by simp at hlen ⊢;omega) (fun i x v hx hv=>?_) hio)
     have hl2:(evs N s1 args).length=args.size:=by simpa using hlen
     by_cases hi:i<(evs N s1 args).length
     ·rw[List.getElem?_append_left hi] at hx
      rw[Array.getElem?_append_left (by simp;omega)] at hv
      simp only[Array.empty_append] at hv
      exact hargs i x v hx hv
     ·rw[List.getElem?_append_right (by omega)] at hx
      rw[Array.getElem?_append_right (by simp;omega)] at hv
      have he:i - (#[]++args.map a.eval).size=i - (evs N s1 args).length:=by simp;omega
      rw[he] at hv
      exact hur _ x v hx hv
    split at ha
    ·rename_i as1 cs has hcs
     obtain⟨hal,hag⟩:=q5 _ _ has
     obtain⟨hcl,hcg⟩:=nA _ _ hcs
     have rel:∀ (B:Bool) (A':Nat→Prop),(∀ b,okB A s.H m w b→A' b)→(B=true→∀ o p,s.H o≠none→m o=some p→A' p.1)→((zT (evs N s args) || zT caps)=true→B=true)→ARel w A' (as1++cs) ((#[]++args.map a.eval)++us):=by
      intro B A' hok hown hB
      have hok':∀ b,okB A s.H m w b→b<w.heap.size∧A' b:=fun b hb=>⟨hb.1,hok b hb⟩
      have hown':B=true→∀ o p,s.H o≠none→m o=some p→p.1<w.heap.size∧A' p.1:=fun hb o p ho hp=>⟨xT h ho hp,hown hb o p ho hp⟩
      refine⟨by simp at hlen ⊢;omega,fun i x v hx hv=>?_⟩
      have hl2:as1.length=args.size:=by simp at hlen;omega
      by_cases hi:i<as1.length
      ·rw[List.getElem?_append_left hi] at hx
       obtain⟨c0,h1,h2⟩:=hag i x hx
       rw[Array.getElem?_append_left (by simp;omega)] at hv
       simp only[Array.empty_append] at hv
       exact q7 h hok' hown' (fun hh=>hB (by simp[jV h1 hh])) (hargs i c0 v h1 hv) h2
      ·rw[List.getElem?_append_right (by omega)] at hx
       obtain⟨c0,h1,h2⟩:=hcg _ x hx
       rw[Array.getElem?_append_right (by simp;omega)] at hv
       have he:i - (#[]++args.map a.eval).size=i - as1.length:=by simp;omega
       rw[he] at hv
       exact wH h hok' hown' (fun hh=>hB (by simp[jV h1 hh])) (hur _ c0 v h1 hv) h2
     cases hB:(zT (evs N s args) || zT caps) with
     |false =>
      rw[hB] at ha
      simp only[cond_false] at ha
      obtain⟨R,hC,hk⟩:=ha
      exact close (pQ h false (okB A s.H m w) (fun b hb _=>hb) (rel false _ (fun b hb=>hb) (by simp) (by simp[hB])) hC (fun r hr=>⟨by simp,hk r hr⟩))
     |true =>
      rw[hB] at ha
      simp only[cond_true] at ha
      rcases ha with ⟨R,hC,hk⟩|hio|hio|hio|hio|hio
      ·exact close (pQ h true (fun _=>True) (by simp) (rel true _ (fun _ _=>trivial) (fun _ _ _ _ _=>trivial) (by simp)) hC (fun r hr=>⟨fun _=>(hk r hr).1,(hk r hr).2⟩))
      ·exact io h hev hio
      ·exact io h hev hio.keep
      ·exact iow hio
      ·exact iol hio
      ·exact ikw hio
    ·rcases ha with ⟨as1,cs,R,hfz,hcs,hC,hk⟩|hio|hio|hio|hio
     ·obtain⟨hal,hag⟩:=q8 _ _ hfz
      obtain⟨hcl,hcg⟩:=nA _ _ hcs
      have hok':∀ b,okB A s.H m w b→b<w.heap.size∧True:=fun b hb=>⟨hb.1,trivial⟩
      have hown':true=true→∀ o p,s.H o≠none→m o=some p→p.1<w.heap.size∧True:=fun _ o p ho hp=>⟨xT h ho hp,trivial⟩
      have hl2:as1.length=args.size:=by simp at hlen;omega
      refine close (pQ h true (fun _=>True) (by simp) ⟨by simp;omega,fun i x v hx hv=>?_⟩ hC (fun r hr=>⟨fun _=>(hk r hr).1,(hk r hr).2⟩))
      by_cases hi:i<as1.length
      ·rw[List.getElem?_append_left hi] at hx
       obtain⟨c0,h1,h2⟩:=hag i x hx
       rw[Array.getElem?_append_left (by simp;omega)] at hv
       simp only[Array.empty_append] at hv
       exact j3 h hok' hown' rfl (hargs i c0 v h1 hv) h2
      ·rw[List.getElem?_append_right (by omega)] at hx
       obtain⟨c0,h1,h2⟩:=hcg _ x hx
       rw[Array.getElem?_append_right (by simp;omega)] at hv
       have he:i - (#[]++args.map a.eval).size=i - as1.length:=by simp;omega
       rw[he] at hv
       exact wH h hok' hown' (fun _=>rfl) (hur _ c0 v h1 hv) h2
     ·exact io h hev hio.keep
     ·exact iow hio
     ·exact iol hio
     ·exact ikw hio
  ·exact ha.elim
theorem aIOW_sound (h:SRel E N A w0 m s a w) (o:Oper) {f:Operand} {args:Array Operand} {argT:Array TypeId} (ho:o.op=.call ⟨.value f,args,argT⟩) (ha:aIOW E N f args o.dst s k):OSat E N A w0 o a w k:=by
 obtain⟨s1,g1,caps1,hw,hev1,hio⟩:=ha
 obtain⟨m1,h1⟩:=hw A w0 m a w h
 obtain⟨hlen,hargs⟩:=dS h1 args
 have hf1:=h1.ev f
 generalize hfv:a.eval f=fv at hf1
 rw[hev1] at hf1
 cases hf1 with
 |fn _ _ us hul hur =>
 have hexec:(execOp a.eval o).run E.P w=(callFunc g1 ((#[]++args.map a.eval)++us)).run E.P w:=by
  simp only[execOp,ho,resolve,hfv,Deferred.ofValue,invoke,Sem.run_bind,Sem.run_pure,Result.andThen_ok]
 have close:Invokes E.P g1 ((#[]++args.map a.eval)++us) w (fun v w'=>∃ m' s',SRel E N A w0 m' s' (a.put o.dst v) w'∧k s')→OSat E N A w0 o a w k:=by
  intro fin next Q hn
  simp only[Oper.wp,hexec]
  unfold Invokes at fin
  split at fin
  ·rename_i g' args' w1 hrun
   rw[hrun,Oper.upon_enter]
   refine fin.mono fun e w2 ⟨v,he,m',s',hS,hk⟩=>?_
   subst he
   exact hn m' s' _ _ hS hk
  ·rename_i v w1 hrun
   rw[hrun,Oper.upon_value]
   obtain⟨m',s',hS,hk⟩:=fin
   exact hn m' s' _ _ hS hk
  ·exact fin.elim
 refine close (rZ h1 (as1:=evs N s1 args++caps1) (by simp at hlen ⊢;omega) (fun i x v hx hv=>?_) hio.keep)
 have hl2:(evs N s1 args).length=args.size:=by simpa using hlen
 by_cases hi:i<(evs N s1 args).length
 ·rw[List.getElem?_append_left hi] at hx
  rw[Array.getElem?_append_left (by simp;omega)] at hv
  simp only[Array.empty_append] at hv
  exact hargs i x v hx hv
 ·rw[List.getElem?_append_right (by omega)] at hx
  rw[Array.getElem?_append_right (by simp;omega)] at hv
  have he:i - (#[]++args.map a.eval).size=i - (evs N s1 args).length:=by simp;omega
  rw[he] at hv
  exact hur _ x v hx hv
end
end Ai
namespace Ai
open Go Go.RowKit Go.MapKept
section
variable {E:Env} {N:Nat} {A:Fr} {w0 w w':World} {m m':Own} {s s':St} {a:Act} {dst:Option Tmp} {k:St→Prop}
theorem pJ (k:Int) (c:List D) (ps:List (Int × List D)) (n:Int):eD ((k,c)::ps) n=((k==n) || eD ps n):=rfl
theorem idxM_t {k:Int} {c:List D} {ps:List (Int × List D)} {n:Int} (h:(k==n)=true):vO ((k,c)::ps) n=0:=by simp[vO,List.findIdx?_cons,h]
theorem v6 {k:Int} {c:List D} {ps:List (Int × List D)} {n:Int} (h:(k==n)=false):vO ((k,c)::ps) n=vO ps n+1:=by
 simp only[vO,List.findIdx?_cons,h]
 cases List.findIdx? (fun p=>p.1==n) ps <;> simp
theorem atM_t {k:Int} {c:List D} {ps:List (Int × List D)} {n:Int} (h:(k==n)=true):atM ((k,c)::ps) n=some c:=by simp[atM,List.find?_cons,h]
theorem atM_f {k:Int} {c:List D} {ps:List (Int × List D)} {n:Int} (h:(k==n)=false):atM ((k,c)::ps) n=atM ps n:=by simp[atM,List.find?_cons,h]
theorem cR {n:Int}:∀ (ps:List (Int × List D)) (l:List MapEntry) (i:Nat),l.length=ps.length→(∀ (j:Nat) (k:Int) (cs:List D),ps[j]?=some (k,cs)→∃ e,l[j]?=some e∧e.key=.int .i64 k) →
  (eD ps n=false∧atM ps n=none∧vO ps n=ps.length∧Instr.findNow (.int .i64) (.int .i64 n) l i=some none) ∨
  ∃ e cs,eD ps n=true∧atM ps n=some cs∧ps[vO ps n]?=some (n,cs)∧l[vO ps n]?=some e∧e.key=.int .i64 n∧Instr.findNow (.int .i64) (.int .i64 n) l i=some (some (i+vO ps n,e.val))
 | [],l,i,hl,_=>by
  have:l=[]:=List.eq_nil_of_length_eq_zero hl
  subst this
  exact .inl ⟨rfl,rfl,rfl,rfl⟩
 |(k,c)::ps,[],i,hl,_=>by simp at hl
 |(k,c)::ps,e::l,i,hl,hk=>by
  obtain⟨e0,h1,h2⟩:=hk 0 k c rfl
  simp only[List.getElem?_cons_zero,Option.some.injEq] at h1
  subst h1
  cases hkn:(k==n) with
  |true =>
   have hkn':k=n:=by simpa using hkn
   subst hkn'
   refine .inr ⟨e,c,by simp[pJ],atM_t hkn,by rw[idxM_t hkn];rfl,by rw[idxM_t hkn];rfl,h2,?_⟩
   rw[idxM_t hkn]
   simp[Instr.findNow,Instr.sameNow,h2]
  |false =>
   have hne:(n==k)=false:=by
    have:¬ k=n:=by simpa using hkn
    simpa using fun e:n=k=>this e.symm
   have hs:Instr.sameNow (.int .i64) (.int .i64 n) e.key=some false:=by simp[Instr.sameNow,h2,hne]
   rcases cR ps l (i+1) (by simpa using hl) (fun j k' cs h=>hk (j+1) k' cs (by simpa using h)) with ⟨g1,g2,g3,g4⟩|⟨e',cs,g1,g2,g3,g4,g5,g6⟩
   ·exact .inl ⟨by rw[pJ,hkn,g1];rfl,(atM_f hkn).trans g2,by rw[v6 hkn,g3];rfl,by simp[Instr.findNow,hs,g4]⟩
   ·refine .inr ⟨e',cs,by rw[pJ,g1];simp,(atM_f hkn).trans g2,by rw[v6 hkn];simpa using g3,by rw[v6 hkn];simpa using g4,g5,?_⟩
    rw[v6 hkn]
    simp[Instr.findNow,hs,g6];omega
theorem lK {T:TypeId} {ei:TI} (h:iL E T=some ei):∃ kT eT,E.P.underlying T=some (.map kT eT)∧E.P.underlying kT=some (.int .i64)∧E.Θ eT=some ei:=by
 unfold iL at h
 split at h
 ·rename_i eT hd
  obtain⟨kT,h1,h2⟩:=E.hM T eT hd
  exact⟨kT,eT,h1,h2,h⟩
 ·cases h
theorem bS {ag:Bool} {ps:List (Int × List D)} {es:Array MapEntry} {ok:Nat→Prop} (hr:MRel w ok ag ps es) {kT:TypeId} (hk:E.P.underlying kT=some (.int .i64)) (n:Int) :
  (eD ps n=false∧atM ps n=none∧vO ps n=ps.length∧(Instr.findKey kT (.int .i64 n) es.toList).run E.P w=.ok none w) ∨
  ∃ e cs,eD ps n=true∧atM ps n=some cs∧ps[vO ps n]?=some (n,cs)∧es[vO ps n]?=some e∧e.key=.int .i64 n∧e.born=vO ps n∧MV w ok ag cs e.val∧(Instr.findKey kT (.int .i64 n) es.toList).run E.P w=.ok (some (vO ps n,e.val)) w:=by
 rcases cR (n:=n) ps es.toList 0 (by simpa using hr.1) (fun j k' cs h=>let ⟨e,h1,h2,_⟩:=hr.2 j k' cs h;⟨e,by simpa using h1,h2⟩) with ⟨g1,g2,g3,g4⟩|⟨e,cs,g1,g2,g3,g4,g5,g6⟩
 ·exact .inl ⟨g1,g2,g3,run_findKey hk g4⟩
 ·obtain⟨e',h1,h2,h3,h4⟩:=hr.2 _ _ _ g3
  have he:es[vO ps n]?=some e:=by simpa using g4
  rw[he] at h1;injection h1 with h1;subst h1
  exact .inr ⟨e,cs,g1,g2,g3,he,g5,h3,h4,by rw[run_findKey hk g6,Nat.zero_add]⟩
theorem aK (h:SRel E N A w0 m s a w) (T:TypeId) (ha:aL E T dst s k):Res E N A w0 a dst k ((Instr.makeMap T none).run E.P w):=by
 unfold aL at ha
 split at ha
 ·rename_i ei t hei
  have hS:SRel E N A w0 (wC m t (some (w.heap.size,0))) (s.new t (.mp ei.agg [])) a (w.alloc (.map #[] 0)) :=
   h.new t 0 (.mp ei.agg []) _ ⟨w.heap.size,0,#[],zI _ _ _,h.below.size,heap_alloc_new w _,rfl,fun i k cs hi=>by simp at hi⟩
  refine⟨.map (some w.heap.size),w.alloc (.map #[] 0),by simp[Instr.makeMap],_,_,hS.put _ (v:=.mref t) ?_,ha⟩
  exact .mref t ei.agg [] w.heap.size 0 (by simp[St.new,St.setH,zD,scrPO]) (zI _ _ _)
 ·exact ha.elim
theorem sO (h:SRel E N A w0 m s a w) {o:Key} {ag:Bool} {ps:List (Int × List D)} {vx:Value} (hx:VRel w (okB A s.H m w) m s.H (.mref o) vx) (hH:s.H o=some (.mp ag ps)) :
  ∃ b full es,vx=.map (some b)∧m o=some (b,full)∧w0.heap.size≤b∧w.heap[b]?=some (.map es ps.length)∧MRel w (okB A s.H m w) ag ps es:=by
 cases hx with
 |mref _ ag' ps' b full hH' hm =>
  obtain⟨b',full',es,h1,h2,h3,h4⟩:=h.objs o _ hH
  rw[hm] at h1;injection h1 with h1;injection h1 with i1 i2;subst i1 i2
  exact⟨b,full,es,rfl,hm,h2,h3,h4⟩
theorem eG (h:SRel E N A w0 m s a w) (T:TypeId) {x i:AV} {vx vi:Value} (commaOk:Bool) (hx:VRel w (okB A s.H m w) m s.H x vx) (hi:VRel w (okB A s.H m w) m s.H i vi) (ha:vR E T x i commaOk dst s k) :
  Res E N A w0 a dst k ((Instr.lookup T vx vi commaOk).run E.P w):=by
 unfold vR at ha
 split at ha
 ·rename_i ei o n hei
  obtain⟨kT,eT,d1,d2,d3⟩:=lK hei
  split at ha
  ·rename_i ag ps hH
   obtain⟨b,full,es,rfl,hm,hb,hcur,hr⟩:=sO h hx hH
   cases hi with
   |d _ _ hi=>cases hi with
    |int =>
     obtain⟨z,hz,hzc⟩:=kX d3 w
     have hrun:∀ (r:Option (Nat × Value)),(Instr.findKey kT (.int .i64 n) es.toList).run E.P w=.ok r w→(Instr.lookup T (.map (some b)) (.int .i64 n) commaOk).run E.P w =
       .ok (if commaOk then .tuple #[(r.map (·.2)).getD z,.bool r.isSome] else (r.map (·.2)).getD z) w:=by
      intro r hr
      simp only[Instr.lookup,Sem.run_bind,run_underlying d1,Result.andThen_ok,run_getObj_map hcur,Sem.run_pure,run_checkKey d2 (k:=.int .i64 n) (by simp[IsKey]),hr]
      cases r with
      |none=>simp[hz]
      |some p=>simp
     have junkcase:atM ps n=none→k (put dst (bif commaOk then .tup [.junk,.d (.bool false)] else .junk) s)→Res E N A w0 a dst k ((Instr.lookup T (.map (some b)) (.int .i64 n) commaOk).run E.P w):=by
      intro hn hk
      rcases bS hr d2 n with ⟨g1,g2,g3,g4⟩|⟨e,cs,g1,g2,_⟩
      ·refine Res.same h (hrun none g4) ?_ hk
       cases commaOk with
       |false=>exact .junk _
       |true =>
        refine .tup _ _ rfl fun i c u hc hu=>?_
        match i,hc,hu with
        | 0,hc,hu=>simp at hc hu;subst hc;exact .junk _
        | 1,hc,hu=>simp at hc hu;subst hc;subst hu;exact .d _ _ (.bool _)
        |i+2,hc,hu=>simp at hc
      ·rw[hn] at g2;cases g2
     split at ha
     ·rcases ha with ⟨cs,⟨hat,hne⟩,hk⟩|⟨hn,hk⟩
      ·rcases bS hr d2 n with ⟨g1,g2,g3,g4⟩|⟨e,cs',g1,g2,g3,g4,g5,g6,g7,g8⟩
       ·rw[hat] at g2;cases g2
       ·rw[hat] at g2;injection g2 with g2;subst g2
        refine Res.same h (hrun _ g8) ?_ hk
        have hv:VRel w (okB A s.H m w) m s.H (.agg (cs.map .d)) e.val:=by
         rcases g7 with g7|⟨us,q1,q2,q3⟩
         ·exact absurd g7 hne
         ·rw[q1]
          refine .agg _ us (by simp[q2]) fun i c u hc hu=>?_
          rw[List.getElem?_map] at hc
          obtain⟨d,hd,rfl⟩:=Option.map_eq_some_iff.1 hc
          obtain⟨u',hu',hrr⟩:=q3 i d hd
          rw[hu] at hu';injection hu' with hu';subst hu'
          exact .d _ _ hrr
        cases commaOk with
        |false=>exact hv
        |true =>
         refine .tup _ _ rfl fun i c u hc hu=>?_
         match i,hc,hu with
         | 0,hc,hu=>simp at hc hu;subst hc;subst hu;exact hv
         | 1,hc,hu=>simp at hc hu;subst hc;subst hu;exact .d _ _ (.bool _)
         |i+2,hc,hu=>simp at hc
      ·exact junkcase hn hk
     ·rcases ha with ⟨c,hat,hk⟩|⟨hn,hk⟩
      ·rcases bS hr d2 n with ⟨g1,g2,g3,g4⟩|⟨e,cs',g1,g2,g3,g4,g5,g6,g7,g8⟩
       ·rw[hat] at g2;cases g2
       ·rw[hat] at g2;injection g2 with g2;subst g2
        refine Res.same h (hrun _ g8) ?_ hk
        have hv:VRel w (okB A s.H m w) m s.H (.d c) e.val:=by
         rcases g7 with g7|⟨d,q1,q2⟩
         ·cases g7
         ·injection q1 with q1;subst q1;exact .d _ _ q2
        cases commaOk with
        |false=>exact hv
        |true =>
         refine .tup _ _ rfl fun i c u hc hu=>?_
         match i,hc,hu with
         | 0,hc,hu=>simp at hc hu;subst hc;subst hu;exact hv
         | 1,hc,hu=>simp at hc hu;subst hc;subst hu;exact .d _ _ (.bool _)
         |i+2,hc,hu=>simp at hc
      ·exact junkcase hn hk
  ·exact ha.elim
 ·exact ha.elim
theorem n7 {ok:Nat→Prop} {H:Key→Option Ob} {ag:Bool} {y:AV} {vy:Value} {cs:List D} (hy:VRel w ok m H y vy) (h:valM ag y=some cs):MV w ok ag cs vy:=by
 unfold valM at h
 split at h
 ·rename_i cs0
  obtain⟨h1,h2⟩:=sZ _ _ h
  cases hy with
  |agg _ us hl hr =>
   refine .inr ⟨us,rfl,by omega,fun i d hd=>?_⟩
   have hc:=h2 i d hd
   have hi:i<us.size:=by have:=(List.getElem?_eq_some_iff.1 hc).1;omega
   have:=hr i _ us[i] hc (Array.getElem?_eq_getElem hi)
   cases this with
   |d _ _ hd=>exact⟨us[i],Array.getElem?_eq_getElem hi,hd⟩
 ·injection h with h;subst h
  cases hy with
  |d _ _ hd=>exact .inr ⟨_,rfl,hd⟩
 ·cases h
theorem gK (h:SRel E N A w0 m s a w) {o:Key} {ag:Bool} {ps ps':List (Int × List D)} {b full:Nat} {es es':Array MapEntry} (hH:s.H o=some (.mp ag ps)) (hm:m o=some (b,full)) (hb:w0.heap.size≤b)
  (hcur:w.heap[b]?=some (.map es ps.length)) (hr:MRel w (okB A s.H m w) ag ps' es') :
  SRel E N A w0 m (s.setH o (.mp ag ps')) a { w with heap:=w.heap.setIfInBounds b (.map es' ps'.length) }:=by
 have hlt:b<w.heap.size:=(Array.getElem?_eq_some_iff.1 hcur).1
 have hother:∀ q,q≠b→(w.heap.setIfInBounds b (.map es' ps'.length))[q]?=w.heap[q]?:=(heap_set hcur).2
 have hlike:Like s.H (s.setH o (.mp ag ps')).H m m:=by
  refine⟨fun o2 e2 cs2 h2=>?_,fun o2 e2 sz2 els2 h2=>?_,fun o2 e2 sz2 els2 h2=>?_,fun o2 ag2 ps2 h2=>?_⟩
  ·by_cases hne:o2=o
   ·subst hne;rw[hH] at h2;cases h2
   ·exact⟨⟨cs2,by simp[St.setH,zB hne,h2]⟩,rfl⟩
  ·by_cases hne:o2=o
   ·subst hne;rw[hH] at h2;cases h2
   ·exact⟨⟨els2,by simp[St.setH,zB hne,h2],rfl⟩,rfl⟩
  ·by_cases hne:o2=o
   ·subst hne;rw[hH] at h2;cases h2
   ·exact⟨⟨els2,by simp[St.setH,zB hne,h2],rfl⟩,rfl⟩
  ·by_cases hne:o2=o
   ·subst hne;rw[hH] at h2;injection h2 with h2;injection h2 with i1 i2;subst i1
    exact⟨⟨ps',by simp[St.setH,zD]⟩,rfl⟩
   ·exact⟨⟨ps2,by simp[St.setH,zB hne,h2]⟩,rfl⟩
 have hbel:Below w0.heap.size w0 { w with heap:=w.heap.setIfInBounds b (.map es' ps'.length) } :=
  ⟨h.below.os,h.below.tape,h.below.output,by simpa using h.below.size,fun q hq=>(hother q (by omega)).trans (h.below.block q hq)⟩
 have hok:∀ q,okB A s.H m w q→okB A (s.setH o (.mp ag ps')).H m { w with heap:=w.heap.setIfInBounds b (.map es' ps'.length) } q∧(w.heap.setIfInBounds b (.map es' ps'.length))[q]?=w.heap[q]?:=by
  intro q hq
  refine⟨⟨by simpa using hq.1,fun o2 ho2 p hp=>hq.2.1 o2 ?_ p hp,hq.2.2⟩,hother q fun hqb=>hq.2.1 o (by simp[hH]) _ hm (by simp[hqb])⟩
  by_cases hne:o2=o
  ·subst hne;simp[hH]
  ·simpa[St.setH,zB hne] using ho2
 refine h.update o _ (.mp ag ps') hH hlike b full hm hbel (by simp) hother ⟨b,full,es',hm,hb,(heap_set hcur).1,hr.mono hok⟩ (fun e cs he=>by cases he)
theorem iJ {ok:Nat→Prop} {ag:Bool} {ps:List (Int × List D)} {es:Array MapEntry} (hr:MRel w ok ag ps es) (n:Int) {cs:List D} {v:Value} (hv:MV w ok ag cs v) :
  MRel w ok ag (ps++[(n,cs)]) (es.push { key:=.int .i64 n,val:=v,born:=ps.length }):=by
 refine⟨by simp[hr.1],fun i k' cs' hi=>?_⟩
 rcases Nat.lt_or_ge i ps.length with h1|h1
 ·rw[List.getElem?_append_left h1] at hi
  obtain⟨e,g1,g2⟩:=hr.2 i k' cs' hi
  exact⟨e,by rw[Array.getElem?_push_lt (by rw[hr.1];exact h1)];exact(Array.getElem?_eq_getElem (by rw[hr.1];exact h1))▸g1,g2⟩
 ·rw[List.getElem?_append_right h1] at hi
  have:i - ps.length=0:=by have:=(List.getElem?_eq_some_iff.1 hi).1;simp at this;omega
  rw[this] at hi
  simp only[List.getElem?_cons_zero,Option.some.injEq,Prod.mk.injEq] at hi
  obtain⟨rfl,rfl⟩:=hi
  have hi:i=ps.length:=by omega
  subst hi
  refine⟨{ key:=.int .i64 n,val:=v,born:=ps.length },?_,rfl,rfl,hv⟩
  rw[← hr.1];exact Array.getElem?_push_size
theorem tW {ok:Nat→Prop} {ag:Bool} {ps:List (Int × List D)} {es:Array MapEntry} (hr:MRel w ok ag ps es) (i:Nat) {cs:List D} {v:Value} (hv:MV w ok ag cs v) (f:MapEntry→MapEntry) (hf:∀ e,es[i]?=some e→(f e).key=e.key∧(f e).born=e.born∧(f e).val=v) :
  MRel w ok ag (gG ps i cs) (es.modify i f):=by
 refine⟨by simp[gG,hr.1],fun j k' cs' hj=>?_⟩
 simp only[gG,List.getElem?_modify,Option.map_eq_map,Option.map_eq_some_iff] at hj
 obtain⟨p,hp,he⟩:=hj
 by_cases hij:i=j
 ·subst hij
  rw[if_pos rfl] at he
  obtain⟨p1,p2⟩:=p
  simp only[Prod.mk.injEq] at he
  obtain⟨rfl,rfl⟩:=he
  obtain⟨e,g1,g2,g3,g4⟩:=hr.2 i _ _ hp
  obtain⟨f1,f2,f3⟩:=hf e g1
  exact⟨f e,by rw[Array.getElem?_modify,if_pos rfl,g1];rfl,f1.trans g2,f2.trans g3,by rw[f3];exact hv⟩
 ·rw[if_neg hij] at he
  subst he
  obtain⟨e,g1,g2⟩:=hr.2 j _ _ hp
  exact⟨e,by rw[Array.getElem?_modify,if_neg hij];exact g1,g2⟩
theorem putM_snoc (ps:List (Int × List D)) (n:Int) (c c':List D):gG (ps++[(n,c)]) ps.length c'=ps++[(n,c')]:=by
 unfold gG
 apply List.ext_getElem?
 intro j
 rw[List.getElem?_modify]
 rcases Nat.lt_trichotomy j ps.length with h|h|h
 ·rw[List.getElem?_append_left h,List.getElem?_append_left h]
  simp only[if_neg (show ¬ ps.length=j by omega)];simp
 ·subst h;simp
 ·rw[List.getElem?_eq_none (by simp;omega),List.getElem?_eq_none (by simp;omega)];rfl
theorem lB (h:SRel E N A w0 m s a w) (T:TypeId) {x i y:AV} {vx vi vy:Value} (hx:VRel w (okB A s.H m w) m s.H x vx) (hi:VRel w (okB A s.H m w) m s.H i vi) (hy:VRel w (okB A s.H m w) m s.H y vy)
  (ha:sT E T x i y dst s k):ResU E N A w0 a dst k ((Instr.mapUpdate T vx vi vy).run E.P w):=by
 unfold sT at ha
 split at ha
 ·rename_i ei o n hei
  obtain⟨kT,eT,d1,d2,d3⟩:=lK hei
  split at ha
  ·rename_i ag ps hH
   split at ha
   ·rename_i cs hcs
    have hmv:=n7 hy hcs
    obtain⟨b,full,es,rfl,hm,hb,hcur,hr⟩:=sO h hx hH
    cases hi with
    |d _ _ hi=>cases hi with
     |int =>
      have hk0:IsKey (.int .i64) (.int .i64 n):=by simp[IsKey]
      rcases bS hr d2 n with ⟨g1,g2,g3,g4⟩|⟨e,cs',g1,g2,g3,g4,g5,g6,g7,g8⟩
      ·have hrun:(Instr.mapUpdate T (.map (some b)) (.int .i64 n) vy).run E.P w=.ok () { w with heap:=w.heap.setIfInBounds b (.map (es.push { key:=.int .i64 n,val:=vy,born:=ps.length }) (ps.length+1)) }:=by
        simp[Instr.mapUpdate,run_underlying d1,run_getObj_map hcur,run_checkKey d2 hk0,g4,run_setObj_map _ hcur]
       have he:setM ps n cs=ps++[(n,cs)]:=by
        unfold setM aI
        rw[g1,g3]
        exact putM_snoc ps n [] cs
       have hS:=gK h (ps':=ps++[(n,cs)]) hH hm hb hcur (iJ hr n hmv)
       rw[show(ps++[(n,cs)]).length=ps.length+1 by simp] at hS
       rw[he] at ha
       exact⟨_,hrun,m,_,hS.put dst xC,ha⟩
      ·have hrun:(Instr.mapUpdate T (.map (some b)) (.int .i64 n) vy).run E.P w=.ok () { w with heap:=w.heap.setIfInBounds b (.map (es.modify (vO ps n) fun e=>{ e with key:=.int .i64 n,val:=vy }) ps.length) }:=by
        simp[Instr.mapUpdate,run_underlying d1,run_getObj_map hcur,run_checkKey d2 hk0,g8,g4,g5,run_keyThatStays hk0,run_setObj_map _ hcur]
       have he:setM ps n cs=gG ps (vO ps n) cs:=by
        unfold setM aI
        rw[g1,if_pos rfl]
       have hS:=gK h (ps':=gG ps (vO ps n) cs) hH hm hb hcur (tW hr (vO ps n) hmv (fun e=>{ e with key:=.int .i64 n,val:=vy }) (fun e' he'=>by rw[g4] at he';injection he' with he';subst he';exact⟨g5.symm,rfl,rfl⟩))
       rw[show(gG ps (vO ps n) cs).length=ps.length by simp[gG]] at hS
       rw[he] at ha
       exact⟨_,hrun,m,_,hS.put dst xC,ha⟩
   ·exact ha.elim
  ·exact ha.elim
 ·exact ha.elim
theorem sI (h:SRel E N A w0 m s a w) (T:TypeId) {x i:AV} {vx vi:Value} (hx:VRel w (okB A s.H m w) m s.H x vx) (hi:VRel w (okB A s.H m w) m s.H i vi)
  (ha:pR E T x i dst s k):Res E N A w0 a dst k ((Instr.mapEntry T vx vi).run E.P w):=by
 unfold pR at ha
 split at ha
 ·rename_i ei o n hei
  obtain⟨kT,eT,d1,d2,d3⟩:=lK hei
  split at ha
  ·rename_i ag ps hH
   obtain⟨b,full,es,rfl,hm,hb,hcur,hr⟩:=sO h hx hH
   cases hi with
   |d _ _ hi=>cases hi with
    |int =>
     have hk0:IsKey (.int .i64) (.int .i64 n):=by simp[IsKey]
     obtain⟨z,hz,hzc⟩:=kX d3 w
     have htup:∀ {m2:Own} {H2:Key→Option Ob} {w2:World} {ok:Nat→Prop} (v:Value),VRel w2 ok m2 H2 (.tup [.junk,.d (.int .i64 (vO ps n))]) (.tuple #[v,goInt (vO ps n)]):=by
      intro m2 H2 w2 ok v
      refine .tup _ _ rfl fun i c u hc hu=>?_
      match i,hc,hu with
      | 0,hc,hu=>simp at hc hu;subst hc;exact .junk _
      | 1,hc,hu=>simp[goInt] at hc hu;subst hc;subst hu;exact .d _ _ (.int _ _)
      |i+2,hc,hu=>simp at hc
     rcases bS hr d2 n with ⟨g1,g2,g3,g4⟩|⟨e,cs',g1,g2,g3,g4,g5,g6,g7,g8⟩
     ·have hrun:(Instr.mapEntry T (.map (some b)) (.int .i64 n)).run E.P w=.ok (.tuple #[z,goInt ps.length]) { w with heap:=w.heap.setIfInBounds b (.map (es.push { key:=.int .i64 n,val:=z,born:=ps.length }) (ps.length+1)) }:=by
       simp[Instr.mapEntry,run_underlying d1,run_getObj_map hcur,run_checkKey d2 hk0,g4,run_setObj_map _ hcur,hz]
      have he:aI ps n=ps++[(n,[])]:=by
       unfold aI
       rw[g1];rfl
      have hS:=gK h (ps':=ps++[(n,[])]) hH hm hb hcur (iJ hr n (v:=z) (.inl rfl))
      rw[show(ps++[(n,([]:List D))]).length=ps.length+1 by simp] at hS
      rw[he] at ha
      rw[← g3] at hrun
      exact⟨_,_,hrun,m,_,(by rw[← g3] at hS;exact hS.put dst (htup z)),ha⟩
     ·have hborn:(((es[vO ps n]?).map (·.born)).getD 0)=vO ps n:=by rw[g4];simpa using g6
      have hrun:(Instr.mapEntry T (.map (some b)) (.int .i64 n)).run E.P w=.ok (.tuple #[e.val,goInt (vO ps n)]) { w with heap:=w.heap.setIfInBounds b (.map (es.modify (vO ps n) fun e=>{ e with key:=.int .i64 n }) ps.length) }:=by
       simp[Instr.mapEntry,run_underlying d1,run_getObj_map hcur,run_checkKey d2 hk0,g8,g4,g5,g6,run_keyThatStays hk0,run_setObj_map _ hcur]
      have he:aI ps n=ps:=by
       unfold aI
       rw[g1,if_pos rfl]
      have hps:gG ps (vO ps n) cs'=ps:=by
       unfold gG
       apply List.ext_getElem?
       intro j
       rw[List.getElem?_modify]
       by_cases hj:vO ps n=j
       ·subst hj;rw[g3];simp
       ·simp only[if_neg hj];simp
      have hS:=gK h (ps':=gG ps (vO ps n) cs') hH hm hb hcur (tW hr (vO ps n) g7 (fun e=>{ e with key:=.int .i64 n }) (fun e' he'=>by rw[g4] at he';injection he' with he';subst he';exact⟨g5.symm,rfl,rfl⟩))
      rw[hps] at hS
      rw[he] at ha
      exact⟨_,_,hrun,m,_,hS.put dst (htup e.val),ha⟩
  ·exact ha.elim
 ·exact ha.elim
theorem nJ (h:SRel E N A w0 m s a w) (T:TypeId) {x i y:AV} {vx vi vy:Value} (hx:VRel w (okB A s.H m w) m s.H x vx) (hi:VRel w (okB A s.H m w) m s.H i vi) (hy:VRel w (okB A s.H m w) m s.H y vy)
  (ha:bZ x i y dst s k):ResU E N A w0 a dst k ((Instr.entryStore T vx vi vy).run E.P w):=by
 unfold bZ at ha
 split at ha
 ·rename_i o n
  split at ha
  ·rename_i ag ps hH
   split at ha
   ·rename_i cs hcs
    obtain⟨⟨h0,h1⟩,hk⟩:=ha
    have hmv:=n7 hy hcs
    obtain⟨b,full,es,rfl,hm,hb,hcur,hr⟩:=sO h hx hH
    cases hi with
    |d _ _ hi=>cases hi with
     |int =>
      have hn:n.toNat<es.size:=by rw[hr.1];omega
      have hbn:∀ (j:Nat) (hj:j<es.size),es[j].born=j:=by
       intro j hj
       have hj2:j<ps.length:=by rw[← hr.1];exact hj
       obtain⟨e,q1,q2,q3,q4⟩:=hr.2 j ps[j].1 ps[j].2 (by simp[hj2])
       rw[Array.getElem?_eq_getElem hj] at q1;injection q1 with q1;rw[q1];exact q3
      have hfind:es.findIdx? (fun e=>(e.born:Int)==n)=some n.toNat:=by
       rw[Array.findIdx?_eq_some_iff_getElem]
       refine⟨hn,by rw[hbn _ hn];simp;omega,fun j hj=>?_⟩
       rw[hbn j (by omega)]
       simp;omega
      have hrun:(Instr.entryStore T (.map (some b)) (.int .i64 n) vy).run E.P w=.ok () { w with heap:=w.heap.setIfInBounds b (.map (es.modify n.toNat fun e=>{ e with val:=vy }) ps.length) }:=by
       simp[Instr.entryStore,run_getObj_map hcur,asInt,asIntOf,hfind,run_setObj_map _ hcur]
      have hS:=gK h (ps':=gG ps n.toNat cs) hH hm hb hcur (tW hr n.toNat hmv (fun e=>{ e with val:=vy }) (fun e' he'=>⟨rfl,rfl,rfl⟩))
      rw[show(gG ps n.toNat cs).length=ps.length by simp[gG]] at hS
      exact⟨_,hrun,m,_,hS.put dst xC,hk⟩
   ·exact ha.elim
  ·exact ha.elim
 ·exact ha.elim
end
end Ai
namespace Ai
open Go Go.RowKit
section
variable {E:Env} {N:Nat} {A:Fr} {w0 w w':World} {m m':Own} {s s':St} {a:Act} {dst:Option Tmp} {k:St→Prop}
theorem mO (h:SRel E N A w0 m s a w) (x:Option Operand):(∀ v,x.map (ev N s)=some v→∃ u,x.map a.eval=some u∧VRel w (okB A s.H m w) m s.H v u)∧(x.map (ev N s)=none→x.map a.eval=none):=by
 cases x with
 |none=>simp
 |some x=>exact⟨fun v hv=>⟨_,rfl,by simp at hv;subst hv;exact h.ev x⟩,by simp⟩
theorem nX (h:SRel E N A w0 m s a w) (parts:Array (Nat × Operand)):(parts.toList.map fun p=>(p.1,ev N s p.2)).length=(parts.map fun (i,x)=>(i,a.eval x)).size ∧
  ∀ (q:Nat) (i:Nat) (x:AV),(parts.toList.map fun p=>(p.1,ev N s p.2))[q]?=some (i,x)→∃ v,(parts.map fun (i,x)=>(i,a.eval x))[q]?=some (i,v)∧VRel w (okB A s.H m w) m s.H x v:=by
 refine⟨by simp,fun q i x hq=>?_⟩
 simp only[List.getElem?_map,Option.map_eq_some_iff,Prod.mk.injEq] at hq
 obtain⟨p,hp,rfl,rfl⟩:=hq
 refine⟨a.eval p.2,?_,h.ev p.2⟩
 rw[Array.getElem?_toList] at hp
 simp[Array.getElem?_map,hp]
theorem aBinN_of {T:TypeId} {op:BinOp} {x y:AV} {dst:Option Tmp} {k:St→Prop} (h:sJ E T op x y dst s k):oS E T op x y dst s k:=by
 unfold oS
 split <;> first|exact h|(simp[sJ] at h;done)
theorem uD (h:SRel E N A w0 m s a w) (T:TypeId) (op:BinOp) {n:Nat} {ad:Option Addr} {l c:Nat} (hn:ad=none→n=0) (ha:aNil E T op n dst s k) :
  Res E N A w0 a dst k ((Go.binOp op T (.slice ad l c) (.slice none 0 0)).run E.P w):=by
 unfold aNil at ha
 split at ha
 ·rename_i ti hti
  have hd:=(E.hΘ T ti hti).desc
  split at ha
  ·rename_i e he
   rw[he] at hd
   have heq:(Op.equal T (.slice ad l c) (.slice none 0 0)).run E.P w=.ok ad.isNone w:=Go.run_equal_slice_nil w T e ad l c hd
   split at ha
   ·refine Res.kb h (c:=ad.isNone) (by simp[Go.binOp,heq]) ⟨fun hb=>ha.1 (hn ?_),fun _=>ha.2⟩
    cases ad <;> first|rfl|cases hb
   ·refine Res.kb h (c:=!ad.isNone) (by simp[Go.binOp,heq]) ⟨fun _=>ha.2,fun hb=>ha.1 (hn ?_)⟩
    cases ad <;> first|rfl|cases hb
   ·exact ha.elim
  ·exact ha.elim
 ·exact ha.elim
theorem aBinN_sound (h:SRel E N A w0 m s a w) (op:BinOp) (T:TypeId) {x y:AV} {vx vy:Value} (hx:VRel w (okB A s.H m w) m s.H x vx) (hy:VRel w (okB A s.H m w) m s.H y vy) (ha:oS E T op x y dst s k) :
  Res E N A w0 a dst k ((Go.binOp op T vx vy).run E.P w):=by
 have ynil:∀ vy,VRel w (okB A s.H m w) m s.H (.d .nil) vy→vy=.slice none 0 0:=fun vy h=>by
  cases h with
  |d _ _ h=>cases h;rfl
 unfold oS at ha
 split at ha
 ·rw[ynil vy hy]
  cases hx with
  |d _ _ hx=>cases hx with
   |sl0 ad cap=>exact uD h T op (fun _=>rfl) ha
   |sl els sz b off cap us h1 h2 h3 h4=>exact uD h T op (fun e=>by cases e) ha
 ·rw[ynil vy hy,ynil vx hx]
  exact uD h T op (fun _=>rfl) ha
 ·rw[ynil vy hy]
  cases hx with
  |ref=>exact uD h T op (fun e=>by cases e) ha
  |ref0=>exact uD h T op (fun _=>rfl) ha
 ·rw[ynil vy hy]
  cases hx with
  |dref=>exact uD h T op (fun e=>by cases e) ha
  |dref0=>exact uD h T op (fun _=>rfl) ha
 ·exact aBin_sound h op T hx hy ha
theorem wE (h:SRel E N A w0 m s a w) (o:Oper) (ha:AOp E N o.op o.dst s k):OSat E N A w0 o a w k:=by
 obtain⟨dst,op,type,pos,after,guard⟩:=o
 simp only at ha
 cases op <;> simp only[AOp] at ha <;> try exact ha.elim
 case move x =>
  rw[yT] at ha
  exact OSat.value (r:=.ok (a.eval x) w) rfl (Res.same h rfl (h.ev x) ha)
 case assign x =>
  rw[yT] at ha
  exact OSat.value (r:=.ok (a.eval x) w) rfl (Res.same h rfl (h.ev x) ha)
 case pick c x y =>
  have hc:=h.ev c
  split at ha
  ·rename_i b hb
   rw[hb] at hc
   generalize hv:a.eval c=cv at hc
   cases hc with
   |d _ _ hc=>cases hc with
    |bool =>
     cases b with
     |true =>
      simp only at ha
      rw[yT] at ha
      exact OSat.value (r:=.ok (a.eval x) w) (by simp[execOp,hv,asBool]) (Res.same h rfl (h.ev x) ha)
     |false =>
      simp only at ha
      rw[yT] at ha
      exact OSat.value (r:=.ok (a.eval y) w) (by simp[execOp,hv,asBool]) (Res.same h rfl (h.ev y) ha)
  ·exact ha.elim
 case alloc T =>
  split at ha
  ·rename_i ti t hti
   exact OSat.value (r:=(Instr.alloc T true (.tuple #[])).run E.P w) (by simp[execOp]) (l4 h T ti t hti rfl ha)
  ·exact ha.elim
 case box T x =>
  split at ha
  ·rename_i cs t hcs
   exact OSat.value (r:=(Instr.box T (a.eval x)).run E.P w) (by simp[execOp]) (aBox_sound h T t (h.ev x) hcs rfl ha)
  ·exact ha.elim
 case build T parts =>
  obtain⟨h1,h2⟩:=nX h parts
  exact OSat.value (r:=(Instr.build T _).run E.P w) (by simp only[execOp,Sem.run_bind,Sem.run_pure]) (l3 h T h1 h2 ha)
 case buildSlice T len parts =>
  obtain⟨h1,h2⟩:=nX h parts
  exact OSat.value (r:=(Instr.buildSlice T len _).run E.P w) (by simp only[execOp,Sem.run_bind,Sem.run_pure]) (nK h T len h1 h2 ha)
 case load T x=>exact OSat.value (r:=(Instr.loadAt T (a.eval x)).run E.P w) (by simp[execOp]) (aLoad_sound h (h.ev x) ha)
 case store T x y=>exact OSat.unit (r:=(Instr.storeAt T (a.eval x) (a.eval y)).run E.P w) (by simp[execOp]) (b9 h T (h.ev x) (h.ev y) ha)
 case nilCheck x =>
  have hc:=h.ev x
  split at ha
  ·rename_i p q hb
   rw[hb] at hc
   generalize hv:a.eval x=cv at hc
   cases hc with
   |ptr _ _ e cs b full hH hm=>exact OSat.value (r:=.ok (.pointer (some ⟨b,q,none⟩)) w) (by simp[execOp,hv]) (Res.same h rfl (.ptr p q e cs b full hH hm) ha)
  ·rename_i p q r hb
   rw[hb] at hc
   generalize hv:a.eval x=cv at hc
   cases hc with
   |eptr _ _ _ e sz els b full hH hj hm=>exact OSat.value (r:=.ok (.pointer (some ⟨b,q*sz+r,none⟩)) w) (by simp[execOp,hv]) (Res.same h rfl (.eptr p q r e sz els b full hH hj hm) ha)
  ·rename_i p q r hb
   rw[hb] at hc
   generalize hv:a.eval x=cv at hc
   cases hc with
   |dptr _ _ _ e sz els b full hH hj hm=>exact OSat.value (r:=.ok (.pointer (some ⟨b,q*sz+r,none⟩)) w) (by simp[execOp,hv]) (Res.same h rfl (.dptr p q r e sz els b full hH hj hm) ha)
  ·rename_i cs hb
   rw[hb] at hc
   generalize hv:a.eval x=cv at hc
   cases hc with
   |fp _ b off us h1 h2=>exact OSat.value (r:=.ok (.pointer (some ⟨b,off,none⟩)) w) (by simp[execOp,hv]) (Res.same h rfl (.fp cs b off us h1 h2) ha)
  ·rename_i f cs hb
   rw[hb] at hc
   generalize hv:a.eval x=cv at hc
   cases hc with
   |fn _ _ us hl hr=>exact OSat.value (r:=.ok (.func (.func f) #[] us) w) (by simp[execOp,hv]) (Res.same h rfl (.fn f cs us hl hr) ha)
  ·exact ha.elim
 case binOp op T x y T' =>
  have hg:∀ (x' y':Operand),(a.eval x=a.eval x')→True:=fun _ _ _=>trivial
  have hx:=h.ev x
  have hy:=h.ev y
  -- the guard of '==' lets scalars by
  have hsc:(∃ kx,ev N s x=.d kx)∨(∃ o off n,ev N s x=.ref o off n)∨(∃ o n,ev N s x=.dref o n)∨((∃ xs,ev N s x=.agg xs)∧E.eT T≠0):=by
   unfold oS at ha
   split at ha
   ·exact .inl ⟨_,‹_›⟩
   ·exact .inl ⟨_,‹_›⟩
   ·exact .inr (.inl ⟨_,_,_,‹_›⟩)
   ·exact .inr (.inr (.inl ⟨_,_,‹_›⟩))
   ·unfold sJ at ha
    split at ha
    ·exact .inl ⟨_,‹_›⟩
    ·exact .inl ⟨_,‹_›⟩
    ·exact .inl ⟨_,‹_›⟩
    ·exact .inl ⟨_,‹_›⟩
    ·refine .inr (.inr (.inr ⟨⟨_,‹_›⟩,?_⟩))
     unfold aAgg at ha
     split at ha
     ·intro e
      rw[e] at ha
      exact ha.elim
     ·exact ha.elim
    ·exact ha.elim
  have hguard:(eqGuard op T x y (a.eval x) (a.eval y)).run E.P w=.ok () w:=by
   rcases hsc with ⟨kx,hkx⟩|⟨o,off,n,hkx⟩|⟨o,n,hkx⟩|⟨⟨xs,hkx⟩,hE⟩
   ·rw[hkx] at hx
    generalize a.eval x=vx at hx
    generalize a.eval y=vy
    cases hx with
    |d _ _ hx =>
     unfold eqGuard
     cases hx <;> (cases op <;> simp)
   ·rw[hkx] at hx
    generalize a.eval x=vx at hx
    generalize a.eval y=vy
    unfold eqGuard
    cases hx <;> (cases op <;> simp)
   ·rw[hkx] at hx
    generalize a.eval x=vx at hx
    generalize a.eval y=vy
    unfold eqGuard
    cases hx <;> (cases op <;> simp)
   ·rw[hkx] at hx
    generalize a.eval x=vx at hx
    generalize a.eval y=vy
    have hq:=(E.hE T hE).1
    unfold eqGuard
    cases hx
    cases op
    all_goals first
     |(simp;done)
     |(cases vy <;> simp[hq])
  refine OSat.value (r:=(Go.binOp op T (a.eval x) (a.eval y)).run E.P w) ?_ (aBinN_sound h op T hx hy ha)
  simp only[execOp,Sem.run_bind,hguard,Result.andThen_ok,Sem.run_pure]
 case unOp op T x=>exact OSat.value (r:=(Op.unary op (a.eval x)).run E.P w) (by simp[execOp]) (aUn_sound h op (h.ev x) ha)
 case convert S T x=>exact OSat.value (r:=(Go.convert S T (a.eval x)).run E.P w) (by simp[execOp]) (aConv_sound h S T (h.ev x) ha)
 case makeFunc fn first caps =>
  split at ha
  ·rename_i f
   cases hb:first.isEmpty with
   |false=>rw[hb] at ha;exact ha.elim
   |true =>
    rw[hb] at ha
    simp only[cond_true] at ha
    have hf:first=#[]:=by simpa using hb
    subst hf
    obtain⟨h1,h2⟩:=dS h caps
    exact OSat.value (r:=.ok (.func (.func f) #[] (caps.map a.eval)) w) (by simp[execOp,Instr.makeFunc]) (Res.same h rfl (.fn f _ _ h1 h2) ha)
  ·exact ha.elim
 case makeSlice T l c=>exact OSat.value (r:=(Instr.makeSlice T (a.eval l) (a.eval c)).run E.P w) (by simp[execOp]) (aMake_sound h T (h.ev l) (h.ev c) ha)
 case slice T x lo hi mx =>
  exact OSat.value (r:=(Instr.sliceAt T (a.eval x) (lo.map a.eval) (hi.map a.eval) (mx.map a.eval)).run E.P w) (by simp[execOp]) (d5 h T (h.ev x) (mO h lo).1 (mO h lo).2 (mO h hi).1 (mO h hi).2 (mO h mx).2 ha)
 case fieldAddr T x f=>exact OSat.value (r:=(Instr.fieldAt T (a.eval x) f).run E.P w) (by simp[execOp]) (d8 h T f (h.ev x) ha)
 case field T x f=>exact OSat.value (r:=(Instr.field T (a.eval x) f).run E.P w) (by simp[execOp]) (aPart_sound h T f (h.ev x) ha)
 case indexAddr T x i=>exact OSat.value (r:=(Instr.indexAt T (a.eval x) (a.eval i)).run E.P w) (by simp[execOp]) (aM h T (h.ev x) (h.ev i) ha)
 case index T x i=>exact OSat.value (r:=(Instr.index T (a.eval x) (a.eval i)).run E.P w) (by simp[execOp]) (aIdx_sound h T (h.ev x) (h.ev i) ha)
 case extract x i =>
  have hc:=h.ev x
  split at ha
  ·rename_i vs hb
   rw[hb] at hc
   split at ha
   ·rename_i v hv2
    rw[yT] at ha
    generalize hv:a.eval x=cv at hc
    cases hc with
    |tup _ us hl hr =>
     have hi:i<us.size:=by have:=(List.getElem?_eq_some_iff.1 hv2).1;omega
     exact OSat.value (r:=.ok us[i] w) (by simp[execOp,hv,Instr.extract,Array.getElem?_eq_getElem hi]) (Res.same h rfl (hr i v _ hv2 (Array.getElem?_eq_getElem hi)) ha)
   ·exact ha.elim
  ·exact ha.elim
 case call c=>exact aCall_sound h _ c rfl ha
 case makeMap T r =>
  cases r with
  |some r=>exact ha.elim
  |none=>exact OSat.value (r:=(Instr.makeMap T none).run E.P w) (by simp[execOp]) (aK h T ha)
 case insert T m i y=>exact OSat.unit (r:=(Instr.mapUpdate T (a.eval m) (a.eval i) (a.eval y)).run E.P w) (by simp[execOp]) (lB h T (h.ev m) (h.ev i) (h.ev y) ha)
 case mapUpdate T m i y=>exact OSat.unit (r:=(Instr.mapUpdate T (a.eval m) (a.eval i) (a.eval y)).run E.P w) (by simp[execOp]) (lB h T (h.ev m) (h.ev i) (h.ev y) ha)
 case lookup T m i ok=>exact OSat.value (r:=(Instr.lookup T (a.eval m) (a.eval i) ok).run E.P w) (by simp[execOp]) (eG h T ok (h.ev m) (h.ev i) ha)
 case mapEntry T m i=>exact OSat.value (r:=(Instr.mapEntry T (a.eval m) (a.eval i)).run E.P w) (by simp[execOp]) (sI h T (h.ev m) (h.ev i) ha)
 case entryStore T m i y=>exact OSat.unit (r:=(Instr.entryStore T (a.eval m) (a.eval i) (a.eval y)).run E.P w) (by simp[execOp]) (nJ h T (h.ev m) (h.ev i) (h.ev y) ha)
theorem yU (h:SRel E N A w0 m s a w) (ops:Array Oper) (o:Oper) {b:Bool} (hw:wants N ops o.guard s=some b):Region.wanted o (yielded ops a.tmps)=b:=by
 unfold wants at hw
 unfold Region.wanted
 cases hg:o.guard with
 |none=>rw[hg] at hw;simp at hw;exact hw.symm
 |some p =>
  obtain⟨j,want⟩:=p
  rw[hg] at hw
  simp only at hw
  split at hw
  ·rename_i oj hoj
   split at hw
   ·rename_i t ht
    have hev:=h.ev (.tmp t)
    have hlt:t<N:=by
     rcases Nat.lt_or_ge t N with h1|h1
     ·exact h1
     ·exfalso
      have:ev N s (.tmp t)=.junk:=by
       simp only[ev]
       have:Nat.blt t N=false:=by
        cases hb:Nat.blt t N
        ·rfl
        ·exact absurd (by simpa[Nat.blt_eq] using hb) (by omega)
       rw[this];rfl
      rw[this] at hw
      simp at hw
    have hget:a.tmps[t]?=some (a.eval (.tmp t)):=by
     have hlt2:t<a.tmps.size:=by rw[h.size];exact hlt
     simp[Act.eval,Array.getD_eq_getD_getElem?,Array.getElem?_eq_getElem hlt2]
    split at hw
    ·rename_i b0 hb0
     rw[hb0] at hev
     generalize hv:a.eval (.tmp t)=v at hev hget
     cases hev with
     |d _ _ hd=>cases hd with
      |bool =>
       simp only[Option.some.injEq] at hw
       subst hw
       simp only[yielded,hoj,Option.bind_some,ht,hget]
       cases b0 <;> cases want <;> rfl
    ·rename_i hb0
     rw[hb0] at hev
     generalize hv:a.eval (.tmp t)=v at hev hget
     cases hev with
     |tup _ us hl hr =>
      simp only[Option.some.injEq] at hw
      subst hw
      simp only[yielded,hoj,Option.bind_some,ht,hget]
      rfl
    ·cases hw
   ·cases hw
  ·cases hw
def wZ (E:Env) (N:Nat) (A:Fr) (w0:World) (Q:AX→St→Prop):Exit→Act→World→Prop
 | .normal,a,w=>∃ m s,SRel E N A w0 m s a w∧Q .normal s
 | .exit id,a,w=>∃ m s,SRel E N A w0 m s a w∧Q (.exit id) s
 | .ret,a,w=>∃ m s,SRel E N A w0 m s a w∧Q .ret s
 | _,_,_=>False
theorem ioC_some {op:Op} {p:Operand × Array Operand} (h:ioC E op=some p):∃ argT,op=.call ⟨.value p.1,p.2,argT⟩:=by
 cases op <;> simp only[ioC] at h <;> try cases h
 rename_i c
 obtain⟨cal,args,argT⟩:=c
 cases cal with
 |invoke r nm=>cases h
 |builtin b=>cases h
 |value f =>
  cases f with
  |func g =>
   simp only at h
   cases hg:E.io g with
   |true=>rw[hg] at h;injection h with h;subst h;exact⟨argT,rfl⟩
   |false=>rw[hg] at h;cases h
  | _=>cases h
theorem sizeF_run {T:TypeId} (hT:E.fT T=true) (w:World):(Go.sizeOf T).run E.P w=.ok 1 w:=by
 obtain⟨i,z,u,hi,hs,_⟩:=E.hF T hT
 simp[Go.sizeOf,typeInfo,hi,hs]
theorem aggF_run {T:TypeId} (hT:E.fT T=true) (w:World):(isAgg T).run E.P w=.ok false w:=by
 obtain⟨i,z,u,hi,hs,hz,hc,hu,ha⟩:=E.hF T hT
 rw[← ha]
 simp only[isAgg,Sem.run_bind,run_underlying hu,Result.andThen_ok]
 cases u <;> rfl
theorem storeF_run {T:TypeId} (hT:E.fT T=true) {b off:Nat} {cur:Array Value} {e:TypeId} (hcur:w.heap[b]?=some (.cells cur e (0,0))) {v:Value} (hl:v.cells.size=1) (hfit:off+v.cells.size≤cur.size)
  (h1:∀ u∈v.cells.toList,u.oneCell'=true):(Instr.storeAt T (.pointer (some ⟨b,off,none⟩)) v).run E.P w=.ok () (w.setRow b (cur.toList.take off++v.cells.toList++cur.toList.drop (off+v.cells.toList.length)).toArray):=by
 have hst:=run_storeCells_at E.P b off e v.cells.toList 0 cur w hcur (by simpa using hfit) h1
 simp only[Nat.add_zero] at hst
 simp[Instr.storeAt,Instr.sureAddr,storeVar,sizeF_run hT,hl,hst]
theorem z8 (h:SRel E N A w0 m s a w) {T:TypeId} (hT:E.fT T=true) {o:Key} {off:Nat} {y:AV} {vx vy:Value} (hx:VRel w (okB A s.H m w) m s.H (.ptr o off) vx) (hy:VRel w (okB A s.H m w) m s.H y vy)
  {e:TypeId} {cs0 cs:List AV} (hcs:cellsOf y=some cs) (h1c:cs.length=1) (hH:s.H o=some (.vs e cs0)) (hb2:Nat.ble (off+cs.length) cs0.length=true) (ha:k (put dst xF (s.setH o (.vs e (zW cs0 off cs))))) :
  ResU E N A w0 a dst k ((Instr.storeAt T vx vy).run E.P w):=by
 obtain⟨hl,h1,hrel⟩:=qZ hy hcs
 have hfit:off+cs.length≤cs0.length:=Nat.le_of_ble_eq_true hb2
 obtain⟨b,full,cur,hm,hbb,hcur,hsz,hcells⟩:=h.objs o _ hH
 cases hx with
 |ptr _ _ e' cs' b' full' hH' hm' =>
  rw[hm] at hm'
  injection hm' with hm'
  injection hm' with e1 e2
  subst e1;subst e2
  have hfit2:off+vy.cells.size≤cur.size:=by omega
  have hrun:=storeF_run hT hcur (v:=vy) (by omega) hfit2 h1
  have hlike:Like s.H (s.setH o (.vs e (zW cs0 off cs))).H m m:=by
   refine⟨?_,?_,fun o2 e2 sz2 els2 h2=>?_,fun o2 ag2 ps2 h2=>⟨⟨ps2,by simp[St.setH,zB (show o2≠o from fun e=>by subst e;rw[hH] at h2;cases h2),h2]⟩,rfl⟩⟩
   rotate_left 2
   ·by_cases hne:o2=o
    ·subst hne;rw[hH] at h2;injection h2 with h2;cases h2
    ·exact⟨⟨els2,by simp[St.setH,zB hne,h2],rfl⟩,rfl⟩
   ·intro o2 e2 cs2 h2
    by_cases hne:o2=o
    ·subst hne
     rw[hH] at h2;injection h2 with h2;injection h2 with i1 i2;subst i1
     exact⟨⟨_,by simp[St.setH,zD];rfl⟩,rfl⟩
    ·exact⟨⟨cs2,by simp[St.setH,zB hne,h2]⟩,rfl⟩
   ·intro o2 e2 sz2 els2 h2
    by_cases hne:o2=o
    ·subst hne;rw[hH] at h2;injection h2 with h2;cases h2
    ·exact⟨⟨els2,by simp[St.setH,zB hne,h2],rfl⟩,rfl⟩
  have hok:∀ q,okB A s.H m w q→okB A (s.setH o (.vs e (zW cs0 off cs))).H m (w.setRow b (cur.toList.take off++vy.cells.toList++cur.toList.drop (off+vy.cells.toList.length)).toArray) q ∧
    (w.setRow b (cur.toList.take off++vy.cells.toList++cur.toList.drop (off+vy.cells.toList.length)).toArray).heap[q]?=w.heap[q]?:=by
   intro q hq
   refine⟨⟨by rw[size_setRow];exact hq.1,fun o2 ho2 p hp=>hq.2.1 o2 ?_ p hp,hq.2.2⟩,setRow_other w b q _ ?_⟩
   ·by_cases hne:o2=o
    ·subst hne;simp[hH]
    ·simpa[St.setH,zB hne] using ho2
   ·intro hqb;exact hq.2.1 o (by simp[hH]) _ hm (by simp[hqb])
  have hS:=h.update (w':=w.setRow b (cur.toList.take off++vy.cells.toList++cur.toList.drop (off+vy.cells.toList.length)).toArray) o _ (.vs e (zW cs0 off cs)) hH hlike b full hm (uW h hbb _) (size_setRow w b _) (fun q hq=>setRow_other w b q _ hq)
   ⟨b,full,_,hm,hbb,setRow_heap w b cur _ e _ hcur,by rw[xW _ _ _ hfit,← hsz];exact bG cur off _ (by simpa using hfit2),fun i c hi=>by
    rw[xY _ _ _ _ hfit] at hi
    rw[kG cur off _ (by simpa using hfit2)]
    by_cases hin:off≤i∧i<off+cs.length
    ·rw[if_pos hin] at hi
     have hin2:off≤i∧i<off+vy.cells.toList.length:=by simp;omega
     rw[if_pos hin2]
     have hlt:i - off<vy.cells.size:=by omega
     refine⟨vy.cells[i - off],by rw[Array.getElem?_toList,Array.getElem?_eq_getElem hlt],?_⟩
     exact(hrel _ _ _ hi (Array.getElem?_eq_getElem hlt)).mono hok hlike
    ·rw[if_neg hin] at hi
     have hin2:¬ (off≤i∧i<off+vy.cells.toList.length):=by simp;omega
     rw[if_neg hin2]
     obtain⟨u,hu,hv⟩:=hcells i c hi
     exact⟨u,hu,hv.mono hok hlike⟩⟩
  exact⟨_,hrun,m,_,(hS (fun _ _ _=>⟨_,_,rfl⟩)).put dst xC,ha⟩
theorem o9 (h:SRel E N A w0 m s a w) {T:TypeId} (hT:E.fT T=true) {o:Key} {off:Nat} {vx:Value} (hx:VRel w (okB A s.H m w) m s.H (.ptr o off) vx)
  {e:TypeId} {cs:List AV} {v:AV} (hH:s.H o=some (.vs e cs)) (hv:cs[off]?=some v) (ha:k (put dst v s)):Res E N A w0 a dst k ((Instr.loadAt T vx).run E.P w):=by
 cases hx with
 |ptr _ _ e' cs' b full hH' hm =>
  obtain⟨b',full',cur,hm',hbb,hcur,hsz,hcells⟩:=h.objs o _ hH
  rw[hm] at hm'
  injection hm' with hm'
  injection hm' with e1 e2
  subst e1;subst e2
  obtain⟨u,hu,hr⟩:=hcells off v hv
  have hc:w.cell? ⟨b,off,none⟩=some u:=by simp[World.cell?,hcur,hu]
  exact Res.same h (v:=v) (u:=u) (by simp[Instr.loadAt,Instr.sureAddr,loadVar,aggF_run hT,hc]) hr ha
theorem b7 (h:SRel E N A w0 m s a w) {T:TypeId} (hT:E.fT T=true) (t:Tmp) (hd:dst=some t) (ha:k (put dst (.ptr t 0) (s.new t (.vs T [.junk])))) :
  Res E N A w0 a dst k ((Instr.alloc T true (.tuple #[])).run E.P w):=by
 obtain⟨i,z,u,hi,hs,hz,hc,hu,hag⟩:=E.hF T hT
 refine⟨_,_,?_,_,_,(new_vs h t T (cs:=[.junk]) (us:=z.cells) (by rw[hc];rfl) (fun i c u hc' hu'=>?_)).put dst (y9 t 1 T _ _),ha⟩
 ·simp[Instr.alloc,zeroValue,typeInfo,hi,hz,newVar,uA]
 ·cases i with
  |zero=>simp at hc';subst hc';exact .junk _
  |succ i=>simp at hc'
theorem aS (h:SRel E N A w0 m s a w) (o:Oper) (ha:AOpI E N o.op o.dst s k):OSat E N A w0 o a w k:=by
 unfold AOpI at ha
 split at ha
 ·rename_i p hp
  obtain⟨argT,ho⟩:=ioC_some hp
  exact aIOW_sound h o ho ha
 ·obtain⟨dst,op,ty,ps,af,g⟩:=o
  simp only at ha
  split at ha
  ·rename_i T hq
   cases hT:E.fT T with
   |false=>rw[hT] at ha;exact wE h _ ha
   |true =>
    rw[hT] at ha
    simp only[cond_true] at ha
    cases dst with
    |none=>exact ha.elim
    |some t=>exact OSat.value (r:=(Instr.alloc T true (.tuple #[])).run E.P w) (by simp[execOp]) (b7 h hT t rfl ha)
  ·rename_i T x y hq
   cases hT:E.fT T with
   |false=>rw[hT] at ha;exact wE h _ ha
   |true =>
    rw[hT] at ha
    simp only[cond_true] at ha
    split at ha
    ·rename_i o off f caps e1 e2
     split at ha
     ·rename_i e cs0 hH
      cases hb2:Nat.ble (off+1) cs0.length with
      |false=>rw[hb2] at ha;exact ha.elim
      |true =>
       rw[hb2] at ha
       exact OSat.unit (r:=(Instr.storeAt T (a.eval x) (a.eval y)).run E.P w) (by simp[execOp]) (z8 h hT (e1▸h.ev x) (e2▸h.ev y) (cs:=[.fn f caps]) rfl rfl hH hb2 ha)
     ·exact ha.elim
    ·exact ha.elim
  ·rename_i T x hq
   cases hT:E.fT T with
   |false=>rw[hT] at ha;exact wE h _ ha
   |true =>
    rw[hT] at ha
    simp only[cond_true] at ha
    split at ha
    ·rename_i o off e1
     split at ha
     ·rename_i e cs hH
      split at ha
      ·rename_i v hv
       rw[yT] at ha
       exact OSat.value (r:=(Instr.loadAt T (a.eval x)).run E.P w) (by simp[execOp]) (o9 h hT (e1▸h.ev x) hH hv ha)
      ·exact ha.elim
     ·exact ha.elim
    ·exact ha.elim
  ·split at ha
   ·split at ha
    ·obtain⟨s1,hw,ha⟩:=ha
     obtain⟨m1,h1⟩:=hw A w0 m a w h
     exact wE h1 _ ha
    ·exact wE h _ ha
   ·exact wE h _ ha
  ·exact wE h _ ha
theorem nP {o:Oper} {x:Operand} {i:Nat} (ho:o.op=.extract x i) (ha:AOpI E N o.op o.dst s k):AOp E N o.op o.dst s k:=by
 rw[ho] at ha ⊢;exact ha
theorem lT (ops:Array Oper) (Q:AX→St→Prop):∀ (l:List Oper) {m:Own} {s:St} {a:Act} {w:World},SRel E N A w0 m s a w→dW E N ops l Q s→wpList E.P ops (wZ E N A w0 Q) l a w
 | [],m,s,a,w,h,ha=>⟨m,s,h,ha⟩
 |o::rest,m,s,a,w,h,ha=>by
  have ha2:(match wants N ops o.guard s with
   |some true=>AOpI E N o.op o.dst s (dW E N ops rest Q)
   |some false=>dW E N ops rest Q (put o.dst xF s)
   |none=>False):=ha
  simp only[wpList]
  split at ha2
  ·rename_i hw
   rw[if_pos (yU h ops o hw)]
   exact .inl (aS h o ha2 _ _ fun m' s' a' w' hS hk=>lT ops Q rest hS hk)
  ·rename_i hw
   rw[if_neg (by rw[yU h ops o hw];simp)]
   exact lT ops Q rest (h.put o.dst xC) ha2
  ·exact ha2.elim
end
end Ai
namespace Ai
open Go Go.RowKit
section
variable {E:Env} {N:Nat} {A:Fr} {w0 w w':World} {m m':Own} {s s':St} {a:Act} {dst:Option Tmp} {k:St→Prop}
theorem zJ (K:AV→Prop) (v:AV) (s:St):uS K (put (some 0) v s)=K v:=by
 show kv v K=K v
 exact yT v K
def Local (G:Option Tmp→St→(St→Prop)→Prop) (s:St):Prop:=∀ K,G (some 0) s (uS K)→∃ v,K v∧∀ dst τ' k',k' (put dst v ⟨τ',s.H⟩)→G dst ⟨τ',s.H⟩ k'
theorem gL {c:Bool} {K:AV→Prop} {s:St} (h:kb (some 0) s (uS K) c):K (.d (.bool c)):=by
 cases c with
 |true=>have:=h.1 rfl;rwa [zJ] at this
 |false=>have:=h.2 rfl;rwa [zJ] at this
theorem fV {c:Bool} {dst:Option Tmp} {k:St→Prop} {s:St} (h:k (put dst (.d (.bool c)) s)):kb dst s k c:=by
 constructor
 ·intro hc;subst hc;exact h
 ·intro hc;subst hc;exact h
theorem local_int (op:BinOp) (kx:IntKind) (x y:Int) (s:St):Local (fun dst s k=>pS op kx x y dst s k) s:=by
 intro K h
 cases op <;> simp only[pS,icmp,iS] at h
 all_goals first
  |exact h.elim
  |exact⟨_,by rwa [zJ] at h,fun dst τ' k' h'=>by simp only[pS,iS];exact h'⟩
  |exact⟨_,by have:=h.2;rwa [zJ] at this,fun dst τ' k' h'=>by simp only[pS];exact⟨h.1,h'⟩⟩
  |exact⟨_,gL h,fun dst τ' k' h'=>by simp only[pS,icmp];exact fV h'⟩
theorem local_flt (op:BinOp) (x y:Nat) (s:St):Local (fun dst s k=>aFlt op x y dst s k) s:=by
 intro K h
 cases op <;> simp only[aFlt] at h
 all_goals first
  |exact h.elim
  |exact⟨_,by rwa [zJ] at h,fun dst τ' k' h'=>by simp only[aFlt];exact h'⟩
  |exact⟨_,gL h,fun dst τ' k' h'=>by simp only[aFlt];exact fV h'⟩
theorem local_str (op:BinOp) (x y:List UInt8) (s:St):Local (fun dst s k=>aJ op x y dst s k) s:=by
 intro K h
 cases op <;> simp only[aJ,scmp] at h
 all_goals first
  |exact h.elim
  |exact⟨_,by have:=h.2;rwa [zJ] at this,fun dst τ' k' h'=>by simp only[aJ];exact⟨h.1,h'⟩⟩
  |exact⟨_,gL h,fun dst τ' k' h'=>by simp only[aJ,scmp];exact fV h'⟩
theorem local_bool (T:TypeId) (op:BinOp) (x y:Bool) (s:St):Local (fun dst s k=>aN E T op x y dst s k) s:=by
 intro K h
 simp only[aN] at h ⊢
 split at h
 ·rename_i ti hti
  split at h
  ·rename_i hd
   split at h
   ·exact⟨_,gL h,fun dst τ' k' h'=>fV h'⟩
   ·exact⟨_,gL h,fun dst τ' k' h'=>fV h'⟩
   ·exact h.elim
  ·exact h.elim
 ·exact h.elim
theorem local_agg (T:TypeId) (op:BinOp) (xs ys:List AV) (s:St):Local (fun dst s k=>aAgg E T op xs ys dst s k) s:=by
 intro K h
 simp only[aAgg] at h ⊢
 cases h1:sD xs with
 |none=>simp only[h1] at h
 |some ns=>cases h2:sD ys with
  |none=>simp only[h1,h2] at h
  |some ms =>
   simp only[h1,h2] at h ⊢
   cases hb:(Nat.blt 0 (E.eT T)&&(Nat.beq ns.length (E.eT T)&&Nat.beq ms.length (E.eT T))) with
   |false=>rw[hb] at h;exact h.elim
   |true =>
    simp only[hb,cond_true] at h ⊢
    cases op
    all_goals first
     |exact h.elim
     |exact⟨_,gL h,fun dst τ' k' h'=>fV h'⟩
theorem iO (T:TypeId) (op:BinOp) (x y:AV) (s:St):Local (fun dst s k=>sJ E T op x y dst s k) s:=by
 intro K h
 simp only[sJ] at h ⊢
 split at h
 ·rename_i kx p ky q
  cases hb:decide (kx=ky) with
  |true =>
   rw[hb] at h
   simp only[cond_true] at h ⊢
   exact local_int op kx p q s K h
  |false=>rw[hb] at h;exact h.elim
 ·exact local_flt op _ _ s K h
 ·exact local_str op _ _ s K h
 ·exact local_bool T op _ _ s K h
 ·exact local_agg T op _ _ s K h
 ·exact h.elim
theorem o8 (op:UnOp) (x:AV) (s:St):Local (fun dst s k=>aUn op x dst s k) s:=by
 intro K h
 simp only[aUn] at h ⊢
 split at h
 ·exact⟨_,by rwa [zJ] at h,fun dst τ' k' h'=>h'⟩
 ·exact⟨_,by rwa [zJ] at h,fun dst τ' k' h'=>h'⟩
 ·exact⟨_,by rwa [zJ] at h,fun dst τ' k' h'=>h'⟩
 ·exact h.elim
theorem newsOf_H (s:St) (τ':Nat→AV) (x:AV):xU ⟨τ',s.H⟩ x=xU s x:=by
 cases x with
 |d x=>cases x <;> rfl
 | _=>rfl
theorem cB (S T:TypeId) (x:AV) (s:St):Local (fun dst s k=>kO E S T x dst s k) s:=by
 intro K h
 simp only[kO,newsOf_H] at h ⊢
 split at h
 ·rename_i si ti hS hT
  split at h
  ·exact⟨_,by rwa [zJ] at h,fun dst τ' k' h'=>h'⟩
  ·exact⟨_,by rwa [zJ] at h,fun dst τ' k' h'=>h'⟩
  ·obtain⟨n,hn,h⟩:=h
   exact⟨_,by rwa [zJ] at h,fun dst τ' k' h'=>⟨n,hn,h'⟩⟩
  ·split at h
   ·split at h
    ·split at h
     ·obtain⟨ns,hn,h⟩:=h
      exact⟨_,by rwa [zJ] at h,fun dst τ' k' h'=>⟨ns,hn,h'⟩⟩
     ·exact h.elim
    ·exact h.elim
   ·split at h
    ·exact⟨_,by rwa [zJ] at h,fun dst τ' k' h'=>h'⟩
    ·exact h.elim
   ·exact h.elim
  ·exact h.elim
 ·exact h.elim
theorem ldCells_H (s:St) (τ':Nat→AV) (x:AV) (n:Nat):vQ ⟨τ',s.H⟩ x n=vQ s x n:=by
 cases x <;> rfl
theorem cA (T:TypeId) (x:AV) (s:St):Local (fun dst s k=>fX E T x dst s k) s:=by
 intro K h
 simp only[fX,ldCells_H] at h ⊢
 split at h
 ·rename_i ti hti
  split at h
  ·rename_i o j off
   split at h
   ·obtain⟨c,hc,h⟩:=h
    split at h
    ·exact⟨_,by rwa [zJ] at h,fun dst τ' k' h'=>⟨c,hc,by simp only[*];try exact h'⟩⟩
    ·exact h.elim
   ·exact h.elim
  ·split at h
   ·obtain⟨c,hc,h⟩:=h
    split at h
    ·rename_i v hv
     rw[yT] at h
     exact⟨v,by rwa [zJ] at h,fun dst τ' k' h'=>⟨c,hc,by simp only[hv,yT];exact h'⟩⟩
    ·exact h.elim
   ·exact h.elim
  ·split at h
   ·rename_i cs hcs
    split at h
    ·rename_i v hv
     rw[yT] at h
     exact⟨v,by rwa [zJ] at h,fun dst τ' k' h'=>by simp only[yT];exact h'⟩
    ·exact h.elim
   ·exact h.elim
 ·exact h.elim
theorem rL (T:TypeId) (f:Nat) (x:AV) (s:St):Local (fun dst s k=>fQ E T f x dst s k) s:=by
 intro K h
 simp only[fQ] at h ⊢
 split at h
 ·split at h
  ·split at h
   ·split at h
    ·rename_i fi hfi
     cases hb:Nat.beq fi.sz 0 with
     |true=>rw[hb] at h;exact h.elim
     |false =>
      rw[hb] at h
      simp only[cond_false] at h ⊢
      split at h
      ·exact⟨_,by rwa [zJ] at h,fun dst τ' k' h'=>h'⟩
      ·exact⟨_,by rwa [zJ] at h,fun dst τ' k' h'=>h'⟩
      ·exact⟨_,by rwa [zJ] at h,fun dst τ' k' h'=>h'⟩
      ·exact⟨_,by rwa [zJ] at h,fun dst τ' k' h'=>h'⟩
      ·exact h.elim
    ·exact h.elim
   ·exact h.elim
  ·exact h.elim
 ·exact h.elim
theorem tZ (T:TypeId) (f:Nat) (x:AV) (s:St):Local (fun dst s k=>nH E T f x dst s k) s:=by
 intro K h
 simp only[nH] at h ⊢
 split at h
 ·split at h
  ·split at h
   ·split at h
    ·rename_i off ft hf _ _ fi cs hfi
     cases hb:Nat.ble (off+fi.sz) cs.length with
     |false=>rw[hb] at h;exact h.elim
     |true =>
      rw[hb] at h
      simp only[cond_true] at h ⊢
      split at h
      ·rename_i v hv
       rw[yT] at h
       exact⟨v,by rwa [zJ] at h,fun dst τ' k' h'=>by simp only[yT];exact h'⟩
      ·exact h.elim
    ·exact h.elim
   ·exact h.elim
  ·exact h.elim
 ·exact h.elim
theorem iN (T:TypeId) (x i:AV) (s:St):Local (fun dst s k=>d7 E T x i dst s k) s:=by
 intro K h
 simp only[d7] at h ⊢
 split at h
 ·split at h
  ·obtain⟨c,hc,h⟩:=h
   exact⟨_,by rwa [zJ] at h,fun dst τ' k' h'=>⟨c,hc,h'⟩⟩
  ·exact h.elim
 ·exact h.elim
theorem hZ (T:TypeId) (x i:AV) (s:St):Local (fun dst s k=>wI E T x i dst s k) s:=by
 intro K h
 simp only[wI] at h ⊢
 split at h
 ·split at h
  ·split at h
   ·rename_i ei hei
    split at h
    ·obtain⟨c,hc,h⟩:=h
     exact⟨_,by rwa [zJ] at h,fun dst τ' k' h'=>⟨c,hc,h'⟩⟩
    ·split at h
     ·rename_i e2 sz els hH
      cases hb:Nat.beq sz ei.sz with
      |false=>rw[hb] at h;exact h.elim
      |true =>
       rw[hb] at h
       simp only[cond_true] at h ⊢
       exact⟨_,by have:=h.2;rwa [zJ] at this,fun dst τ' k' h'=>⟨h.1,h'⟩⟩
     ·exact h.elim
    ·split at h
     ·rename_i e2 sz els hH
      cases hb:Nat.beq sz ei.sz with
      |false=>rw[hb] at h;exact h.elim
      |true =>
       rw[hb] at h
       simp only[cond_true] at h ⊢
       exact⟨_,by have:=h.2;rwa [zJ] at this,fun dst τ' k' h'=>⟨h.1,h'⟩⟩
     ·exact h.elim
    ·exact h.elim
   ·exact h.elim
  ·split at h
   ·rename_i len e hd _ ei hei
    cases hb:Nat.ble len 1 with
    |true=>rw[hb] at h;exact h.elim
    |false =>
     rw[hb] at h
     simp only[cond_false] at h ⊢
     split at h
     ·exact⟨_,by have:=h.2;rwa [zJ] at this,fun dst τ' k' h'=>⟨h.1,h'⟩⟩
     ·exact⟨_,by have:=h.2;rwa [zJ] at this,fun dst τ' k' h'=>⟨h.1,h'⟩⟩
     ·exact h.elim
   ·exact h.elim
  ·exact h.elim
 ·exact h.elim
theorem rM (T:TypeId) (parts:List (Nat × AV)) (s:St):Local (fun dst s k=>fR E T parts dst s k) s:=by
 intro K h
 simp only[fR] at h ⊢
 split at h
 ·split at h
  ·rename_i fs hd
   cases hb:fs.all (fun p=>(E.Θ p.2).isSome) with
   |false=>rw[hb] at h;exact h.elim
   |true =>
    rw[hb] at h
    simp only[cond_true] at h ⊢
    split at h
    ·exact⟨_,by rwa [zJ] at h,fun dst τ' k' h'=>h'⟩
    ·exact h.elim
  ·rename_i n e hd
   split at h
   ·cases hb:(E.Θ e).isSome with
    |false=>rw[hb] at h;exact h.elim
    |true =>
     rw[hb] at h
     simp only[cond_true] at h ⊢
     exact⟨_,by rwa [zJ] at h,fun dst τ' k' h'=>h'⟩
   ·exact h.elim
  ·exact h.elim
 ·exact h.elim
theorem iM (T:TypeId) (x:AV) (s:St):Local (fun dst s k=>d6 E T x dst s k) s:=by
 intro K h
 simp only[d6] at h ⊢
 split at h
 ·split at h
  ·exact⟨_,by rwa [zJ] at h,fun dst τ' k' h'=>h'⟩
  ·exact⟨_,by rwa [zJ] at h,fun dst τ' k' h'=>h'⟩
  ·exact⟨_,by rwa [zJ] at h,fun dst τ' k' h'=>h'⟩
  ·exact⟨_,by rwa [zJ] at h,fun dst τ' k' h'=>h'⟩
  ·exact⟨_,by rwa [zJ] at h,fun dst τ' k' h'=>h'⟩
  ·exact h.elim
 ·exact h.elim
theorem rK (T:TypeId) (x:AV) (lo hi mx:Option AV) (s:St):Local (fun dst s k=>qL E T x lo hi mx dst s k) s:=by
 intro K h
 simp only[qL] at h ⊢
 split at h
 ·split at h
  ·split at h
   ·exact⟨_,by have:=h.2;rwa [zJ] at this,fun dst τ' k' h'=>⟨h.1,h'⟩⟩
   ·exact h.elim
  ·split at h
   ·exact⟨_,by have:=h.2;rwa [zJ] at this,fun dst τ' k' h'=>⟨h.1,h'⟩⟩
   ·exact h.elim
  ·split at h
   ·rename_i ei e2 sz els hh hei hHo hbh
    cases hb:Nat.beq ei.sz sz with
    |false=>rw[hb] at h;exact h.elim
    |true =>
     rw[hb] at h
     simp only[cond_true] at h ⊢
     rcases h with h|h
     ·exact⟨_,by have:=h.2;rwa [zJ] at this,fun dst τ' k' h'=>.inl ⟨h.1,h'⟩⟩
     ·exact⟨_,by have:=h.2;rwa [zJ] at this,fun dst τ' k' h'=>.inr ⟨h.1,h'⟩⟩
   ·exact h.elim
  ·exact h.elim
 ·exact h.elim
theorem fz1s_H (s:St) (τ':Nat→AV):∀ l,fz1s ⟨τ',s.H⟩ l=fz1s s l
 | []=>rfl
 |v::vs=>by
  have h1:fz1 ⟨τ',s.H⟩ v=fz1 s v:=by
   cases v with
   |d x=>cases x <;> rfl
   | _=>rfl
  simp only[fz1s,fz1s_H s τ' vs,h1]
theorem fz1_H (s:St) (τ':Nat→AV) (v:AV):fz1 ⟨τ',s.H⟩ v=fz1 s v:=by
 cases v with
 |d x=>cases x <;> rfl
 | _=>rfl
theorem fzp_H (s:St) (τ':Nat→AV) (v:AV):fzp ⟨τ',s.H⟩ v=fzp s v:=by
 cases v <;> simp only[fzp,fz1_H,fz1s_H]
theorem cK (s:St) (τ':Nat→AV):∀ l,bO ⟨τ',s.H⟩ l=bO s l
 | []=>rfl
 |v::vs=>by simp only[bO,cK s τ' vs,fzp_H]
theorem fz_H (s:St) (τ':Nat→AV) (v:AV):fz ⟨τ',s.H⟩ v=fz s v:=by
 cases v <;> simp only[fz,fzp_H,fz1s_H,cK]
theorem fzs_H (s:St) (τ':Nat→AV):∀ l,fzs ⟨τ',s.H⟩ l=fzs s l
 | []=>rfl
 |v::vs=>by simp only[fzs,fzs_H s τ' vs,fz_H]
theorem FzD_H {s:St} {τ':Nat→AV} {x:AV} {y:D} (h:FzD s x y):FzD ⟨τ',s.H⟩ x y:=by
 have h1s:∀ l,fz1s ⟨τ',s.H⟩ l=fz1s s l:=by
  intro l
  induction l with
  |nil=>rfl
  |cons v vs ih=>simp only[fz1s,ih];rfl
 cases x with
 |dref o n =>
  obtain⟨els,rfl,hv⟩:=h
  refine⟨els,rfl,?_⟩
  unfold kP at hv ⊢
  simp only[h1s]
  exact hv
 | _=>exact h
theorem FzC_H {s:St} {τ':Nat→AV}:∀ {xs:List AV} {ds:List D},FzC s xs ds→FzC ⟨τ',s.H⟩ xs ds
 | [],ds,h=>h
 |x::xs,ds,h=>let ⟨d,ds',e,h1,h2⟩:=h;⟨d,ds',e,FzD_H h1,FzC_H h2⟩
theorem FzA_H {s:St} {τ':Nat→AV} {x y:AV} (h:FzA s x y):FzA ⟨τ',s.H⟩ x y:=by
 have h1s:∀ l,fz1s ⟨τ',s.H⟩ l=fz1s s l:=by
  intro l
  induction l with
  |nil=>rfl
  |cons v vs ih=>simp only[fz1s,ih];rfl
 cases x with
 |dref o n =>
  obtain⟨els,rfl,hv⟩:=h
  refine⟨els,rfl,?_⟩
  unfold kP at hv ⊢
  simp only[h1s]
  exact hv
 |agg cs =>
  obtain⟨ds,rfl,hd⟩:=h
  exact⟨ds,rfl,FzC_H hd⟩
 |ptr o off =>
  simp only[FzA] at h ⊢
  split at h
  ·rename_i e cs hH
   obtain⟨ds,rfl,hd⟩:=h
   exact⟨ds,rfl,FzC_H hd⟩
  ·exact h.elim
 |dptr o j off =>
  simp only[FzA] at h ⊢
  split at h
  ·rename_i e sz rows hH
   obtain⟨row,ds,h1,rfl,hd⟩:=h
   exact⟨row,ds,h1,rfl,FzC_H hd⟩
  ·exact h.elim
 | _=>simp only[FzA] at h ⊢;rw[fz_H];exact h
theorem FzL_H {s:St} {τ':Nat→AV}:∀ {xs ys:List AV},FzL s xs ys→FzL ⟨τ',s.H⟩ xs ys
 | [],ys,h=>h
 |x::xs,ys,h=>let ⟨y,ys',e,h1,h2⟩:=h;⟨y,ys',e,FzA_H h1,FzL_H h2⟩
theorem fzk_H (s:St) (τ':Nat→AV):∀ l,fzk ⟨τ',s.H⟩ l=fzk s l
 | []=>rfl
 |v::vs=>by simp only[fzk,fzk_H s τ' vs,fz1_H]
theorem fzkE_H (s:St) (τ':Nat→AV):∀ l,fZ ⟨τ',s.H⟩ l=fZ s l
 | []=>rfl
 |v::vs=>by simp only[fZ,fzkE_H s τ' vs,fzk_H]
theorem local_bs (T:TypeId) (len:Nat) (parts:List (Nat × AV)) (s:St) (K:AV→Prop) (h:aBS E T len parts s K):∃ v,K v∧∀ τ' K',K' v→aBS E T len parts ⟨τ',s.H⟩ K':=by
 simp only[aBS,fzkE_H] at h ⊢
 split at h
 ·split at h
  ·split at h
   ·rename_i ei hei
    cases hb:(Nat.beq ei.sz 0 || Nat.blt 4096 (len*ei.sz)) with
    |true=>rw[hb] at h;exact h.elim
    |false =>
     rw[hb] at h
     simp only[cond_false] at h ⊢
     split at h
     ·split at h
      ·exact⟨_,h,fun τ' K' h'=>h'⟩
      ·exact h.elim
     ·exact h.elim
   ·exact h.elim
  ·exact h.elim
 ·exact h.elim
theorem nW {K:AV→Prop} {r:AV} (h:iC K r):∃ v,K v∧∀ K':AV→Prop,K' v→iC K' r:=by
 cases r with
 |uq e sz els=>exact⟨_,h,fun K' h'=>h'⟩
 |ownF f cs=>exact h.elim
 | _=>exact⟨_,h,fun K' h'=>h'⟩
theorem mT (T:TypeId) (x i:AV) (ok:Bool) (s:St):Local (fun dst s k=>vR E T x i ok dst s k) s:=by
 intro K h
 simp only[vR] at h
 split at h
 ·rename_i ei o n hei
  split at h
  ·rename_i ag ps hH
   have back:∀ (v:AV) dst τ' (k':St→Prop),k' (put dst v ⟨τ',s.H⟩)→(match ag with
     |true=>(∃ cs,(atM ps n=some cs∧cs≠[])∧v=(bif ok then .tup [.agg (cs.map .d),.d (.bool true)] else .agg (cs.map .d)))∨(atM ps n=none∧v=(bif ok then .tup [.junk,.d (.bool false)] else .junk))
     |false=>(∃ c,atM ps n=some [c]∧v=(bif ok then .tup [.d c,.d (.bool true)] else .d c))∨(atM ps n=none∧v=(bif ok then .tup [.junk,.d (.bool false)] else .junk)))→vR E T (.mref o) (.d (.int .i64 n)) ok dst ⟨τ',s.H⟩ k':=by
    intro v dst τ' k' hk hv
    simp only[vR,hei,hH]
    cases ag with
    |true =>
     rcases hv with ⟨cs,h1,rfl⟩|⟨h1,rfl⟩
     ·exact .inl ⟨cs,h1,hk⟩
     ·exact .inr ⟨h1,hk⟩
    |false =>
     rcases hv with ⟨cs,h1,rfl⟩|⟨h1,rfl⟩
     ·exact .inl ⟨cs,h1,hk⟩
     ·exact .inr ⟨h1,hk⟩
   cases ag with
   |true =>
    rcases h with ⟨cs,h1,h2⟩|⟨h1,h2⟩
    ·exact⟨_,by rwa [zJ] at h2,fun dst τ' k' h'=>back _ _ _ _ h' (.inl ⟨cs,h1,rfl⟩)⟩
    ·exact⟨_,by rwa [zJ] at h2,fun dst τ' k' h'=>back _ _ _ _ h' (.inr ⟨h1,rfl⟩)⟩
   |false =>
    rcases h with ⟨cs,h1,h2⟩|⟨h1,h2⟩
    ·exact⟨_,by rwa [zJ] at h2,fun dst τ' k' h'=>back _ _ _ _ h' (.inl ⟨cs,h1,rfl⟩)⟩
    ·exact⟨_,by rwa [zJ] at h2,fun dst τ' k' h'=>back _ _ _ _ h' (.inr ⟨h1,rfl⟩)⟩
  ·exact h.elim
 ·exact h.elim
def Alike (N:Nat) (op:Op) (s:St) (τ':Nat→AV):Prop:=∀ x∈op.operands,ev N ⟨τ',s.H⟩ x=ev N s x
theorem evs_alike {s:St} {τ':Nat→AV} (xs:Array Operand) (h:∀ x∈xs,ev N ⟨τ',s.H⟩ x=ev N s x):evs N ⟨τ',s.H⟩ xs=evs N s xs:=by
 unfold evs
 exact List.map_congr_left fun x hx=>h x (by simpa using hx)
theorem rC {s:St} {τ':Nat→AV} (xs:Array (Nat × Operand)) (h:∀ x∈(xs.toList.map (·.2)).toArray,ev N ⟨τ',s.H⟩ x=ev N s x) :
  (xs.toList.map fun p=>(p.1,ev N ⟨τ',s.H⟩ p.2))=(xs.toList.map fun p=>(p.1,ev N s p.2)) :=
 List.map_congr_left fun p hp=>by rw[h p.2 (by simp only[List.mem_toArray,List.mem_map];exact⟨p,hp,rfl⟩)]
theorem pB {s:St} {τ':Nat→AV} (x:Option Operand) (h:∀ y,x=some y→ev N ⟨τ',s.H⟩ y=ev N s y):x.map (ev N ⟨τ',s.H⟩)=x.map (ev N s):=by
 cases x with
 |none=>rfl
 |some y=>simp[h y rfl]
theorem Local.use {G:Option Tmp→St→(St→Prop)→Prop} {s:St} (hl:Local G s) {K:AV→Prop} (h:G (some 0) s (uS K)):∃ v,K v∧∀ τ' K',K' v→G (some 0) ⟨τ',s.H⟩ (uS K'):=by
 obtain⟨v,hv,h2⟩:=hl K h
 exact⟨v,hv,fun τ' K' hK'=>h2 (some 0) τ' (uS K') (by rw[zJ];exact hK')⟩
theorem AQv_local (op:Op) (s:St) (K:AV→Prop) (h:AQv E N op s K):∃ v,K v∧∀ τ',Alike N op s τ'→∀ K',K' v→AQv E N op ⟨τ',s.H⟩ K':=by
 cases op <;> simp only[AQv] at h <;> try exact h.elim
 case move x =>
  rw[yT] at h
  exact⟨_,h,fun τ' ha K' h'=>by simp only[AQv];rw[yT,ha x (by simp[Op.operands])];exact h'⟩
 case assign x =>
  rw[yT] at h
  exact⟨_,h,fun τ' ha K' h'=>by simp only[AQv];rw[yT,ha x (by simp[Op.operands])];exact h'⟩
 case nilCheck x =>
  split at h
  ·rename_i p q hb
   exact⟨_,h,fun τ' ha K' h'=>by simp only[AQv];rw[ha x (by simp[Op.operands]),hb];exact h'⟩
  ·rename_i cs hb
   exact⟨_,h,fun τ' ha K' h'=>by simp only[AQv];rw[ha x (by simp[Op.operands]),hb];exact h'⟩
  ·exact h.elim
 case pick c x y =>
  split at h
  ·rename_i b hb
   cases b with
   |true =>
    simp only at h
    rw[yT] at h
    exact⟨_,h,fun τ' ha K' h'=>by simp only[AQv];rw[ha c (by simp[Op.operands]),hb,ha x (by simp[Op.operands])];simp only;rw[yT];exact h'⟩
   |false =>
    simp only at h
    rw[yT] at h
    exact⟨_,h,fun τ' ha K' h'=>by simp only[AQv];rw[ha c (by simp[Op.operands]),hb,ha y (by simp[Op.operands])];simp only;rw[yT];exact h'⟩
  ·exact h.elim
 case load T x =>
  obtain⟨v,h1,h2⟩:=(cA T (ev N s x) s).use h
  exact⟨v,h1,fun τ' ha K' h'=>by simp only[AQv];rw[ha x (by simp[Op.operands])];exact h2 τ' K' h'⟩
 case binOp op T x y T' =>
  obtain⟨v,h1,h2⟩:=(iO T op (ev N s x) (ev N s y) s).use h
  exact⟨v,h1,fun τ' ha K' h'=>by simp only[AQv];rw[ha x (by simp[Op.operands]),ha y (by simp[Op.operands])];exact h2 τ' K' h'⟩
 case unOp op T x =>
  obtain⟨v,h1,h2⟩:=(o8 op (ev N s x) s).use h
  exact⟨v,h1,fun τ' ha K' h'=>by simp only[AQv];rw[ha x (by simp[Op.operands])];exact h2 τ' K' h'⟩
 case convert S T x =>
  obtain⟨v,h1,h2⟩:=(cB S T (ev N s x) s).use h
  exact⟨v,h1,fun τ' ha K' h'=>by simp only[AQv];rw[ha x (by simp[Op.operands])];exact h2 τ' K' h'⟩
 case slice T x lo hi mx =>
  obtain⟨v,h1,h2⟩:=(rK T (ev N s x) (lo.map (ev N s)) (hi.map (ev N s)) (mx.map (ev N s)) s).use h
  refine⟨v,h1,fun τ' ha K' h'=>?_⟩
  simp only[AQv]
  rw[ha x (by simp[Op.operands]),pB lo (fun y hy=>ha y (by subst hy;simp[Op.operands])),pB hi (fun y hy=>ha y (by subst hy;simp[Op.operands])),pB mx (fun y hy=>ha y (by subst hy;simp[Op.operands]))]
  exact h2 τ' K' h'
 case fieldAddr T x f =>
  obtain⟨v,h1,h2⟩:=(rL T f (ev N s x) s).use h
  exact⟨v,h1,fun τ' ha K' h'=>by simp only[AQv];rw[ha x (by simp[Op.operands])];exact h2 τ' K' h'⟩
 case field T x f =>
  obtain⟨v,h1,h2⟩:=(tZ T f (ev N s x) s).use h
  exact⟨v,h1,fun τ' ha K' h'=>by simp only[AQv];rw[ha x (by simp[Op.operands])];exact h2 τ' K' h'⟩
 case indexAddr T x i =>
  obtain⟨v,h1,h2⟩:=(hZ T (ev N s x) (ev N s i) s).use h
  exact⟨v,h1,fun τ' ha K' h'=>by simp only[AQv];rw[ha x (by simp[Op.operands]),ha i (by simp[Op.operands])];exact h2 τ' K' h'⟩
 case index T x i =>
  obtain⟨v,h1,h2⟩:=(iN T (ev N s x) (ev N s i) s).use h
  exact⟨v,h1,fun τ' ha K' h'=>by simp only[AQv];rw[ha x (by simp[Op.operands]),ha i (by simp[Op.operands])];exact h2 τ' K' h'⟩
 case lookup T x i ok =>
  obtain⟨v,h1,h2⟩:=(mT T (ev N s x) (ev N s i) ok s).use h
  exact⟨v,h1,fun τ' ha K' h'=>by simp only[AQv];rw[ha x (by simp[Op.operands]),ha i (by simp[Op.operands])];exact h2 τ' K' h'⟩
 case build T parts =>
  obtain⟨v,h1,h2⟩:=(rM T (parts.toList.map fun p=>(p.1,ev N s p.2)) s).use h
  exact⟨v,h1,fun τ' ha K' h'=>by simp only[AQv];rw[rC parts ha];exact h2 τ' K' h'⟩
 case buildSlice T len parts =>
  obtain⟨v,h1,h2⟩:=local_bs T len (parts.toList.map fun p=>(p.1,ev N s p.2)) s K h
  exact⟨v,h1,fun τ' ha K' h'=>by simp only[AQv];rw[rC parts ha];exact h2 τ' K' h'⟩
 case call c =>
  obtain⟨cal,args,argT⟩:=c
  have hargs:∀ τ',Alike N (.call ⟨cal,args,argT⟩) s τ'→evs N ⟨τ',s.H⟩ args=evs N s args:=fun τ' ha=>evs_alike args fun x hx=>ha x (by simp[Op.operands,Call.operands,hx])
  cases cal with
  |invoke r nm=>exact h.elim
  |builtin b =>
   simp only[kB] at h
   split at h
   ·rename_i T TT x hT hx
    obtain⟨v,h1,h2⟩:=(iM T x s).use h
    exact⟨v,h1,fun τ' ha K' h'=>by simp only[AQv,kB];rw[hargs τ' ha,hT,hx];exact h2 τ' K' h'⟩
   ·rename_i Ts k1 p k2 q hx
    exact⟨_,h,fun τ' ha K' h'=>by simp only[AQv,kB];rw[hargs τ' ha,hx];exact h'⟩
   ·rename_i Ts k1 p k2 q hx
    exact⟨_,h,fun τ' ha K' h'=>by simp only[AQv,kB];rw[hargs τ' ha,hx];exact h'⟩
   ·exact h.elim
  |value f =>
   simp only[kB] at h
   split at h
   ·rename_i g caps as1 hev has
    split at h
    ·rename_i cs hcs
     cases hB:(zT (evs N s args) || zT caps) with
     |true =>
      rw[hB] at h
      simp only[cond_true] at h
      obtain⟨r,h1,h2,h3⟩:=h
      obtain⟨v,hv1,hv2⟩:=nW h3
      refine⟨v,hv1,fun τ' ha K' h'=>?_⟩
      simp only[AQv,kB]
      rw[hargs τ' ha,ha f (by simp[Op.operands,Call.operands]),hev,fzs_H,has]
      simp only[cK,hcs,hB,cond_true]
      exact⟨r,h1,h2,hv2 K' h'⟩
     |false =>
      rw[hB] at h
      simp only[cond_false] at h
      obtain⟨r,h1,h3⟩:=h
      obtain⟨v,hv1,hv2⟩:=nW h3
      refine⟨v,hv1,fun τ' ha K' h'=>?_⟩
      simp only[AQv,kB]
      rw[hargs τ' ha,ha f (by simp[Op.operands,Call.operands]),hev,fzs_H,has]
      simp only[cK,hcs,hB,cond_false]
      exact⟨r,h1,hv2 K' h'⟩
    ·exact h.elim
   ·rename_i g caps hev has
    obtain⟨as1,cs,r,g1,g2,g3,g4,g5⟩:=h
    obtain⟨v,hv1,hv2⟩:=nW g5
    refine⟨v,hv1,fun τ' ha K' h'=>?_⟩
    simp only[AQv,kB]
    rw[hargs τ' ha,ha f (by simp[Op.operands,Call.operands]),hev,fzs_H,has]
    exact⟨as1,cs,r,FzL_H g1,by rw[cK];exact g2,g3,g4,hv2 K' h'⟩
   ·exact h.elim
end
end Ai
namespace Ai
open Go Go.RowKit
section
variable {E:Env} {N:Nat} {A:Fr} {w0 w w':World} {m m':Own} {s s':St} {a:Act} {dst:Option Tmp} {k:St→Prop}
theorem bs_by_value (h:SRel E N A w0 m s a w) (T:TypeId) (len:Nat) {parts:List (Nat × AV)} {vparts:Array (Nat × Value)} (hl:parts.length=vparts.size)
  (hp:∀ (q:Nat) (i:Nat) (x:AV),parts[q]?=some (i,x)→∃ v,vparts[q]?=some (i,v)∧VRel w (okB A s.H m w) m s.H x v) {K:AV→Prop}
  (ha:aBS E T len parts s K):∃ v w' x,(Instr.buildSlice T len vparts).run E.P w=.ok v w'∧Below w.heap.size w w'∧VRel w' (okB A s.H m w') m s.H x v∧K x:=by
 unfold aBS at ha
 split at ha
 ·rename_i ti hti
  have hd:=wX hti
  split at ha
  ·rename_i e he
   rw[he] at hd
   split at ha
   ·rename_i ei hei
    cases hb:(Nat.beq ei.sz 0 || Nat.blt 4096 (len*ei.sz)) with
    |true=>rw[hb] at ha;exact ha.elim
    |false =>
     rw[hb] at ha
     simp only[Bool.or_eq_false_iff] at hb
     have hnz:ei.sz≠0:=fun e=>by rw[e] at hb;exact absurd hb.1 (by simp[Nat.beq])
     have hbig:len*ei.sz≤4096:=by
      rcases Nat.lt_or_ge 4096 (len*ei.sz) with h1|h1
      ·have:Nat.blt 4096 (len*ei.sz)=true:=by simpa[Nat.blt_eq] using h1
       rw[this] at hb;exact absurd hb.2 (by simp)
      ·exact h1
     simp only[cond_false] at ha
     split at ha
     ·rename_i els hels
      split at ha
      ·rename_i xs hks
       obtain⟨z,hz,hzc⟩:=kX hei w
       have hs:=jE hei w
       have hzl:=(E.hΘ e ei hei).zlen
       have hzsz:z.cells.size=ei.sz:=by rw[hzc];simp[hzl]
       let us0:Array Value:=(Array.range (len*ei.sz)).map (z.cells[· % z.cells.size]!)
       have hus0:us0.size=len*ei.sz:=by simp[us0]
       have hz0:∀ (j:Nat) (c:List AV),(List.replicate len (ei.zero.map AV.d))[j]?=some c→c.length=ei.sz∧∀ (i:Nat) (q:AV),c[i]?=some q→∃ u,us0[j*ei.sz+i]?=some u∧VRel w (okB A s.H m w) m s.H q u:=by
        intro j c hj
        rw[List.getElem?_replicate] at hj
        split at hj
        ·rename_i hjn
         injection hj with hj;subst hj
         refine⟨by simp[hzl],fun i q hq=>?_⟩
         simp only[List.getElem?_map,Option.map_eq_some_iff] at hq
         obtain⟨d,hd',rfl⟩:=hq
         have hi:i<ei.sz:=by have:=(List.getElem?_eq_some_iff.1 hd').1;omega
         refine⟨rawD d,?_,.d _ _ (qS hei (List.mem_of_getElem? hd'))⟩
         have hlt:j*ei.sz+i<len*ei.sz:=by
          have:(j+1)*ei.sz≤len*ei.sz:=Nat.mul_le_mul_right _ hjn
          rw[Nat.add_mul,Nat.one_mul] at this;omega
         have hmod:(j*ei.sz+i) % z.cells.size=i:=by rw[hzsz,Nat.mul_comm,Nat.mul_add_mod];exact Nat.mod_eq_of_lt hi
         have hg:z.cells[i]?=some (rawD d):=by rw[hzc];simp[hd']
         have hi3:i<z.cells.size:=by omega
         simp only[us0,Array.getElem?_map,Array.getElem?_range,if_pos hlt,Option.map_some,hmod]
         congr 1
         rw[getElem!_pos z.cells i hi3]
         rw[Array.getElem?_eq_getElem hi3] at hg
         injection hg
        ·cases hj
       obtain⟨us',g1,g2,g3,g4⟩:=pL (w:=w) (m:=m) (ok:=okB A s.H m w) (H:=s.H) parts vparts.toList (List.replicate len (ei.zero.map .d)) els us0 (by simpa using hl) (fun q i x hq=>by simpa using hp q i x hq) (by simp[hus0]) hz0 hels
       have hrun:(Instr.buildSlice T len vparts).run E.P w=.ok (.slice (some ⟨w.heap.size,0,none⟩) len len) (w.alloc (.cells us' e)):=by
        have hne:¬ (len*ei.sz > 2 ^ 24):=by omega
        by_cases hl0:len*ei.sz=0
        ·have hus00:us0=(Array.range (len*ei.sz)).map ((#[]:Array Value)[· % (#[]:Array Value).size]!):=by
          simp only[us0,hl0];simp
         rw[hus00] at g1
         simp only[Instr.buildSlice,Sem.run_bind,run_underlying hd,Result.andThen_ok,hs,if_neg hne,if_pos hl0,Sem.run_pure,Sem.run_ite,g1,uA]
        ·simp only[Instr.buildSlice,Sem.run_bind,run_underlying hd,Result.andThen_ok,hs,if_neg hne,if_neg hl0,Sem.run_pure,Sem.run_ite,hz]
         rw[show Instr.fill (fun i=>some (i*ei.sz,ei.sz)) ((Array.range (len*ei.sz)).map (z.cells[· % z.cells.size]!)) vparts.toList=some us' from g1]
         simp only[Sem.run_bind,uA,Result.andThen_ok,Sem.run_pure]
       have hB:Below w.heap.size w (w.alloc (.cells us' e)):=(Below.refl _ w).alloc (Nat.le_refl _) _
       have hok:∀ b,okB A s.H m w b→okB A s.H m (w.alloc (.cells us' e)) b:=fun b hb=>⟨Nat.lt_of_lt_of_le hb.1 hB.size,hb.2⟩
       obtain⟨r1,r2⟩:=cM h (ok:=okB A s.H m w) (fun _ hb=>hb) els xs [] hks (by simp)
       have hxl:xs.length=len:=by rw[r1,g3];simp
       refine⟨_,_,_,hrun,hB,?_,ha⟩
       have hown:okB A s.H m (w.alloc (.cells us' e)) w.heap.size:=⟨by simp[World.alloc_eq],fun o ho p hp he=>by have:=xT h ho hp;omega,h.hAn _ (Nat.le_refl _)⟩
       have hcells:∀ (j:Nat) (c:List D),xs[j]?=some c→c.length=ei.sz∧∀ (i:Nat) (d:D),c[i]?=some d→∃ u,us'[j*ei.sz+i]?=some u∧RepD w (okB A s.H m w) d u:=fun j c hj=>by
        have hjl:j<els.length:=by have:=(List.getElem?_eq_some_iff.1 hj).1;omega
        obtain⟨q1,q2⟩:=r2 j els[j] c (List.getElem?_eq_getElem hjl) hj
        obtain⟨q3,q4⟩:=g4 j els[j] (List.getElem?_eq_getElem hjl)
        refine⟨by omega,fun i d hi=>?_⟩
        have hil:i<els[j].length:=by have:=(List.getElem?_eq_some_iff.1 hi).1;omega
        obtain⟨u,hu,hv⟩:=q4 i els[j][i] (List.getElem?_eq_getElem hil)
        exact⟨u,hu,q2 i _ d u (List.getElem?_eq_getElem hil) hi hv⟩
       have:=RepD.sl (w:=w.alloc (.cells us' e)) (ok:=okB A s.H m (w.alloc (.cells us' e))) xs ei.sz w.heap.size 0 len (fun q=>us'.getD q undef) hown (by omega) (fun j c hj=>⟨(hcells j c hj).1,fun i d hi=>by
         obtain⟨u,hu,_⟩:=(hcells j c hj).2 i d hi
         have hh:(w.alloc (.cells us' e)).heap[w.heap.size]?=some (.cells us' e (0,0)):=by show(w.heap.push _)[w.heap.size]?=_;exact Array.getElem?_push_size
         simp only[World.cell?,hh,Nat.zero_add,Array.getD_eq_getD_getElem?,hu,Option.getD_some];rfl⟩) (fun j c hj i d hi=>by
         obtain⟨u,hu,hr⟩:=(hcells j c hj).2 i d hi
         simp only[Array.getD_eq_getD_getElem?,hu,Option.getD_some]
         exact hr.mono fun b hb=>⟨hok b hb,hB.block b hb.1⟩)
       rw[hxl] at this
       exact .d _ _ this
      ·exact ha.elim
     ·exact ha.elim
   ·exact ha.elim
  ·exact ha.elim
 ·exact ha.elim
theorem Local.aop {G:Option Tmp→St→(St→Prop)→Prop} {s:St} (hl:Local G s) {dst:Option Tmp} {k:St→Prop} (h:G (some 0) s (uS fun v=>k (put dst v s))):G dst s k:=by
 obtain⟨v,hv,h2⟩:=hl _ h
 exact h2 dst s.τ k hv
theorem lH {dst:Option Tmp} {s:St} {k:St→Prop} {r:AV} (h:iC (fun v=>k (put dst v s)) r):aZ dst s k r:=by
 cases r <;> first|exact h|exact .inl h|exact h.elim
theorem AQ_sound (h:SRel E N A w0 m s a w) (o:Oper) (ha:AQ E N o.op o.dst s k):OSat E N A w0 o a w k:=by
 by_cases hb:∃ T len parts,o.op=.buildSlice T len parts
 ·obtain⟨T,len,parts,hop⟩:=hb
  unfold AQ at ha
  rw[hop] at ha
  simp only[AQv] at ha
  obtain⟨h1,h2⟩:=nX h parts
  obtain⟨v,w',x,hr,hB,hv,hk⟩:=bs_by_value h T len h1 h2 ha
  intro next Q hn
  simp only[Oper.wp,execOp,hop,Sem.run_bind,Sem.run_pure,hr,Result.andThen_ok,Oper.upon_value]
  exact hn m _ _ _ ((h.below' hB).put _ hv) hk
 ·refine wE h o ?_
  unfold AQ at ha
  generalize o.op=op at ha hb
  cases op <;> simp only[AQv] at ha <;> simp only[AOp] <;> try first|exact ha.elim|exact ha|exact Local.aop (cA _ _ s) ha|exact aBinN_of (Local.aop (iO _ _ _ _ s) ha)|exact Local.aop (o8 _ _ s) ha|exact Local.aop (cB _ _ _ s) ha|exact Local.aop (rK _ _ _ _ _ s) ha|exact Local.aop (rL _ _ _ s) ha|exact Local.aop (tZ _ _ _ s) ha|exact Local.aop (hZ _ _ _ s) ha|exact Local.aop (iN _ _ _ s) ha|exact Local.aop (rM _ _ s) ha
  case buildSlice T len parts=>exact absurd ⟨T,len,parts,rfl⟩ hb
  case lookup T x i ok=>exact Local.aop (mT _ _ _ _ s) ha
  case nilCheck x =>
   split at ha
   ·rename_i p q hb
    rw[hb];exact ha
   ·rename_i cs hb
    rw[hb];exact ha
   ·exact ha.elim
  case call c =>
   obtain⟨cal,args,argT⟩:=c
   cases cal with
   |invoke r nm=>exact ha.elim
   |builtin b =>
    simp only[kB] at ha
    simp only[fY]
    split at ha
    ·rename_i T TT x hT hx
     simp only[hT,hx]
     exact Local.aop (iM T x s) ha
    ·rename_i hx
     simp only[hx]
     exact ha
    ·rename_i hx
     simp only[hx]
     exact ha
    ·exact ha.elim
   |value f =>
    simp only[kB] at ha
    simp only[fY]
    split at ha
    ·rename_i g caps as1 hev has
     split at ha
     ·rename_i cs hcs
      simp only[hev,has,hcs]
      cases hB:(zT (evs N s args) || zT caps) with
      |true =>
       rw[hB] at ha
       simp only[cond_true] at ha ⊢
       obtain⟨r,h1,h2,h3⟩:=ha
       exact .inl ⟨_,h1,fun r' hr=>by subst hr;exact⟨h2,lH h3⟩⟩
      |false =>
       rw[hB] at ha
       simp only[cond_false] at ha ⊢
       obtain⟨r,h1,h3⟩:=ha
       exact⟨_,h1,fun r' hr=>by subst hr;exact lH h3⟩
     ·exact ha.elim
    ·rename_i g caps hev has
     obtain⟨as1,cs,r,g1,g2,g3,g4,g5⟩:=ha
     simp only[hev,has]
     exact .inl ⟨as1,cs,_,g1,g2,g3,fun r' hr=>by subst hr;exact⟨g4,lH g5⟩⟩
    ·exact ha.elim
theorem iD (dst:Option Tmp) (v:AV) (s:St):(put dst v s).H=s.H:=by cases dst <;> rfl
theorem put_mk (dst:Option Tmp) (v:AV) (s:St):put dst v s=⟨(put dst v s).τ,s.H⟩:=by cases dst <;> rfl
theorem j7 {s:St} {dst:Option Tmp} {v:AV} {x:Operand} (h:∀ d,dst=some d→x≠.tmp d):ev N (put dst v s) x=ev N s x:=by
 cases dst with
 |none=>rfl
 |some d =>
  cases x with
  |tmp t =>
   have hne:t≠d:=fun e=>h d rfl (by rw[e])
   simp only[ev,put,nbeq_ne hne,cond_false]
  |const v=>rfl
  |global v=>rfl
  |func v=>rfl
theorem St.put_comm (s:St) {x y:Option Tmp} (v u:AV) (h:∀ d,x=some d→y≠some d):put y u (put x v s)=put x v (put y u s):=by
 cases x with
 |none=>rfl
 |some d =>
  cases y with
  |none=>rfl
  |some e =>
   have hne:d≠e:=fun he=>h d rfl (he▸rfl)
   simp only[put]
   congr 1
   funext i
   by_cases h1:i=e
   ·subst h1;rw[nbeq_self,nbeq_ne (Ne.symm hne)];rfl
   ·rw[nbeq_ne h1];rfl
theorem dE {ops:Array Oper} (o:Oper) (s:St) (dst:Option Tmp) (v:AV) (h:∀ d,dst=some d→d ∉ o.looksAt ops):wants N ops o.guard (put dst v s)=wants N ops o.guard s:=by
 unfold wants
 cases hg:o.guard with
 |none=>rfl
 |some p =>
  obtain⟨j,want⟩:=p
  simp only
  cases hj:ops[j]? with
  |none=>rfl
  |some oj =>
   simp only
   cases ht:oj.dst with
   |none=>rfl
   |some t =>
    simp only
    rw[j7 fun d hd he=>by
     injection he with he
     subst he
     exact h _ hd (by simp[Oper.looksAt,hg,hj,ht])]
theorem oP {ops:Array Oper} (o:Oper) (s:St) (dst:Option Tmp) (v:AV) (h:∀ d,dst=some d→d ∉ o.looksAt ops):Alike N o.op s (put dst v s).τ:=by
 intro x hx
 rw[← put_mk]
 exact j7 fun d hd hxd=>h d hd (by
  subst hxd
  exact List.mem_append_left _ (List.mem_filterMap.2 ⟨.tmp d,by simpa using hx,rfl⟩))
def bW (E:Env) (N:Nat) (ops:Array Oper) (i:Nat) (K:St→Prop) (s:St):Prop :=
 match ops[i]? with
 |none=>K s
 |some o=>match wants N ops o.guard s with
  |some true=>AQ E N o.op o.dst s K
  |some false=>K (put o.dst xF s)
  |none=>False
def AAny (E:Env) (N:Nat) (ops:Array Oper) (Q:St→Prop):Nat→Array Bool→St→Prop
 | 0,listed,s=>Region.ready .any ops listed=[]∧Q s
 |fuel+1,listed,s=>(Region.ready .any ops listed=[]→Q s)∧∀ i∈Region.ready .any ops listed,bW E N ops i (AAny E N ops Q fuel (listed.setIfInBounds i true)) s
def YieldsA (E:Env) (N:Nat) (ops:Array Oper) (o:Oper) (v:AV) (s:St):Prop :=
 (wants N ops o.guard s=some true∧∀ τ',Alike N o.op s τ'→∀ K:AV→Prop,K v→AQv E N o.op ⟨τ',s.H⟩ K)∨(wants N ops o.guard s=some false∧v=xF)
variable {ops:Array Oper}
theorem YieldsA.op {i:Nat} {o:Oper} {v:AV} {s:St} (hi:ops[i]?=some o) (hy:YieldsA E N ops o v s) {K:St→Prop} (h:K (put o.dst v s)):bW E N ops i K s:=by
 unfold bW
 simp only[hi]
 rcases hy with ⟨hw,hv⟩|⟨hw,rfl⟩
 ·simp only[hw]
  exact hv s.τ (fun _ _=>rfl) _ h
 ·simp only[hw];exact h
theorem gW {i:Nat} {o:Oper} {s:St} {K:St→Prop} (hi:ops[i]?=some o) (h:bW E N ops i K s):∃ v,YieldsA E N ops o v s∧K (put o.dst v s):=by
 unfold bW at h
 simp only[hi] at h
 split at h
 ·rename_i hw
  obtain⟨v,h1,h2⟩:=AQv_local o.op s _ h
  exact⟨v,.inl ⟨hw,h2⟩,h1⟩
 ·rename_i hw
  exact⟨xF,.inr ⟨hw,rfl⟩,h⟩
 ·exact h.elim
theorem YieldsA.put {o oj:Oper} {v:AV} {s:St} (hy:YieldsA E N ops o v s) (h:∀ d,oj.dst=some d→d ∉ o.looksAt ops) (u:AV):YieldsA E N ops o v (Ai.put oj.dst u s):=by
 unfold YieldsA at *
 rw[dE o s oj.dst u h]
 refine hy.imp (fun ⟨h1,h2⟩=>⟨h1,fun τ' hal K hK=>?_⟩) id
 rw[iD]
 refine h2 τ' (fun x hx=>?_) K hK
 have h3:=hal x hx
 rw[iD] at h3
 rw[h3]
 have:=oP (N:=N) o s oj.dst u h x hx
 rwa [← put_mk] at this
theorem oO {i:Nat} {s:St} {K K':St→Prop} (h:∀ s,K s→K' s) (hh:bW E N ops i K s):bW E N ops i K' s:=by
 cases ho:ops[i]? with
 |none=>unfold bW at *;simp only[ho] at *;exact h _ hh
 |some o =>
  obtain⟨v,hy,hk⟩:=gW ho hh
  exact hy.op ho (h _ hk)
theorem aqOp_put {j:Nat} {oi oj:Oper} {v:AV} (hj:ops[j]?=some oj) (hap:oi.apart ops oj=true) {K:St→Prop} {s:St}
  (hy:YieldsA E N ops oi v s) (h:bW E N ops j K (put oi.dst v s)):bW E N ops j (fun s'=>YieldsA E N ops oi v s'∧K (put oi.dst v s')) s:=by
 obtain⟨h1,h2,h3⟩:=Oper.apart_spec hap
 obtain⟨u,hu,hk⟩:=gW hj h
 have hu':YieldsA E N ops oj u s:=by
  unfold YieldsA at *
  rw[dE oj s oi.dst v h1] at hu
  refine hu.imp (fun ⟨g1,g2⟩=>⟨g1,fun τ' hal K hK=>?_⟩) id
  rw[iD] at g2
  refine g2 τ' (fun x hx=>?_) K hK
  have h3:=hal x hx
  rw[iD,h3]
  have:=oP (N:=N) oj s oi.dst v h1 x hx
  rw[← put_mk] at this
  exact this.symm
 exact hu'.op hj ⟨hy.put h3 u,by rw[← St.put_comm s v u h2];exact hk⟩
theorem AAny_first {Q:St→Prop} {i:Nat} {oi:Oper} {v:AV} (hi:ops[i]?=some oi) :
  ∀ (fuel:Nat) (listed:Array Bool) (s:St),
   (∀ j oj,ops[j]?=some oj→j≠i→listed.getD j true=false→(∀ e∈oj.after,Region.binds .any e=true→e.on≠i)→oi.apart ops oj=true) →
   i∈Region.ready .any ops listed→YieldsA E N ops oi v s →
   AAny E N ops Q fuel (listed.setIfInBounds i true) (put oi.dst v s)→AAny E N ops Q (fuel+1) listed s:=by
 intro fuel
 induction fuel with
 |zero =>
  intro listed a _ hr hy H
  refine⟨fun h=>(by rw[h] at hr;cases hr),fun j hj=>?_⟩
  by_cases hji:j=i
  ·subst hji;exact hy.op hi H
  ·have:=ready_mono hj hji
   rw[H.1] at this
   cases this
 |succ fuel ih =>
  intro listed a hfree hr hy H
  refine⟨fun h=>(by rw[h] at hr;cases hr),fun j hj=>?_⟩
  by_cases hji:j=i
  ·subst hji;exact hy.op hi H
  ·have h1:=H.2 j (ready_mono hj hji)
   obtain⟨hjun,oj,hoj,hall⟩:=mem_ready.1 hj
   have hnot:∀ e∈oj.after,Region.binds .any e=true→e.on≠i:=fun e he hb heq=>by
    have h1:=hall e he hb
    have h0:=(mem_ready.1 hr).1
    rw[heq] at h1
    rcases Nat.lt_or_ge i listed.size with h'|h'
    ·simp[h'] at h0 h1;rw[h0] at h1;cases h1
    ·simp[Array.getElem?_eq_none h'] at h1
   have h2:=aqOp_put hoj (hfree j oj hoj hji hjun hnot) hy h1
   have hfree':∀ k ok,ops[k]?=some ok→k≠i→(listed.setIfInBounds j true).getD k true=false →
     (∀ e∈ok.after,Region.binds .any e=true→e.on≠i)→oi.apart ops ok=true:=fun k ok hk hki hun hno=>by
    refine hfree k ok hk hki ?_ hno
    by_cases hjk:j=k
    ·subst hjk;exact hjun
    ·rw[getD_set_ne true hjk] at hun;exact hun
   refine oO (fun a' h3=>ih (listed.setIfInBounds j true) a' hfree' (ready_mono hr (Ne.symm hji)) h3.1 ?_) h2
   rw[Array.setIfInBounds_comm _ _ hji]
   exact h3.2
theorem AAny_lex {Q:St→Prop}:∀ (l:List Oper) (k:Nat) (listed:Array Bool) (s:St),(∀ j,l[j]?=ops[k+j]?) →
  Region.lexFrom .any ops l.length k listed=true→AQs E N ops l Q s→AAny E N ops Q l.length listed s
 | [],_,_,_,_,hB,h=>⟨by simpa[Region.lexFrom] using hB,h⟩
 |o::l,k,listed,s,hl,hB,h=>by
  have h0:ops[k]?=some o:=by simpa using (hl 0).symm
  simp only[List.length_cons,Region.lexFrom,Bool.and_eq_true] at hB
  obtain⟨⟨hr,hf⟩,hB'⟩:=hB
  have hst:bW E N ops k (AQs E N ops l Q) s:=by unfold bW;simp only[h0];exact h
  obtain⟨v,hy,hK⟩:=gW h0 hst
  exact AAny_first h0 l.length listed s (Region.free_spec h0 hf) (by simpa using hr) hy
   (AAny_lex l (k+1) _ _ (fun j=>by have:=hl (j+1);simpa[Nat.add_assoc,Nat.add_comm 1 j] using this) hB' hK)
theorem qN {Q:AX→St→Prop}:∀ (fuel:Nat) (listed:Array Bool) (m:Own) (s:St) (a:Act) (w:World),SRel E N A w0 m s a w →
  AAny E N ops (Q .normal) fuel listed s→wpAny E.P .any ops (wZ E N A w0 Q) fuel listed a w
 | 0,_,m,s,_,_,h,ha=>⟨ha.1,m,s,h,ha.2⟩
 |fuel+1,listed,m,s,a,w,h,ha=>by
  refine⟨fun h0=>⟨m,s,h,ha.1 h0⟩,fun i hi=>?_⟩
  have h1:=ha.2 i hi
  unfold bW at h1
  unfold wpOp
  cases ho:ops[i]? with
  |none=>simp only[ho] at h1 ⊢;exact qN fuel _ m s a w h h1
  |some o =>
   simp only[ho] at h1 ⊢
   split at h1
   ·rename_i hw
    rw[if_pos (yU h ops o hw)]
    exact .inl (AQ_sound h o h1 _ _ fun m' s' a' w' hS hk=>qN fuel _ m' s' a' w' hS hk)
   ·rename_i hw
    rw[if_neg (by rw[yU h ops o hw];simp)]
    exact qN fuel _ m _ _ w (h.put o.dst xC) h1
   ·exact h1.elim
def DownC (ops:Array Oper) (listed:Array Bool):Prop:=∀ j o,ops[j]?=some o→listed.getD j false=true→∀ e∈o.after,Region.binds .any e=true→listed.getD e.on false=true
theorem fF {listed:Array Bool} {j:Nat} (h:j<listed.size):listed.getD j true=listed.getD j false:=by simp[h]
theorem cJ {listed:Array Bool} {i j:Nat} (h:(listed.setIfInBounds i true).getD j false=true):i=j∨listed.getD j false=true:=by
 by_cases hij:i=j
 ·exact .inl hij
 ·rw[getD_set_ne false hij] at h;exact .inr h
theorem DownC.step {listed:Array Bool} {j:Nat} (h:DownC ops listed) (hj:j∈Region.ready .any ops listed):DownC ops (listed.setIfInBounds j true):=by
 intro k o ho hk e he hb
 obtain⟨_,oj,hoj,hall⟩:=mem_ready.1 hj
 rcases cJ hk with rfl|hk
 ·rw[hoj] at ho;injection ho with ho;subst ho
  exact getD_set_true (hall e he hb)
 ·exact getD_set_true (h k o ho hk e he hb)
theorem bX {i:Nat}:∀ (f j:Nat) {listed:Array Bool},DownC ops listed→bY ops i f j=true→(∀ o,ops[j]?=some o→∀ e∈o.after,Region.binds .any e=true→listed.getD e.on false=true)→listed.getD i false=true
 | 0,_,_,_,h,_=>by cases h
 |f+1,j,listed,hd,h,hl=>by
  simp only[bY] at h
  cases ho:ops[j]? with
  |none=>rw[ho] at h;cases h
  |some o =>
   rw[ho] at h
   simp only at h
   obtain⟨e,he,hb⟩:=Array.any_eq_true'.1 h
   simp only[Bool.and_eq_true,Bool.or_eq_true,beq_iff_eq] at hb
   have h1:=hl o ho e he hb.1
   rcases hb.2 with h2|h2
   ·rw[← h2];exact h1
   ·exact bX f e.on hd h2 fun o' ho' e' he' hb'=>hd e.on o' ho' h1 e' he' hb'
def AAnyP (E:Env) (N:Nat) (ops:Array Oper) (p:Nat) (K:Array Bool→St→Prop):Nat→Array Bool→St→Prop
 | 0,listed,s=>K listed s
 |fuel+1,listed,s=>Region.ready .any ops listed≠[]∧∀ i∈Region.ready .any ops listed,i<p∧bW E N ops i (AAnyP E N ops p K fuel (listed.setIfInBounds i true)) s
theorem kM (n:Nat):∀ k,(fK n k).size=n
 | 0=>by simp[fK]
 |k+1=>by simp[fK,kM n k]
theorem fJ (n:Nat):∀ k j,(fK n k).getD j false=decide (j<k∧j<n)
 | 0,j=>by
  simp only[fK]
  by_cases hj:j<n <;> simp[hj]
 |k+1,j=>by
  simp only[fK]
  by_cases hkj:k=j
  ·subst hkj
   by_cases hn:k<n
   ·have:k<(fK n k).size:=by rw[kM];exact hn
    simp[this,hn]
   ·have:¬ k<(fK n k).size:=by rw[kM];exact hn
    simp[this,hn]
  ·rw[getD_set_ne false hkj,fJ n k j]
   congr 1
   apply propext
   constructor
   ·rintro⟨h1,h2⟩;exact⟨by omega,h2⟩
   ·rintro⟨h1,h2⟩;exact⟨by omega,h2⟩
theorem AAnyP_first {p:Nat} {K:Array Bool→St→Prop} {i:Nat} {oi:Oper} {v:AV} (hi:ops[i]?=some oi) (hip:i<p) (hK:∀ listed s,K listed s→listed=fK ops.size p)
  (hanc:∀ k,p≤k→k<ops.size→∀ i,i<p→bY ops i ops.size k=true) :
  ∀ (fuel:Nat) (listed:Array Bool) (s:St),listed.size=ops.size→DownC ops listed →
   (∀ j oj,ops[j]?=some oj→j≠i→listed.getD j true=false→(∀ e∈oj.after,Region.binds .any e=true→e.on≠i)→oi.apart ops oj=true) →
   i∈Region.ready .any ops listed→YieldsA E N ops oi v s →
   AAnyP E N ops p K fuel (listed.setIfInBounds i true) (put oi.dst v s)→AAnyP E N ops p K (fuel+1) listed s:=by
 intro fuel
 have hno:∀ (listed:Array Bool),listed.size=ops.size→DownC ops listed→i∈Region.ready .any ops listed→∀ j∈Region.ready .any ops listed,j<p:=by
  intro listed hsz hd hr j hj
  rcases Nat.lt_or_ge j p with h|h
  ·exact h
  ·obtain⟨_,oj,hoj,hall⟩:=mem_ready.1 hj
   have h1:=bX ops.size j hd (hanc j h (Array.getElem?_eq_some_iff.1 hoj).1 i hip) (fun o ho e he hb=>by rw[hoj] at ho;injection ho with ho;subst ho;exact hall e he hb)
   have h0:=(mem_ready.1 hr).1
   rw[fF (by rw[hsz];exact(Array.getElem?_eq_some_iff.1 hi).1),h1] at h0
   cases h0
 induction fuel with
 |zero =>
  intro listed a hsz hd _ hr hy H
  refine⟨fun h=>(by rw[h] at hr;cases hr),fun j hj=>⟨hno listed hsz hd hr j hj,?_⟩⟩
  by_cases hji:j=i
  ·subst hji;exact hy.op hi H
  ·have h1:=hK _ _ H
   have hjp:=hno listed hsz hd hr j hj
   obtain⟨hjun,oj,hoj,_⟩:=mem_ready.1 hj
   have hjs:=(Array.getElem?_eq_some_iff.1 hoj).1
   have h2:(listed.setIfInBounds i true).getD j false=true:=by rw[h1,fJ];simp[hjp,hjs]
   rcases cJ h2 with h3|h3
   ·exact absurd h3.symm hji
   ·rw[fF (by omega),h3] at hjun;cases hjun
 |succ fuel ih =>
  intro listed a hsz hd hfree hr hy H
  refine⟨fun h=>(by rw[h] at hr;cases hr),fun j hj=>⟨hno listed hsz hd hr j hj,?_⟩⟩
  by_cases hji:j=i
  ·subst hji;exact hy.op hi H
  ·have h1:=(H.2 j (ready_mono hj hji)).2
   obtain⟨hjun,oj,hoj,hall⟩:=mem_ready.1 hj
   have hnot:∀ e∈oj.after,Region.binds .any e=true→e.on≠i:=fun e he hb heq=>by
    have h1:=hall e he hb
    have h0:=(mem_ready.1 hr).1
    rw[heq] at h1
    rcases Nat.lt_or_ge i listed.size with h'|h'
    ·simp[h'] at h0 h1;rw[h0] at h1;cases h1
    ·simp[Array.getElem?_eq_none h'] at h1
   have h2:=aqOp_put hoj (hfree j oj hoj hji hjun hnot) hy h1
   have hfree':∀ k ok,ops[k]?=some ok→k≠i→(listed.setIfInBounds j true).getD k true=false →
     (∀ e∈ok.after,Region.binds .any e=true→e.on≠i)→oi.apart ops ok=true:=fun k ok hk hki hun hno=>by
    refine hfree k ok hk hki ?_ hno
    by_cases hjk:j=k
    ·subst hjk;exact hjun
    ·rw[getD_set_ne true hjk] at hun;exact hun
   refine oO (fun a' h3=>ih (listed.setIfInBounds j true) a' (by simpa using hsz) (hd.step hj) hfree' (ready_mono hr (Ne.symm hji)) h3.1 ?_) h2
   rw[Array.setIfInBounds_comm _ _ hji]
   exact h3.2
theorem aQ {k:Nat} (h:∀ j,j<k→j∈Region.ready .any ops (fK ops.size j)):DownC ops (fK ops.size k):=by
 induction k with
 |zero =>
  intro j o ho hj
  rw[fJ] at hj
  simp at hj
 |succ k ih=>exact(ih fun j hj=>h j (by omega)).step (h k (by omega))
theorem oU {p:Nat} {K:St→Prop} (hp:p≤ops.size) (hr:∀ k,k<ops.size→k∈Region.ready .any ops (fK ops.size k)) (hf:∀ k,k<p→Region.free .any ops (fK ops.size k) k=true)
  (hanc:∀ k,p≤k→k<ops.size→∀ i,i<p→bY ops i ops.size k=true) :
  ∀ (l:List Oper) (k:Nat) (s:St),(∀ j,l[j]?=if k+j<p then ops[k+j]? else none)→k+l.length=p →
  AQs E N ops l K s→AAnyP E N ops p (fun listed s=>listed=fK ops.size p∧K s) l.length (fK ops.size k) s
 | [],k,s,_,hk,h=>by
  simp at hk
  subst hk
  exact⟨rfl,h⟩
 |o::l,k,s,hl,hk,h=>by
  have hkp:k<p:=by simp at hk;omega
  have h0:ops[k]?=some o:=by have:=hl 0;simp[hkp] at this;exact this.symm
  have hst:bW E N ops k (AQs E N ops l K) s:=by unfold bW;simp only[h0];exact h
  obtain⟨v,hy,hKv⟩:=gW h0 hst
  refine AAnyP_first h0 hkp (fun _ _ h=>h.1) hanc l.length (fK ops.size k) s (kM _ _) (aQ fun j hj=>hr j (by omega)) (Region.free_spec h0 (hf k hkp)) (hr k (by omega)) hy ?_
  exact oU hp hr hf hanc l (k+1) _ (fun j=>by have:=hl (j+1);simpa[Nat.add_assoc,Nat.add_comm 1 j] using this) (by simp at hk;omega) hKv
theorem put_comm {t1 t2:Tmp} {v1 v2:AV} {s:St} (h:t1≠t2):put (some t1) v1 (put (some t2) v2 s)=put (some t2) v2 (put (some t1) v1 s):=by
 unfold put
 simp only
 congr 1
 funext i
 by_cases h1:i=t1
 ·subst h1;simp[nbeq_ne h,nbeq_self]
 ·simp[nbeq_ne h1]
theorem oE {t x:Tmp} {v:AV} {s:St} (h:x≠t):ev N (put (some t) v s) (.tmp x)=ev N s (.tmp x):=by
 simp only[ev,put,nbeq_ne h,cond_false]
theorem pair_spec {k:Nat} (h:s8 ops k=true):∃ (t1 x1 i1 t2 x2 i2:Nat) (o1 o2:Oper),ops[k]?=some o1∧ops[k+1]?=some o2∧o1.dst=some t1∧o1.op=.extract (.tmp x1) i1∧o1.guard=none∧o2.dst=some t2∧o2.op=.extract (.tmp x2) i2∧o2.guard=none ∧
  t1≠t2∧x1≠t2∧x2≠t1∧Region.ready .any ops (fK ops.size k)=[k,k+1]∧Region.ready .any ops ((fK ops.size k).setIfInBounds (k+1) true)=[k]:=by
 unfold s8 at h
 split at h
 ·rename_i t1 x1 i1 _ _ _ t2 x2 i2 _ _ _ h1 h2
  simp only[Bool.and_eq_true,bne_iff_ne,beq_iff_eq] at h
  obtain⟨⟨⟨⟨a1,a2⟩,a3⟩,a4⟩,a5⟩:=h
  exact⟨_,_,_,_,_,_,_,_,h1,h2,rfl,rfl,rfl,rfl,rfl,rfl,a1,a2,a3,a4,a5⟩
 ·cases h
theorem sC {o:Oper} {x i:Nat} {K:St→Prop} (h:o.op=.extract (.tmp x) i) (ha:AOp E N o.op o.dst s K):∃ vs v,ev N s (.tmp x)=.tup vs∧vs[i]?=some v∧K (put o.dst v s):=by
 rw[h] at ha
 simp only[AOp] at ha
 split at ha
 ·rename_i vs hv
  split at ha
  ·rename_i v hv2
   rw[yT] at ha
   exact⟨vs,v,hv,hv2,ha⟩
  ·exact ha.elim
 ·exact ha.elim
theorem nO {o:Oper} {x i:Nat} {K:St→Prop} {vs:List AV} {v:AV} (h:o.op=.extract (.tmp x) i) (h1:ev N s (.tmp x)=.tup vs) (h2:vs[i]?=some v) (ha:K (put o.dst v s)):AOp E N o.op o.dst s K:=by
 rw[h]
 simp only[AOp,h1,h2,yT]
 exact ha
theorem uQ {Q:AX→St→Prop} (hr:∀ k,k<ops.size→k∈Region.ready .any ops (fK ops.size k)) {p:Nat} (h1:∀ k,p≤k→k<ops.size→Region.ready .any ops (fK ops.size k)=[k]∨s8 ops k=true) :
  ∀ (l:List Oper) (k:Nat) {m:Own} {s:St} {a:Act} {w:World},(∀ j,l[j]?=ops[k+j]?)→p≤k→k+l.length=ops.size→SRel E N A w0 m s a w→dW E N ops l Q s →
  wpAny E.P .any ops (wZ E N A w0 Q) l.length (fK ops.size k) a w
 | [],k,m,s,a,w,hl,hpk,hk,h,ha=>by
  refine⟨?_,m,s,h,ha⟩
  apply List.eq_nil_iff_forall_not_mem.2
  intro j hj
  obtain⟨h0,oj,hoj,_⟩:=mem_ready.1 hj
  have hjs:=(Array.getElem?_eq_some_iff.1 hoj).1
  rw[fF (by rw[kM];exact hjs),fJ] at h0
  simp at hk
  simp at h0
  omega
 |o::l,k,m,s,a,w,hl,hpk,hk,h,ha=>by
  have hks:k<ops.size:=by simp at hk;omega
  have h0:ops[k]?=some o:=by simpa using (hl 0).symm
  have ha2:(match wants N ops o.guard s with
   |some true=>AOpI E N o.op o.dst s (dW E N ops l Q)
   |some false=>dW E N ops l Q (put o.dst xF s)
   |none=>False):=ha
  have hl':∀ j,l[j]?=ops[k+1+j]?:=fun j=>by have:=hl (j+1);simpa[Nat.add_assoc,Nat.add_comm 1 j] using this
  have first:wpOp E.P ops (wZ E N A w0 Q) k (wpAny E.P .any ops (wZ E N A w0 Q) l.length ((fK ops.size k).setIfInBounds k true)) a w:=by
   unfold wpOp
   simp only[h0]
   split at ha2
   ·rename_i hw
    rw[if_pos (yU h ops o hw)]
    exact .inl (aS h o ha2 _ _ fun m' s' a' w' hS hk'=>uQ hr h1 l (k+1) hl' (by omega) (by simp at hk;omega) hS hk')
   ·rename_i hw
    rw[if_neg (by rw[yU h ops o hw];simp)]
    exact uQ hr h1 l (k+1) hl' (by omega) (by simp at hk;omega) (h.put o.dst xC) ha2
   ·exact ha2.elim
  rcases h1 k hpk hks with h1k|h1k
  ·refine⟨fun e=>(by rw[h1k] at e;cases e),fun i hi=>?_⟩
   rw[h1k] at hi
   have:i=k:=by simpa using hi
   subst this
   exact first
  ·obtain⟨t1,x1,i1,t2,x2,i2,o1,o2,e1,e2,d1,p1,g1,d2,p2,g2,n1,n2,n3,r1,r2⟩:=pair_spec h1k
   rw[h0] at e1
   simp only[Option.some.injEq] at e1
   subst e1
   refine⟨fun e=>(by rw[r1] at e;cases e),fun i hi=>?_⟩
   rw[r1] at hi
   simp only[List.mem_cons,List.not_mem_nil,or_false] at hi
   rcases hi with rfl|rfl
   ·exact first
   ·match l,hl',hk,ha2 with
    | [],hl',hk,ha2 =>
     have:=hl' 0
     simp[e2] at this
    |o2'::l2,hl',hk,ha2 =>
     have e3:o2'=o2:=by
      have:=hl' 0
      simp only[List.getElem?_cons_zero,Nat.add_zero,e2,Option.some.injEq] at this
      exact this
     subst e3
     have hw1:wants N ops o.guard s=some true:=by rw[g1];rfl
     rw[hw1] at ha2
     simp only at ha2
     obtain⟨vs1,v1,q1,q2,ha3⟩:=sC p1 (nP p1 ha2)
     have ha4:(match wants N ops o2'.guard (put o.dst v1 s) with
      |some true=>AOpI E N o2'.op o2'.dst (put o.dst v1 s) (dW E N ops l2 Q)
      |some false=>dW E N ops l2 Q (put o2'.dst xF (put o.dst v1 s))
      |none=>False):=ha3
     rw[show wants N ops o2'.guard (put o.dst v1 s)=some true by rw[g2];rfl] at ha4
     simp only at ha4
     obtain⟨vs2,v2,q3,q4,ha5⟩:=sC p2 (nP p2 ha4)
     rw[d1,oE n3] at q3
     rw[d1,d2,← put_comm n1] at ha5
     have hl2:∀ j,l2[j]?=ops[k+2+j]?:=fun j=>by
      have:=hl' (j+1)
      rw[show k+1+(j+1)=k+2+j from by omega] at this
      simpa using this
     unfold wpOp
     simp only[e2]
     rw[if_pos (yU h ops o2' (by rw[g2];rfl))]
     refine .inl (wE h o2' (nO (K:=fun s'=>s'=put (some t2) v2 s) p2 q3 q4 (by rw[d2])) _ _ fun m' s' a' w' hS hk'=>?_)
     subst hk'
     refine⟨fun e=>(by rw[r2] at e;cases e),fun i hi=>?_⟩
     rw[r2] at hi
     have:i=k:=by simpa using hi
     subst this
     unfold wpOp
     simp only[h0]
     rw[if_pos (yU hS ops o (by rw[g1];rfl))]
     refine .inl (wE hS o (nO (K:=dW E N ops l2 Q) p1 (by rw[oE n2];exact q1) q2 (by rw[d1];exact ha5)) _ _ fun m2 s2 a2 w2 hS2 hk2=>?_)
     have:=uQ hr h1 l2 (i+2) hl2 (by omega) (by simp at hk;omega) hS2 hk2
     have ef:((fK ops.size i).setIfInBounds (i+1) true).setIfInBounds i true=fK ops.size (i+2):=by
      show _=((fK ops.size i).setIfInBounds i true).setIfInBounds (i+1) true
      rw[Array.setIfInBounds_comm _ _ (by omega)]
     rw[ef]
     exact this
termination_by l=>l.length
theorem uR {Q:AX→St→Prop} {p:Nat} {K:Array Bool→St→Prop} (g:Nat) (hK:∀ listed m s a w,SRel E N A w0 m s a w→K listed s→wpAny E.P .any ops (wZ E N A w0 Q) g listed a w) :
  ∀ (fuel:Nat) (listed:Array Bool) (m:Own) (s:St) (a:Act) (w:World),SRel E N A w0 m s a w →
  AAnyP E N ops p K fuel listed s→wpAny E.P .any ops (wZ E N A w0 Q) (fuel+g) listed a w
 | 0,listed,m,s,a,w,h,ha=>by rw[Nat.zero_add];exact hK listed m s a w h ha
 |fuel+1,listed,m,s,a,w,h,ha=>by
  rw[show fuel+1+g=(fuel+g)+1 from by omega]
  refine⟨fun h0=>absurd h0 ha.1,fun i hi=>?_⟩
  have h1:=(ha.2 i hi).2
  unfold bW at h1
  unfold wpOp
  cases ho:ops[i]? with
  |none=>simp only[ho] at h1 ⊢;exact uR g hK fuel _ m s a w h h1
  |some o =>
   simp only[ho] at h1 ⊢
   split at h1
   ·rename_i hw
    rw[if_pos (yU h ops o hw)]
    exact .inl (AQ_sound h o h1 _ _ fun m' s' a' w' hS hk=>uR g hK fuel _ m' s' a' w' hS hk)
   ·rename_i hw
    rw[if_neg (by rw[yU h ops o hw];simp)]
    exact uR g hK fuel _ m _ _ w (h.put o.dst xC) h1
   ·exact h1.elim
theorem eL {Q:AX→St→Prop} {I:(Nat→Bool)→St→Prop}
  (hstep:∀ (i:Nat) (o:Oper),ops[i]?=some o→∀ (L:Nat→Bool) (s:St),L i=false→(∀ e∈o.after,Region.binds .any e=true→L e.on=true)→I L s→aDo E N ops o s (I (fun j=>L j || j==i)))
  (hend:∀ L s,(∀ i,i<ops.size→L i=true)→I L s→Q .normal s)
  (hacyc:∀ listed:Array Bool,listed.size=ops.size→Region.ready .any ops listed=[]→∀ i,i<ops.size→listed.getD i false=true) :
  ∀ (fuel:Nat) (listed:Array Bool) (m:Own) (s:St) (a:Act) (w:World),listed.size=ops.size→(∃ l:List Nat,l.length=fuel∧∀ i,i<ops.size→listed.getD i false=false→i∈l)→SRel E N A w0 m s a w →
  I (fun i=>listed.getD i false) s→wpAny E.P .any ops (wZ E N A w0 Q) fuel listed a w
 | 0,listed,m,s,a,w,hsz,⟨l,hl,hm⟩,h,hI=>by
  have hlnil:l=[]:=List.eq_nil_of_length_eq_zero hl
  subst hlnil
  have hall:∀ i,i<ops.size→listed.getD i false=true:=fun i hi=>by
   cases hq:listed.getD i false with
   |true=>rfl
   |false=>exact absurd (hm i hi hq) (by simp)
  refine⟨?_,m,s,h,hend _ s hall hI⟩
  apply List.eq_nil_iff_forall_not_mem.2
  intro j hj
  obtain⟨h0,oj,hoj,_⟩:=mem_ready.1 hj
  have hjs:=(Array.getElem?_eq_some_iff.1 hoj).1
  rw[fF (by omega),hall j hjs] at h0
  cases h0
 |fuel+1,listed,m,s,a,w,hsz,⟨l,hl,hm⟩,h,hI=>by
  refine⟨fun h0=>⟨m,s,h,hend _ s (hacyc listed hsz h0) hI⟩,fun i hi=>?_⟩
  obtain⟨h0,oi,hoi,hall⟩:=mem_ready.1 hi
  have his:=(Array.getElem?_eq_some_iff.1 hoi).1
  rw[fF (by omega)] at h0
  have hst:=hstep i oi hoi (fun i=>listed.getD i false) s h0 hall hI
  have heq:(fun j=>(fun i=>listed.getD i false) j || j==i)=fun j=>(listed.setIfInBounds i true).getD j false:=by
   funext j
   by_cases hij:i=j
   ·subst hij
    have:i<listed.size:=by omega
    simp[this]
   ·rw[getD_set_ne false hij]
    simp[Ne.symm hij]
  rw[heq] at hst
  have hnext:∀ m' s' a' w',SRel E N A w0 m' s' a' w'→I (fun j=>(listed.setIfInBounds i true).getD j false) s'→wpAny E.P .any ops (wZ E N A w0 Q) fuel (listed.setIfInBounds i true) a' w':=by
   intro m' s' a' w' hS hk
   refine eL hstep hend hacyc fuel _ m' s' a' w' (by simpa using hsz) ⟨l.erase i,?_,fun j hj hq=>?_⟩ hS hk
   ·have:=List.length_erase_of_mem (hm i his h0)
    omega
   ·have hji:j≠i:=fun e=>by
     subst e
     have:j<listed.size:=by omega
     simp[this] at hq
    have:listed.getD j false=false:=by rw[getD_set_ne false (Ne.symm hji)] at hq;exact hq
    exact(List.mem_erase_of_ne hji).2 (hm j hj this)
  unfold wpOp
  simp only[hoi]
  unfold aDo at hst
  split at hst
  ·rename_i hw
   rw[if_pos (yU h ops oi hw)]
   exact .inl (wE h oi hst _ _ hnext)
  ·rename_i hw
   rw[if_neg (by rw[yU h ops oi hw];simp)]
   exact hnext m _ _ w (h.put oi.dst xC) hst
  ·exact hst.elim
theorem acyclic (hr:∀ k,k<ops.size→k∈Region.ready .any ops (fK ops.size k)) (listed:Array Bool) (hsz:listed.size=ops.size) (h0:Region.ready .any ops listed=[]):∀ i,i<ops.size→listed.getD i false=true:=by
 intro i
 induction i using Nat.strongRecOn with
 | _ i ih =>
  intro hi
  cases hq:listed.getD i false with
  |true=>rfl
  |false =>
   obtain⟨_,oi,hoi,hall⟩:=mem_ready.1 (hr i hi)
   have:i∈Region.ready .any ops listed:=mem_ready.2 ⟨by rw[fF (by omega)];exact hq,oi,hoi,fun e he hb=>by
    have h1:=hall e he hb
    rw[fJ] at h1
    simp at h1
    exact ih e.on h1.1 h1.2⟩
   rw[h0] at this
   cases this
theorem m3 (ops:Array Oper) (Q:AX→St→Prop) {id:Nat} (h:SRel E N A w0 m s a w) (hES:aV E N ops Q s→(Code.region id ops true).wp E.P (wZ E N A w0 Q) a w) (hFS:∀ is,m5 E N Q s is ops→(Code.region id ops true).wp E.P (wZ E N A w0 Q) a w) (ha:ADraw E N ops Q s):(Code.region id ops true).wp E.P (wZ E N A w0 Q) a w:=by
 unfold ADraw at ha
 cases hld:w7 ops.toList with
 |false =>
  rw[hld] at ha
  obtain⟨hB,hq⟩:=ha
  simp only[Region.lexB,Bool.and_eq_true] at hB
  refine wp_region_any E.hm (qN _ _ m s a _ h.drew ?_)
  have:=AAny_lex (E:=E) (N:=N) (Q:=Q .normal) ops.toList 0 (Array.replicate ops.size false) s (by simp) (by simpa using hB.2) hq
  simpa using this
 |true =>
  rw[hld] at ha
  simp only[cond_true] at ha
  rcases ha with ⟨p,hB,hq⟩|hE|⟨I,hI,hstep,hend,hacyc,_⟩|⟨is,hF⟩
  ·simp only[lexX,Bool.and_eq_true,List.all_eq_true,List.mem_range] at hB
   obtain⟨hp,hB⟩:=hB
   have hp:p≤ops.size:=Nat.le_of_ble_eq_true hp
   have hr:∀ k,k<ops.size→k∈Region.ready .any ops (fK ops.size k):=by
    intro k hk
    have:=hB k hk
    split at this
    ·simp only[Bool.and_eq_true] at this;simpa using this.1
    ·simp only[Bool.and_eq_true,beq_iff_eq] at this;rw[this.1];simp
   have hf:∀ k,k<p→Region.free .any ops (fK ops.size k) k=true:=by
    intro k hk
    have:=hB k (by omega)
    rw[if_pos hk] at this
    simp only[Bool.and_eq_true] at this
    exact this.2
   have h1:∀ k,p≤k→k<ops.size→Region.ready .any ops (fK ops.size k)=[k]∧∀ i,i<p→bY ops i ops.size k=true:=by
    intro k hk hks
    have:=hB k hks
    rw[if_neg (by omega)] at this
    simp only[Bool.and_eq_true,beq_iff_eq,List.all_eq_true,List.mem_range] at this
    exact this
   refine wp_region_any E.hm ?_
   have hP:=oU (E:=E) (N:=N) (K:=dW E N ops (ops.toList.drop p) Q) hp hr hf (fun k g1 g2=>(h1 k g1 g2).2) (ops.toList.take p) 0 s (fun j=>by
    rw[List.getElem?_take,Nat.zero_add,Array.getElem?_toList]) (by simp;omega) hq
   have hW:=uR (A:=A) (w0:=w0) (Q:=Q) (ops.size - p) (fun listed m s a w hS hK=>by
    obtain⟨rfl,hrun⟩:=hK
    have:=uQ hr (fun k g1 g2=>.inl (h1 k g1 g2).1) (ops.toList.drop p) p (fun j=>by rw[List.getElem?_drop,Array.getElem?_toList]) (Nat.le_refl _) (by simp;omega) hS hrun
    simpa using this) _ _ m s a _ h.drew hP
   have e1:(ops.toList.take p).length+(ops.size - p)=ops.size:=by simp;omega
   rw[e1] at hW
   exact hW
  ·exact hES hE
  ·have hr:∀ k,k<ops.size→k∈Region.ready .any ops (fK ops.size k):=by
    intro k hk
    simp only[List.all_eq_true,List.mem_range] at hacyc
    simpa using hacyc k hk
   refine wp_region_any E.hm (eL hstep hend (fun l h1 h2=>acyclic hr l h1 h2) ops.size _ m s a _ (by simp) ⟨List.range ops.size,by simp,fun i hi _=>by simpa using hi⟩ h.drew ?_)
   have:(fun i=>(Array.replicate ops.size false).getD i false)=fun _=>false:=by
    funext i
    by_cases hi:i<ops.size <;> simp[hi]
   rw[this]
   exact hI
  ·exact hFS is hF
end
end Ai
namespace Ai
open Go Go.RowKit
section
variable {E:Env} {N:Nat} {A:Fr} {w0 w w':World} {m m':Own} {s s':St} {a:Act} {dst:Option Tmp} {k:St→Prop}
theorem mR:∀ {c:Nat} {l:List Nat},c∈l→memN c l=true
 |c,x::xs,h=>by
  simp only[memN]
  cases hb:Nat.beq c x with
  |true=>rfl
  |false =>
   rcases List.mem_cons.1 h with rfl|h
   ·rw[nbeq_self] at hb;cases hb
   ·exact mR h
theorem x8:∀ {c:Nat} {l:List Nat},memN c l=true→c∈l
 |c,[],h=>by cases h
 |c,x::xs,h=>by
  simp only[memN] at h
  cases hb:Nat.beq c x with
  |true=>rw[Nat.eq_of_beq_eq_true hb];simp
  |false=>rw[hb] at h;exact List.mem_cons_of_mem _ (x8 h)
theorem gT:∀ {l l':List Nat},lQ l l'=true→∀ c∈l,c ∉ l'
 | [],_,_,c,hc=>by cases hc
 |x::xs,l',h,c,hc=>by
  simp only[lQ] at h
  cases hb:memN x l' with
  |true=>rw[hb] at h;cases h
  |false =>
   rw[hb] at h
   rcases List.mem_cons.1 hc with rfl|hc
   ·intro hm;rw[mR hm] at hb;cases hb
   ·exact gT h c hc
mutual
theorem keys_scr {p:Key→Bool} {c:Nat} (hp:∀ κ,cls κ=c→p κ=true):∀ v:AV,c ∉ zK (scrP p v)
 | .ref o off n=>by
  simp only[scrP]
  cases hq:p o with
  |true=>simp[zK]
  |false=>simp only[cond_false,zK,List.mem_singleton];intro he;rw[hp o he.symm] at hq;cases hq
 | .ptr o off=>by
  simp only[scrP]
  cases hq:p o with
  |true=>simp[zK]
  |false=>simp only[cond_false,zK,List.mem_singleton];intro he;rw[hp o he.symm] at hq;cases hq
 | .eptr o j off=>by
  simp only[scrP]
  cases hq:p o with
  |true=>simp[zK]
  |false=>simp only[cond_false,zK,List.mem_singleton];intro he;rw[hp o he.symm] at hq;cases hq
 | .dref o n=>by
  simp only[scrP]
  cases hq:p o with
  |true=>simp[zK]
  |false=>simp only[cond_false,zK,List.mem_singleton];intro he;rw[hp o he.symm] at hq;cases hq
 | .dptr o j off=>by
  simp only[scrP]
  cases hq:p o with
  |true=>simp[zK]
  |false=>simp only[cond_false,zK,List.mem_singleton];intro he;rw[hp o he.symm] at hq;cases hq
 | .agg cs=>by simp only[scrP,zK];exact jQ hp cs
 | .tup cs=>by simp only[scrP,zK];exact jQ hp cs
 | .fn f cs=>by simp only[scrP,zK];exact jQ hp cs
 | .junk=>by simp[scrP,zK]
 | .d x=>by simp[scrP,zK]
 | .fp cs=>by simp[scrP,zK]
 | .uq e sz els=>by simp[scrP,zK]
 | .uqd e sz c e2 sz2 rows subs=>by simp[scrP,zK]
 | .ownF f cs=>by simp[scrP,zK]
 | .lit v=>by simp[scrP,zK]
 | .mref o=>by
  simp only[scrP]
  cases hq:p o with
  |true=>simp[zK]
  |false=>simp only[cond_false,zK,List.mem_singleton];intro he;rw[hp o he.symm] at hq;cases hq
theorem jQ {p:Key→Bool} {c:Nat} (hp:∀ κ,cls κ=c→p κ=true):∀ l:List AV,c ∉ yG (scrPL p l)
 | []=>by simp[scrPL,yG]
 |v::vs=>by
  simp only[scrPL,yG,List.mem_append,not_or]
  exact⟨keys_scr hp v,jQ hp vs⟩
end
mutual
theorem tK {p:Key→Bool}:∀ v:AV,(∀ κ,p κ=true→cls κ ∉ zK v)→scrP p v=v
 | .ref o off n,h=>by
  simp only[scrP]
  cases hq:p o with
  |true=>exact absurd (by simp[zK]) (h o hq)
  |false=>rfl
 | .ptr o off,h=>by
  simp only[scrP]
  cases hq:p o with
  |true=>exact absurd (by simp[zK]) (h o hq)
  |false=>rfl
 | .eptr o j off,h=>by
  simp only[scrP]
  cases hq:p o with
  |true=>exact absurd (by simp[zK]) (h o hq)
  |false=>rfl
 | .dref o n,h=>by
  simp only[scrP]
  cases hq:p o with
  |true=>exact absurd (by simp[zK]) (h o hq)
  |false=>rfl
 | .dptr o j off,h=>by
  simp only[scrP]
  cases hq:p o with
  |true=>exact absurd (by simp[zK]) (h o hq)
  |false=>rfl
 | .agg cs,h=>by simp only[scrP];rw[dK cs h]
 | .tup cs,h=>by simp only[scrP];rw[dK cs h]
 | .fn f cs,h=>by simp only[scrP];rw[dK cs h]
 | .junk,_=>rfl
 | .d x,_=>rfl
 | .fp cs,_=>rfl
 | .uq e sz els,_=>rfl
 | .uqd e sz c e2 sz2 rows subs,_=>rfl
 | .ownF f cs,_=>rfl
 | .lit v,_=>rfl
 | .mref o,h=>by
  simp only[scrP]
  cases hq:p o with
  |true=>exact absurd (by simp[zK]) (h o hq)
  |false=>rfl
theorem dK {p:Key→Bool}:∀ l:List AV,(∀ κ,p κ=true→cls κ ∉ yG l)→scrPL p l=l
 | [],_=>rfl
 |v::vs,h=>by
  simp only[scrPL]
  rw[tK v fun κ hk hm=>h κ hk (by simp only[yG,List.mem_append];exact .inl hm),dK vs fun κ hk hm=>h κ hk (by simp only[yG,List.mem_append];exact .inr hm)]
end
def yO:Ob→List Nat
 | .vs _ cs=>yG cs
 | .ds ..=>[]
 | .rs _ _ rows=>rows.flatMap yG
 | .mp ..=>[]
theorem mB {p:Key→Bool} (ob:Ob) (h:∀ κ,p κ=true→cls κ ∉ yO ob):scrPO p ob=ob:=by
 cases ob with
 |vs e cs=>simp only[scrPO];rw[dK cs h]
 |ds e sz els=>rfl
 |rs e sz rows =>
  simp only[scrPO,Ob.rs.injEq,true_and]
  have:∀ r∈rows,scrPL p r=r:=fun r hr=>dK r fun κ hk hm=>h κ hk (List.mem_flatMap.2 ⟨r,hr,hm⟩)
  calc rows.map (scrPL p)=rows.map id:=List.map_congr_left this
   _=rows:=List.map_id rows
 |mp ag ps=>rfl
structure NoK (c:Nat) (s:St):Prop where
 none:∀ κ,cls κ=c→s.H κ=none
 tmp:∀ t,c ∉ zK (s.τ t)
 obj:∀ κ ob,s.H κ=some ob→c ∉ yO ob
theorem xD {c:Nat}:∀ {l:List AV},c∈yG l↔∃ v∈l,c∈zK v
 | []=>by simp[yG]
 |v::vs=>by simp[yG,xD (l:=vs)]
theorem scrO_keys {p:Key→Bool} {c:Nat} (hp:∀ κ,cls κ=c→p κ=true) (ob:Ob):c ∉ yO (scrPO p ob):=by
 cases ob with
 |vs e cs=>exact jQ hp cs
 |ds e sz els=>simp[scrPO,yO]
 |rs e sz rows =>
  simp only[scrPO,yO]
  intro hm
  obtain⟨r,hr,hc⟩:=List.mem_flatMap.1 hm
  obtain⟨r0,_,rfl⟩:=List.mem_map.1 hr
  exact jQ hp r0 hc
 |mp ag ps=>simp[scrPO,yO]
theorem NoK.clean {cl:List Nat} {c:Nat} (hc:c∈cl):NoK c (s.clean cl):=by
 have hp:∀ κ,cls κ=c→(fun κ=>memN (cls κ) cl) κ=true:=fun κ h=>by simp only[h];exact mR hc
 refine⟨fun κ h=>?_,fun t=>keys_scr hp _,fun κ ob h=>?_⟩
 ·have:=hp κ h
  simp only at this
  simp[St.clean,this]
 ·simp only[St.clean] at h
  cases hq:memN (cls κ) cl with
  |true=>rw[hq] at h;cases h
  |false =>
   rw[hq] at h
   simp only[cond_false] at h
   obtain⟨ob0,_,rfl⟩:=Option.map_eq_some_iff.1 h
   exact scrO_keys hp ob0
theorem SRel.clean (h:SRel E N A w0 m s a w) (cl:List Nat):SRel E N A w0 m (s.clean cl) a w:=by
 have:=h.merge (w':=w) (fun κ=>memN (cls κ) cl) (fun κ=>memN (cls κ) cl) (fun _=>none) m (fun _ h=>h) (fun κ h1 h2=>by rw[h1] at h2;cases h2) h.below
  (fun Z b hz=>⟨⟨hz.1,fun o _ ho=>absurd rfl ho⟩,rfl⟩) (fun o _ _ x _=>⟨rfl,fun o' _ ho'=>absurd rfl ho'⟩) (fun o ob _ ho=>by cases ho) (fun o o' x x' _ _ ho=>absurd rfl ho) (fun n _ _ hs=>absurd rfl hs)
 have e1:mrg (fun κ=>memN (cls κ) cl) m m=m:=by funext κ;simp[mrg]
 rw[e1] at this
 exact this
theorem iG (s:St):over (fun _=>none) s=s:=rfl
theorem mM (O:Key→Option Ob) (dst:Option Tmp) (v:AV) (s:St):put dst v (over O s)=over O (put dst v s):=by cases dst <;> rfl
theorem over_comm {O O':Key→Option Ob} (h:∀ κ,O κ≠none→O' κ=none) (s:St):over O (over O' s)=over O' (over O s):=by
 simp only[over,St.mk.injEq,true_and]
 funext κ
 cases h1:O κ with
 |none=>rfl
 |some ob=>rw[h κ (by simp[h1])]
theorem nT (κ:Key) (ob:Ob) (s:St):s.setH κ ob=over (one κ ob) s:=by
 simp only[St.setH,over,one,St.mk.injEq,true_and]
 funext o
 cases hb:Key.beq o κ <;> rfl
theorem jF {κ o:Key} {ob:Ob} (h:one κ ob o≠none):o=κ:=by
 unfold one at h
 cases hb:Key.beq o κ with
 |true=>exact yI hb
 |false=>rw[hb] at h;exact absurd rfl h
theorem kill_id {κ:Key} (h:NoK (cls κ) s):s.kill κ=s:=by
 have hp:∀ o,isK κ o=true→o=κ:=fun o ho=>yI ho
 cases s with
 |mk τ H =>
  simp only[St.kill,St.mk.injEq]
  constructor
  ·funext i
   exact tK _ fun o ho hm=>h.tmp i (by rw[← hp o ho];exact hm)
  ·funext o
   cases hb:Key.beq o κ with
   |true=>rw[yI hb];exact(h.none κ rfl).symm
   |false =>
    simp only[cond_false]
    cases ho:H o with
    |none=>rfl
    |some ob =>
     simp only[Option.map_some,Option.some.injEq]
     exact mB ob fun o' ho' hm=>h.obj o ob ho (by rw[← hp o' ho'];exact hm)
theorem i7 {κ:Key} {ob:Ob} (h:NoK (cls κ) s) (hob:cls κ ∉ yO ob):s.new κ ob=over (one κ ob) s:=by
 have hp:∀ o,isK κ o=true→o=κ:=fun o ho=>yI ho
 unfold St.new
 have e:r6 κ ob=ob:=mB ob fun o ho hm=>hob (by rw[← hp o ho];exact hm)
 rw[kill_id h,nT,e]
structure Only (c:Nat) (d:Tmp) (s:St):Prop where
 tmp:∀ t,t≠d→c ∉ zK (s.τ t)
 obj:∀ κ ob,s.H κ=some ob→c ∉ yO ob
theorem NoK.only {c:Nat} (h:NoK c s) (d:Tmp):Only c d s:=⟨fun t _=>h.tmp t,h.obj⟩
theorem Only.put {c:Nat} {d:Tmp} (h:Only c d s) (dst:Option Tmp) {v:AV} (hv:∀ e,dst=some e→e≠d→c ∉ zK v):Only c d (Ai.put dst v s):=by
 cases dst with
 |none=>exact h
 |some e =>
  refine⟨fun t ht=>?_,h.obj⟩
  simp only[Ai.put]
  cases hb:Nat.beq t e with
  |true =>
   have:t=e:=Nat.eq_of_beq_eq_true hb
   subst this
   exact hv t rfl ht
  |false=>exact h.tmp t ht
theorem Only.over {c:Nat} {d:Tmp} (h:Only c d s) {O:Key→Option Ob} (h2:∀ κ ob,O κ=some ob→c ∉ yO ob):Only c d (Ai.over O s):=by
 refine⟨h.tmp,fun κ ob ho=>?_⟩
 simp only[Ai.over] at ho
 cases hO:O κ with
 |none=>rw[hO] at ho;exact h.obj κ ob ho
 |some ob'=>rw[hO] at ho;injection ho with ho;subst ho;exact h2 κ _ hO
theorem iQ {d n:Nat} {ob:Ob} (h:Only (3*d) d s) (hd:s.τ d=.ref (.n d) 0 n):(s.kill (.n d)).setH (.n d) ob=Ai.put (some d) .junk (Ai.over (one (.n d) ob) s):=by
 have hp:∀ o,isK (.n d) o=true→o=.n d:=fun o ho=>yI ho
 cases s with
 |mk τ H =>
  simp only[St.kill,St.setH,Ai.put,Ai.over,St.mk.injEq]
  constructor
  ·funext i
   by_cases hi:i=d
   ·subst hi
    rw[nbeq_self]
    simp only at hd
    rw[hd]
    simp[scrP,isK_self]
   ·rw[nbeq_ne hi]
    exact tK _ fun o ho hm=>h.tmp i hi (by rw[hp o ho] at hm;exact hm)
  ·funext o
   cases hb:Key.beq o (.n d) with
   |true=>simp[one,hb]
   |false =>
    simp only[one,hb,cond_false]
    cases ho:H o with
    |none=>rfl
    |some ob' =>
     simp only[Option.map_some,Option.some.injEq]
     exact mB ob' fun o' ho' hm=>h.obj o ob' ho (by rw[hp o' ho'] at hm;exact hm)
theorem NoK.put {c:Nat} (h:NoK c s) (dst:Option Tmp) {v:AV} (hv:∀ d,dst=some d→c ∉ zK v):NoK c (Ai.put dst v s):=by
 cases dst with
 |none=>exact h
 |some d =>
  refine⟨h.none,fun t=>?_,h.obj⟩
  simp only[Ai.put]
  cases hb:Nat.beq t d with
  |true=>exact hv d rfl
  |false=>exact h.tmp t
theorem NoK.over {c:Nat} (h:NoK c s) {O:Key→Option Ob} (h1:∀ κ,O κ≠.none→cls κ≠c) (h2:∀ κ ob,O κ=some ob→c ∉ yO ob):NoK c (Ai.over O s):=by
 refine⟨fun κ hk=>?_,h.tmp,fun κ ob ho=>?_⟩
 ·simp only[Ai.over]
  cases hO:O κ with
  |none=>exact h.none κ hk
  |some ob=>exact absurd hk (h1 κ (by simp[hO]))
 ·simp only[Ai.over] at ho
  cases hO:O κ with
  |none=>rw[hO] at ho;exact h.obj κ ob ho
  |some ob'=>rw[hO] at ho;injection ho with ho;subst ho;exact h2 κ _ hO
end
end Ai
namespace Ai
open Go Go.RowKit
section
variable {E:Env} {N:Nat} {A:Fr} {w0 w w':World} {m m':Own} {s s':St} {a:Act} {dst:Option Tmp}
def bA (G:Option Tmp→St→(St→Prop)→Prop) (kz:List Nat) (s:St):Prop:=∀ (dst:Option Tmp) (k:St→Prop),G dst s k→∃ v,k (put dst v s)∧∀ s',(∀ κ,cls κ∈kz→s'.H κ=s.H κ)→∀ (dst':Option Tmp) (k':St→Prop),k' (put dst' v s')→G dst' s' k'
theorem pG {c:Bool} {k:St→Prop} (h:kb dst s k c):k (put dst (.d (.bool c)) s):=by
 cases c with
 |true=>exact h.1 rfl
 |false=>exact h.2 rfl
theorem lh_int (op:BinOp) (kx:IntKind) (x y:Int) (s:St):bA (fun dst s k=>pS op kx x y dst s k) [] s:=by
 intro dst k h
 cases op <;> simp only[pS,icmp,iS] at h
 all_goals first
  |exact h.elim
  |exact⟨_,h,fun s' _ dst' k' h'=>by simp only[pS,iS];exact h'⟩
  |exact⟨_,h.2,fun s' _ dst' k' h'=>by simp only[pS];exact⟨h.1,h'⟩⟩
  |exact⟨_,pG h,fun s' _ dst' k' h'=>by simp only[pS,icmp];exact fV h'⟩
theorem lh_flt (op:BinOp) (x y:Nat) (s:St):bA (fun dst s k=>aFlt op x y dst s k) [] s:=by
 intro dst k h
 cases op <;> simp only[aFlt] at h
 all_goals first
  |exact h.elim
  |exact⟨_,h,fun s' _ dst' k' h'=>by simp only[aFlt];exact h'⟩
  |exact⟨_,pG h,fun s' _ dst' k' h'=>by simp only[aFlt];exact fV h'⟩
theorem lh_str (op:BinOp) (x y:List UInt8) (s:St):bA (fun dst s k=>aJ op x y dst s k) [] s:=by
 intro dst k h
 cases op <;> simp only[aJ,scmp] at h
 all_goals first
  |exact h.elim
  |exact⟨_,h.2,fun s' _ dst' k' h'=>by simp only[aJ];exact⟨h.1,h'⟩⟩
  |exact⟨_,pG h,fun s' _ dst' k' h'=>by simp only[aJ,scmp];exact fV h'⟩
theorem lh_bool (T:TypeId) (op:BinOp) (x y:Bool) (s:St):bA (fun dst s k=>aN E T op x y dst s k) [] s:=by
 intro dst k h
 simp only[aN] at h ⊢
 split at h
 ·rename_i ti hti
  split at h
  ·rename_i hd
   split at h
   ·exact⟨_,pG h,fun s' _ dst' k' h'=>fV h'⟩
   ·exact⟨_,pG h,fun s' _ dst' k' h'=>fV h'⟩
   ·exact h.elim
  ·exact h.elim
 ·exact h.elim
theorem lh_agg (T:TypeId) (op:BinOp) (xs ys:List AV) (s:St):bA (fun dst s k=>aAgg E T op xs ys dst s k) [] s:=by
 intro dst k h
 simp only[aAgg] at h ⊢
 cases h1:sD xs with
 |none=>simp only[h1] at h
 |some ns=>cases h2:sD ys with
  |none=>simp only[h1,h2] at h
  |some ms =>
   simp only[h1,h2] at h ⊢
   cases hb:(Nat.blt 0 (E.eT T)&&(Nat.beq ns.length (E.eT T)&&Nat.beq ms.length (E.eT T))) with
   |false=>rw[hb] at h;exact h.elim
   |true =>
    simp only[hb,cond_true] at h ⊢
    cases op
    all_goals first
     |exact h.elim
     |exact⟨_,pG h,fun s' _ dst' k' h'=>fV h'⟩
theorem lh_bin (T:TypeId) (op:BinOp) (x y:AV) (s:St):bA (fun dst s k=>sJ E T op x y dst s k) [] s:=by
 intro dst k h
 simp only[sJ] at h ⊢
 split at h
 ·rename_i kx p ky q
  cases hb:decide (kx=ky) with
  |true =>
   rw[hb] at h
   simp only[cond_true] at h ⊢
   exact lh_int op kx p q s dst k h
  |false=>rw[hb] at h;exact h.elim
 ·exact lh_flt op _ _ s dst k h
 ·exact lh_str op _ _ s dst k h
 ·exact lh_bool T op _ _ s dst k h
 ·exact lh_agg T op _ _ s dst k h
 ·exact h.elim
theorem lh_un (op:UnOp) (x:AV) (s:St):bA (fun dst s k=>aUn op x dst s k) [] s:=by
 intro dst k h
 simp only[aUn] at h ⊢
 split at h
 ·exact⟨_,h,fun s' _ dst' k' h'=>h'⟩
 ·exact⟨_,h,fun s' _ dst' k' h'=>h'⟩
 ·exact⟨_,h,fun s' _ dst' k' h'=>h'⟩
 ·exact h.elim
theorem tV {x:AV} (hH:∀ κ,cls κ∈zK x→s'.H κ=s.H κ):xU s' x=xU s x:=by
 cases x with
 |d x=>cases x <;> rfl
 |ref o off n=>simp only[xU];rw[hH o (by simp[zK])]
 | _=>rfl
theorem lh_conv (S T:TypeId) (x:AV) (s:St):bA (fun dst s k=>kO E S T x dst s k) (zK x) s:=by
 intro dst k h
 simp only[kO] at h
 split at h
 ·rename_i si ti hS hT
  split at h
  ·rename_i hd
   exact⟨_,h,fun s' _ dst' k' h'=>by simp only[kO,hS,hT,hd];exact h'⟩
  ·rename_i hd
   exact⟨_,h,fun s' _ dst' k' h'=>by simp only[kO,hS,hT,hd];exact h'⟩
  ·rename_i hd
   obtain⟨n,hn,h⟩:=h
   exact⟨_,h,fun s' _ dst' k' h'=>by simp only[kO,hS,hT,hd];exact⟨n,hn,h'⟩⟩
  ·rename_i hd
   split at h
   ·rename_i he
    split at h
    ·rename_i hei
     split at h
     ·rename_i hk hn
      obtain⟨ns,hns,h⟩:=h
      refine⟨_,h,fun s' hH dst' k' h'=>?_⟩
      simp only[kO,hS,hT,hd,he,hei,hk,tV hH,hn]
      exact⟨ns,hns,h'⟩
     ·exact h.elim
    ·exact h.elim
   ·rename_i he
    split at h
    ·exact⟨_,h,fun s' _ dst' k' h'=>by simp only[kO,hS,hT,hd,he];exact h'⟩
    ·exact h.elim
   ·exact h.elim
  ·exact h.elim
 ·exact h.elim
theorem ldCells_c {x:AV} {n:Nat} (hH:∀ κ,cls κ∈zK x→s'.H κ=s.H κ):vQ s' x n=vQ s x n:=by
 cases x with
 |ptr o off=>simp only[vQ];rw[hH o (by simp[zK])]
 | _=>rfl
theorem lh_load (T:TypeId) (x:AV) (s:St):bA (fun dst s k=>fX E T x dst s k) (zK x) s:=by
 intro dst k h
 simp only[fX] at h
 split at h
 ·rename_i ti hti
  split at h
  ·rename_i o j off
   split at h
   ·rename_i hO
    obtain⟨c,hc,h⟩:=h
    split at h
    ·rename_i v hv
     exact⟨_,h,fun s' hH dst' k' h'=>by simp only[fX,hti];rw[hH o (by simp[zK]),hO];exact⟨c,hc,by simp only[hv];exact h'⟩⟩
    ·exact h.elim
   ·exact h.elim
  ·rename_i o j off
   split at h
   ·rename_i hO
    obtain⟨c,hc,h⟩:=h
    split at h
    ·rename_i v hv
     rw[yT] at h
     exact⟨v,h,fun s' hH dst' k' h'=>by simp only[fX,hti];rw[hH o (by simp[zK]),hO];exact⟨c,hc,by simp only[hv,yT];exact h'⟩⟩
    ·exact h.elim
   ·exact h.elim
  ·rename_i x1 hx2 hx3
   split at h
   ·rename_i cs hcs
    split at h
    ·rename_i v hv
     rw[yT] at h
     refine⟨v,h,fun s' hH dst' k' h'=>?_⟩
     have e:=ldCells_c (s:=s) (s':=s') (x:=x) (n:=ti.sz) hH
     cases x <;> first|exact absurd rfl (hx2 _ _ _)|exact absurd rfl (hx3 _ _ _)|(simp only[fX,hti,e,hcs,hv,yT];exact h')
    ·exact h.elim
   ·exact h.elim
 ·exact h.elim
theorem lh_field (T:TypeId) (f:Nat) (x:AV) (s:St):bA (fun dst s k=>fQ E T f x dst s k) [] s:=by
 intro dst k h
 simp only[fQ] at h ⊢
 split at h
 ·split at h
  ·split at h
   ·split at h
    ·rename_i fi hfi
     cases hb:Nat.beq fi.sz 0 with
     |true=>rw[hb] at h;exact h.elim
     |false =>
      rw[hb] at h
      simp only[cond_false] at h ⊢
      split at h
      ·exact⟨_,h,fun s' _ dst' k' h'=>h'⟩
      ·exact⟨_,h,fun s' _ dst' k' h'=>h'⟩
      ·exact⟨_,h,fun s' _ dst' k' h'=>h'⟩
      ·exact⟨_,h,fun s' _ dst' k' h'=>h'⟩
      ·exact h.elim
    ·exact h.elim
   ·exact h.elim
  ·exact h.elim
 ·exact h.elim
theorem lh_part (T:TypeId) (f:Nat) (x:AV) (s:St):bA (fun dst s k=>nH E T f x dst s k) [] s:=by
 intro dst k h
 simp only[nH] at h ⊢
 split at h
 ·split at h
  ·split at h
   ·split at h
    ·rename_i fi cs hfi
     cases hb:Nat.ble _ _ with
     |false=>rw[hb] at h;exact h.elim
     |true =>
      rw[hb] at h
      simp only[cond_true] at h
      split at h
      ·rename_i v hv
       rw[yT] at h
       refine⟨v,h,fun s' _ dst' k' h'=>?_⟩
       simp only[cond_true,yT]
       exact h'
      ·exact h.elim
    ·exact h.elim
   ·exact h.elim
  ·exact h.elim
 ·exact h.elim
theorem lh_idx (T:TypeId) (x i:AV) (s:St):bA (fun dst s k=>d7 E T x i dst s k) [] s:=by
 intro dst k h
 simp only[d7] at h ⊢
 split at h
 ·split at h
  ·obtain⟨c,hc,h⟩:=h
   exact⟨_,h,fun s' _ dst' k' h'=>⟨c,hc,h'⟩⟩
  ·exact h.elim
 ·exact h.elim
theorem lh_lookup (T:TypeId) (x i:AV) (ok:Bool) (s:St):bA (fun dst s k=>vR E T x i ok dst s k) (zK x) s:=by
 intro dst k h
 simp only[vR] at h
 split at h
 ·rename_i ei o n hei
  split at h
  ·rename_i ag ps hH
   have back:∀ (v:AV) s' dst (k':St→Prop),(∀ κ,cls κ∈zK (.mref o)→s'.H κ=s.H κ)→k' (put dst v s')→(match ag with
     |true=>(∃ cs,(atM ps n=some cs∧cs≠[])∧v=(bif ok then .tup [.agg (cs.map .d),.d (.bool true)] else .agg (cs.map .d)))∨(atM ps n=none∧v=(bif ok then .tup [.junk,.d (.bool false)] else .junk))
     |false=>(∃ c,atM ps n=some [c]∧v=(bif ok then .tup [.d c,.d (.bool true)] else .d c))∨(atM ps n=none∧v=(bif ok then .tup [.junk,.d (.bool false)] else .junk)))→vR E T (.mref o) (.d (.int .i64 n)) ok dst s' k':=by
    intro v s' dst k' hs hk hv
    have hH':s'.H o=some (.mp ag ps):=by rw[hs o (by simp[zK])];exact hH
    simp only[vR,hei,hH']
    cases ag with
    |true =>
     rcases hv with ⟨cs,h1,rfl⟩|⟨h1,rfl⟩
     ·exact .inl ⟨cs,h1,hk⟩
     ·exact .inr ⟨h1,hk⟩
    |false =>
     rcases hv with ⟨cs,h1,rfl⟩|⟨h1,rfl⟩
     ·exact .inl ⟨cs,h1,hk⟩
     ·exact .inr ⟨h1,hk⟩
   cases ag with
   |true =>
    rcases h with ⟨cs,h1,h2⟩|⟨h1,h2⟩
    ·exact⟨_,h2,fun s' hs dst' k' h'=>back _ _ _ _ hs h' (.inl ⟨cs,h1,rfl⟩)⟩
    ·exact⟨_,h2,fun s' hs dst' k' h'=>back _ _ _ _ hs h' (.inr ⟨h1,rfl⟩)⟩
   |false =>
    rcases h with ⟨cs,h1,h2⟩|⟨h1,h2⟩
    ·exact⟨_,h2,fun s' hs dst' k' h'=>back _ _ _ _ hs h' (.inl ⟨cs,h1,rfl⟩)⟩
    ·exact⟨_,h2,fun s' hs dst' k' h'=>back _ _ _ _ hs h' (.inr ⟨h1,rfl⟩)⟩
  ·exact h.elim
 ·exact h.elim
theorem lh_idxAddr (T:TypeId) (x i:AV) (s:St):bA (fun dst s k=>wI E T x i dst s k) (zK x) s:=by
 intro dst k h
 simp only[wI] at h
 split at h
 ·rename_i ti kk n hti
  split at h
  ·rename_i e hd
   split at h
   ·rename_i ei hei
    split at h
    ·obtain⟨c,hc,h⟩:=h
     exact⟨_,h,fun s' _ dst' k' h'=>by simp only[wI,hti,hd,hei];exact⟨c,hc,h'⟩⟩
    ·rename_i o off len
     split at h
     ·rename_i e2 sz els hH
      cases hb:Nat.beq sz ei.sz with
      |false=>rw[hb] at h;exact h.elim
      |true =>
       rw[hb] at h
       simp only[cond_true] at h
       refine⟨_,h.2,fun s' hS dst' k' h'=>?_⟩
       simp only[wI,hti,hd,hei]
       rw[hS o (by simp[zK]),hH]
       simp only[hb,cond_true]
       exact⟨h.1,h'⟩
     ·exact h.elim
    ·rename_i o len
     split at h
     ·rename_i e2 sz els hH
      cases hb:Nat.beq sz ei.sz with
      |false=>rw[hb] at h;exact h.elim
      |true =>
       rw[hb] at h
       simp only[cond_true] at h
       refine⟨_,h.2,fun s' hS dst' k' h'=>?_⟩
       simp only[wI,hti,hd,hei]
       rw[hS o (by simp[zK]),hH]
       simp only[hb,cond_true]
       exact⟨h.1,h'⟩
     ·exact h.elim
    ·exact h.elim
   ·exact h.elim
  ·rename_i len e hd
   split at h
   ·rename_i ei hei
    cases hb:Nat.ble len 1 with
    |true=>rw[hb] at h;exact h.elim
    |false =>
     rw[hb] at h
     simp only[cond_false] at h
     split at h
     ·exact⟨_,h.2,fun s' _ dst' k' h'=>by simp only[wI,hti,hd,hei,hb,cond_false];exact⟨h.1,h'⟩⟩
     ·exact⟨_,h.2,fun s' _ dst' k' h'=>by simp only[wI,hti,hd,hei,hb,cond_false];exact⟨h.1,h'⟩⟩
     ·exact h.elim
   ·exact h.elim
  ·exact h.elim
 ·exact h.elim
theorem lh_build (T:TypeId) (parts:List (Nat × AV)) (s:St):bA (fun dst s k=>fR E T parts dst s k) [] s:=by
 intro dst k h
 simp only[fR] at h ⊢
 split at h
 ·split at h
  ·rename_i fs hd
   cases hb:fs.all (fun p=>(E.Θ p.2).isSome) with
   |false=>rw[hb] at h;exact h.elim
   |true =>
    rw[hb] at h
    simp only[cond_true] at h ⊢
    split at h
    ·exact⟨_,h,fun s' _ dst' k' h'=>h'⟩
    ·exact h.elim
  ·rename_i n e hd
   split at h
   ·cases hb:(E.Θ e).isSome with
    |false=>rw[hb] at h;exact h.elim
    |true =>
     rw[hb] at h
     simp only[cond_true] at h ⊢
     exact⟨_,h,fun s' _ dst' k' h'=>h'⟩
   ·exact h.elim
  ·exact h.elim
 ·exact h.elim
theorem lh_len (T:TypeId) (x:AV) (s:St):bA (fun dst s k=>d6 E T x dst s k) [] s:=by
 intro dst k h
 simp only[d6] at h ⊢
 split at h
 ·split at h
  ·exact⟨_,h,fun s' _ dst' k' h'=>h'⟩
  ·exact⟨_,h,fun s' _ dst' k' h'=>h'⟩
  ·exact⟨_,h,fun s' _ dst' k' h'=>h'⟩
  ·exact⟨_,h,fun s' _ dst' k' h'=>h'⟩
  ·exact⟨_,h,fun s' _ dst' k' h'=>h'⟩
  ·exact h.elim
 ·exact h.elim
theorem lh_slice (T:TypeId) (x:AV) (lo hi mx:Option AV) (s:St):bA (fun dst s k=>qL E T x lo hi mx dst s k) (zK x) s:=by
 intro dst k h
 simp only[qL] at h
 split at h
 ·rename_i ti l hti hlo
  split at h
  ·rename_i t hd
   split at h
   ·rename_i hh hb
    obtain⟨hc,hk⟩:=h
    exact⟨_,hk,fun s' _ dst' k' h'=>by simp only[qL,hti,hlo,hd,hb];exact⟨hc,h'⟩⟩
   ·exact h.elim
  ·rename_i e els hd
   split at h
   ·rename_i ei hh hei hb
    obtain⟨hc,hk⟩:=h
    exact⟨_,hk,fun s' _ dst' k' h'=>by simp only[qL,hti,hlo,hd,hei,hb];exact⟨hc,h'⟩⟩
   ·exact h.elim
  ·rename_i e o off len hd
   split at h
   ·rename_i ei e2 sz els hh hei hO hb
    cases hq:Nat.beq ei.sz sz with
    |false=>rw[hq] at h;exact h.elim
    |true =>
     rw[hq] at h
     simp only[cond_true] at h
     obtain⟨hc,hk⟩|⟨hc,hk⟩:=h
     ·refine⟨_,hk,fun s' hS dst' k' h'=>?_⟩
      have e:=(hS o (by simp[zK])).trans hO
      simp only[qL,hti,hlo,hd,hei,e,hb,hq,cond_true]
      exact .inl ⟨hc,h'⟩
     ·refine⟨_,hk,fun s' hS dst' k' h'=>?_⟩
      have e:=(hS o (by simp[zK])).trans hO
      simp only[qL,hti,hlo,hd,hei,e,hb,hq,cond_true]
      exact .inr ⟨hc,h'⟩
   ·exact h.elim
  ·exact h.elim
 ·exact h.elim
theorem fz1_c {x:AV} (hH:∀ κ,cls κ∈zK x→s'.H κ=s.H κ):fz1 s' x=fz1 s x:=by
 cases x with
 |d x=>cases x <;> rfl
 |ref o off n=>simp only[fz1];rw[hH o (by simp[zK])]
 | _=>rfl
theorem fz1s_c:∀ {cs:List AV},(∀ κ,cls κ∈yG cs→s'.H κ=s.H κ)→fz1s s' cs=fz1s s cs
 | [],_=>rfl
 |v::vs,h=>by
  simp only[fz1s]
  rw[fz1_c fun κ hk=>h κ (by simp[yG,hk]),fz1s_c fun κ hk=>h κ (by simp[yG,hk])]
theorem fzp_c {x:AV} (hn:bL x=false) (hH:∀ κ,cls κ∈zK x→s'.H κ=s.H κ):fzp s' x=fzp s x:=by
 have e:=fz1_c hH
 cases x with
 |ptr o off=>simp[bL] at hn
 |eptr o j off=>simp[bL] at hn
 |fp cs=>rfl
 |d x=>cases x <;> rfl
 | _=>simp only[fzp];rw[e]
theorem fzps_c:∀ {cs:List AV},(cs.all fun c=>!bL c)=true→(∀ κ,cls κ∈yG cs→s'.H κ=s.H κ)→bO s' cs=bO s cs
 | [],_,_=>rfl
 |v::vs,hn,h=>by
  simp only[List.all_cons,Bool.and_eq_true,Bool.not_eq_true'] at hn
  simp only[bO]
  rw[fzp_c hn.1 fun κ hk=>h κ (by simp[yG,hk]),fzps_c hn.2 fun κ hk=>h κ (by simp[yG,hk])]
theorem fz_c {x:AV} (hn:tS x=true) (hH:∀ κ,cls κ∈zK x→s'.H κ=s.H κ):fz s' x=fz s x:=by
 cases x with
 |agg cs=>simp only[fz];rw[fz1s_c (cs:=cs) (by simpa[zK] using hH)]
 |fn f cs =>
  simp only[fz]
  rw[fzps_c (cs:=cs) (by simpa[tS] using hn) (by simpa[zK] using hH)]
 |ptr o off=>simp[tS,bL] at hn
 |eptr o j off=>simp[tS,bL] at hn
 |dref o n=>rfl
 |dptr o j off=>rfl
 |mref o=>rfl
 | _=>exact fzp_c rfl hH
theorem fzs_c:∀ {cs:List AV},cs.all tS=true→(∀ κ,cls κ∈yG cs→s'.H κ=s.H κ)→fzs s' cs=fzs s cs
 | [],_,_=>rfl
 |v::vs,hn,h=>by
  simp only[List.all_cons,Bool.and_eq_true] at hn
  simp only[fzs]
  rw[fz_c hn.1 fun κ hk=>h κ (by simp[yG,hk]),fzs_c hn.2 fun κ hk=>h κ (by simp[yG,hk])]
end
end Ai
namespace Ai
open Go Go.RowKit
section
variable {E:Env} {N:Nat} {A:Fr} {w0 w w':World} {m m':Own} {s s':St} {a:Act} {dst:Option Tmp}
def jD (N:Nat) (op:Op) (s s':St):Prop:=(∀ x∈op.operands,ev N s' x=ev N s x)∧∀ κ,cls κ∈yG (evs N s op.operands)→s'.H κ=s.H κ
theorem vE {xs:Array Operand} {x:Operand} (hx:x∈xs) {c:Nat} (hc:c∈zK (ev N s x)):c∈yG (evs N s xs) :=
 xD.2 ⟨_,List.mem_map.2 ⟨x,by simpa using hx,rfl⟩,hc⟩
def eff (v:AV) (O:Key→Option Ob) (d2 dst:Option Tmp) (s:St):St:=put dst v (put d2 .junk (over O s))
def AOpX (E:Env) (N:Nat) (op:Op) (dst:Option Tmp) (s:St) (K:St→Prop):Prop:=∃ K1:St→Prop,AOp E N op dst s K1∧∀ s1,K1 s1→∃ s2,Weak E N s1 s2∧K s2
theorem AOpX.of {op:Op} {K:St→Prop} (h:AOp E N op dst s K):AOpX E N op dst s K:=⟨K,h,fun s1 h1=>⟨s1,fun A w0 m a w hS=>⟨m,hS⟩,h1⟩⟩
def Pkc (E:Env) (N:Nat) (op:Op) (dst:Option Tmp) (s:St) (v:AV) (O:Key→Option Ob) (wr fr vk:List Nat):Prop :=
 (∀ κ,O κ≠none→cls κ∈wr)∧∀ s',jD N op s s'→(∀ c∈fr,NoK c s')→(∀ d,wK op=some d→Only (3*d) d s') →
  (∀ K:St→Prop,K (eff v O (wK op) dst s')→AOpX E N op dst s' K)∧(∀ c,c ∉ vk→NoK c s'→NoK c (eff v O (wK op) dst s')) ∧
  (∀ c d,c ∉ vk→Only c d s'→Only c d (eff v O (wK op) dst s'))∧(∀ d,dst=some d→Only (3*d) d s'→Only (3*d) d (eff v O (wK op) dst s'))
theorem rB {op:Op} {v:AV} {O:Key→Option Ob} {wr fr vk:List Nat} (hj:wK op=none) (h1:∀ κ,O κ≠none→cls κ∈wr) (hv:∀ d,dst=some d→∀ c∈zK v,c∈vk)
  (hob:∀ s',jD N op s s'→∀ c,c ∉ vk→(∀ κ ob,s'.H κ=some ob→c ∉ yO ob)→∀ κ ob,O κ=some ob→c ∉ yO ob) (hO:∀ s',jD N op s s'→∀ c,c ∉ vk→NoK c s'→∀ κ,O κ≠none→cls κ≠c)
  (hd:∀ s',jD N op s s'→∀ d,dst=some d→(∀ κ ob,s'.H κ=some ob→3*d ∉ yO ob)→∀ κ ob,O κ=some ob→3*d ∉ yO ob)
  (hop:∀ s',jD N op s s'→(∀ c∈fr,NoK c s')→∀ K:St→Prop,K (put dst v (over O s'))→AOp E N op dst s' K):Pkc E N op dst s v O wr fr vk:=by
 refine⟨h1,fun s' hA hf _=>?_⟩
 rw[hj]
 refine⟨fun K hK=>.of (hop s' hA hf K hK),fun c hc hn=>?_,fun c d hc hn=>?_,fun d hdd hn=>?_⟩
 ·exact(hn.over (hO s' hA c hc hn) (hob s' hA c hc hn.obj)).put _ fun d hd hm=>hc (hv d hd c hm)
 ·exact(hn.over (hob s' hA c hc hn.obj)).put _ fun e he _ hm=>hc (hv e he c hm)
 ·exact(hn.over (hd s' hA d hdd hn.obj)).put _ fun e he hne=>absurd (by rw[hdd] at he;injection he with he;exact he.symm) hne
theorem eff_none (v:AV) (O:Key→Option Ob) (dst:Option Tmp) (s:St):eff v O none dst s=put dst v (over O s):=rfl
theorem rD {c:Nat}:∀ κ ob,(fun _=>none:Key→Option Ob) κ=some ob→c ∉ yO ob:=fun κ ob h=>by cases h
theorem wD {op:Op} {k:KE} (hj:wK op=none) (G:Option Tmp→St→(St→Prop)→Prop) (kz:List Nat) (hl:bA G kz s) (hz:∀ c∈kz,c∈yG (evs N s op.operands)) (h:G dst s (qF dst k))
  (hop:∀ s',jD N op s s'→∀ K,G dst s' K→AOp E N op dst s' K):∃ v O wr fr vk,k wr fr vk (eff v O (wK op) dst s)∧Pkc E N op dst s v O wr fr vk:=by
 obtain⟨v,h1,h2⟩:=hl dst _ h
 refine⟨v,fun _=>none,_,_,_,by rw[hj];exact h1,rB hj (fun κ hk=>absurd rfl hk) (fun d hd c hc=>?_) (fun _ _ _ _ _=>rD) (fun _ _ _ _ _ κ hk=>absurd rfl hk) (fun _ _ _ _ _=>rD) (fun s' hA _ K hK=>hop s' hA K (h2 s' (fun κ hk=>hA.2 κ (hz _ hk)) dst K hK))⟩
 subst hd
 simpa[vkOf,put,nbeq_self] using hc
theorem jL {op:Op} {k:KE} {v:AV} (hj:wK op=none) (h:k [] [] (zK v) (put dst v s)) (hop:∀ s',jD N op s s'→∀ K:St→Prop,K (put dst v s')→AOp E N op dst s' K) :
  ∃ v O wr fr vk,k wr fr vk (eff v O (wK op) dst s)∧Pkc E N op dst s v O wr fr vk :=
 ⟨v,fun _=>none,_,_,_,by rw[hj];exact h,rB hj (fun κ hk=>absurd rfl hk) (fun _ _ c hc=>hc) (fun _ _ _ _ _=>rD) (fun _ _ _ _ _ κ hk=>absurd rfl hk) (fun _ _ _ _ _=>rD) (fun s' hA _ K hK=>hop s' hA K hK)⟩
theorem gH:∀ (l:List AV) (b i:Nat) (v:AV),l[i]?=some v→∀ c∈(match v with
  | .uq ..=>[3*(b+i)]
  | .uqd ..=>[3*(b+i),3*(b+i)+1]
  | _=>([]:List Nat)),c∈fU b l
 | [],b,i,v,h,c,hc=>by simp at h
 |x::xs,b,0,v,h,c,hc=>by
  simp at h;subst h
  simp only[fU,List.mem_append]
  left
  cases x <;> first|(simp at hc;done)|simpa using hc
 |x::xs,b,i+1,v,h,c,hc=>by
  simp only[fU,List.mem_append]
  right
  refine gH xs (b+1) i v (by simpa using h) c ?_
  rw[show b+1+i=b+(i+1) from by omega];exact hc
theorem x5 {cs:List AV} {κ:Key} (h:ownH cs κ≠none):cls κ∈fU 900 cs:=by
 cases κ with
 |n kk =>
  simp only[ownH] at h
  cases hlt:Nat.blt kk 900 with
  |true=>rw[hlt] at h;exact absurd rfl h
  |false =>
   rw[hlt] at h
   simp only[cond_false] at h
   have hge:900≤kk:=by
    rcases Nat.lt_or_ge kk 900 with h1|h1
    ·have:Nat.blt kk 900=true:=by simpa[Nat.blt_eq] using h1
     rw[this] at hlt;cases hlt
    ·exact h1
   split at h
   ·rename_i hc
    exact gH cs 900 (kk - 900) _ hc _ (by simp[cls];omega)
   ·rename_i hc
    exact gH cs 900 (kk - 900) _ hc _ (by simp[cls];omega)
   ·exact absurd rfl h
 |s o j =>
  simp only[ownH] at h
  cases hlt:Nat.blt o 900 with
  |true=>rw[hlt] at h;exact absurd rfl h
  |false =>
   rw[hlt] at h
   simp only[cond_false] at h
   have hge:900≤o:=by
    rcases Nat.lt_or_ge o 900 with h1|h1
    ·have:Nat.blt o 900=true:=by simpa[Nat.blt_eq] using h1
     rw[this] at hlt;cases hlt
    ·exact h1
   split at h
   ·rename_i hc
    exact gH cs 900 (o - 900) _ hc _ (by simp[cls];omega)
   ·exact absurd rfl h
 |l n=>exact absurd rfl h
theorem ownH_keys {cs:List AV} {κ:Key} {ob:Ob} (h:ownH cs κ=some ob):∀ c∈yO ob,c∈fU 900 cs:=by
 cases κ with
 |n kk =>
  simp only[ownH] at h
  cases hlt:Nat.blt kk 900 with
  |true=>rw[hlt] at h;cases h
  |false =>
   rw[hlt] at h
   simp only[cond_false] at h
   have hge:900≤kk:=by
    rcases Nat.lt_or_ge kk 900 with h1|h1
    ·have:Nat.blt kk 900=true:=by simpa[Nat.blt_eq] using h1
     rw[this] at hlt;cases hlt
    ·exact h1
   split at h
   ·injection h with h;subst h;intro c hc;simp[yO] at hc
   ·rename_i hcs
    injection h with h;subst h
    intro c hc
    simp only[yO,List.mem_flatMap] at hc
    obtain⟨row,hr,hc⟩:=hc
    obtain⟨v,hv,hc⟩:=xD.1 hc
    obtain⟨j,hj⟩:=List.getElem?_of_mem hr
    simp only[ownRows,List.getElem?_mapIdx,Option.map_eq_some_iff] at hj
    obtain⟨row0,_,rfl⟩:=hj
    rcases List.mem_or_eq_of_mem_set hv with hv|rfl
    ·obtain⟨x,_,rfl⟩:=List.mem_map.1 hv
     simp[zK] at hc
    ·simp only[zK,List.mem_singleton] at hc
     subst hc
     exact gH cs 900 (kk - 900) _ hcs _ (by simp[cls];omega)
   ·cases h
 |s o j =>
  simp only[ownH] at h
  cases hlt:Nat.blt o 900 with
  |true=>rw[hlt] at h;cases h
  |false =>
   rw[hlt] at h
   simp only[cond_false] at h
   split at h
   ·obtain⟨q,_,rfl⟩:=Option.map_eq_some_iff.1 h
    intro c hc;simp[yO] at hc
   ·cases h
 |l n=>cases h
theorem iF:∀ (l:List AV) (b:Nat),∀ c∈yG (ownR1 b l),c∈fU b l++yG l
 | [],b,c,hc=>by simp[ownR1,yG] at hc
 |v::vs,b,c,hc=>by
  simp only[ownR1,yG,List.mem_append] at hc
  simp only[fU,yG,List.mem_append]
  rcases hc with hc|hc
  ·cases v <;> first|(simp only[zK,List.mem_singleton] at hc;subst hc;left;left;simp[cls];done)|(right;left;exact hc)
  ·have:=iF vs (b+1) c hc
   simp only[List.mem_append] at this
   rcases this with h|h
   ·exact .inl (.inr h)
   ·exact .inr (.inr h)
theorem wrap_keys:∀ (f:Nat) {l:List AV} {c:Nat},c∈zK (kD f l)→c∈yG l
 | 0,l,c,h=>h
 | 1,l,c,h=>by
  match l,h with
  | [],h=>exact h
  | [x],h=>exact List.mem_append_left _ h
  |x::y::l,h=>exact h
 |k+2,l,c,h=>by
  simp only[kD,zK,yG,List.mem_append] at h
  rcases h with h|h
  ·obtain⟨v,hv,hc⟩:=xD.1 h
   exact xD.2 ⟨v,List.mem_of_mem_take hv,hc⟩
  ·obtain⟨v,hv,hc⟩:=xD.1 h
   exact xD.2 ⟨v,List.mem_of_mem_drop hv,hc⟩
theorem addOwn_over {cs:List AV} (h:∀ c∈fU 900 cs,NoK c s):s.addOwn cs=over (ownH cs) s:=by
 have hp:∀ κ,(ownH cs κ).isSome=true→NoK (cls κ) s:=fun κ hk=>h _ (x5 (by intro e;rw[e] at hk;cases hk))
 cases s with
 |mk τ H =>
  simp only[St.addOwn,over,St.mk.injEq]
  constructor
  ·funext i
   exact tK _ fun κ hk hm=>(hp κ hk).tmp i hm
  ·funext κ
   cases hq:ownH cs κ with
   |some ob=>rfl
   |none =>
    simp only
    cases ho:H κ with
    |none=>rfl
    |some ob =>
     simp only[Option.map_some,Option.some.injEq]
     exact mB ob fun κ' hk hm=>(hp κ' hk).obj κ ob ho hm
theorem ret_inv {op:Op} {k:KE} {r:AV} (hj:wK op=none) (h:retE dst s k r):∃ v O wr fr vk,k wr fr vk (eff v O (wK op) dst s) ∧
  ((∀ s',jD N op s s'→(∀ c∈fr,NoK c s')→∀ K:St→Prop,aZ dst s' K r→AOp E N op dst s' K)→Pkc E N op dst s v O wr fr vk):=by
 have plain:∀ r:AV,(∀ s' (K:St→Prop),K (put dst r s')→aZ dst s' K r)→k [] [] (zK r) (put dst r s)→∃ v O wr fr vk,k wr fr vk (eff v O (wK op) dst s) ∧
   ((∀ s',jD N op s s'→(∀ c∈fr,NoK c s')→∀ K:St→Prop,aZ dst s' K r→AOp E N op dst s' K)→Pkc E N op dst s v O wr fr vk) :=
  fun r h1 h2=>⟨r,fun _=>none,_,_,_,by rw[hj];exact h2,fun hop=>rB hj (fun κ hk=>absurd rfl hk) (fun _ _ c hc=>hc) (fun _ _ _ _ _=>rD) (fun _ _ _ _ _ κ hk=>absurd rfl hk) (fun _ _ _ _ _=>rD) (fun s' hA hf K hK=>hop s' hA hf K (h1 s' K hK))⟩
 cases r with
 |uq e sz els =>
  rcases h with h|⟨t,rfl,h⟩
  ·exact⟨_,fun _=>none,_,_,_,by rw[hj];exact h,fun hop=>rB hj (fun κ hk=>absurd rfl hk) (fun _ _ c hc=>by simp[zK] at hc) (fun _ _ _ _ _=>rD) (fun _ _ _ _ _ κ hk=>absurd rfl hk) (fun _ _ _ _ _=>rD) (fun s' hA hf K hK=>hop s' hA hf K (.inl hK))⟩
  ·have hds:∀ c κ ob,one (.n t) (.ds e sz els) κ=some ob→c ∉ yO ob:=fun c κ ob ho=>by
    have:=jF (κ:=.n t) (by rw[ho];simp)
    subst this
    simp[one,zD] at ho;subst ho;simp[yO]
   refine⟨_,_,_,_,_,by rw[hj];exact h,fun hop=>rB hj (fun κ hk=>by rw[jF hk];simp[cls]) (fun _ _ c hc=>by simpa[zK,cls] using hc) (fun _ _ c _ _=>hds c) (fun _ _ c hc _ κ hk=>?_) (fun _ _ d _ _=>hds _) (fun s' hA hf K hK=>hop s' hA hf K (.inr ⟨t,rfl,?_⟩))⟩
   ·rw[jF hk];exact fun e=>hc (by simp[← e,cls])
   ·rw[i7 (hf _ (by simp[cls])) (by simp[yO])];exact hK
 |ownF f cs =>
  refine⟨ownR f cs,ownH cs,_,_,_,by rw[hj];exact h,fun hop=>rB hj (fun κ hk=>x5 hk) (fun _ _ c hc=>iF cs 900 c (wrap_keys f hc)) (fun _ _ c hc _ κ ob ho hm=>hc (List.mem_append_left _ (ownH_keys ho c hm))) (fun _ _ c hc _ κ hk he=>hc (List.mem_append_left _ (he▸x5 hk))) (fun _ _ d _ _ κ ob ho hm=>?_) (fun s' hA hf K hK=>hop s' hA hf K ?_)⟩
  ·-- names of rows within rows are of another class
   have:∀ (κ:Key) (ob:Ob),ownH cs κ=some ob→∀ c∈yO ob,c % 3=1:=by
    intro κ ob ho c hc
    cases κ with
    |n kk =>
     simp only[ownH] at ho
     cases hlt:Nat.blt kk 900 with
     |true=>rw[hlt] at ho;cases ho
     |false =>
      rw[hlt] at ho
      simp only[cond_false] at ho
      split at ho
      ·injection ho with ho;subst ho;simp[yO] at hc
      ·injection ho with ho;subst ho
       simp only[yO,List.mem_flatMap] at hc
       obtain⟨row,hr,hc⟩:=hc
       obtain⟨v,hv,hc⟩:=xD.1 hc
       obtain⟨j,hj⟩:=List.getElem?_of_mem hr
       simp only[ownRows,List.getElem?_mapIdx,Option.map_eq_some_iff] at hj
       obtain⟨row0,_,rfl⟩:=hj
       rcases List.mem_or_eq_of_mem_set hv with hv|rfl
       ·obtain⟨x,_,rfl⟩:=List.mem_map.1 hv
        simp[zK] at hc
       ·simp only[zK,List.mem_singleton] at hc
        subst hc
        simp[cls]
      ·cases ho
    |s o j =>
     simp only[ownH] at ho
     cases hlt:Nat.blt o 900 with
     |true=>rw[hlt] at ho;cases ho
     |false =>
      rw[hlt] at ho
      simp only[cond_false] at ho
      split at ho
      ·obtain⟨q,_,rfl⟩:=Option.map_eq_some_iff.1 ho
       simp[yO] at hc
      ·cases ho
    |l n=>cases ho
   have:=this κ ob ho _ hm
   omega
  ·show K (put dst (ownR f cs) (s'.addOwn cs))
   rw[addOwn_over fun c hc=>hf c hc];exact hK
 | _=>exact plain _ (fun _ _ h=>h) h
theorem g9 {x:AV} {cs:List AV} (h:cellsOf x=some cs):yG cs=zK x:=by
 cases x with
 |agg cs0 =>
  simp only[cellsOf] at h
  cases hb:cs0.all yQ with
  |false=>rw[hb] at h;cases h
  |true=>rw[hb] at h;simp only[cond_true,Option.some.injEq] at h;subst h;rfl
 |junk=>simp[cellsOf,yQ] at h
 |tup vs=>simp[cellsOf,yQ] at h
 |uq e sz els=>simp[cellsOf,yQ] at h
 |uqd e sz c e2 sz2 rows subs=>simp[cellsOf,yQ] at h
 |ownF f cs=>simp[cellsOf,yQ] at h
 | _=>simp only[cellsOf,yQ,cond_true,Option.some.injEq] at h;subst h;simp[yG]
theorem lG {α:Type}:∀ (cs:List α) (off:Nat) (xs:List α) (x:α),x∈zW cs off xs→x∈cs∨x∈xs
 |cs,0,xs,x,h=>by
  have e:zW cs 0 xs=xs++cs.drop xs.length:=by cases cs <;> rfl
  rw[e,List.mem_append] at h
  rcases h with h|h
  ·exact .inr h
  ·exact .inl (List.mem_of_mem_drop h)
 |c::cs,off+1,xs,x,h=>by
  simp only[zW,List.mem_cons] at h
  rcases h with rfl|h
  ·simp
  ·rcases lG cs off xs x h with h|h
   ·exact .inl (List.mem_cons_of_mem _ h)
   ·exact .inr h
 | [],off+1,xs,x,h=>by simp[zW] at h
theorem setElR_mem {rows:List (List AV)} {sz j off:Nat} {xs r:List AV} (h:r∈xG rows sz j off xs):∀ x∈r,(∃ r0∈rows,x∈r0)∨x∈xs:=by
 intro x hx
 unfold xG at h
 cases hb:(Nat.beq off 0&&Nat.beq xs.length sz) with
 |true =>
  rw[hb] at h
  rcases List.mem_or_eq_of_mem_set h with h|rfl
  ·exact .inl ⟨r,h,hx⟩
  ·exact .inr hx
 |false =>
  rw[hb] at h
  simp only[cond_false] at h
  obtain⟨i,hi⟩:=List.getElem?_of_mem h
  rw[List.getElem?_modify] at hi
  obtain⟨r0,hr0,he⟩:=Option.map_eq_some_iff.1 hi
  split at he
  ·subst he
   rcases lG _ _ _ _ hx with h1|h1
   ·exact .inl ⟨r0,List.mem_of_getElem? hr0,h1⟩
   ·exact .inr h1
  ·subst he;exact .inl ⟨_,List.mem_of_getElem? hr0,hx⟩
theorem store_inv {k:KE} {T:TypeId} {ad x:Operand} (h:fP E T (ev N s ad) (ev N s x) none s (k (zK (ev N s ad)) [] (zK (ev N s x)))) :
  ∃ v O wr fr vk,k wr fr vk (eff v O (wK (.store T ad x)) none s)∧Pkc E N (.store T ad x) none s v O wr fr vk:=by
 have had:∀ s',jD N (.store T ad x) s s'→ev N s' ad=ev N s ad∧ev N s' x=ev N s x:=fun s' hA=>⟨hA.1 ad (by simp[Op.operands]),hA.1 x (by simp[Op.operands])⟩
 have hkey:∀ c∈zK (ev N s ad),c∈yG (evs N s (Op.store T ad x).operands):=fun c hc=>vE (by simp[Op.operands]) hc
 have fin:∀ (o:Key) (ob ob':Ob),s.H o=some ob→cls o∈zK (ev N s ad)→k (zK (ev N s ad)) [] (zK (ev N s x)) (put none xF (s.setH o ob')) →
   (∀ s',jD N (.store T ad x) s s'→s'.H o=some ob→∀ K:St→Prop,K (put none xF (s'.setH o ob'))→AOp E N (.store T ad x) none s' K) →
   (∀ c∈yO ob',c∈yO ob∨c∈zK (ev N s x))→∃ v O wr fr vk,k wr fr vk (eff v O (wK (.store T ad x)) none s)∧Pkc E N (.store T ad x) none s v O wr fr vk:=by
  intro o ob ob' hO hcl hk hop hko
  have hO':∀ s',jD N (.store T ad x) s s'→s'.H o=some ob:=fun s' hA=>(hA.2 o (hkey _ hcl)).trans hO
  have hobs:∀ s',jD N (.store T ad x) s s'→∀ c,c ∉ zK (ev N s x)→(∀ κ ob,s'.H κ=some ob→c ∉ yO ob)→∀ κ ob2,one o ob' κ=some ob2→c ∉ yO ob2:=by
   intro s' hA c hc hn κ ob2 ho2 hm
   have:=jF (κ:=o) (by rw[ho2];simp)
   subst this
   simp[one,zD] at ho2;subst ho2
   rcases hko c hm with h1|h1
   ·exact hn κ ob (hO' s' hA) h1
   ·exact hc h1
  refine⟨xF,one o ob',zK (ev N s ad),[],zK (ev N s x),by show k _ _ _ (put none xF (over (one o ob') s));rw[← nT];exact hk,rB rfl (fun κ hκ=>by rw[jF hκ];exact hcl) (fun d hd=>by cases hd) hobs (fun s' hA c hc hn κ hκ he=>?_) (fun _ _ d hd=>by cases hd) (fun s' hA _ K hK=>hop s' hA (hO' s' hA) K (by rw[nT];exact hK))⟩
  rw[jF hκ] at he
  have:=hn.none o he
  rw[hO' s' hA] at this;cases this
 unfold fP at h
 split at h
 ·rename_i ti cs hti hcs
  have hck:=g9 hcs
  cases hb:Nat.beq cs.length ti.sz with
  |false=>rw[hb] at h;exact h.elim
  |true =>
   rw[hb] at h
   simp only[cond_true] at h
   split at h
   ·rename_i o off had0
    split at h
    ·rename_i e cs0 hO
     cases hb2:Nat.ble (off+cs.length) cs0.length with
     |false=>rw[hb2] at h;exact h.elim
     |true =>
      rw[hb2] at h
      simp only[cond_true] at h
      refine fin o _ _ hO (by rw[had0];simp[zK]) h (fun s' hA hO' K hK=>?_) (fun c hc=>?_)
      ·obtain⟨e1,e2⟩:=had s' hA
       simp only[AOp,fP,e1,e2,had0,hti,hcs,hb,hO',hb2,cond_true]
       exact hK
      ·simp only[yO] at hc ⊢
       obtain⟨v,hv,hcv⟩:=xD.1 hc
       rcases lG _ _ _ _ hv with h1|h1
       ·exact .inl (xD.2 ⟨v,h1,hcv⟩)
       ·exact .inr (by rw[← hck];exact xD.2 ⟨v,h1,hcv⟩)
    ·exact h.elim
   ·rename_i o j off had0
    split at h
    ·rename_i e sz els xs hO hxs
     cases hb2:Nat.ble (off+xs.length) sz with
     |false=>rw[hb2] at h;exact h.elim
     |true =>
      rw[hb2] at h
      simp only[cond_true] at h
      refine fin o _ _ hO (by rw[had0];simp[zK]) h (fun s' hA hO' K hK=>?_) (fun c hc=>by simp[yO] at hc)
      obtain⟨e1,e2⟩:=had s' hA
      simp only[AOp,fP,e1,e2,had0,hti,hcs,hb,hO',hxs,hb2,cond_true]
      exact hK
    ·exact h.elim
   ·rename_i o j off had0
    split at h
    ·rename_i e sz rows hO
     cases hb2:Nat.ble (off+cs.length) sz with
     |false=>rw[hb2] at h;exact h.elim
     |true =>
      rw[hb2] at h
      simp only[cond_true] at h
      refine fin o _ _ hO (by rw[had0];simp[zK]) h (fun s' hA hO' K hK=>?_) (fun c hc=>?_)
      ·obtain⟨e1,e2⟩:=had s' hA
       simp only[AOp,fP,e1,e2,had0,hti,hcs,hb,hO',hb2,cond_true]
       exact hK
      ·simp only[yO,List.mem_flatMap] at hc ⊢
       obtain⟨r,hr,hcr⟩:=hc
       obtain⟨v,hv,hcv⟩:=xD.1 hcr
       rcases setElR_mem hr v hv with ⟨r0,h0,h1⟩|h1
       ·exact .inl ⟨r0,h0,xD.2 ⟨v,h1,hcv⟩⟩
       ·exact .inr (by rw[← hck];exact xD.2 ⟨v,h1,hcv⟩)
    ·exact h.elim
   ·exact h.elim
 ·exact h.elim
theorem dR {op:Op} {k:KE} {t:Tmp} {v:AV} {ob:Ob} {vk:List Nat} (hj:wK op=none) (h:k [3*t] [3*t] vk (put (some t) v (over (one t ob) s))) (hv:∀ c∈zK v,c∈vk) (ht:3*t∈vk) (hob:∀ c∈yO ob,c∈vk∧c≠3*t)
  (hop:∀ s',jD N op s s'→∀ K:St→Prop,K (put (some t) v (s'.new t ob))→AOp E N op (some t) s' K):∃ v O wr fr vk,k wr fr vk (eff v O (wK op) (some t) s)∧Pkc E N op (some t) s v O wr fr vk:=by
 have hone:∀ κ ob',one (.n t) ob κ=some ob'→ob'=ob:=fun κ ob' ho=>by
  have:=jF (κ:=.n t) (by rw[ho];simp)
  subst this
  simp[one,zD] at ho;exact ho.symm
 refine⟨_,_,_,_,_,by rw[hj];exact h,rB hj (fun κ hk=>by rw[jF hk];simp[cls]) (fun _ _ c hc=>hv c hc) (fun _ _ c hc _ κ ob' ho hm=>hc (hob c (hone κ ob' ho▸hm)).1) (fun _ _ c hc _ κ hk he=>?_) (fun _ _ d hd _ κ ob' ho hm=>?_) (fun s' hA hf K hK=>hop s' hA K ?_)⟩
 ·rw[jF hk] at he;exact hc (he▸ht)
 ·injection hd with hd;subst hd
  exact(hob _ (hone κ ob' ho▸hm)).2 rfl
 ·rw[i7 (hf _ (by simp[cls])) (fun hm=>(hob _ hm).2 rfl)];exact hK
theorem append_inv {c:Call} {k:KE} (hc:c.callee=.builtin .append) (h:aE E N (.call c) dst s k):∃ v O wr fr vk,k wr fr vk (eff v O (wK (.call c)) dst s)∧Pkc E N (.call c) dst s v O wr fr vk:=by
 obtain⟨cal,args,argT⟩:=c
 simp only at hc
 subst hc
 simp only[aE] at h
 split at h
 ·rename_i T T' d2 yo hT hargs
  have hjk:wK (.call ⟨.builtin .append,args,argT⟩)=some d2:=by simp only[wK,hargs]
  cases hb:(Nat.beq T T'&&Nat.blt d2 N) with
  |false=>rw[hb] at h;exact h.elim
  |true =>
   rw[hb] at h
   simp only[cond_true] at h
   simp only[Bool.and_eq_true] at hb
   split at h
   ·rename_i ti t hti
    split at h
    ·rename_i e hd
     split at h
     ·rename_i ei news o n hei hnews hτ
      cases hb2:(Nat.beq o d2&&pC (.n o) (ev N s yo)&&!memN (3*d2) (zK (ev N s yo))&&!Nat.beq ei.sz 0) with
      |false=>rw[hb2] at h;exact h.elim
      |true =>
       rw[hb2] at h
       simp only[cond_true] at h
       simp only[Bool.and_eq_true,Bool.not_eq_true'] at hb2
       obtain⟨⟨⟨e1,hnr⟩,hmn⟩,hz⟩:=hb2
       have e1:o=d2:=Nat.eq_of_beq_eq_true e1
       subst e1
       split at h
       ·rename_i e' sz els hO
        cases hb3:(Nat.beq e e'&&Nat.beq sz ei.sz) with
        |false=>rw[hb3] at h;exact h.elim
        |true =>
         rw[hb3] at h
         simp only[cond_true] at h
         obtain⟨hcond,hk⟩:=h
         have hev:ev N s (.tmp o)=.ref (.n o) 0 n:=by simp only[ev,hb.2,cond_true,hτ]
         have hmem:(Operand.tmp o)∈(Op.call ⟨.builtin .append,args,argT⟩).operands∧yo∈(Op.call ⟨.builtin .append,args,argT⟩).operands:=by
          have:args=#[.tmp o,yo]:=by apply Array.ext';exact hargs
          subst this
          simp[Op.operands,Call.operands]
         have hone:∀ κ ob',one (.n o) (.ds e sz (els.take n++news)) κ=some ob'→∀ c,c ∉ yO ob':=fun κ ob' ho c hm=>by
          have:=jF (κ:=.n o) (by rw[ho];simp)
          subst this
          simp[one,zD] at ho;subst ho;simp[yO] at hm
         refine⟨_,_,_,_,_,by rw[hjk];exact hk,fun κ hκ=>by rw[jF hκ];simp[cls],fun s' hA _ hjs=>?_⟩
         rw[hjk]
         have hon:=hjs o hjk
         have hτ':s'.τ o=.ref (.n o) 0 n:=by
          have:=hA.1 _ hmem.1
          rw[hev] at this
          simpa only[ev,hb.2,cond_true] using this
         have hO':s'.H (.n o)=some (.ds e' sz els):=(hA.2 _ (vE hmem.1 (by rw[hev];simp[zK]))).trans hO
         have hy:ev N s' yo=ev N s yo:=hA.1 _ hmem.2
         have hnews':xU s' (ev N s yo)=some news:=(tV fun κ hκ=>hA.2 κ (vE hmem.2 hκ)).trans hnews
         refine⟨fun K hK=>.of ?_,fun c hc hn=>?_,fun c d hc hn=>?_,fun d hdd hn=>?_⟩
         ·have hevs:evs N s' args=[.ref (.n o) 0 n,ev N s yo]:=by
           have:args=#[.tmp o,yo]:=by apply Array.ext';exact hargs
           subst this
           have h1:ev N s' (.tmp o)=.ref (.n o) 0 n:=by simp only[ev,hb.2,cond_true,hτ']
           simp[evs,h1,hy]
          have hTT:T=T':=Nat.eq_of_beq_eq_true hb.1
          subst hTT
          simp only[AOp,fY,hT,hevs,hb.1,cond_true]
          have happ:fS E T (.ref (.n o) 0 n) (ev N s yo) (some t) s' K:=by
           simp only[fS,hti,hd,hei,hnews',hz,cond_false,hnr,cond_true,hO',hb3]
           refine⟨hcond,?_⟩
           rw[iQ hon hτ']
           exact hK
          have hnd:∀ q m,ev N s yo≠.dref q m:=by
           intro q m he
           rw[he] at hnews
           simp[xU] at hnews
          generalize ev N s yo=y at happ hnd
          cases y <;> first|exact happ|exact absurd rfl (hnd _ _)
         ·have hct:c≠3*o:=by simpa using hc
          refine NoK.put (NoK.put (hn.over (fun κ hκ=>by rw[jF hκ];exact fun e=>hct e.symm) (fun κ ob' ho=>hone κ ob' ho c)) _ fun _ _=>by simp[zK]) _ fun _ _=>by simp[zK,cls];exact hct
         ·have hct:c≠3*o:=by simpa using hc
          exact Only.put (Only.put (hn.over fun κ ob' ho=>hone κ ob' ho c) _ fun _ _ _=>by simp[zK]) _ fun _ _ _=>by simp[zK,cls];exact hct
         ·exact Only.put (Only.put (hn.over fun κ ob' ho=>hone κ ob' ho _) _ fun _ _ _=>by simp[zK]) _ fun e he hne=>absurd (by rw[hdd] at he;injection he with he;exact he.symm) hne
       ·exact h.elim
     ·exact h.elim
    ·exact h.elim
   ·exact h.elim
 ·exact h.elim
theorem dG {d t:Nat} {o:Key} (h:¬ 3*d=cls o) (h2:¬ 3*t=cls o):swp (.n d) (.n t) o=o:=by
 have h1:o≠.n d:=fun e=>h (by rw[e];rfl)
 have h3:o≠.n t:=fun e=>h2 (by rw[e];rfl)
 simp[swp,zB h1,zB h3]
mutual
theorem ren_id2 {d t:Nat}:∀ v:AV,3*d ∉ zK v→3*t ∉ zK v→ren (swp (.n d) (.n t)) v=v
 | .ref o off n,h1,h2=>by simp only[ren,dG (h:=by simpa[zK] using h1) (h2:=by simpa[zK] using h2)]
 | .ptr o off,h1,h2=>by simp only[ren,dG (h:=by simpa[zK] using h1) (h2:=by simpa[zK] using h2)]
 | .eptr o j off,h1,h2=>by simp only[ren,dG (h:=by simpa[zK] using h1) (h2:=by simpa[zK] using h2)]
 | .dref o n,h1,h2=>by simp only[ren,dG (h:=by simpa[zK] using h1) (h2:=by simpa[zK] using h2)]
 | .dptr o j off,h1,h2=>by simp only[ren,dG (h:=by simpa[zK] using h1) (h2:=by simpa[zK] using h2)]
 | .mref o,h1,h2=>by simp only[ren,dG (h:=by simpa[zK] using h1) (h2:=by simpa[zK] using h2)]
 | .agg cs,h1,h2=>by simp only[ren,gC cs (by simpa[zK] using h1) (by simpa[zK] using h2)]
 | .tup cs,h1,h2=>by simp only[ren,gC cs (by simpa[zK] using h1) (by simpa[zK] using h2)]
 | .fn f cs,h1,h2=>by simp only[ren,gC cs (by simpa[zK] using h1) (by simpa[zK] using h2)]
 | .junk,_,_=>rfl
 | .d x,_,_=>rfl
 | .fp cs,_,_=>rfl
 | .uq e sz els,_,_=>rfl
 | .uqd e sz c e2 sz2 rows subs,_,_=>rfl
 | .ownF f cs,_,_=>rfl
 | .lit v,_,_=>rfl
theorem gC {d t:Nat}:∀ l:List AV,3*d ∉ yG l→3*t ∉ yG l→renL (swp (.n d) (.n t)) l=l
 | [],_,_=>rfl
 |v::vs,h1,h2=>by
  simp only[yG,List.mem_append,not_or] at h1 h2
  simp only[renL,ren_id2 v h1.1 h2.1,gC vs h1.2 h2.2]
end
theorem renO_id2 {d t:Nat} (ob:Ob) (h1:3*d ∉ yO ob) (h2:3*t ∉ yO ob):renO (swp (.n d) (.n t)) ob=ob:=by
 cases ob with
 |vs e cs=>simp only[renO,gC cs (by simpa[yO] using h1) (by simpa[yO] using h2)]
 |ds e sz els=>rfl
 |rs e sz rows =>
  have:rows.map (renL (swp (.n d) (.n t)))=rows:=by
   conv=>rhs;rw[← List.map_id rows]
   refine List.map_congr_left fun r hr=>gC r (fun hm=>h1 ?_) (fun hm=>h2 ?_)
   ·simp only[yO,List.mem_flatMap];exact⟨r,hr,hm⟩
   ·simp only[yO,List.mem_flatMap];exact⟨r,hr,hm⟩
  simp only[renO,this]
 |mp ag ps=>rfl
theorem weak_chain {d t n:Nat} {e:TypeId} {sz:Nat} {els:List (List D)} (hne:d≠t) (hno:NoK (3*t) s) (hon:Only (3*d) d s) :
  Weak E N (put (some t) (.ref (.n d) 0 n) (put (some d) .junk (over (one (.n d) (.ds e sz els)) s))) (put (some t) (.ref (.n t) 0 n) (put (some d) .junk (over (two (.n t) (.n d) (.ds e sz els) (.ds e sz [])) s))):=by
 have ek:∀ κ:Key,κ≠.n d→κ≠.n t→swp (.n d) (.n t) κ=κ:=fun κ h1 h2=>by simp[swp,zB h1,zB h2]
 have hq:∀ κ,isK (.n d) κ=true→κ=.n d:=fun κ h=>yI h
 have e2:((put (some t) (.ref (.n d) 0 n) (put (some d) .junk (over (one (.n d) (.ds e sz els)) s))).swap (.n d) (.n t)).new (.n d) (.ds e sz [])=put (some t) (.ref (.n t) 0 n) (put (some d) .junk (over (two (.n t) (.n d) (.ds e sz els) (.ds e sz [])) s)):=by
  cases s with
  |mk τ H =>
   simp only[St.new,St.setH,St.kill,St.swap,put,over,St.mk.injEq]
   constructor
   ·funext i
    by_cases hi:i=t
    ·subst hi
     rw[nbeq_self]
     have:isK (.n d) (.n i)=false:=nbeq_ne (Ne.symm hne)
     simp[ren,swp,zD,scrP,this]
    rw[nbeq_ne hi]
    by_cases hi2:i=d
    ·subst hi2
     rw[nbeq_self];rfl
    rw[nbeq_ne hi2]
    have h1:=hon.tmp i hi2
    have h2:=hno.tmp i
    show scrP _ (ren _ (τ i))=τ i
    rw[ren_id2 _ h1 h2]
    exact tK _ fun o ho hm=>h1 (by rw[hq o ho] at hm;exact hm)
   ·funext κ
    by_cases h1:κ=.n d
    ·subst h1
     have:Key.beq (.n d) (.n t)=false:=zB fun e=>by injection e with e;exact hne e
     simp[zD,two,this,scrPO]
    rw[zB h1,cond_false]
    by_cases h2:κ=.n t
    ·subst h2
     have:swp (.n d) (.n t) (.n t)=.n d:=by
      have:Key.beq (.n t) (.n d)=false:=zB fun e=>by injection e with e;exact hne e.symm
      simp[swp,this,zD]
     simp[this,one,zD,two,renO,scrPO]
    rw[ek κ h1 h2]
    simp only[one,two,zB h1,zB h2,cond_false]
    cases ho:H κ with
    |none=>rfl
    |some ob =>
     have g1:=hon.obj κ ob ho
     have g2:=hno.obj κ ob ho
     simp only[Option.map_some,renO_id2 ob g1 g2]
     show some (scrPO (isK (.n d)) ob)=some ob
     rw[mB ob fun o' ho' hm=>g1 (by rw[hq o' ho'] at hm;exact hm)]
 intro A w0 m a w h
 have hS:=h.sw (.n d) (.n t) (fun k hk hs=>by
  have e1:swp (.n d) (.n t) (.l k)=.l k:=rfl
  show some (m (swp (.n d) (.n t) (.l k)))=A.pin k
  simp only[swH,e1] at hs
  rw[e1]
  exact h.pin k hk (fun hh=>hs (by rw[hh];rfl)))
 have hS1:SRel E N A w0 (wC (swM (.n d) (.n t) m) (.n d) none) (((put (some t) (.ref (.n d) 0 n) (put (some d) .junk (over (one (.n d) (.ds e sz els)) s))).swap (.n d) (.n t)).new (.n d) (.ds e sz [])) a w:=by
  generalize (put (some t) (.ref (.n d) 0 n) (put (some d) .junk (over (one (.n d) (.ds e sz els)) s))).swap (.n d) (.n t)=s1 at hS
  generalize swM (.n d) (.n t) m=m at hS ⊢
  refine hS.change (.n d) (fun i=>rfl) (fun o hne=>?_) (fun o hne=>yY m _ hne) hS.below (fun Z b hb=>⟨⟨hb.1,fun o ho p hp=>?_,hb.2.2⟩,rfl⟩) (fun _ _ _ _ _=>rfl) (fun ob hob=>?_) (fun _ o hne ho p p' hp hp'=>?_) (fun n hn=>(by cases hn))
  ·simp[St.new,St.setH,St.kill,zB hne]
  ·by_cases hne:o=.n d
   ·subst hne;rw[zI] at hp;cases hp
   ·rw[yY m _ hne] at hp
    refine hb.2.1 o (fun hh=>ho ?_) p hp
    simp[St.new,St.setH,St.kill,zB hne,hh]
  ·have:ob=.ds e sz []:=by simp[St.new,St.setH,zD,scrPO] at hob;exact hob.symm
   subst this;exact .inl ⟨zI _ _ _,rfl⟩
  ·rw[zI] at hp;cases hp
 rw[e2] at hS1
 exact⟨_,hS1⟩
theorem appendX_inv {c:Call} {k:KE} (hc:c.callee=.builtin .append) (h:aEX E N (.call c) dst s k):∃ v O wr fr vk,k wr fr vk (eff v O (wK (.call c)) dst s)∧Pkc E N (.call c) dst s v O wr fr vk:=by
 obtain⟨cal,args,argT⟩:=c
 simp only at hc
 subst hc
 simp only[aEX] at h
 split at h
 ·rename_i T T' d2 yo hT hargs
  have hjk:wK (.call ⟨.builtin .append,args,argT⟩)=some d2:=by simp only[wK,hargs]
  cases hb:(Nat.beq T T'&&Nat.blt d2 N) with
  |false=>rw[hb] at h;exact h.elim
  |true =>
   rw[hb] at h
   simp only[cond_true] at h
   simp only[Bool.and_eq_true] at hb
   split at h
   ·rename_i ti t hti
    split at h
    ·rename_i e hd
     split at h
     ·rename_i ei news o n hei hnews hτ
      cases hb2:(Nat.beq o d2&&!Nat.beq d2 t&&pC (.n o) (ev N s yo)&&!memN (3*d2) (zK (ev N s yo))&&!Nat.beq ei.sz 0) with
      |false=>rw[hb2] at h;exact h.elim
      |true =>
       rw[hb2] at h
       simp only[cond_true] at h
       simp only[Bool.and_eq_true,Bool.not_eq_true'] at hb2
       obtain⟨⟨⟨⟨e1,hdt⟩,hnr⟩,hmn⟩,hz⟩:=hb2
       have hne:d2≠t:=fun e=>by rw[e,nbeq_self] at hdt;cases hdt
       have e1:o=d2:=Nat.eq_of_beq_eq_true e1
       subst e1
       split at h
       ·rename_i e' sz els hO
        cases hb3:(Nat.beq e e'&&Nat.beq sz ei.sz) with
        |false=>rw[hb3] at h;exact h.elim
        |true =>
         rw[hb3] at h
         simp only[cond_true] at h
         obtain⟨hcond,hk⟩:=h
         have hev:ev N s (.tmp o)=.ref (.n o) 0 n:=by simp only[ev,hb.2,cond_true,hτ]
         have hmem:(Operand.tmp o)∈(Op.call ⟨.builtin .append,args,argT⟩).operands∧yo∈(Op.call ⟨.builtin .append,args,argT⟩).operands:=by
          have:args=#[.tmp o,yo]:=by apply Array.ext';exact hargs
          subst this
          simp[Op.operands,Call.operands]
         have htwo:∀ κ ob',two (.n t) (.n o) (.ds e sz (els.take n++news)) (.ds e sz []) κ=some ob'→∀ c,c ∉ yO ob':=fun κ ob' ho c hm=>by
          simp only[two] at ho
          cases h1:Key.beq κ (.n t) with
          |true=>rw[h1] at ho;injection ho with ho;subst ho;simp[yO] at hm
          |false =>
           rw[h1] at ho
           cases h2:Key.beq κ (.n o) with
           |true=>rw[h2] at ho;injection ho with ho;subst ho;simp[yO] at hm
           |false=>rw[h2] at ho;cases ho
         have htk:∀ κ,two (.n t) (.n o) (.ds e sz (els.take n++news)) (.ds e sz []) κ≠none→κ=.n t∨κ=.n o:=fun κ hκ=>by
          simp only[two] at hκ
          cases h1:Key.beq κ (.n t) with
          |true=>exact .inl (yI h1)
          |false =>
           rw[h1] at hκ
           cases h2:Key.beq κ (.n o) with
           |true=>exact .inr (yI h2)
           |false=>rw[h2] at hκ;exact absurd rfl hκ
         refine⟨_,_,_,_,_,by rw[hjk];exact hk,fun κ hκ=>by rcases htk κ hκ with e|e <;> rw[e] <;> simp[cls],fun s' hA hfr hjs=>?_⟩
         rw[hjk]
         have hon:=hjs o hjk
         have hτ':s'.τ o=.ref (.n o) 0 n:=by
          have:=hA.1 _ hmem.1
          rw[hev] at this
          simpa only[ev,hb.2,cond_true] using this
         have hO':s'.H (.n o)=some (.ds e' sz els):=(hA.2 _ (vE hmem.1 (by rw[hev];simp[zK]))).trans hO
         have hy:ev N s' yo=ev N s yo:=hA.1 _ hmem.2
         have hnews':xU s' (ev N s yo)=some news:=(tV fun κ hκ=>hA.2 κ (vE hmem.2 hκ)).trans hnews
         refine⟨fun K hK=>?_,fun c hc hn=>?_,fun c d hc hn=>?_,fun d hdd hn=>?_⟩
         ·have hevs:evs N s' args=[.ref (.n o) 0 n,ev N s yo]:=by
           have:args=#[.tmp o,yo]:=by apply Array.ext';exact hargs
           subst this
           have h1:ev N s' (.tmp o)=.ref (.n o) 0 n:=by simp only[ev,hb.2,cond_true,hτ']
           simp[evs,h1,hy]
          have hTT:T=T':=Nat.eq_of_beq_eq_true hb.1
          subst hTT
          have hno:NoK (3*t) s':=hfr _ (by simp)
          refine⟨fun s1=>s1=put (some t) (.ref (.n o) 0 (n+news.length)) ((s'.kill (.n o)).setH (.n o) (.ds e sz (els.take n++news))),?_,fun s1 h1=>?_⟩
          ·simp only[AOp,fY,hT,hevs,hb.1,cond_true]
           have happ:fS E T (.ref (.n o) 0 n) (ev N s yo) (some t) s' (fun s1=>s1=put (some t) (.ref (.n o) 0 (n+news.length)) ((s'.kill (.n o)).setH (.n o) (.ds e sz (els.take n++news)))):=by
            simp only[fS,hti,hd,hei,hnews',hz,cond_false,hnr,cond_true,hO',hb3]
            exact⟨hcond,trivial⟩
           have hnd:∀ q m,ev N s yo≠.dref q m:=by
            intro q m he
            rw[he] at hnews
            simp[xU] at hnews
           generalize ev N s yo=y at happ hnd
           cases y <;> first|exact happ|exact absurd rfl (hnd _ _)
          ·subst h1
           rw[iQ hon hτ']
           exact⟨_,weak_chain hne hno hon,hK⟩
         ·have hct:c≠3*o∧c≠3*t:=by simpa using hc
          refine NoK.put (NoK.put (hn.over (fun κ hκ=>by rcases htk κ hκ with e|e <;> rw[e] <;> simp only[cls];exact fun e=>hct.2 e.symm;exact fun e=>hct.1 e.symm) (fun κ ob' ho=>htwo κ ob' ho c)) _ fun _ _=>by simp[zK]) _ fun _ _=>by simp[zK,cls];exact hct.2
         ·have hct:c≠3*t:=by simp at hc;exact hc.2
          exact Only.put (Only.put (hn.over fun κ ob' ho=>htwo κ ob' ho c) _ fun _ _ _=>by simp[zK]) _ fun _ _ _=>by simp[zK,cls];exact hct
         ·exact Only.put (Only.put (hn.over fun κ ob' ho=>htwo κ ob' ho _) _ fun _ _ _=>by simp[zK]) _ fun e he hne=>absurd (by rw[hdd] at he;injection he with he;exact he.symm) hne
       ·exact h.elim
     ·exact h.elim
    ·exact h.elim
   ·exact h.elim
 ·exact h.elim
theorem fzk_free:∀ (cs:List AV) (xs:List D) (s s':St),fzk s cs=some (xs,[])→fzk s' cs=some (xs,[])
 | [],xs,s,s',h=>h
 |c::cs,xs,s,s',h=>by
  simp only[fzk] at h ⊢
  cases hr:fzk s cs with
  |none=>rw[hr] at h;cases h
  |some p =>
   obtain⟨ys,ks⟩:=p
   rw[hr] at h
   simp only at h
   cases c <;> simp only at h
   case d x =>
    simp only[Option.some.injEq,Prod.mk.injEq] at h
    obtain⟨h1,h2⟩:=h
    subst h2
    rw[fzk_free cs ys s s' hr]
    simp[h1]
   case ref o off n =>
    cases hq:fz1 s (.ref o off n) with
    |none=>rw[hq] at h;cases h
    |some x=>rw[hq] at h;simp at h
   all_goals cases h
theorem pK:∀ (els:List (List AV)) (xs:List (List D)) (s s':St),fZ s els=some (xs,[])→fZ s' els=some (xs,[])
 | [],xs,s,s',h=>h
 |v::vs,xs,s,s',h=>by
  simp only[fZ] at h ⊢
  cases h1:fzk s v with
  |none=>rw[h1] at h;cases h
  |some p =>
   cases h2:fZ s vs with
   |none=>rw[h1,h2] at h;cases h
   |some q =>
    obtain⟨x,k1⟩:=p
    obtain⟨ys,k2⟩:=q
    rw[h1,h2] at h
    simp only[Option.some.injEq,Prod.mk.injEq,List.append_eq_nil_iff] at h
    obtain⟨h3,h4,h5⟩:=h
    subst h4;subst h5
    rw[fzk_free v x s s' h1,pK vs ys s s' h2]
    simp[h3]
theorem pairs_c {T:TypeId} {ps:Array (Nat × Operand)} (h:∀ x∈(ps.toList.map (·.2)).toArray,ev N s' x=ev N s x):(ps.toList.map fun p=>(p.1,ev N s' p.2))=(ps.toList.map fun p=>(p.1,ev N s p.2)) :=
 List.map_congr_left fun p hp=>by rw[h p.2 (by simp;exact⟨p.1,by simpa using hp⟩)]
theorem evs_c {xs:Array Operand} (h:∀ x∈xs,ev N s' x=ev N s x):evs N s' xs=evs N s xs :=
 List.map_congr_left fun x hx=>h x (by simpa using hx)
theorem opt_c {x:Option Operand} (h:∀ y,x=some y→ev N s' y=ev N s y):x.map (ev N s')=x.map (ev N s):=by
 cases x with
 |none=>rfl
 |some y=>simp[h y rfl]
theorem aE_inv {op:Op} {k:KE} (h:aE E N op dst s k):∃ v O wr fr vk,k wr fr vk (eff v O (wK op) dst s)∧Pkc E N op dst s v O wr fr vk:=by
 cases op <;> simp only[aE] at h <;> try exact h.elim
 case move x =>
  rw[yT] at h
  exact jL rfl h fun s' hA K hK=>by simp only[AOp,yT];rw[hA.1 x (by simp[Op.operands])];exact hK
 case assign x =>
  rw[yT] at h
  exact jL rfl h fun s' hA K hK=>by simp only[AOp,yT];rw[hA.1 x (by simp[Op.operands])];exact hK
 case pick c x y =>
  split at h
  ·rename_i b hb
   cases b with
   |true =>
    simp only[yT] at h
    exact jL rfl h fun s' hA K hK=>by
     simp only[AOp,yT]
     rw[hA.1 c (by simp[Op.operands]),hb]
     simp only
     rw[hA.1 x (by simp[Op.operands])];exact hK
   |false =>
    simp only[yT] at h
    exact jL rfl h fun s' hA K hK=>by
     simp only[AOp,yT]
     rw[hA.1 c (by simp[Op.operands]),hb]
     simp only
     rw[hA.1 y (by simp[Op.operands])];exact hK
  ·exact h.elim
 case load T x=>exact wD rfl _ _ (lh_load T (ev N s x) s) (fun c hc=>vE (by simp[Op.operands]) hc) h fun s' hA K hG=>by simp only[AOp];rw[hA.1 x (by simp[Op.operands])];exact hG
 case binOp o T x y T'=>exact wD rfl _ _ (lh_bin T o (ev N s x) (ev N s y) s) (by simp) h fun s' hA K hG=>by simp only[AOp];rw[hA.1 x (by simp[Op.operands]),hA.1 y (by simp[Op.operands])];exact aBinN_of hG
 case unOp o T x=>exact wD rfl _ _ (lh_un o (ev N s x) s) (by simp) h fun s' hA K hG=>by simp only[AOp];rw[hA.1 x (by simp[Op.operands])];exact hG
 case convert S T x=>exact wD rfl _ _ (lh_conv S T (ev N s x) s) (fun c hc=>vE (by simp[Op.operands]) hc) h fun s' hA K hG=>by simp only[AOp];rw[hA.1 x (by simp[Op.operands])];exact hG
 case slice T x lo hi mx =>
  exact wD rfl _ _ (lh_slice T (ev N s x) _ _ _ s) (fun c hc=>vE (by simp[Op.operands]) hc) h fun s' hA K hG=>by
   simp only[AOp]
   rw[hA.1 x (by simp[Op.operands]),opt_c (x:=lo) fun y hy=>hA.1 y (by simp[Op.operands,hy]),opt_c (x:=hi) fun y hy=>hA.1 y (by simp[Op.operands,hy]),opt_c (x:=mx) fun y hy=>hA.1 y (by simp[Op.operands,hy])]
   exact hG
 case fieldAddr T x f=>exact wD rfl _ _ (lh_field T f (ev N s x) s) (by simp) h fun s' hA K hG=>by simp only[AOp];rw[hA.1 x (by simp[Op.operands])];exact hG
 case field T x f=>exact wD rfl _ _ (lh_part T f (ev N s x) s) (by simp) h fun s' hA K hG=>by simp only[AOp];rw[hA.1 x (by simp[Op.operands])];exact hG
 case indexAddr T x i=>exact wD rfl _ _ (lh_idxAddr T (ev N s x) (ev N s i) s) (fun c hc=>vE (by simp[Op.operands]) hc) h fun s' hA K hG=>by simp only[AOp];rw[hA.1 x (by simp[Op.operands]),hA.1 i (by simp[Op.operands])];exact hG
 case index T x i=>exact wD rfl _ _ (lh_idx T (ev N s x) (ev N s i) s) (by simp) h fun s' hA K hG=>by simp only[AOp];rw[hA.1 x (by simp[Op.operands]),hA.1 i (by simp[Op.operands])];exact hG
 case lookup T x i ok=>exact wD rfl _ _ (lh_lookup T (ev N s x) (ev N s i) ok s) (fun c hc=>vE (by simp[Op.operands]) hc) h fun s' hA K hG=>by simp only[AOp];rw[hA.1 x (by simp[Op.operands]),hA.1 i (by simp[Op.operands])];exact hG
 case build T parts =>
  exact wD rfl _ _ (lh_build T _ s) (by simp) h fun s' hA K hG=>by
   simp only[AOp]
   rw[pairs_c (T:=T) (s:=s) (s':=s') (ps:=parts) fun x hx=>hA.1 x hx];exact hG
 case nilCheck x =>
  split at h <;> first|exact h.elim|skip
  all_goals
   rename_i hb
   first
    |exact jL rfl h fun s' hA K hK=>by simp only[AOp];rw[hA.1 x (by simp[Op.operands]),hb];exact hK
    |exact jL (v:=.fp _) rfl h fun s' hA K hK=>by simp only[AOp];rw[hA.1 x (by simp[Op.operands]),hb];exact hK
 case extract x i =>
  split at h
  ·rename_i vs hb
   split at h
   ·rename_i v hv
    rw[yT] at h
    exact jL rfl h fun s' hA K hK=>by simp only[AOp];rw[hA.1 x (by simp[Op.operands]),hb];simp only[hv,yT];exact hK
   ·exact h.elim
  ·exact h.elim
 case alloc T =>
  split at h
  ·rename_i ti t hti
   have hz:∀ l:List D,yG (l.map AV.d)=[]:=fun l=>by induction l with|nil=>rfl|cons x xs ih=>simp[yG,zK,ih]
   exact dR rfl h (fun c hc=>by simpa[zK,cls] using hc) (by simp) (fun c hc=>by simp[yO,hz] at hc) fun s' hA K hK=>by simp only[AOp,hti];exact hK
  ·exact h.elim
 case makeSlice T l c =>
  split at h
  ·rename_i ti t k1 n k2 cap hti hl hc
   split at h
   ·rename_i e hd
    split at h
    ·rename_i ei hei
     cases hz:Nat.beq ei.sz 0 with
     |true=>rw[hz] at h;exact h.elim
     |false =>
      rw[hz] at h
      simp only[cond_false] at h
      exact dR rfl h.2 (fun c hc=>by simpa[zK,cls] using hc) (by simp) (fun c hc=>by simp[yO] at hc) fun s' hA K hK=>by
       simp only[AOp,aMake]
       rw[hA.1 l (by simp[Op.operands]),hA.1 c (by simp[Op.operands]),hl,hc]
       simp only[hti,hd,hei,hz,cond_false]
       exact⟨h.1,hK⟩
    ·exact h.elim
   ·exact h.elim
  ·exact h.elim
 case buildSlice T len parts =>
  split at h
  ·rename_i ti t hti
   split at h
   ·rename_i e hd
    split at h
    ·rename_i ei hei
     cases hz:(Nat.beq ei.sz 0 || Nat.blt 4096 (len*ei.sz)) with
     |true=>rw[hz] at h;exact h.elim
     |false =>
      rw[hz] at h
      simp only[cond_false] at h
      split at h
      ·rename_i els hels
       have hpc:∀ s',jD N (.buildSlice T len parts) s s'→(parts.toList.map fun p=>(p.1,ev N s' p.2))=(parts.toList.map fun p=>(p.1,ev N s p.2)):=fun s' hA=>pairs_c (T:=T) fun x hx=>hA.1 x hx
       split at h
       ·rename_i xs hks
        exact dR rfl h (fun c hc=>by simpa[zK,cls] using hc) (by simp) (fun c hc=>by simp[yO] at hc) fun s' hA K hK=>by
         simp only[AOp,jC]
         rw[hpc s' hA]
         simp only[hti,hd,hei,hz,cond_false,hels,pK els xs s s' hks]
         exact hK
       ·rename_i hnk
        cases hoc:els.all (fun c=>c.all fun v=>yQ v&&!memN (3*t) (zK v)) with
        |false=>rw[hoc] at h;exact h.elim
        |true =>
         rw[hoc] at h
         simp only[cond_true] at h
         have hok:els.all (fun c=>c.all yQ)=true:=by
          simp only[List.all_eq_true,Bool.and_eq_true] at hoc ⊢
          exact fun c hc v hv=>(hoc c hc v hv).1
         refine dR rfl h (fun c hc=>by simp[zK,cls] at hc;simp[hc]) (by simp) (fun c hc=>?_) fun s' hA K hK=>?_
         ·simp only[yO,List.mem_flatMap] at hc
          obtain⟨r,hr,hcr⟩:=hc
          refine⟨List.mem_cons_of_mem _ (List.mem_flatMap.2 ⟨r,hr,hcr⟩),fun e=>?_⟩
          subst e
          obtain⟨v,hv,hcv⟩:=xD.1 hcr
          simp only[List.all_eq_true,Bool.and_eq_true] at hoc
          have:=(hoc r hr v hv).2
          rw[mR hcv] at this;cases this
         ·simp only[AOp,jC]
          rw[hpc s' hA]
          simp only[hti,hd,hei,hz,cond_false,hels]
          split
          ·rename_i xs hks
           exact absurd (pK els xs s' s hks) (hnk xs)
          ·exact .inr (by rw[hok];exact hK)
          ·rw[hok];exact hK
      ·exact h.elim
    ·exact h.elim
   ·exact h.elim
  ·exact h.elim
 case store T ad x =>
  split at h
  ·exact store_inv h
  ·exact h.elim
 case call c =>
  obtain⟨cal,args,argT⟩:=c
  cases cal with
  |invoke r nm=>exact h.elim
  |builtin b =>
   by_cases hbb:b=.append
   ·subst hbb
    exact append_inv rfl (by simpa only[aE] using h)
   have hj:wK (.call ⟨.builtin b,args,argT⟩)=none:=by cases b <;> first|rfl|exact absurd rfl hbb
   replace h:aEb E b argT.toList (evs N s args) dst s k:=by cases b <;> first|exact h|exact absurd rfl hbb
   unfold aEb at h
   have hev:∀ s',jD N (.call ⟨.builtin b,args,argT⟩) s s'→evs N s' args=evs N s args:=fun s' hA=>evs_c fun x hx=>hA.1 x (by simpa[Op.operands,Call.operands] using hx)
   split at h
   ·rename_i T TT x hT hx
    exact wD hj _ _ (lh_len T x s) (by simp) h fun s' hA K hG=>by simp only[AOp,fY];rw[hev s' hA,hT,hx];exact hG
   ·rename_i Ts k1 p k2 q hx
    exact jL (v:=.d _) rfl h fun s' hA K hK=>by simp only[AOp,fY];rw[hev s' hA,hx];exact hK
   ·rename_i Ts k1 p k2 q hx
    exact jL (v:=.d _) rfl h fun s' hA K hK=>by simp only[AOp,fY];rw[hev s' hA,hx];exact hK
   ·exact h.elim
  |value f =>
   simp only at h
   split at h
   ·rename_i g caps hf
    cases hnp:((evs N s args).all tS&&caps.all (fun c=>!bL c)) with
    |false=>rw[hnp] at h;exact h.elim
    |true =>
     rw[hnp] at h
     simp only[cond_true] at h
     simp only[Bool.and_eq_true] at hnp
     split at h
     ·rename_i as1 cs has hcs
      have hop:∀ s',jD N (.call ⟨.value f,args,argT⟩) s s'→evs N s' args=evs N s args∧ev N s' f=ev N s f∧fzs s' (evs N s args)=some as1∧bO s' caps=some cs:=by
       intro s' hA
       refine⟨evs_c fun x hx=>hA.1 x (by simp[Op.operands,Call.operands,hx]),hA.1 f (by simp[Op.operands,Call.operands]),?_,?_⟩
       ·rw[fzs_c hnp.1 fun κ hk=>hA.2 κ ?_,has]
        obtain⟨v,hv,hc⟩:=xD.1 hk
        obtain⟨x,hx,rfl⟩:=List.mem_map.1 hv
        exact vE (by simp[Op.operands,Call.operands];right;simpa using hx) hc
       ·rw[fzps_c hnp.2 fun κ hk=>hA.2 κ ?_,hcs]
        refine vE (x:=f) (by simp[Op.operands,Call.operands]) ?_
        rw[hf];simpa[zK] using hk
      cases hB:(zT (evs N s args) || zT caps) with
      |true =>
       rw[hB] at h
       simp only[cond_true] at h
       obtain⟨r,h1,h2,h3⟩:=h
       obtain⟨v,O,wr,fr,vk,g1,g2⟩:=ret_inv (N:=N) (E:=E) (op:=.call ⟨.value f,args,argT⟩) rfl h3
       refine⟨v,O,wr,fr,vk,g1,g2 fun s' hA hfr K hK=>?_⟩
       obtain⟨e1,e2,e3,e4⟩:=hop s' hA
       simp only[AOp,fY]
       rw[e1,e2,hf]
       simp only[e3,e4,hB,cond_true]
       exact .inl ⟨_,h1,fun r' hr=>by subst hr;exact⟨h2,hK⟩⟩
      |false =>
       rw[hB] at h
       simp only[cond_false] at h
       obtain⟨r,h1,h3⟩:=h
       obtain⟨v,O,wr,fr,vk,g1,g2⟩:=ret_inv (N:=N) (E:=E) (op:=.call ⟨.value f,args,argT⟩) rfl h3
       refine⟨v,O,wr,fr,vk,g1,g2 fun s' hA hfr K hK=>?_⟩
       obtain⟨e1,e2,e3,e4⟩:=hop s' hA
       simp only[AOp,fY]
       rw[e1,e2,hf]
       simp only[e3,e4,hB,cond_false]
       exact⟨_,h1,fun r' hr=>by subst hr;exact hK⟩
     ·exact h.elim
   ·exact h.elim
end
end Ai
