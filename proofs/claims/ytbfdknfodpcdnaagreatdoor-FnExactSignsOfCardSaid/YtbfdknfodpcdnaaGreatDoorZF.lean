import Derived.Test.YtbfdknfodpcdnaaGreatDoorZE
import Derived.Lib.SlicesCompact
import Derived.Sort.LotA
import Derived.Shelf.Sort.Plain
import Derived.Shelf.Slices.In.SortNone
import Derived.Shelf.Slices.CompactS
import Derived.Shelf.Slices.Empties
import Derived.Ground.NamesProg
import Derived.Ground.Names2Prog
import Derived.Test.YtbfdknfodpcdnaaGreatDoorProg
import Derived.WalkKit
set_option maxHeartbeats 8000000
set_option linter.unusedVariables false
set_option linter.unusedSimpArgs false
set_option linter.unusedSectionVars false
namespace Ai
set_option maxRecDepth 100000
open Go Go.Proofs Cyc
def wiC (p:ProgL) (b:Int) (sl:Bool) (n:Nat):List AV:=[i64 p.cells,i64 p.locks,i64 p.conds,.d (.sl (p.rs.map zO)),i64 b,.ref (.n 950) 0 n,bv sl]
noncomputable def wiH (p:ProgL) (b:Int) (sl:Bool) (xs:List RunT):Key→Option Ob
 | .l j=>bif Nat.beq j 0 then some (.vs 131 (wiC p b sl xs.length)) else none
 | .n j=>bif Nat.beq j 950 then some (.ds 46 7 (xs.map kN)) else none
 | .s _ _=>none
def mV:Key→Bool
 | .l j=>Nat.beq j 0
 | .n j=>Nat.beq j 950
 | .s _ _=>false
def AtI (p:ProgL) (b:Int) (sl:Bool) (xs:List RunT) (H:Key→Option Ob):Prop :=
 H (.l 0)=some (.vs 131 (wiC p b sl xs.length))∧H (.n 950)=some (.ds 46 7 (xs.map kN))
theorem sV {p:ProgL} {b:Int} {sl:Bool} {xs:List RunT}:∀ κ,mV κ=false→wiH p b sl xs κ=none
 | .l j,h=>by have h:Nat.beq j 0=false:=h;simp[wiH,h]
 | .n j,h=>by have h:Nat.beq j 950=false:=h;simp[wiH,h]
 | .s o j,h=>rfl
theorem sP {p:ProgL} {b:Int} {sl:Bool} {xs:List RunT} {H:Key→Option Ob} (h:AtI p b sl xs H):yJ mV H=wiH p b sl xs:=by
 obtain⟨h0,h1⟩:=h
 funext κ
 cases hk:mV κ with
 |false=>rw[sV κ hk,fC hk]
 |true =>
  rw[vK hk]
  cases κ with
  |l j =>
   have:=Nat.eq_of_beq_eq_true (show Nat.beq j 0=true from hk)
   subst this
   rw[h0];rfl
  |n j =>
   have:=Nat.eq_of_beq_eq_true (show Nat.beq j 950=true from hk)
   subst this;rw[h1]
   rfl
  |s o j=>cases hk
theorem args5 {T T' K K' A A' B B' C C' O O':List (List D)} {x y:AV} {c:AV} (h1:T=T') (h2:K=K') (h3:A=A') (h4:B=B') (h5:C=C') (h6:O=O'):[x,AV.agg [c,sl T,sl K,sl A,sl B,sl C,y],sl O]=[x,AV.agg [c,sl T',sl K',sl A',sl B',sl C',y],sl O']:=by rw[h1,h2,h3,h4,h5,h6]
def isSt (κ:Key):Bool:=match κ with|.s o _=>Nat.beq o 900|.n k=>Nat.beq k 901 || Nat.beq k 902|.l _=>false
def yW (p:ProgL) (s:StL) (u:Nat) (e:Ev):Prop:=¬ (u∈enabledL p s∧hangI (stepL p s u).2 e)
theorem tA {q:Key→Bool} {H:Key→Option Ob} {l:List Th} (hq:∀ j,q (.s 900 j)=true) (hH:∀ j,H (.s 900 j)=zS l j):(thRows 900 l).map (lM q H)=(l.map zF).map (List.map .d):=by
 apply List.ext_getElem?
 intro j
 rw[List.getElem?_map,List.getElem?_map,List.getElem?_map]
 by_cases h:j<l.length
 ·rw[xJ h,List.getElem?_eq_getElem h]
  simp[thRow,lM,frz,hq,hH,thFam_self h,i64,zF,stk,List.take_of_length_le]
 ·rw[List.getElem?_eq_none (by simp[thRows,ownRows];omega),List.getElem?_eq_none (by omega)]
  rfl
def isF9 (κ:Key):Bool:=match κ with|.s o _=>Nat.beq o 900|_=>false
noncomputable def wiO2 (p:ProgL) (b:Int) (sl:Bool) (r:RunT) (acc:List RunT) (L kept:List Nat) (x:RunT) (e:Ev):List (Key × Ob):=[(.l 0,.vs 131 (wiC p b sl acc.length)),(.n 950,.ds 46 7 (acc.map kN)),(.n 4,.vs 46 ((encRun 0 r.tr r.tk r.s).map .d)),(.n 57,.ds 3 1 (L.map encN)),
 (.n 11,.vs 46 ([i64 0,.ref (.n 87) 0 x.tr.length,.ref (.n 93) 0 x.tk.length]++stRef x.s)),(.n 87,.ds 107 5 (x.tr.map encEv)),(.n 93,.ds 3 1 (x.tk.map encInt)),(.n 900,.rs 109 6 (thRows 900 x.s.ths)),(.n 901,.ds 100 1 (x.s.cells.map encF)),(.n 902,.ds 3 1 (x.s.owner.map encInt)),
 (.n 12,.vs 107 ((encEv e).map .d)),(.n 99,.ds 3 1 (kept.map encN))]
theorem walk_ok (p:ProgL) (hp:p.wf) (hg:p.goodS) (hv:p.flt) (b:Int) (hb:InR b 0 1000) (slp:Bool):∀ (n:Nat) (r:RunT) (c0:Int) (sleep:List Nat) (xs:List RunT),XR p b r→b.toNat+1 - r.tr.length=n→xs.length≤400→sleep.length≤5*r.tr.length →
  ∀ H0,AtI p b slp xs H0→IOCall EE 81 [.ptr (.l 0) 0,agg (encRun c0 r.tr r.tk r.s),sl (sleep.map encN)] H0 (fun q H1=>q=bv (xgo p b slp (yW p) n r sleep xs).2∧H1=wiH p b slp (xgo p b slp (yW p) n r sleep xs).1)
 | 0,r,c0,sleep,xs,hr,hn,hx,hs,H0,hH=>by
  have:=hr.le
  omega
 |n+1,r,c0,sleep,xs,hr,hn,hx,hs,H0,hH=>by
  have hok:=runOK hg
  have hri:=runI hg hv
  have hin:SInv p r.s∧r.s.flt:=⟨hr.inv.si,hr.inv.fl⟩
  have hsm:=hok.small r.s hr.inv.si
  have hen:=enabledI_ok lW p r.s hp hsm.1 (hok.seen r.s hr.inv.si)
  have hcode:CallsTo EE 125 [agg (encProg p),.fp (encSt r.s),sl ((enabledL p r.s).map encN),i64 ((r.tr.map encEv).length:Nat),i64 b] (·=i64 (codeL p r.s r.tr.length b)):=by
   rw[List.length_map];exact codeOf_ok p r.s r.tr.length b hsm.1
  have h5:(enabledL p r.s).length≤5:=Nat.le_trans (enabledTo_le) hr.inv.si.len
  have hle:=hr.le
  have hlen:=hr.len
  have hb2:=hb.2
  rw[xgo]
  refine io_of_AW (fn:=Tryz.f81) (c:=Tryz.f81.body.getD .skip) Tryz.func81 rfl (by kernel_rfl) rfl ?_
  have hat:At [(0,.ptr (.l 0) 0),(1,agg (encRun c0 r.tr r.tk r.s)),(2,sl (sleep.map encN))] [(.l 0,.vs 131 (wiC p b slp xs.length)),(.n 950,.ds 46 7 (xs.map kN))] [] ⟨fun i=>[AV.ptr (.l 0) 0,agg (encRun c0 r.tr r.tk r.s),sl (sleep.map encN)].getD i .junk,H0⟩ :=
   ⟨⟨rfl,rfl,rfl,trivial⟩,⟨hH.1,hH.2,trivial⟩,trivial⟩
  obtain⟨τ,H,hf⟩:=hat.form
  rw[hf]
  clear hat hf hH
  conv=>whnf
  refine .inl ⟨_,hen,?_⟩
  rintro q rfl
  refine⟨fun c hc=>?_,.inl ?_⟩
  ·obtain⟨y,_,rfl⟩:=List.mem_map.1 hc
   rfl
  conv=>whnf
  refine .inl ⟨14,by kernel_rfl,?_⟩
  conv=>whnf
  refine⟨_,hcode,rfl,?_⟩
  conv=>whnf
  refine kbi (fun hc=>?_) (fun hc=>?_)
  ·have hc:codeL p r.s r.tr.length b≠0:=by simpa using hc
   have hc:0<codeL p r.s r.tr.length b:=by have:=codeL_nn p r.s r.tr.length b;omega
   rw[if_pos hc]
   conv=>whnf
   refine .inr (.inr (.inr ⟨[0],by kernel_rfl,7,[],?_⟩))
   conv=>whnf
   refine⟨by kernel_rfl,?_⟩
   conv=>whnf
   refine⟨⟨rfl,by show(xs.length+1)*_≤_;simp only[ti46];omega,by show xs.length+1≤_;omega⟩,?_⟩
   conv=>whnf
   have fin:∀ (S:Key→Option Ob),S (.l 0)=some (.vs 131 (wiC p b slp (xs.length+1)))→S (.n 950)=some (.ds 46 7 ((xs.map kN).take xs.length++[kN (leaf p b (codeL p r.s r.tr.length b) r)]))→AtI p b slp (xs++[leaf p b (codeL p r.s r.tr.length b) r]) S:=by
    intro S h0 h1
    rw[List.take_of_length_le (by simp)] at h1
    exact⟨by rw[h0,List.length_append];rfl,by rw[h1,List.map_append];rfl⟩
   refine kbi (fun h4=>?_) (fun h4=>?_)
   ·have h4:((xs.length+1:Nat):Int)≤400:=of_decide_eq_true h4
    conv=>whnf
    refine⟨_,Weak.refl,?_⟩
    conv=>whnf
    refine⟨mV,?_,sP (fin _ rfl rfl)⟩
    show bv true=bv (decide (xs.length+1≤400))
    rw[decide_eq_true (by omega)]
   ·have h4:¬ ((xs.length+1:Nat):Int)≤400:=fun e=>h4 (decide_eq_true e)
    conv=>whnf
    refine⟨_,Weak.refl,?_⟩
    conv=>whnf
    refine⟨mV,?_,sP (fin _ rfl rfl)⟩
    show bv false=bv (decide (xs.length+1≤400))
    rw[decide_eq_false (by omega)]
  ·have hc:¬ 0<codeL p r.s r.tr.length b:=by simp at hc;omega
   rw[if_neg hc]
   have hcc:codeL p r.s r.tr.length b=0:=by have:=codeL_nn p r.s r.tr.length b;omega
   have hlb:=(en_ne hc).2
   have hcl:CallsTo EE 126 [sl (sleep.map encN)] (·=.uq 3 1 (sleep.map encN)):=by
    rw[natI_enc];exact CloneS_ok (natI sleep) (by simp[natI];omega)
   conv=>whnf
   refine⟨_,hcl,?_⟩
   rintro q rfl
   refine .inr ⟨_,rfl,?_⟩
   conv=>whnf
   refine aloopF (fun x:Nat × XS=>[(0,.ptr (.l 0) 0),(2,sl (sleep.map encN)),(4,.ptr (.n 4) 0),(6,bv false),(7,sl ((enabledL p r.s).map encN)),(8,.ref (.n 57) 0 (sleep++x.2.tried).length),(58,sl ((enabledL p r.s).map encN)),(59,i64 ((enabledL p r.s).map encN).length),(60,i64 x.1)])
    (fun x=>[(.l 0,.vs 131 (wiC p b slp x.2.acc.length)),(.n 950,.ds 46 7 (x.2.acc.map kN)),(.n 4,.vs 46 ((encRun 0 r.tr r.tk r.s).map .d)),(.n 57,.ds 3 1 ((sleep++x.2.tried).map encN))])
    (fun _=>[(900,fun _=>none)]) (fun x=>(enabledL p r.s).length - x.1) (fun x=>x.2.ok=true∧x.1≤(enabledL p r.s).length∧xloop p slp (yW p) (xgo p b slp (yW p) n) r sleep xs x.1=x.2) (0,⟨xs,[],true⟩) (weak_frz isF9) ⟨rfl,rfl,rfl,rfl,rfl,?_,rfl,rfl,rfl,trivial⟩ ⟨rfl,rfl,?_,?_,trivial⟩ ⟨fun j=>rfl,trivial⟩ ⟨rfl,Nat.zero_le _,rfl⟩ ?_
   ·show AV.ref (.n 57) 0 (sleep.map encN).length=.ref (.n 57) 0 (sleep++[]).length
    simp
   ·show some (Ob.vs 46 [i64 (codeL p r.s r.tr.length b),_,_,_,_,_,_])=some (Ob.vs 46 [i64 0,_,_,_,_,_,_])
    rw[hcc];rfl
   ·show some (Ob.ds 3 1 (sleep.map encN))=some (Ob.ds 3 1 ((sleep++[]).map encN))
    simp
   rintro⟨k,⟨acc,tried,okk⟩⟩ τ H ⟨hk0,hk,hXe⟩
   have hk0:okk=true:=hk0
   subst hk0
   have hk:k≤(enabledL p r.s).length:=hk
   have hXe:xloop p slp (yW p) (xgo p b slp (yW p) n) r sleep xs k=⟨acc,tried,true⟩:=hXe
   have hXl:=xloop_len (p:=p) (b:=b) (sl:=slp) (K:=yW p) (n:=n) (r:=r) (sleep:=sleep) hx k
   have hXt:=xloop_tried (p:=p) (sl:=slp) (K:=yW p) (f:=xgo p b slp (yW p) n) (r:=r) (sleep:=sleep) (acc:=xs) k hk
   rw[hXe] at hXl hXt
   have ha4:acc.length≤400:=hXl rfl
   clear hXl
   conv=>whnf
   refine kbi (fun h=>?_) (fun h=>?_)
   ·have hlt:k<(enabledL p r.s).length:=by simpa using h
    have hnx:=xloop.eq_2 p slp (yW p) (xgo p b slp (yW p) n) r sleep xs k
    rw[hXe] at hnx
    have hm:=XR.mem (b:=b) hlt
    have hwl:=en_lt hm
    have hnext:=hr.step hg hv hc hlt
    have hst:=stepI_ok lW 46 (i64 0) (.d .nil) (.d .nil) (w9 _) (w9 _) (w9 _) p r.s (enAt p r k) hp hwl hsm.2 hsm.1 (hri.ready r.s hin _ hm hwl) (hri.awake r.s hin _ hm hwl) (hri.flt r.s hin _ (List.getElem_mem hwl)) (hri.joins r.s hin _ hm hwl)
    have hhas:CallsTo EE 127 [sl (sleep.map encN),i64 (enAt p r k:Nat)] (·=bp (((enAt p r k:Nat):Int)∈natI sleep)):=by
     rw[natI_enc];exact ContS_ok (natI sleep) _ (by simp[natI];omega)
    have hmem:((enAt p r k:Nat):Int)∈natI sleep↔enAt p r k∈sleep:=(o0 (by omega)).trans (by simp)
    have hcE:=CloneE_ok r.tr (by omega)
    have hcT:=Clone_ok r.tk (by omega)
    have hLu:∀ u∈tried,u∈enabledL p r.s:=hXt.2
    have htl:tried.length≤k:=hXt.1
    have hLb:(sleep++tried).length≤5*r.tr.length+5:=by simp;omega
    conv=>whnf
    refine⟨encN (enAt p r k),⟨by omega,en_get hlt,rfl⟩,?_⟩
    obtain⟨sq,hsq⟩:∃ sq:Bool,sq=slp:=⟨slp,rfl⟩
    cases slp
    case' true =>
     conv=>whnf
     refine ocase hhas (fun hin'=>?_) (fun hin'=>?_)
    case true.refine_1 =>
     rw[if_pos (.inr ⟨rfl,hmem.1 hin'⟩)] at hnx
     conv=>whnf
     refine⟨(k+1,⟨acc,tried,true⟩),_,Weak.refl,⟨rfl,hlt,hnx⟩,by show(enabledL p r.s).length - (k+1)<(enabledL p r.s).length - k;omega,⟨rfl,rfl,rfl,rfl,rfl,rfl,rfl,rfl,next_i64 hlt (by omega),trivial⟩,⟨rfl,rfl,rfl,rfl,trivial⟩,⟨fun j=>rfl,trivial⟩⟩
    case' true.refine_2=>rw[if_neg (by rintro(e|⟨_,e⟩);exact absurd e (by simp);exact hin' (hmem.2 e))] at hnx
    case' false=>rw[if_neg (by rintro(e|⟨e,_⟩);exact absurd e (by simp);exact absurd e (by simp))] at hnx
    all_goals
     conv=>whnf
     refine⟨_,oI r.s hsm.1,?_⟩
     rintro q rfl
     conv=>whnf
     refine .inr (.inl ⟨11,0,mW,_,hst _ ⟨?_,rfl,?_,fun j=>?_,?_,?_⟩,rfl,?_⟩)
     ·show some (Ob.vs 46 [i64 0,.d .nil,.d .nil,.dref (.n 900) (r.s.ths.map bT).length,.ref (.n 901) 0 (r.s.cells.map encF).length,.ref (.n 902) 0 (r.s.owner.map encInt).length,i64 r.s.fault])=some (Ob.vs 46 [i64 0,.d .nil,.d .nil,.dref (.n 900) r.s.ths.length,.ref (.n 901) 0 r.s.cells.length,.ref (.n 902) 0 r.s.owner.length,i64 r.s.fault])
      rw[List.length_map,List.length_map,List.length_map]
     ·show some (Ob.rs 109 6 ((((thRows 900 r.s.ths).map (scrPL (isK (.n 11)))).map (renL (swp (.n 11) (.l 0)))).map (scrPL fun o=>!mW o)))=_
      rw[yF (fun _ _=>rfl),qU]
      exact congrArg (fun x=>some (Ob.rs 109 6 x)) (yF fun _ _=>rfl)
     ·refine(congrArg (fun x=>Option.map (scrPO (fun o=>!mW o)) (Option.map (renO (swp (.n 11) (.l 0))) (Option.map (scrPO (isK (.n 11))) x))) (sN r.s j)).trans ?_
      show Option.map _ (Option.map _ (Option.map _ (zS r.s.ths j)))=_
      rw[yH,thFam_ren,yH]
     ·rfl
     ·rfl
     rintro q H1 ⟨rfl,rfl⟩
     refine⟨eU,fun n hn=>?_,?_⟩
     ·have:n=0:=by simpa[mW] using hn
      subst this
      exact⟨46,_,_,rfl,rfl⟩
     conv=>whnf
     refine .inr (.inl ⟨16,[],?_⟩)
     conv=>whnf
     refine⟨_,hcE,?_⟩
     refine .inr ⟨_,rfl,?_⟩
     conv=>whnf
     refine⟨⟨by simp[encEv],by simp;omega,by simp;omega⟩,?_⟩
     conv=>whnf
     refine⟨_,hcT,?_⟩
     refine .inr ⟨_,rfl,?_⟩
     conv=>whnf
     refine⟨⟨rfl,by simp;omega,by simp;omega⟩,?_⟩
     conv=>whnf
     refine⟨by kernel_rfl,?_⟩
     conv=>whnf
     generalize hLe:sleep++tried=L at *
     refine aloopF (fun j:Nat=>[(0,.ptr (.l 0) 0),(2,sl (sleep.map encN)),(4,.ptr (.n 4) 0),(6,bv false),(7,sl ((enabledL p r.s).map encN)),(8,.ref (.n 57) 0 L.length),(9,i64 k),(10,i64 (enAt p r k:Nat)),(11,.ptr (.n 11) 0),(12,.ptr (.n 12) 0),(13,.ref (.n 99) 0 (keptBy (yW p) r.s (L.take j) (stepL p r.s (enAt p r k)).2).length),(58,sl ((enabledL p r.s).map encN)),(59,i64 ((enabledL p r.s).map encN).length),(60,i64 k),(100,.ref (.n 57) 0 L.length),(101,i64 L.length),(102,i64 j)])
      (fun j=>wiO2 p b sq r acc L (keptBy (yW p) r.s (L.take j) (stepL p r.s (enAt p r k)).2) (runBy p r k) (stepL p r.s (enAt p r k)).2)
      (fun _=>[(900,zS (runBy p r k).s.ths)]) (fun j=>L.length - j) (fun j=>j≤L.length) 0 Weak.refl ⟨rfl,rfl,rfl,rfl,rfl,rfl,rfl,rfl,rfl,rfl,rfl,rfl,rfl,rfl,rfl,rfl,rfl,trivial⟩ ⟨by rw[hsq];rfl,rfl,rfl,rfl,?_,?_,?_,?_,?_,?_,?_,rfl,trivial⟩ ⟨fun j=>?_,trivial⟩ (Nat.zero_le _) ?_
     ·show some (Ob.vs 46 ([i64 0,.ref (.n 87) 0 ((r.tr.map encEv).length+1),.ref (.n 93) 0 ((r.tk.map encInt).length+1)]++stRef (stepL p r.s (enAt p r k)).1))=some (Ob.vs 46 ([i64 0,.ref (.n 87) 0 (r.tr++[(stepL p r.s (enAt p r k)).2]).length,.ref (.n 93) 0 (r.tk++[(k:Int)]).length]++stRef (stepL p r.s (enAt p r k)).1))
      simp
     ·show some (Ob.ds 107 5 ((r.tr.map encEv).take (r.tr.map encEv).length++[encEv (stepL p r.s (enAt p r k)).2]))=some (Ob.ds 107 5 ((r.tr++[(stepL p r.s (enAt p r k)).2]).map encEv))
      rw[List.take_length,List.map_append];rfl
     ·show some (Ob.ds 3 1 ((r.tk.map encInt).take (r.tk.map encInt).length++[[di (k:Int)]]))=some (Ob.ds 3 1 ((r.tk++[(k:Int)]).map encInt))
      rw[List.take_length,List.map_append];rfl
     ·conv=>lhs;whnf
      refine congrArg some ?_
      repeat (first|exact rfl|exact congrArg (Ob.rs 109 6) (qU 11 0 900 _)|refine yK ?_ (congrArg (Ob.rs 109 6) (yF fun _ _=>rfl)))
     ·rfl
     ·rfl
     ·rfl
     ·conv=>lhs;whnf
      repeat (first|exact rfl|exact thFam_ren _ _ _|(refine hscrO ?_ (yH _ _ _);conv=>lhs;whnf))
     intro j τ H hj
     have hj:j≤L.length:=hj
     have hkl:(keptBy (yW p) r.s (L.take j) (stepL p r.s (enAt p r k)).2).length≤j:=Nat.le_trans (List.length_filter_le _ _) (by simp;omega)
     conv=>whnf
     refine kbi (fun h=>?_) (fun h=>?_)
     ·have hjl:j<L.length:=by have:=of_decide_eq_true h;omega
      have hhg:=hangI_ok (stepL p r.s L[j]).2 (stepL p r.s (enAt p r k)).2
      have hjt:L.take (j+1)=L.take j++[L[j]]:=List.take_succ_eq_append_getElem hjl
      have hkj:keptBy (yW p) r.s (L.take (j+1)) (stepL p r.s (enAt p r k)).2=keptBy (yW p) r.s (L.take j) (stepL p r.s (enAt p r k)).2++keptBy (yW p) r.s [L[j]] (stepL p r.s (enAt p r k)).2:=by
       rw[hjt];unfold keptBy;rw[List.filter_append]
      have hin3:CallsTo EE 132 [sl ((enabledL p r.s).map encN),i64 (L[j]:Nat)] (·=bp (((L[j]:Nat):Int)∈natI (enabledL p r.s))):=by
       rw[natI_enc];exact ContA_ok (natI _) _ (by simp[natI];omega)
      have hme:((L[j]:Nat):Int)∈natI (enabledL p r.s)↔L[j]∈enabledL p r.s:=(o0 (by omega)).trans (by simp)
      conv=>whnf
      refine⟨⟨by omega,by omega⟩,?_⟩
      conv=>whnf
      refine⟨encN L[j],⟨by simp[hjl],Nat.le_refl _⟩,?_⟩
      conv=>whnf
      refine⟨by kernel_rfl,?_⟩
      conv=>whnf
      refine qcase hin3 (fun h3=>?_) (fun h3=>?_)
      ·have hev:=w4 p hp hg hv r.s hr.inv L[j] (hme.1 h3) b sq
       conv=>whnf
       refine⟨_,hev _,fun c hc'=>?_,?_⟩
       ·obtain⟨y,hy,rfl⟩:=List.mem_map.1 hc'
        simp only[encEv,List.mem_cons,List.not_mem_nil,or_false] at hy
        rcases hy with rfl|rfl|rfl|rfl|rfl <;> exact⟨_,rfl,rfl⟩
       conv=>whnf
       refine qcase hhg (fun hh=>?_) (fun hh=>?_)
       ·have hkn:keptBy (yW p) r.s [L[j]] (stepL p r.s (enAt p r k)).2=[]:=by simp[keptBy,yW,hh,hme.1 h3]
        rw[hkn,List.append_nil] at hkj
        conv=>whnf
        refine⟨j+1,_,Weak.refl,hjl,by show L.length - (j+1)<L.length - j;omega,⟨rfl,rfl,rfl,rfl,rfl,rfl,rfl,rfl,rfl,rfl,?_,rfl,rfl,rfl,rfl,rfl,next_i64 hjl (by omega),trivial⟩,⟨rfl,rfl,rfl,rfl,rfl,rfl,rfl,rfl,rfl,rfl,rfl,?_,trivial⟩,⟨fun j'=>rfl,trivial⟩⟩
        ·show AV.ref (.n 99) 0 (keptBy (yW p) r.s (L.take j) _).length=.ref (.n 99) 0 (keptBy (yW p) r.s (L.take (j+1)) _).length
         rw[hkj]
        ·show some (Ob.ds 3 1 ((keptBy (yW p) r.s (L.take j) _).map encN))=some (Ob.ds 3 1 ((keptBy (yW p) r.s (L.take (j+1)) _).map encN))
         rw[hkj]
       ·have hkp:yW p r.s L[j] (stepL p r.s (enAt p r k)).2:=fun e=>hh e.2
        have hkn:keptBy (yW p) r.s [L[j]] (stepL p r.s (enAt p r k)).2=[L[j]]:=by simp[keptBy,hkp]
        rw[hkn] at hkj
        conv=>whnf
        refine⟨⟨rfl,by show(_+1)*8≤_;omega,by show _+1≤_;omega⟩,?_⟩
        conv=>whnf
        refine⟨j+1,_,Weak.refl,hjl,by show L.length - (j+1)<L.length - j;omega,⟨rfl,rfl,rfl,rfl,rfl,rfl,rfl,rfl,rfl,rfl,?_,rfl,rfl,rfl,rfl,rfl,next_i64 hjl (by omega),trivial⟩,⟨rfl,rfl,rfl,rfl,rfl,rfl,rfl,?_,rfl,rfl,rfl,?_,trivial⟩,⟨fun j'=>?_,trivial⟩⟩
        ·show AV.ref (.n 99) 0 ((keptBy (yW p) r.s (L.take j) (stepL p r.s (enAt p r k)).2).length+1)=.ref (.n 99) 0 (keptBy (yW p) r.s (L.take (j+1)) _).length
         rw[hkj,List.length_append];rfl
        ·show some (Ob.rs 109 6 (((thRows 900 (runBy p r k).s.ths).map (scrPL (isK (.n 122)))).map (scrPL (isK (.n 99)))))=_
         rw[yF (fun _ _=>rfl)]
         exact congrArg (fun x=>some (Ob.rs 109 6 x)) (yF fun _ _=>rfl)
        ·show some (Ob.ds 3 1 (((keptBy (yW p) r.s (L.take j) (stepL p r.s (enAt p r k)).2).map encN).take _++[encN L[j]]))=some (Ob.ds 3 1 ((keptBy (yW p) r.s (L.take (j+1)) (stepL p r.s (enAt p r k)).2).map encN))
         rw[hkj,List.take_of_length_le (by simp),List.map_append];rfl
        ·show Option.map (scrPO (isK (.n 99))) (Option.map (scrPO (isK (.n 122))) (zS (runBy p r k).s.ths j'))=zS (runBy p r k).s.ths j'
         rw[yH,yH]
      ·have hkp:yW p r.s L[j] (stepL p r.s (enAt p r k)).2:=fun e=>h3 (hme.2 e.1)
       have hkn:keptBy (yW p) r.s [L[j]] (stepL p r.s (enAt p r k)).2=[L[j]]:=by simp[keptBy,hkp]
       rw[hkn] at hkj
       conv=>whnf
       refine⟨⟨rfl,by show(_+1)*8≤_;omega,by show _+1≤_;omega⟩,?_⟩
       conv=>whnf
       refine⟨j+1,_,Weak.refl,hjl,by show L.length - (j+1)<L.length - j;omega,⟨rfl,rfl,rfl,rfl,rfl,rfl,rfl,rfl,rfl,rfl,?_,rfl,rfl,rfl,rfl,rfl,next_i64 hjl (by omega),trivial⟩,⟨rfl,rfl,rfl,rfl,rfl,rfl,rfl,?_,rfl,rfl,rfl,?_,trivial⟩,⟨fun j'=>?_,trivial⟩⟩
       ·show AV.ref (.n 99) 0 ((keptBy (yW p) r.s (L.take j) (stepL p r.s (enAt p r k)).2).length+1)=.ref (.n 99) 0 (keptBy (yW p) r.s (L.take (j+1)) _).length
        rw[hkj,List.length_append];rfl
       ·show some (Ob.rs 109 6 (((thRows 900 (runBy p r k).s.ths).map (scrPL (isK (.n 122)))).map (scrPL (isK (.n 99)))))=_
        rw[yF (fun _ _=>rfl)]
        exact congrArg (fun x=>some (Ob.rs 109 6 x)) (yF fun _ _=>rfl)
       ·show some (Ob.ds 3 1 (((keptBy (yW p) r.s (L.take j) (stepL p r.s (enAt p r k)).2).map encN).take _++[encN L[j]]))=some (Ob.ds 3 1 ((keptBy (yW p) r.s (L.take (j+1)) (stepL p r.s (enAt p r k)).2).map encN))
        rw[hkj,List.take_of_length_le (by simp),List.map_append];rfl
       ·show Option.map (scrPO (isK (.n 99))) (Option.map (scrPO (isK (.n 122))) (zS (runBy p r k).s.ths j'))=zS (runBy p r k).s.ths j'
        rw[yH,yH]
     ·have hge:j=L.length:=by
       have:¬ (j:Int)<L.length:=fun e=>h (decide_eq_true e)
       omega
      subst hge
      have hon:keptBy (yW p) r.s (L.take L.length) (stepL p r.s (enAt p r k)).2=keptBy (yW p) r.s L (stepL p r.s (enAt p r k)).2:=by rw[List.take_length]
      subst hsq
      have hkk:(keptBy (yW p) r.s L (stepL p r.s (enAt p r k)).2).length≤5*(runBy p r k).tr.length:=by
       have:(keptBy (yW p) r.s L (stepL p r.s (enAt p r k)).2).length≤L.length:=List.length_filter_le _ _
       have e:(runBy p r k).tr.length=r.tr.length+1:=by simp[runBy]
       omega
      have hfu:b.toNat+1 - (runBy p r k).tr.length=n:=by
       have e:(runBy p r k).tr.length=r.tr.length+1:=by simp[runBy]
       omega
      conv=>whnf
      refine .inr (.inr (.inl ⟨_,81,[],(weak_frz (fun κ=>isSt κ || isK (.n 87) κ || isK (.n 93) κ || isK (.n 99) κ)).trans ((weak_cvt (.n 900) (e:=109) (sz:=6) (els:=(runBy p r k).s.ths.map zF) ?_).trans (weak_frz (isK (.n 900)))),rfl,999,99,mV,_,
       io_congr (walk_ok p hp hg hv b hb _ n (runBy p r k) 0 (keptBy (yW p) r.s L (stepL p r.s (enAt p r k)).2) acc hnext hfu ha4 hkk _ ⟨rfl,rfl⟩) ?_,rfl,?_⟩))
      ·exact congrArg (fun x=>some (Ob.rs 109 6 x)) (tA (fun _=>rfl) fun j=>rfl)
      ·show[AV.ptr (.l 0) 0,AV.agg [i64 0,sl _,sl _,sl _,sl _,sl _,i64 (runBy p r k).s.fault],sl _]=[AV.ptr (.l 0) 0,AV.agg [i64 0,sl _,sl _,sl _,sl _,sl _,i64 (runBy p r k).s.fault],sl _]
       refine args5 ?_ ?_ ?_ ?_ ?_ ?_
       all_goals simp[List.take_of_length_le]
      rintro q H1 ⟨rfl,rfl⟩
      refine⟨sV,fun n hn=>?_,?_⟩
      ·have:n=0:=Nat.eq_of_beq_eq_true hn
       subst this
       exact⟨131,_,_,rfl,rfl⟩
      generalize hX:xgo p b _ (yW p) n (runBy p r k) (keptBy (yW p) r.s L (stepL p r.s (enAt p r k)).2) acc=X at *
      obtain⟨ys,okk⟩:=X
      cases okk with
      |false =>
       have hfin:=(xloop_stay (k:=k+1) (by rw[hnx]) (enabledL p r.s).length (by omega)).trans hnx
       rw[hfin]
       conv=>whnf
       refine⟨_,Weak.refl,?_⟩
       conv=>whnf
       exact⟨mV,rfl,sP ⟨rfl,rfl⟩⟩
      |true =>
       conv=>whnf
       refine⟨⟨rfl,by show(L.length+1)*8≤_;omega,by show L.length+1≤_;omega⟩,?_⟩
       conv=>whnf
       refine⟨(k+1,⟨ys,tried++[enAt p r k],true⟩),_,Weak.refl,⟨rfl,hlt,hnx⟩,by show(enabledL p r.s).length - (k+1)<(enabledL p r.s).length - k;omega,⟨rfl,rfl,rfl,rfl,rfl,?_,rfl,rfl,next_i64 hlt (by omega),trivial⟩,⟨rfl,rfl,rfl,?_,trivial⟩,⟨fun j=>rfl,trivial⟩⟩
       ·show AV.ref (.n 57) 0 (L.length+1)=.ref (.n 57) 0 (sleep++(tried++[enAt p r k])).length
        rw[← List.append_assoc,hLe,List.length_append];rfl
       ·show some (Ob.ds 3 1 ((L.map encN).take L.length++[encN (enAt p r k)]))=some (Ob.ds 3 1 ((sleep++(tried++[enAt p r k])).map encN))
        rw[List.take_of_length_le (by simp),← List.append_assoc,hLe,List.map_append];rfl
   ·have hge:k=(enabledL p r.s).length:=by
     have:¬ (k:Int)<((enabledL p r.s).map encN).length:=fun e=>h (decide_eq_true e)
     simp at this;omega
    rw[← hge,hXe]
    conv=>whnf
    refine⟨_,Weak.refl,?_⟩
    conv=>whnf
    exact⟨mV,rfl,sP ⟨rfl,rfl⟩⟩
end Ai
namespace Ai
set_option maxRecDepth 100000
open Go Go.Proofs Cyc
theorem allI_eq (p:ProgL) (b:Int):xgo p b false (yW p) (b.toNat+1) ⟨0,[],[],vL p⟩ [] []=kV p b:=allR_of p b _ _
theorem allI_ok (p:ProgL) (hp:p.wf) (hs:p.rs.length≤1048576∧∀ x∈p.rs,x.length≤1048576) (hv:p.flt) (b:Int) :
  CallsTo EE 43 [agg (encProg p),i64 b] (fun r=>(OkX p b∧r=.tup [sl ((kV p b).1.map kN),bv (kV p b).2])∨(¬ OkX p b∧r=.tup [sl [],bv false])):=by
 refine callsTo_of_AW (fn:=Tryz.f43) Tryz.func43 rfl (by kernel_rfl) rfl ?_
 conv=>whnf
 refine ocase (l8 p hs) (fun hg=>?_) (fun hg=>?_)
 rotate_left 1
 ·conv=>whnf
  refine .inl ?_
  conv=>whnf
  exact .inr ⟨fun e=>hg ((iE p).1 e.1),rfl⟩
 have hg:p.goodS:=(iE p).2 hg
 conv=>whnf
 refine ocase (in_ok b 0 14) (fun hk=>?_) (fun hk=>?_)
 rotate_left 1
 ·conv=>whnf
  refine .inl ?_
  conv=>whnf
  exact .inr ⟨fun e=>hk e.2,rfl⟩
 obtain⟨b1,b2,b3,b4⟩:=hg.1
 have hr0:XR p b ⟨0,[],[],vL p⟩:=XR.new hg hk.1
 conv=>whnf
 refine⟨_,start_ok p ⟨b1.1,by have:=b1.2;omega⟩ ⟨b2.1,by have:=b2.2;omega⟩,?_⟩
 rintro r rfl
 conv=>whnf
 refine .inr (.inr (.inl ⟨_,81,[],(weak_frz (fun κ=>isSt κ || isK (.n 21) κ || isK (.n 22) κ)).trans ((weak_cvt (.n 900) (e:=109) (sz:=6) (els:=(vL p).ths.map zF) ?_).trans ((weak_frz (isK (.n 900))).trans
  ((qB (.n 19) (.n 950) 131 46 7 5 [i64 p.cells,i64 p.locks,i64 p.conds,.d (.sl (p.rs.map zO)),i64 b,.d .nil,bv false] (by intro n h;cases h) (by intro h;cases h) ?_ rfl).trans (weak_cvt (.n 950) (e:=46) (sz:=7) (els:=[]) ?_)))),rfl,19,0,mV,_,
   io_nil (io_congr (walk_ok p hp hg hv b ⟨hk.1,by have:=hk.2;omega⟩ false (b.toNat+1) ⟨0,[],[],vL p⟩ 0 [] [] hr0 (by simp) (by simp) (by simp) _ ?_) ?_),rfl,?_⟩))
 ·exact congrArg (fun x=>some (Ob.rs 109 6 x)) (tA (fun _=>rfl) fun j=>sN (vL p) j)
 ·rfl
 ·rfl
 ·exact⟨rfl,rfl⟩
 ·show[AV.ptr (.l 0) 0,AV.agg [i64 0,sl _,sl _,sl _,sl _,sl _,i64 (vL p).fault],sl []]=[AV.ptr (.l 0) 0,AV.agg [i64 0,sl _,sl _,sl _,sl _,sl _,i64 (vL p).fault],sl []]
  refine args5 ?_ ?_ ?_ ?_ ?_ rfl
  all_goals simp[List.take_of_length_le]
 rintro q H1 ⟨rfl,rfl⟩
 refine⟨sV,fun n hn=>?_,?_⟩
 ·have:n=0:=Nat.eq_of_beq_eq_true hn
  subst this
  exact⟨131,_,_,rfl,rfl⟩
 rw[allI_eq]
 conv=>whnf
 refine .inl ?_
 conv=>whnf
 refine .inl ⟨⟨hg,hk⟩,?_⟩
 show AV.tup [sl ((((kV p b).1.map kN).drop 0).take (kV p b).1.length),bv (kV p b).2]=_
 rw[List.drop_zero,List.take_of_length_le (by simp)]
end Ai
namespace Ai
open Go Go.Sort
theorem ups_eq {α:Type} {lt:α→α→Prop} (irr:∀ x,¬ lt x x) (tr:∀ x y z,lt x y→lt y z→lt x z):∀ {a b:List α},a.Pairwise lt→b.Pairwise lt→(∀ x,x∈a↔x∈b)→a=b
 | [],[],_,_,_=>rfl
 | [],y::ys,_,_,h=>absurd ((h y).2 (List.mem_cons_self ..)) (by simp)
 |x::xs,[],_,_,h=>absurd ((h x).1 (List.mem_cons_self ..)) (by simp)
 |x::xs,y::ys,ha,hb,h=>by
  rw[List.pairwise_cons] at ha hb
  have e:x=y:=by
   rcases List.mem_cons.1 ((h x).1 (List.mem_cons_self ..)) with e|e
   ·exact e
   rcases List.mem_cons.1 ((h y).2 (List.mem_cons_self ..)) with e2|e2
   ·exact e2.symm
   exact absurd (tr _ _ _ (ha.1 y e2) (hb.1 x e)) (irr x)
  subst e
  congr 1
  refine ups_eq irr tr ha.2 hb.2 fun z=>⟨fun hz=>?_,fun hz=>?_⟩
  ·rcases List.mem_cons.1 ((h z).1 (List.mem_cons_of_mem _ hz)) with e|e
   ·subst e;exact absurd (ha.1 z hz) (irr z)
   ·exact e
  ·rcases List.mem_cons.1 ((h z).2 (List.mem_cons_of_mem _ hz)) with e|e
   ·subst e;exact absurd (hb.1 z hz) (irr z)
   ·exact e
section
variable {α:Type} [Inhabited α] [DecidableEq α]
theorem j9 {d:Array α}:∀ m,m≤d.size→∀ x,x∈Lib.compactUpTo d m↔∃ j,j<m∧d[j]! = x
 | 0,_,x=>by simp[Lib.compactUpTo]
 |m+1,hm,x=>by
  rw[Lib.compactUpTo_succ,List.mem_append,j9 m (by omega) x]
  constructor
  ·rintro(⟨j,hj,e⟩|h)
   ·exact⟨j,by omega,e⟩
   ·cases hk:Lib.keeps d m with
    |false=>rw[hk] at h;simp at h
    |true=>rw[hk] at h;exact⟨m,by omega,(by simpa using h:x=d[m]!).symm⟩
  ·rintro⟨j,hj,e⟩
   by_cases h:j<m
   ·exact .inl ⟨j,h,e⟩
   have:j=m:=by omega
   subst this
   cases hk:Lib.keeps d j with
   |true=>right;simp[e]
   |false =>
    have h2:¬ (j=0∨d[j]! ≠ d[j - 1]!):=fun e=>by simp[Lib.keeps,e] at hk
    have h3:d[j]! = d[j - 1]! := by
     by_cases e:d[j]! = d[j - 1]!
     ·exact e
     ·exact absurd (.inr e) h2
    have h4:j≠0:=fun e=>h2 (.inl e)
    exact .inl ⟨j - 1,by omega,by rw[← h3];exact e⟩
theorem cut_up {lt:α→α→Prop} (tr:∀ x y z,lt x y→lt y z→lt x z) {d:Array α} (hd:∀ i j,i<j→j<d.size→d[i]! = d[j]! ∨ lt d[i]! d[j]!):∀ m,m≤d.size→(Lib.compactUpTo d m).Pairwise lt
 | 0,_=>by simp[Lib.compactUpTo]
 |m+1,hm=>by
  rw[Lib.compactUpTo_succ]
  refine List.pairwise_append.2 ⟨cut_up tr hd m (by omega),?_,?_⟩
  ·split <;> simp
  ·intro x hx y hy
   cases hk:Lib.keeps d m with
   |false=>rw[hk] at hy;simp at hy
   |true =>
    rw[hk] at hy
    have hy:y=d[m]! := by simpa using hy
    subst hy
    obtain⟨j,hj,rfl⟩:=(j9 m (by omega) x).1 hx
    rcases hd j m hj (by omega) with e|e
    ·have hk:m=0∨d[m]! ≠ d[m - 1]! := by simpa[Lib.keeps] using hk
     rcases hk with hk|hk
     ·omega
     by_cases h1:j=m - 1
     ·subst h1;exact absurd e.symm hk
     ·rcases hd (m - 1) m (by omega) (by omega) with e1|e1
      ·exact absurd e1.symm hk
      rcases hd j (m - 1) (by omega) (by omega) with e2|e2
      ·exact absurd (e.symm.trans e2) hk
      ·exact tr _ _ _ e2 e1
    ·exact e
theorem compact_mem (zs:List α) (x:α):x∈Lib.compact zs↔x∈zs:=by
 unfold Lib.compact
 rw[j9 _ (by simp)]
 constructor
 ·rintro⟨j,hj,rfl⟩
  rw[getElem!_pos _ _ (by simpa using hj)]
  simp
 ·intro h
  obtain⟨j,hj,e⟩:=List.mem_iff_getElem.1 h
  exact⟨j,hj,by rw[getElem!_pos _ _ (by simpa using hj)];simpa using e⟩
theorem compact_up {lt:α→α→Prop} (tr:∀ x y z,lt x y→lt y z→lt x z) {zs:List α} (hz:zs.Pairwise fun x y=>x=y∨lt x y):(Lib.compact zs).Pairwise lt:=by
 refine cut_up tr (fun i j hij hj=>?_) _ (by simp)
 have hj:j<zs.length:=by simpa using hj
 rw[getElem!_pos _ j (by simpa using hj),getElem!_pos _ i (by simp;omega)]
 simpa using List.pairwise_iff_getElem.1 hz i j (by omega) hj hij
end
def gN {α:Type} (lt:α→α→Bool) [DecidableEq α] (l:List α) (s:α):List α :=
 if (l.dropWhile fun y=>lt y s).head?=some s then l else (l.takeWhile fun y=>lt y s)++s::(l.dropWhile fun y=>lt y s)
section
variable {α:Type} [DecidableEq α] {lt:α→α→Bool}
theorem insL_mem {l:List α} {s x:α}:x∈gN lt l s↔x∈l∨x=s:=by
 unfold gN
 split
 ·rename_i h
  constructor
  ·exact .inl
  ·rintro(h2|rfl)
   ·exact h2
   ·rw[← List.takeWhile_append_dropWhile (p:=fun y=>lt y x) (l:=l)]
    exact List.mem_append_right _ (List.mem_of_mem_head? h)
 ·have e:x∈l↔x∈(l.takeWhile fun y=>lt y s)∨x∈l.dropWhile fun y=>lt y s:=by
   rw[← List.mem_append,List.takeWhile_append_dropWhile]
  rw[e]
  simp only[List.mem_append,List.mem_cons]
  constructor
  ·rintro(h|h|h)
   ·exact .inl (.inl h)
   ·exact .inr h
   ·exact .inl (.inr h)
  ·rintro((h|h)|h)
   ·exact .inl h
   ·exact .inr (.inr h)
   ·exact .inr (.inl h)
theorem eR {p:α→Bool}:∀ {l:List α} {x:α},x∈l.takeWhile p→p x=true
 |y::ys,x,h=>by
  rw[List.takeWhile_cons] at h
  split at h
  ·rename_i hp
   rcases List.mem_cons.1 h with e|e
   ·rw[e];exact hp
   ·exact eR e
  ·cases h
theorem insL_up (irr:∀ x,lt x x=false) (tr:∀ x y z,lt x y=true→lt y z=true→lt x z=true) (tot:∀ x y,lt x y=false→x=y∨lt y x=true) {l:List α} (h:l.Pairwise fun x y=>lt x y=true) (s:α):(gN lt l s).Pairwise fun x y=>lt x y=true:=by
 unfold gN
 split
 ·exact h
 rename_i hh
 have h':=h
 rw[← List.takeWhile_append_dropWhile (p:=fun y=>lt y s) (l:=l),List.pairwise_append] at h'
 obtain⟨h1,h2,h3⟩:=h'
 have hd:∀ y∈l.dropWhile fun y=>lt y s,lt s y=true:=by
  intro y hy
  cases hq:l.dropWhile fun y=>lt y s with
  |nil=>rw[hq] at hy;cases hy
  |cons z zs =>
   rw[hq] at hh h2 hy
   have hz:lt z s=false:=by
    have:=List.head?_dropWhile_not (p:=fun y=>lt y s) l
    rw[hq] at this
    simpa using this
   have hz2:lt s z=true:=by
    rcases tot _ _ hz with e|e
    ·exact absurd (by rw[e];rfl) hh
    ·exact e
   rcases List.mem_cons.1 hy with e|e
   ·rw[e];exact hz2
   ·exact tr _ _ _ hz2 ((List.pairwise_cons.1 h2).1 y e)
 refine List.pairwise_append.2 ⟨h1,List.pairwise_cons.2 ⟨hd,h2⟩,fun x hx y hy=>?_⟩
 rcases List.mem_cons.1 hy with e|e
 ·rw[e];exact eR (p:=fun y=>lt y s) hx
 ·exact h3 x hx y e
theorem foldL_mem {xs:List α}:∀ {l:List α} {x:α},x∈xs.foldl (gN lt) l↔x∈l∨x∈xs:=by
 induction xs with
 |nil=>intro l x;simp
 |cons a xs ih =>
  intro l x
  rw[List.foldl_cons,ih,insL_mem,List.mem_cons]
  constructor
  ·rintro((h|h)|h)
   ·exact .inl h
   ·exact .inr (.inl h)
   ·exact .inr (.inr h)
  ·rintro(h|h|h)
   ·exact .inl (.inl h)
   ·exact .inl (.inr h)
   ·exact .inr h
theorem foldL_up (irr:∀ x,lt x x=false) (tr:∀ x y z,lt x y=true→lt y z=true→lt x z=true) (tot:∀ x y,lt x y=false→x=y∨lt y x=true) {xs:List α}:∀ {l:List α},(l.Pairwise fun x y=>lt x y=true)→(xs.foldl (gN lt) l).Pairwise fun x y=>lt x y=true:=by
 induction xs with
 |nil=>intro l h;exact h
 |cons a xs ih=>intro l h;exact ih (insL_up irr tr tot h a)
theorem fold_rise [Inhabited α] (irr:∀ x,lt x x=false) (tr:∀ x y z,lt x y=true→lt y z=true→lt x z=true) (tot:∀ x y,lt x y=false→x=y∨lt y x=true) {xs zs:List α} (hm:∀ x,x∈zs↔x∈xs) (hz:zs.Pairwise fun x y=>x=y∨lt x y=true) :
  xs.foldl (gN lt) []=Lib.compact zs:=by
 refine ups_eq (lt:=fun x y=>lt x y=true) (fun x h=>by rw[irr x] at h;cases h) tr (foldL_up irr tr tot List.Pairwise.nil) (compact_up tr hz) fun x=>?_
 rw[foldL_mem,compact_mem,hm]
 simp
end
def wJ (xs:List (List UInt8)):List (List UInt8):=Lib.compact (xs.mergeSort fun x y=>decide (x≤y))
theorem str_tot (x y:List UInt8) (h:ltStr x y=false):x=y∨ltStr y x=true:=by
 have h:¬ x<y:=by simpa[ltStr] using h
 have h:y≤x:=List.not_lt.1 h
 by_cases h2:y<x
 ·exact .inr (by simpa[ltStr] using h2)
 ·exact .inl (List.le_antisymm (List.not_lt.1 h2) h)
theorem fold_riseT (xs:List (List UInt8)):xs.foldl (gN ltStr) []=wJ xs:=by
 refine fold_rise swo_ltStr.irrefl swo_ltStr.trans str_tot (fun x=>List.mem_mergeSort) ?_
 have hp:=List.pairwise_mergeSort (le:=fun x y:List UInt8=>decide (x≤y)) (fun a b c h1 h2=>by simp only[decide_eq_true_eq] at *;exact List.le_trans h1 h2) (fun a b=>by simpa using List.le_total a b) xs
 refine hp.imp fun {x y} h=>?_
 have h:x≤y:=by simpa using h
 by_cases h2:x<y
 ·exact .inr (by simpa[ltStr] using h2)
 ·exact .inl (List.le_antisymm h (List.not_lt.1 h2))
end Ai
namespace Go.Proofs
open Go.Shelf
def Tryz.laysSortS_ren:Go.Shelf.Ren:=⟨fun|190=>83|125=>137|258=>136|128=>189|129=>190|302=>180|303=>181|304=>182|305=>183|306=>184|307=>185|308=>186|309=>187|310=>188|333=>228|329=>229|330=>230|334=>231|335=>232|336=>233|344=>250|n=>n,fun|31=>51|9=>9|3=>3|46=>178|0=>0|51=>228|53=>230|4=>4|183=>221|182=>220|131=>158|5=>5|218=>253|222=>257|228=>273|229=>233|n=>n,fun|n=>n⟩
theorem Tryz.laysSortS:Go.Proofs.Lays.n190 Tryz.prog Tryz.laysSortS_ren:={
 mixed:=by kernel_rfl
 f125:=Tryz.func137.trans (congrArg some (by kernel_rfl))
 f128:=Tryz.func189.trans (congrArg some (by kernel_rfl))
 f129:=Tryz.func190.trans (congrArg some (by kernel_rfl))
 f190:=Tryz.func83.trans (congrArg some (by kernel_rfl))
 f258:=Tryz.func136.trans (congrArg some (by kernel_rfl))
 f302:=Tryz.func180.trans (congrArg some (by kernel_rfl))
 f303:=Tryz.func181.trans (congrArg some (by kernel_rfl))
 f304:=Tryz.func182.trans (congrArg some (by kernel_rfl))
 f305:=Tryz.func183.trans (congrArg some (by kernel_rfl))
 f306:=Tryz.func184.trans (congrArg some (by kernel_rfl))
 f307:=Tryz.func185.trans (congrArg some (by kernel_rfl))
 f308:=Tryz.func186.trans (congrArg some (by kernel_rfl))
 f309:=Tryz.func187.trans (congrArg some (by kernel_rfl))
 f310:=Tryz.func188.trans (congrArg some (by kernel_rfl))
 f329:=Tryz.func229.trans (congrArg some (by kernel_rfl))
 f330:=Tryz.func230.trans (congrArg some (by kernel_rfl))
 f333:=Tryz.func228.trans (congrArg some (by kernel_rfl))
 f334:=Tryz.func231.trans (congrArg some (by kernel_rfl))
 f335:=Tryz.func232.trans (congrArg some (by kernel_rfl))
 f336:=Tryz.func233.trans (congrArg some (by kernel_rfl))
 f344:=Tryz.func250.trans (congrArg some (by kernel_rfl))
 t0:=Tryz.underlying0
 a0:=Tryz.isAgg0
 z0:=Tryz.sizeOf0
 v0:=Tryz.zeroValue0
 t3:=Tryz.underlying3
 a3:=Tryz.isAgg3
 z3:=Tryz.sizeOf3
 v3:=Tryz.zeroValue3
 t4:=Tryz.underlying4
 a4:=Tryz.isAgg4
 z4:=Tryz.sizeOf4
 v4:=Tryz.zeroValue4
 t5:=Tryz.underlying5
 a5:=Tryz.isAgg5
 z5:=Tryz.sizeOf5
 v5:=Tryz.zeroValue5
 t9:=Tryz.underlying9
 a9:=Tryz.isAgg9
 z9:=Tryz.sizeOf9
 v9:=Tryz.zeroValue9
 t31:=Tryz.underlying51
 a31:=Tryz.isAgg51
 z31:=Tryz.sizeOf51
 v31:=Tryz.zeroValue51
 t46:=Tryz.underlying178
 a46:=Tryz.isAgg178
 z46:=Tryz.sizeOf178
 v46:=Tryz.zeroValue178
 t51:=Tryz.underlying228
 a51:=Tryz.isAgg228
 z51:=Tryz.sizeOf228
 v51:=Tryz.zeroValue228
 t53:=Tryz.underlying230
 a53:=Tryz.isAgg230
 z53:=Tryz.sizeOf230
 v53:=Tryz.zeroValue230
 t131:=Tryz.underlying158
 a131:=Tryz.isAgg158
 z131:=Tryz.sizeOf158
 v131:=Tryz.zeroValue158
 t182:=Tryz.underlying220
 a182:=Tryz.isAgg220
 z182:=Tryz.sizeOf220
 v182:=Tryz.zeroValue220
 t183:=Tryz.underlying221
 a183:=Tryz.isAgg221
 z183:=Tryz.sizeOf221
 v183:=Tryz.zeroValue221
 t218:=Tryz.underlying253
 a218:=Tryz.isAgg253
 z218:=Tryz.sizeOf253
 v218:=Tryz.zeroValue253
 t222:=Tryz.underlying257
 a222:=Tryz.isAgg257
 z222:=Tryz.sizeOf257
 v222:=Tryz.zeroValue257
 t228:=Tryz.underlying273
 a228:=Tryz.isAgg273
 z228:=Tryz.sizeOf273
 v228:=Tryz.zeroValue273
 t229:=Tryz.underlying233
 a229:=Tryz.isAgg233
 z229:=Tryz.sizeOf233
 v229:=Tryz.zeroValue233 }
def Tryz.laysCompactS_ren:Go.Shelf.Ren:=⟨fun|194=>84|n=>n,fun|31=>51|9=>9|3=>3|4=>4|0=>0|n=>n,fun|n=>n⟩
theorem Tryz.laysCompactS:Go.Proofs.Lays.n194 Tryz.prog Tryz.laysCompactS_ren:={
 mixed:=by kernel_rfl
 f194:=Tryz.func84.trans (congrArg some (by kernel_rfl))
 t0:=Tryz.underlying0
 a0:=Tryz.isAgg0
 z0:=Tryz.sizeOf0
 v0:=Tryz.zeroValue0
 t3:=Tryz.underlying3
 a3:=Tryz.isAgg3
 z3:=Tryz.sizeOf3
 v3:=Tryz.zeroValue3
 t4:=Tryz.underlying4
 a4:=Tryz.isAgg4
 z4:=Tryz.sizeOf4
 v4:=Tryz.zeroValue4
 t9:=Tryz.underlying9
 a9:=Tryz.isAgg9
 z9:=Tryz.sizeOf9
 v9:=Tryz.zeroValue9
 t31:=Tryz.underlying51
 a31:=Tryz.isAgg51
 z31:=Tryz.sizeOf51
 v31:=Tryz.zeroValue51 }
end Go.Proofs
namespace Ai
set_option maxRecDepth 100000
open Go Go.Proofs Go.Shelf Go.Sort Go.RowKit
theorem mJ (enc:List UInt8→Value) (w:World) (b off:Nat) (d:Array (List UInt8)) (k:Nat) (h:k≠b):(putRow enc w b off d).heap[k]?=w.heap[k]?:=by
 simp only[putRow,mapBlock,Array.getElem?_modify]
 rw[if_neg (fun e=>h e.symm)]
theorem tP (w:World) (g:Nat) (d:Array (List UInt8)) (cur:Array Value) (h:w.heap[g]?=some (.cells cur 9 (0,0))) :
  (putRow Go.Proofs.encStr w g 0 d).heap[g]?=some (.cells (putCells Go.Proofs.encStr 0 d cur) 9 (0,0)):=by
 simp only[putRow,mapBlock,Array.getElem?_modify,if_true,h,Option.map_some,onCells]
theorem eA (d:Array (List UInt8)) (cur:Array Value) (t:Nat) (h1:t<d.size) (h2:t<cur.size):(putCells Go.Proofs.encStr 0 d cur)[t]?=some (Go.Proofs.encStr d[t]):=by
 simp only[putCells,Array.getElem?_mapIdx,Array.getElem?_eq_getElem h2,Option.map_some,Nat.zero_le,true_and,Nat.zero_add,h1,if_true,Nat.sub_zero]
 rw[getElem!_pos d t h1]
def yC (zs:List (List UInt8)):List (List UInt8):=zs.mergeSort fun x y=>decide (x≤y)
theorem vM (zs:List (List UInt8)):(yC zs).length=zs.length:=by simp[yC]
set_option maxHeartbeats 1000000 in
theorem p8 (b cap:Nat) (zs:List (List UInt8)) (w:World) (hH:Holds (Go.Proofs.encStr) w b 0 zs.toArray) (hb:b<w.heap.size) (hsz:zs.length≤1048576) (hcap:zs.length≤cap) :
  Calls Tryz.prog 44 #[.slice (some ⟨b,0,none⟩) zs.length cap] w fun e w'=>e=.returned (.slice (some ⟨b,0,none⟩) (Lib.compact (yC zs)).length cap) ∧
   ∃ n m os q,w'=putRow (Go.Proofs.encStr) (Sort.ahead (grow (putRow (Go.Proofs.encStr) (Sort.ahead (w.drewN m) n) b 0 (yC zs).toArray) os) q) b 0 (Lib.compact (yC zs)++List.replicate ((yC zs).length - (Lib.compact (yC zs)).length) []).toArray:=by
 have hS:∀ m,Calls Tryz.prog 83 #[.slice (some ⟨b,0,none⟩) zs.length cap] (w.drewN m) fun e w' =>
   e=.returned (.tuple #[])∧∃ n os,w'=grow (putRow (Go.Proofs.encStr) (Sort.ahead (w.drewN m) n) b 0 (yC zs).toArray) os:=fun m=>Any.slices_Sort_string Tryz.laysSortS b 0 cap zs (w.drewN m) hH hb (by omega)
 have hC:∀ m n os,Calls Tryz.prog 84 #[.slice (some ⟨b,0,none⟩) zs.length cap] (grow (putRow (Go.Proofs.encStr) (Sort.ahead (w.drewN m) n) b 0 (yC zs).toArray) os) fun e w' =>
   e=.returned (.slice (some ⟨b,0,none⟩) (Lib.compact (yC zs)).length cap)∧∃ q,w'=putRow (Go.Proofs.encStr) (Sort.ahead (grow (putRow (Go.Proofs.encStr) (Sort.ahead (w.drewN m) n) b 0 (yC zs).toArray) os) q) b 0 (Lib.compact (yC zs)++List.replicate ((yC zs).length - (Lib.compact (yC zs)).length) []).toArray:=by
  intro m n os
  have h1:Holds (Go.Proofs.encStr) (grow (putRow (Go.Proofs.encStr) (Sort.ahead (w.drewN m) n) b 0 (yC zs).toArray) os) b 0 (yC zs).toArray :=
   holds_grow _ _ _ _ _ _ (by simpa[Sort.ahead,World.drewN] using hb) (holds_putRow _ _ _ _ zs.toArray _ hH (by simp[vM]))
  have h2:=Any.slices_Compact_string Tryz.laysCompactS b 0 cap (yC zs) _ h1 (by rw[vM];omega) (by rw[vM];omega)
  rw[vM] at h2
  rw[vM]
  exact h2
 clear hH
 have e83:∀ args w,(callFunc 83 args).run Tryz.prog w=.ok (.enter 83 args) w:=enters_of Tryz.func83 (by kernel_rfl) rfl
 have e84:∀ args w,(callFunc 84 args).run Tryz.prog w=.ok (.enter 84 args) w:=enters_of Tryz.func84 (by kernel_rfl) rfl
 go_enter Tryz.func44,Tryz.ntmps44
 go_wp2_with (first
  |(go_at_call 83;refine(hS 0).mono ?_;rintro e w' ⟨rfl,n,os,rfl⟩)
  |(go_at_call 84;refine(hC 0 _ _).mono ?_;rintro e w' ⟨rfl,q,rfl⟩))
 go_ret
 exact⟨rfl,_,0,_,_,rfl⟩
set_option maxHeartbeats 1000000 in
theorem texts_nil (w:World):Calls Tryz.prog 44 #[.slice none 0 0] w fun e w'=>e=.returned (.slice none 0 0)∧w'=w:=by
 have hS:Calls Tryz.prog 83 #[.slice none 0 0] w fun e w'=>e=.returned (.tuple #[])∧w'=w:=Any.slices_Sort_string_none Tryz.laysSortS none 0 w
 have hC:Calls Tryz.prog 84 #[.slice none 0 0] w fun e w'=>e=.returned (.slice none 0 0)∧w'=w:=Any.slices_Compact_string_empty Tryz.laysCompactS none 0 w
 have e83:∀ args w,(callFunc 83 args).run Tryz.prog w=.ok (.enter 83 args) w:=enters_of Tryz.func83 (by kernel_rfl) rfl
 have e84:∀ args w,(callFunc 84 args).run Tryz.prog w=.ok (.enter 84 args) w:=enters_of Tryz.func84 (by kernel_rfl) rfl
 go_enter Tryz.func44,Tryz.ntmps44
 go_wp2_with (first
  |(go_at_call 83;refine hS.mono ?_;rintro e w' ⟨rfl,rfl⟩)
  |(go_at_call 84;refine hC.mono ?_;rintro e w' ⟨rfl,rfl⟩))
 go_ret
 exact⟨rfl,rfl⟩
end Ai
namespace Ai
set_option maxRecDepth 100000
open Go Go.Proofs Go.Shelf Go.Sort Go.RowKit
theorem like_ds {s:St} {m:Own} {κ:Key} {e:TypeId} {sz:Nat} {els els':List (List D)} (hH:s.H κ=some (.ds e sz els)) (hl:els'.length=els.length):Like s.H (s.setH κ (.ds e sz els')).H m m:=by
 refine⟨fun o2 e2 cs2 h2=>?_,fun o2 e2 sz2 els2 h2=>?_,fun o2 e2 sz2 els2 h2=>?_,fun o2 ag2 ps2 h2=>?_⟩
 ·by_cases hne:o2=κ
  ·subst hne;rw[hH] at h2;cases h2
  ·exact⟨⟨cs2,by simp[St.setH,zB hne,h2]⟩,rfl⟩
 ·by_cases hne:o2=κ
  ·subst hne
   rw[hH] at h2;injection h2 with h2;injection h2 with i1 i2 i3;subst i1 i2 i3
   exact⟨⟨els',by simp[St.setH,zD],hl⟩,rfl⟩
  ·exact⟨⟨els2,by simp[St.setH,zB hne,h2],rfl⟩,rfl⟩
 ·by_cases hne:o2=κ
  ·subst hne;rw[hH] at h2;cases h2
  ·exact⟨⟨els2,by simp[St.setH,zB hne,h2],rfl⟩,rfl⟩
 ·by_cases hne:o2=κ
  ·subst hne;rw[hH] at h2;cases h2
  ·exact⟨⟨ps2,by simp[St.setH,zB hne,h2]⟩,rfl⟩
theorem ent44:∀ args w,(callFunc 44 args).run Tryz.prog w=.ok (.enter 44 args) w:=enters_of Tryz.func44 (by kernel_rfl) rfl
def yM (xs:List (List UInt8)):List (List UInt8):=wJ xs++List.replicate (xs.length - (wJ xs).length) []
theorem mD (xs:List (List UInt8)):(wJ xs).length≤xs.length:=by
 have h:∀ l:List (List UInt8),(Lib.compact l).length≤l.length:=fun l=>by
  unfold Lib.compact Lib.compactUpTo
  rw[List.length_map]
  exact Nat.le_trans (List.length_filter_le _ _) (by simp)
 have:=h (yC xs)
 rwa [vM] at this
theorem y6 (xs:List (List UInt8)):(yM xs).length=xs.length:=by
 have:=mD xs
 simp[yM];omega
theorem textsIO_ok (xs:List (List UInt8)) (nn:Nat) (hnn:nn=xs.length) (hx:xs.length≤1048576) (H0:Key→Option Ob) (hH0:H0 (.n 77)=some (.ds 9 1 (xs.map Ai.encStr))) :
  IOCall EE 44 [.ref (.n 77) 0 nn] H0 (fun r H1=>r=.ref (.n 77) 0 (wJ xs).length∧H1=fun κ=>bif Key.beq κ (.n 77) then some (.ds 9 1 ((yM xs).map Ai.encStr)) else H0 κ):=by
 intro w0 A m w vs hHR hl hr
 have h1:vs.size=1:=hl.symm
 obtain⟨v,rfl⟩:∃ v,vs=#[v]:=⟨vs[0],by
  apply Array.ext (by simp[h1])
  intro i h2 h3
  simp at h3
  subst h3;rfl⟩
 have hv:=hr 0 _ v rfl rfl
 cases hv with
 |ref0 _ e2 sz2 hH hm =>
  rw[hH0] at hH
  injection hH with hH
  injection hH with i1 i2 i3
  have:xs=[]:=by cases xs with|nil=>rfl|cons a b=>simp at i3
  subst this
  have hnn0:wJ []=[]:=by simp[wJ,yC,Lib.compact,Lib.compactUpTo]
  have e1:yM []=[]:=by simp[yM,hnn0]
  have eH:(fun κ=>bif Key.beq κ (.n 77) then some (Ob.ds 9 1 ((yM []).map Ai.encStr)) else H0 κ)=H0:=by
   funext κ
   cases h:Key.beq κ (.n 77) with
   |false=>rfl
   |true=>rw[yI h,hH0,e1];rfl
  unfold Invokes
  rw[show Sem.run EE.P (callFunc 44 #[Value.slice none 0 0]) w=_ from ent44 _ w]
  refine Calls.mono (show Calls Tryz.prog 44 _ _ _ from texts_nil w) ?_
  rintro e w' ⟨rfl,rfl⟩
  refine⟨_,rfl,_,_,m,⟨rfl,rfl⟩,?_,?_⟩
  ·rw[eH];exact hHR
  ·rw[eH,hnn0];exact .ref0 _ 9 1 hH0 hm
 |ref _ _ _ e2 sz2 els2 b full cap hH hn2 hm hcap hnc =>
  rw[hH0] at hH
  injection hH with hH
  injection hH with i1 i2 i3
  subst i1 i2 i3
  have hcf:=hcap rfl
  subst hcf
  rcases hHR.objs _ _ hH0 with ⟨hm2,_⟩|⟨b2,full2,cur,hm2,hbb,hcur,hlen,hmax,hsz,hc⟩
  ·rw[hm] at hm2;cases hm2
  rw[hm] at hm2
  injection hm2 with hm2
  injection hm2 with j1 j2
  subst j1 j2
  have hcl:xs.length≤cap:=by simpa using hlen
  have hcell:∀ t (ht:t<xs.length),cur[t]?=some (Go.Proofs.encStr xs[t]):=by
   intro t ht
   obtain⟨u,hu,hrr⟩:=(hc t [D.str xs[t]] (by rw[List.getElem?_map,List.getElem?_eq_getElem ht];rfl)).2 0 _ rfl
   have:=strInv hrr
   subst this
   simpa[Go.Proofs.encStr] using hu
  have hHo:Holds (Go.Proofs.encStr) w b 0 xs.toArray:=by
   intro t ht2
   have ht2:t<xs.length:=by simpa using ht2
   constructor
   ·simp only[World.cell?,hcur,Nat.zero_add,hcell t ht2]
    simp[ht2]
   ·simp[World.frozen?,hcur]
  have hml:maxLen=9223372036854775807:=rfl
  have hbl:b<w.heap.size:=(Array.getElem?_eq_some_iff.1 hcur).1
  have hris:=p8 b cap xs w hHo hbl hx hcl
  rw[← hnn] at hris
  unfold Invokes
  rw[show Sem.run EE.P (callFunc 44 _) w=_ from ent44 _ w]
  refine Calls.mono (show Calls Tryz.prog 44 _ _ _ from hris) ?_
  rintro e w' ⟨rfl,n,k,os,q,rfl⟩
  have hsl:(yC xs).length=xs.length:=vM xs
  rw[hsl]
  have hfin:Lib.compact (yC xs)++List.replicate (xs.length - (Lib.compact (yC xs)).length) []=yM xs:=rfl
  rw[hfin]
  have hw1:Below w.heap.size w (Sort.ahead (grow (Sort.ahead (w.drewN k) n) os) q):=⟨rfl,rfl,rfl,by simp[Sort.ahead,grow,World.drewN],fun j hj=>by
   show((Sort.ahead (w.drewN k) n).heap++os)[j]?=_
   rw[Array.getElem?_append_left (by simpa[Sort.ahead,World.drewN] using hj)];rfl⟩
  have hS1:=(hHR.toS).below' hw1
  have hsz2:(putRow (Go.Proofs.encStr) (Sort.ahead (grow (putRow (Go.Proofs.encStr) (Sort.ahead (w.drewN k) n) b 0 (yC xs).toArray) os) q) b 0 (yM xs).toArray).heap.size=(Sort.ahead (grow (Sort.ahead (w.drewN k) n) os) q).heap.size:=by
   rw[size_putRow]
   show((putRow (Go.Proofs.encStr) (Sort.ahead (w.drewN k) n) b 0 (yC xs).toArray).heap++os).size=((Sort.ahead (w.drewN k) n).heap++os).size
   rw[Array.size_append,Array.size_append,size_putRow]
  have hoth:∀ j,j≠b→(putRow (Go.Proofs.encStr) (Sort.ahead (grow (putRow (Go.Proofs.encStr) (Sort.ahead (w.drewN k) n) b 0 (yC xs).toArray) os) q) b 0 (yM xs).toArray).heap[j]?=(Sort.ahead (grow (Sort.ahead (w.drewN k) n) os) q).heap[j]?:=by
   intro j hj
   rw[mJ _ _ _ _ _ _ hj]
   show((putRow (Go.Proofs.encStr) (Sort.ahead (w.drewN k) n) b 0 (yC xs).toArray).heap++os)[j]?=((Sort.ahead (w.drewN k) n).heap++os)[j]?
   rw[Array.getElem?_append,Array.getElem?_append,size_putRow,mJ _ _ _ _ _ _ hj]
  have hcur1:(Sort.ahead (grow (putRow (Go.Proofs.encStr) (Sort.ahead (w.drewN k) n) b 0 (yC xs).toArray) os) q).heap[b]?=some (.cells (putCells (Go.Proofs.encStr) 0 (yC xs).toArray cur) 9 (0,0)):=by
   show((putRow (Go.Proofs.encStr) (Sort.ahead (w.drewN k) n) b 0 (yC xs).toArray).heap++os)[b]?=_
   rw[Array.getElem?_append_left (by rw[size_putRow];exact hbl)]
   exact tP _ _ _ _ hcur
  have hos:(putRow (Go.Proofs.encStr) (Sort.ahead (grow (putRow (Go.Proofs.encStr) (Sort.ahead (w.drewN k) n) b 0 (yC xs).toArray) os) q) b 0 (yM xs).toArray).os=(Sort.ahead (grow (Sort.ahead (w.drewN k) n) os) q).os:=rfl
  have htp:(putRow (Go.Proofs.encStr) (Sort.ahead (grow (putRow (Go.Proofs.encStr) (Sort.ahead (w.drewN k) n) b 0 (yC xs).toArray) os) q) b 0 (yM xs).toArray).tape=(Sort.ahead (grow (Sort.ahead (w.drewN k) n) os) q).tape:=rfl
  have hou:(putRow (Go.Proofs.encStr) (Sort.ahead (grow (putRow (Go.Proofs.encStr) (Sort.ahead (w.drewN k) n) b 0 (yC xs).toArray) os) q) b 0 (yM xs).toArray).output=(Sort.ahead (grow (Sort.ahead (w.drewN k) n) os) q).output:=rfl
  have hcur2:=tP (Sort.ahead (grow (putRow (Go.Proofs.encStr) (Sort.ahead (w.drewN k) n) b 0 (yC xs).toArray) os) q) b (yM xs).toArray _ hcur1
  generalize putRow (Go.Proofs.encStr) (Sort.ahead (grow (putRow (Go.Proofs.encStr) (Sort.ahead (w.drewN k) n) b 0 (yC xs).toArray) os) q) b 0 (yM xs).toArray=w' at *
  generalize hw1e:Sort.ahead (grow (Sort.ahead (w.drewN k) n) os) q=w1 at *
  have hrl:(yM xs).length=xs.length:=y6 xs
  have hS:=hS1.update (w':=w') (.n 77) _ (.ds 9 1 ((yM xs).map Ai.encStr)) hH0 (like_ds hH0 (by simp[hrl])) b cap hm
   ⟨hos.trans hS1.below.os,htp.trans hS1.below.tape,hou.trans hS1.below.output,by rw[hsz2];exact hS1.below.size,fun j hj=>(hoth j (by omega)).trans (hS1.below.block j hj)⟩ hsz2 hoth ?_ (fun _ _ h=>by cases h)
  ·refine⟨_,rfl,_,_,m,⟨rfl,rfl⟩,hS.toH,?_⟩
   have hle:=mD xs
   exact VRel.ref (w:=w') (ok:=okB A.A (St.setH (.n 77) (.ds 9 1 ((yM xs).map Ai.encStr)) ⟨fun _=>.junk,H0⟩).H m w') (m:=m) (H:=(St.setH (.n 77) (.ds 9 1 ((yM xs).map Ai.encStr)) ⟨fun _=>.junk,H0⟩).H) (.n 77) 0 (wJ xs).length 9 1 ((yM xs).map Ai.encStr) b cap cap
    (by simp[St.setH,zD]) (by simp[hrl];exact hle) hm (fun _=>rfl) (by omega)
  ·refine .inr ⟨b,cap,_,hm,hbb,hcur2,by simp[hrl];omega,hmax,by simp[putCells,hsz],fun j c hj=>?_⟩
   rw[List.getElem?_map,Option.map_eq_some_iff] at hj
   obtain⟨x,hx2,rfl⟩:=hj
   refine⟨rfl,fun t d ht=>?_⟩
   match t,ht with
   | 0,ht =>
    simp only[Ai.encStr,List.getElem?_cons_zero,Option.some.injEq] at ht
    subst ht
    refine⟨Go.Proofs.encStr x,?_,by have:=RepD.str (w:=w') (ok:=okB A.A (St.setH (.n 77) (.ds 9 1 ((yM xs).map Ai.encStr)) ⟨fun _=>.junk,H0⟩).H m w') ⟨x.toArray⟩;simpa using this⟩
    rw[Nat.mul_one,Nat.add_zero]
    have hxl:=(List.getElem?_eq_some_iff.1 hx2).1
    rw[eA _ _ _ (by simpa using hxl) (by simp[putCells];omega)]
    rw[List.getElem?_eq_getElem hxl] at hx2
    injection hx2 with hx2
    rw[List.getElem_toArray,hx2]
   |t+1,ht=>simp[Ai.encStr] at ht
end Ai
namespace Ai
open Go Go.RowKit
def Snd (E:Env) (N:Nat) (c:Code) (Q:AX→St→Prop) (s:St):Prop:=∀ (A:Fr) (w0:World) (m:Own) (a:Act) (w:World),SRel E N A w0 m s a w→c.wp E.P (wZ E N A w0 Q) a w
section
variable {E:Env} {N:Nat} {s:St} {Q:AX→St→Prop}
theorem qC {c:Code} (h:AW E N c Q s):Snd E N c Q s:=fun A w0 m a w hs=>nN c Q hs h
theorem tI {c:Code} {s':St} (hw:Weak E N s s') (h:Snd E N c Q s'):Snd E N c Q s:=fun A w0 m a w hs=>by
 obtain⟨m',h'⟩:=hw A w0 m a w hs
 exact h A w0 m' a w h'
theorem y1 {x y:Code} {K:St→Prop} (h:AW E N x (kZ K Q) s) (h2:∀ s,K s→Snd E N y Q s):Snd E N (.seq x y) Q s:=fun A w0 m a w hs=>by
 refine wp_seq (wp_mono (nN x _ hs h) fun e a' w' hq=>?_)
 cases e with
 |normal =>
  obtain⟨m',s',hS,hk⟩:=hq
  exact h2 s' hk A w0 m' a' w' hS
 |exit id=>exact hq
 |ret=>exact hq
 |goto l=>exact hq.elim
 |panic ch=>exact hq.elim
 |outgrown=>exact hq.elim
theorem snd_pre {K:St→Prop}:∀ (n:Nat) (c:Code) (s:St),mK E N K Q n c s→(∀ s,K s→Snd E N (dropC n c) Q s)→Snd E N c Q s
 | 0,c,s,h,h2=>by
  have:=h2 s h
  cases c <;> exact this
 |n+1,c,s,h,h2=>by
  cases c with
  |seq x y=>exact y1 (K:=mK E N K Q n y) h fun s' hk=>snd_pre n y s' hk h2
  | _=>exact qC h
theorem lX {c:Code} (n:Nat) (C:St→Prop) (h1:∀ K:St→Prop,(∀ s s',Weak E N s s'→C s'→K s)→mK E N K Q n c s) (h2:∀ s,C s→Snd E N (dropC n c) Q s):Snd E N c Q s :=
 snd_pre (K:=fun s=>∃ s',Weak E N s s'∧C s') n c s (h1 _ fun s s' hw hc=>⟨s',hw,hc⟩) fun s ⟨s',hw,hc⟩=>tI hw (h2 s' hc)
end
section
variable {E:Env} {w:World}
theorem f5 {A:Nat→Prop} {f:FuncId} {fn:Func} {c:Code} {as1:List AV} {R:AV→Prop} {vs:Array Value} (hf:E.P.funcs[f]?=some fn) (hb:fn.body=some c) (hN:Nat.ble as1.length fn.ntmps=true)
  (h:Snd E fn.ntmps c (sG E fn R) (St.init as1)) (hI:E.I w) (hr:ARel w A as1 vs) :
  Calls E.P f vs w fun e w'=>∃ v,e=.returned v∧∃ r,R r∧Below w.heap.size w w'∧lS w w' A r v:=by
 have hN':as1.length≤fn.ntmps:=Nat.le_of_ble_eq_true hN
 have hsz:vs.size≤fn.ntmps:=by rw[← hr.1];exact hN'
 refine calls_of_wp hf hb ?_
 have hS:SRel E fn.ntmps ⟨fun b=>A b∨w.heap.size≤b,fun _=>False,fun _=>none,fun _=>none⟩ w (fun _=>none) (St.init as1) { tmps:=vs++Array.replicate (fn.ntmps - vs.size) undef,defers:=[] } w:=by
  refine⟨by simp;omega,rfl,Below.refl _ _,hI,fun i hi=>?_,fun o ob ho=>by simp[St.init] at ho,fun o o' p p' ho=>by simp[St.init] at ho,fun b hb=>.inl (.inr hb),fun b hb=>hb.elim,fun n hn=>absurd rfl hn⟩
  by_cases hlt:i<as1.length
  ·have h1:as1[i]?=some as1[i]:=List.getElem?_eq_getElem hlt
   have hlv:i<vs.size:=by rw[← hr.1];exact hlt
   have:=hr.2 i as1[i] vs[i] h1 (Array.getElem?_eq_getElem hlv)
   have e1:(St.init as1).τ i=as1[i]:=by simp[St.init,List.getD,h1]
   have e2:(vs++Array.replicate (fn.ntmps - vs.size) undef).getD i undef=vs[i]:=by
    rw[Array.getD_eq_getD_getElem?,Array.getElem?_append_left hlv,Array.getElem?_eq_getElem hlv];rfl
   rw[e1]
   show VRel _ _ _ _ _ ((vs++Array.replicate (fn.ntmps - vs.size) undef).getD i undef)
   rw[e2]
   exact this.lift fun b hb=>⟨hb.1,fun o ho=>by simp[St.init] at ho,.inl hb.2⟩
  ·have e1:(St.init as1).τ i=.junk:=by simp[St.init,List.getD,List.getElem?_eq_none (Nat.le_of_not_lt hlt)]
   rw[e1];exact .junk _
 refine wp_mono (h _ _ _ _ _ hS) fun e a' w' hq=>?_
 cases e with
 |normal =>
  obtain⟨m',s',hS',hk⟩:=hq
  refine⟨hS'.defers,?_⟩
  have fin:(match wR E fn.ntmps s' fn.results.toList with|some r=>kv r R|none=>False)∨wQ E fn.ntmps s' fn.results.toList R∨mF E fn.ntmps s' fn.results.toList R:=by
   have hk2:(match dU E fn.ntmps s' fn.results.toList with
    |some [.agg cs]=>bif zT cs then (match wR E fn.ntmps s' fn.results.toList with|some r=>kv r R|none=>False)∨wQ E fn.ntmps s' fn.results.toList R
      else (match wR E fn.ntmps s' fn.results.toList with|some r=>kv r R|none=>wQ E fn.ntmps s' fn.results.toList R)
    |some (v1::v2::vs)=>bif zT (v1::v2::vs) || kS (v1::v2::vs) then (match wR E fn.ntmps s' fn.results.toList with|some r=>kv r R|none=>wQ E fn.ntmps s' fn.results.toList R)∨mF E fn.ntmps s' fn.results.toList R
      else (match wR E fn.ntmps s' fn.results.toList with|some r=>kv r R|none=>wQ E fn.ntmps s' fn.results.toList R)
    | _=>(match wR E fn.ntmps s' fn.results.toList with|some r=>kv r R|none=>wQ E fn.ntmps s' fn.results.toList R)):=hk
   have both:(match wR E fn.ntmps s' fn.results.toList with|some r=>kv r R|none=>wQ E fn.ntmps s' fn.results.toList R)→(match wR E fn.ntmps s' fn.results.toList with|some r=>kv r R|none=>False)∨wQ E fn.ntmps s' fn.results.toList R∨mF E fn.ntmps s' fn.results.toList R:=by
    intro h
    split at h
    ·exact .inl h
    ·exact .inr (.inl h)
   split at hk2
   ·rename_i cs _
    cases hq:zT cs with
    |true =>
     rw[hq] at hk2
     rcases hk2 with hk2|hk2
     ·exact .inl hk2
     ·exact .inr (.inl hk2)
    |false=>rw[hq] at hk2;exact both hk2
   ·rename_i v1 v2 vs _
    cases hq:zT (v1::v2::vs) || kS (v1::v2::vs) with
    |true =>
     rw[hq] at hk2
     rcases hk2 with hk2|hk2
     ·exact both hk2
     ·exact .inr (.inr hk2)
    |false=>rw[hq] at hk2;exact both hk2
   ·exact both hk2
  rcases fin with hk2|hk2|hk2
  ·split at hk2
   ·rename_i r ho
    rw[yT] at hk2
    obtain⟨v,hv,hrr⟩:=mN hS' (B:=A) (fun b hb=>hb) fn ho
    exact⟨v,hv,v,rfl,r,hk2,hS'.below,hrr⟩
   ·exact hk2.elim
  ·obtain⟨v,r,hv,hR,hrr⟩:=mG hS' (B:=A) (fun b hb=>hb) fn hk2
   exact⟨v,hv,v,rfl,r,hR,hS'.below,hrr⟩
  ·obtain⟨v,r,hv,hR,hrr⟩:=mE hS' (B:=A) (fun b hb=>hb) fn hk2
   exact⟨v,hv,v,rfl,r,hR,hS'.below,hrr⟩
 |ret =>
  obtain⟨m',s',hS',hk⟩:=hq
  refine⟨hS'.defers,?_⟩
  have fin:(match wR E fn.ntmps s' fn.results.toList with|some r=>kv r R|none=>False)∨wQ E fn.ntmps s' fn.results.toList R∨mF E fn.ntmps s' fn.results.toList R:=by
   have hk2:(match dU E fn.ntmps s' fn.results.toList with
    |some [.agg cs]=>bif zT cs then (match wR E fn.ntmps s' fn.results.toList with|some r=>kv r R|none=>False)∨wQ E fn.ntmps s' fn.results.toList R
      else (match wR E fn.ntmps s' fn.results.toList with|some r=>kv r R|none=>wQ E fn.ntmps s' fn.results.toList R)
    |some (v1::v2::vs)=>bif zT (v1::v2::vs) || kS (v1::v2::vs) then (match wR E fn.ntmps s' fn.results.toList with|some r=>kv r R|none=>wQ E fn.ntmps s' fn.results.toList R)∨mF E fn.ntmps s' fn.results.toList R
      else (match wR E fn.ntmps s' fn.results.toList with|some r=>kv r R|none=>wQ E fn.ntmps s' fn.results.toList R)
    | _=>(match wR E fn.ntmps s' fn.results.toList with|some r=>kv r R|none=>wQ E fn.ntmps s' fn.results.toList R)):=hk
   have both:(match wR E fn.ntmps s' fn.results.toList with|some r=>kv r R|none=>wQ E fn.ntmps s' fn.results.toList R)→(match wR E fn.ntmps s' fn.results.toList with|some r=>kv r R|none=>False)∨wQ E fn.ntmps s' fn.results.toList R∨mF E fn.ntmps s' fn.results.toList R:=by
    intro h
    split at h
    ·exact .inl h
    ·exact .inr (.inl h)
   split at hk2
   ·rename_i cs _
    cases hq:zT cs with
    |true =>
     rw[hq] at hk2
     rcases hk2 with hk2|hk2
     ·exact .inl hk2
     ·exact .inr (.inl hk2)
    |false=>rw[hq] at hk2;exact both hk2
   ·rename_i v1 v2 vs _
    cases hq:zT (v1::v2::vs) || kS (v1::v2::vs) with
    |true =>
     rw[hq] at hk2
     rcases hk2 with hk2|hk2
     ·exact both hk2
     ·exact .inr (.inr hk2)
    |false=>rw[hq] at hk2;exact both hk2
   ·exact both hk2
  rcases fin with hk2|hk2|hk2
  ·split at hk2
   ·rename_i r ho
    rw[yT] at hk2
    obtain⟨v,hv,hrr⟩:=mN hS' (B:=A) (fun b hb=>hb) fn ho
    exact⟨v,hv,v,rfl,r,hk2,hS'.below,hrr⟩
   ·exact hk2.elim
  ·obtain⟨v,r,hv,hR,hrr⟩:=mG hS' (B:=A) (fun b hb=>hb) fn hk2
   exact⟨v,hv,v,rfl,r,hR,hS'.below,hrr⟩
  ·obtain⟨v,r,hv,hR,hrr⟩:=mE hS' (B:=A) (fun b hb=>hb) fn hk2
   exact⟨v,hv,v,rfl,r,hR,hS'.below,hrr⟩
 |exit i =>
  obtain⟨m',s',hS',hk⟩:=hq
  exact hk.elim
 |goto l=>exact hq.elim
 |panic ch=>exact hq.elim
 |outgrown=>exact hq.elim
theorem bV {f : FuncId} {fn : Func} {c : Code} {as1 : List AV} {R : AV → Prop} (hf : E.P.funcs[f]? = some fn) (hb : fn.body = some c) (hn : (fn.name == "runtime.NumGoroutine") = false) (hN : Nat.ble as1.length fn.ntmps = true)
  (h:Snd E fn.ntmps c (sG E fn R) (St.init as1)):CallsTo E f as1 R:=by
 intro w A vs hI hr
 have hrun:(callFunc f vs).run E.P w=.ok (.enter f vs) w:=by
  simp only[callFunc,Sem.run_bind,run_program,Result.andThen_ok,hf,hn,hb]
  rfl
 unfold Invokes
 rw[hrun]
 exact(f5 hf hb hN h hI hr).mono fun e w' ⟨v,he,hp⟩=>⟨v,he,hp⟩
end
end Ai
namespace Ai
open Go Go.RowKit
section
variable {E:Env} {N:Nat} {s:St} {Q:AX→St→Prop}
theorem p9 {x y:Code} {K:St→Prop} (h:Snd E N x (kZ K Q) s) (h2:∀ s,K s→Snd E N y Q s):Snd E N (.seq x y) Q s:=fun A w0 m a w hs=>by
 refine wp_seq (wp_mono (h A w0 m a w hs) fun e a' w' hq=>?_)
 cases e with
 |normal =>
  obtain⟨m',s',hS,hk⟩:=hq
  exact h2 s' hk A w0 m' a' w' hS
 |exit id=>exact hq
 |ret=>exact hq
 |goto l=>exact hq.elim
 |panic ch=>exact hq.elim
 |outgrown=>exact hq.elim
theorem snd_if {c:Operand} {x y:Code} {b:Bool} (hb:ev N s c=.d (.bool b)) (h1:b=true→Snd E N x Q s) (h2:b=false→Snd E N y Q s):Snd E N (.cond c x y) Q s:=fun A w0 m a w hs=>by
 have hc:=hs.ev c
 rw[hb] at hc
 generalize hv:a.eval c=cv at hc
 cases hc with
 |d _ _ hd=>cases hd with
  |bool =>
   cases b with
   |true=>exact wp_cond hv (h1 rfl A w0 m a w hs)
   |false=>exact wp_cond hv (h2 rfl A w0 m a w hs)
theorem eW {id:Nat} {c:Code} (h:Snd E N c (bM id Q) s):Snd E N (.block id c) Q s:=fun A w0 m a w hs=>by
 refine wp_block (wp_mono (h A w0 m a w hs) fun e a' w' hq=>?_)
 cases e with
 |normal=>exact hq
 |exit i =>
  obtain⟨m',s',hS,hk⟩:=hq
  simp only[bM] at hk
  simp only[Exit.inBlock]
  by_cases hi:i=id
  ·subst hi
   rw[nbeq_self] at hk
   rw[if_pos rfl]
   exact⟨m',s',hS,hk⟩
  ·rw[nbeq_ne hi] at hk
   rw[if_neg hi]
   exact⟨m',s',hS,hk⟩
 |ret=>exact hq
 |goto l=>exact hq.elim
 |panic ch=>exact hq.elim
 |outgrown=>exact hq.elim
theorem snd_loopF {α:Type} {c:Code} {s1:St} (l:α→List (Nat × AV)) (o:α→List (Key × Ob)) (f:α→List (Nat × (Nat→Option Ob))) (μ:α→Nat) (pre:α→Prop) (x0:α)
  (hw:Weak E N s s1) (h0:oks (l x0) s1) (h1:okh (o x0) s1) (h2:okf (f x0) s1) (hp:pre x0)
  (step:∀ x τ H,pre x→Snd E N c (kZ (fun s'=>∃ x' s2,Weak E N s' s2∧pre x'∧μ x'<μ x∧oks (l x') s2∧okh (o x') s2∧okf (f x') s2) Q) (mI (l x) (lZ (o x) (gA (f x) ⟨τ,H⟩)))):Snd E N (.loop c) Q s:=fun A w0 m a w hs=>by
 refine lU ?_
 have main:∀ n x s s2,μ x<n→pre x→Weak E N s s2→oks (l x) s2→okh (o x) s2→okf (f x) s2→∀ m a w,SRel E N A w0 m s a w→aO E.P c (wZ E N A w0 Q) a w:=by
  intro n
  induction n with
  |zero=>intro x s s2 h;omega
  |succ n ih =>
   intro x s s2 hn hp hw h0 h1 h2 m a w hS
   have hs:=step x s2.τ s2.H hp
   have e:mI (l x) (lZ (o x) (gA (f x) ⟨s2.τ,s2.H⟩))=s2:=by
    rw[show(⟨s2.τ,s2.H⟩:St)=s2 from rfl,lY h2,dH h1,dN h0]
   rw[e] at hs
   obtain⟨m',hS'⟩:=hw A w0 m a w hS
   refine rI (wp_mono (hs A w0 m' a w hS') fun e a' w' hq=>?_)
   cases e with
   |normal =>
    obtain⟨m2,t,hS2,x',s3,hw',hp',hlt,h0',h1',h2'⟩:=hq
    exact ih x' t s3 (by omega) hp' hw' h0' h1' h2' m2 a' w' hS2
   |exit i=>exact hq
   |ret=>exact hq
   |goto l=>exact hq.elim
   |panic ch=>exact hq.elim
   |outgrown=>exact hq.elim
 exact main (μ x0+1) x0 s s1 (by omega) hp hw h0 h1 h2 m a w hs
end
end Ai
namespace Ai
set_option maxRecDepth 100000
open Go Go.Proofs Cyc
theorem e1 {L:Nat→Bool} {i j:Nat} {b:Bool} (h:(L j || j==i)=b) (n:(j==i)=false:=by rfl):L j=b:=by rw[n] at h;simpa using h
theorem e2 {L:Nat→Bool} {i j:Nat} (h:L j=true):(L j || j==i)=true:=by rw[h];rfl
theorem k1 {a b:AV} (h:a=b) (n:scrP (isK (.n 61)) b=b:=by rfl):scrP (isK (.n 61)) a=b:=(congrArg _ h).trans n
theorem q1 {a b:Option Ob} (h:a=b) (n:Option.map (scrPO (isK (.n 61))) b=b:=by rfl):Option.map (scrPO (isK (.n 61))) a=b:=(congrArg _ h).trans n
theorem k3 {a b:AV} (h:a=b) (n:scrP (isK (.n 63)) b=b:=by rfl):scrP (isK (.n 63)) a=b:=(congrArg _ h).trans n
theorem q3 {a b:Option Ob} (h:a=b) (n:Option.map (scrPO (isK (.n 63))) b=b:=by rfl):Option.map (scrPO (isK (.n 63))) a=b:=(congrArg _ h).trans n
noncomputable def opsS13:Array Oper:=(bI 13 (Tryz.f15.body.getD .skip)).getD #[]
structure R13Sa (p:ProgL) (xs:List RunT) (N k:Nat) (out:List (List UInt8)) (sg:List UInt8) (m:Nat) (L:Nat→Bool) (S:St):Prop where
 u7:S.τ 7=bv true
 u24:S.τ 24=.ref (.n 903) 0 N
 u25:S.τ 25=i64 N
 u26:S.τ 26=i64 k
 u10:S.τ 10=sv sg
 u11:S.τ 11=i64 m
 h970:S.H (.n 970)=some (.ds 9 1 (out.map encStr))
 h903:S.H (.n 903)=some (.ds 9 1 (xs.map (rowSg p)))
 a12:L 0=false→S.τ 12=.ref (.n 61) 0 m
 q8a:L 8=false→S.τ 8=.ref (.n 970) 0 out.length
 q8b:L 8=true→S.τ 8=.ref (.n 61) 0 (out.length+1)
 c0:L 0=true→L 3=false→S.τ 61=.ref (.n 61) 0 m
 c1:L 1=true→S.τ 62=sv sg
 c2:L 2=true→S.τ 63=.ref (.n 63) 0 1
 c3:L 3=true→L 7=false→S.τ 64=.ref (.n 61) 0 (m+1)
 c4:L 4=true→S.τ 65=.ref (.n 970) 0 out.length
 c5:L 5=true→S.τ 66=i64 m
 c6:L 6=true→S.τ 67=.ref (.n 970) m (out.length - m)
 c7:L 7=true→S.τ 68=.ref (.n 61) 0 (out.length+1)
 e2:L 2=true→S.H (.n 63)=some (.ds 9 1 [[.str sg]])
 h61a:L 3=false→S.H (.n 61)=some (.ds 9 1 ((out.take m).map encStr))
 h61b:L 3=true→L 7=false→S.H (.n 61)=some (.ds 9 1 ((out.take m++[sg]).map encStr))
 h61c:L 7=true→S.H (.n 61)=some (.ds 9 1 ((out.take m++sg::out.drop m).map encStr))
 o1:L 3=true→L 0=true
 o2:L 3=true→L 2=true
 o3:L 7=true→L 3=true
 o4:L 7=true→L 6=true
 o5:L 8=true→L 7=true
 o6:L 6=true→L 4=true
theorem opSa_0 {p:ProgL} {xs:List RunT} {N k:Nat} {out:List (List UInt8)} {sg:List UInt8} {m:Nat} (L:Nat→Bool) (S:St) (r:R13Sa p xs N k out sg m L S) (hL:L 0=false):aDo EE Tryz.f15.ntmps opsS13 (opsS13[0]'(by decide)) S (R13Sa p xs N k out sg m (fun j=>L j || j==0)):=by
 have hat:At [(12,.ref (.n 61) 0 m)] [] [] S:=⟨⟨r.a12 hL,trivial⟩,trivial,trivial⟩
 obtain⟨τ,H,rfl⟩:=hat.form
 conv=>whnf
 exact {
  u7:=r.u7
  u24:=r.u24
  u25:=r.u25
  u26:=r.u26
  u10:=r.u10
  u11:=r.u11
  h970:=r.h970
  h903:=r.h903
  a12:=fun g0=>absurd g0 (by simp)
  q8a:=fun g0=>r.q8a (e1 g0)
  q8b:=fun g0=>r.q8b (e1 g0)
  c0:=fun _ _=>rfl
  c1:=fun g0=>r.c1 (e1 g0)
  c2:=fun g0=>r.c2 (e1 g0)
  c3:=fun g0 g1=>r.c3 (e1 g0) (e1 g1)
  c4:=fun g0=>r.c4 (e1 g0)
  c5:=fun g0=>r.c5 (e1 g0)
  c6:=fun g0=>r.c6 (e1 g0)
  c7:=fun g0=>r.c7 (e1 g0)
  e2:=fun g0=>r.e2 (e1 g0)
  h61a:=fun g0=>r.h61a (e1 g0)
  h61b:=fun g0 g1=>r.h61b (e1 g0) (e1 g1)
  h61c:=fun g0=>r.h61c (e1 g0)
  o1:=fun g0=>e2 (r.o1 (e1 g0))
  o2:=fun g0=>e2 (r.o2 (e1 g0))
  o3:=fun g0=>e2 (r.o3 (e1 g0))
  o4:=fun g0=>e2 (r.o4 (e1 g0))
  o5:=fun g0=>e2 (r.o5 (e1 g0))
  o6:=fun g0=>e2 (r.o6 (e1 g0)) }
theorem opSa_1 {p:ProgL} {xs:List RunT} {N k:Nat} {out:List (List UInt8)} {sg:List UInt8} {m:Nat} (L:Nat→Bool) (S:St) (r:R13Sa p xs N k out sg m L S) (hL:L 1=false):aDo EE Tryz.f15.ntmps opsS13 (opsS13[1]'(by decide)) S (R13Sa p xs N k out sg m (fun j=>L j || j==1)):=by
 have hat:At [(10,sv sg)] [] [] S:=⟨⟨r.u10,trivial⟩,trivial,trivial⟩
 obtain⟨τ,H,rfl⟩:=hat.form
 conv=>whnf
 exact {
  u7:=r.u7
  u24:=r.u24
  u25:=r.u25
  u26:=r.u26
  u10:=r.u10
  u11:=r.u11
  h970:=r.h970
  h903:=r.h903
  a12:=fun g0=>r.a12 (e1 g0)
  q8a:=fun g0=>r.q8a (e1 g0)
  q8b:=fun g0=>r.q8b (e1 g0)
  c0:=fun g0 g1=>r.c0 (e1 g0) (e1 g1)
  c1:=fun _=>rfl
  c2:=fun g0=>r.c2 (e1 g0)
  c3:=fun g0 g1=>r.c3 (e1 g0) (e1 g1)
  c4:=fun g0=>r.c4 (e1 g0)
  c5:=fun g0=>r.c5 (e1 g0)
  c6:=fun g0=>r.c6 (e1 g0)
  c7:=fun g0=>r.c7 (e1 g0)
  e2:=fun g0=>r.e2 (e1 g0)
  h61a:=fun g0=>r.h61a (e1 g0)
  h61b:=fun g0 g1=>r.h61b (e1 g0) (e1 g1)
  h61c:=fun g0=>r.h61c (e1 g0)
  o1:=fun g0=>e2 (r.o1 (e1 g0))
  o2:=fun g0=>e2 (r.o2 (e1 g0))
  o3:=fun g0=>e2 (r.o3 (e1 g0))
  o4:=fun g0=>e2 (r.o4 (e1 g0))
  o5:=fun g0=>e2 (r.o5 (e1 g0))
  o6:=fun g0=>e2 (r.o6 (e1 g0)) }
theorem opSa_2 {p:ProgL} {xs:List RunT} {N k:Nat} {out:List (List UInt8)} {sg:List UInt8} {m:Nat} (L:Nat→Bool) (S:St) (r:R13Sa p xs N k out sg m L S) (hL:L 2=false) (k1:L 1=true):aDo EE Tryz.f15.ntmps opsS13 (opsS13[2]'(by decide)) S (R13Sa p xs N k out sg m (fun j=>L j || j==2)):=by
 have hat:At [(62,sv sg)] [] [] S:=⟨⟨r.c1 k1,trivial⟩,trivial,trivial⟩
 obtain⟨τ,H,rfl⟩:=hat.form
 conv=>whnf
 exact {
  u7:=k3 (r.u7)
  u24:=k3 (r.u24)
  u25:=k3 (r.u25)
  u26:=k3 (r.u26)
  u10:=k3 (r.u10)
  u11:=k3 (r.u11)
  h970:=q3 (r.h970)
  h903:=q3 (r.h903)
  a12:=fun g0=>k3 (r.a12 (e1 g0))
  q8a:=fun g0=>k3 (r.q8a (e1 g0))
  q8b:=fun g0=>k3 (r.q8b (e1 g0))
  c0:=fun g0 g1=>k3 (r.c0 (e1 g0) (e1 g1))
  c1:=fun g0=>k3 (r.c1 (e1 g0))
  c2:=fun _=>rfl
  c3:=fun g0 g1=>k3 (r.c3 (e1 g0) (e1 g1))
  c4:=fun g0=>k3 (r.c4 (e1 g0))
  c5:=fun g0=>k3 (r.c5 (e1 g0))
  c6:=fun g0=>k3 (r.c6 (e1 g0))
  c7:=fun g0=>k3 (r.c7 (e1 g0))
  e2:=fun _=>rfl
  h61a:=fun g0=>q3 (r.h61a (e1 g0))
  h61b:=fun g0 g1=>q3 (r.h61b (e1 g0) (e1 g1))
  h61c:=fun g0=>q3 (r.h61c (e1 g0))
  o1:=fun g0=>e2 (r.o1 (e1 g0))
  o2:=fun g0=>e2 (r.o2 (e1 g0))
  o3:=fun g0=>e2 (r.o3 (e1 g0))
  o4:=fun g0=>e2 (r.o4 (e1 g0))
  o5:=fun g0=>e2 (r.o5 (e1 g0))
  o6:=fun g0=>e2 (r.o6 (e1 g0)) }
theorem opSa_3 {p:ProgL} {xs:List RunT} {N k:Nat} {out:List (List UInt8)} {sg:List UInt8} {m:Nat} (hm:m≤1000) (L:Nat→Bool) (S:St) (r:R13Sa p xs N k out sg m L S) (hL:L 3=false) (k0:L 0=true) (k2:L 2=true):aDo EE Tryz.f15.ntmps opsS13 (opsS13[3]'(by decide)) S (R13Sa p xs N k out sg m (fun j=>L j || j==3)):=by
 have hat:At [(61,.ref (.n 61) 0 m),(63,.ref (.n 63) 0 1)] [(.n 61,.ds 9 1 ((out.take m).map encStr)),(.n 63,.ds 9 1 [[.str sg]])] [] S:=⟨⟨r.c0 k0 hL,r.c2 k2,trivial⟩,⟨r.h61a hL,r.e2 k2,trivial⟩,trivial⟩
 obtain⟨τ,H,rfl⟩:=hat.form
 conv=>whnf
 refine⟨⟨rfl,by show(m+1)*_≤_;simp only[ti9];omega,by show m+1≤_;omega⟩,?_⟩
 conv=>whnf
 exact {
  u7:=k1 (r.u7)
  u24:=k1 (r.u24)
  u25:=k1 (r.u25)
  u26:=k1 (r.u26)
  u10:=k1 (r.u10)
  u11:=k1 (r.u11)
  h970:=q1 (r.h970)
  h903:=q1 (r.h903)
  a12:=fun g0=>absurd k0 (by rw[e1 g0];decide)
  q8a:=fun g0=>k1 (r.q8a (e1 g0))
  q8b:=fun g0=>absurd (r.o3 (r.o5 (e1 g0))) (by rw[hL];decide)
  c0:=fun g0 g1=>absurd g1 (by simp)
  c1:=fun g0=>k1 (r.c1 (e1 g0))
  c2:=fun g0=>k1 (r.c2 (e1 g0))
  c3:=fun _ _=>rfl
  c4:=fun g0=>k1 (r.c4 (e1 g0))
  c5:=fun g0=>k1 (r.c5 (e1 g0))
  c6:=fun g0=>k1 (r.c6 (e1 g0))
  c7:=fun g0=>absurd (r.o3 (e1 g0)) (by rw[hL];decide)
  e2:=fun g0=>q1 (r.e2 (e1 g0))
  h61a:=fun g0=>absurd g0 (by simp)
  h61b:=fun _ _=>by
   show some (Ob.ds 9 1 (((out.take m).map encStr).take m++[[.str sg]]))=_
   rw[List.take_of_length_le (by simp;omega)]
   simp[encStr]
  h61c:=fun g0=>absurd (r.o3 (e1 g0)) (by rw[hL];decide)
  o1:=fun _=>e2 k0
  o2:=fun _=>e2 k2
  o3:=fun g0=>e2 (r.o3 (e1 g0))
  o4:=fun g0=>e2 (r.o4 (e1 g0))
  o5:=fun g0=>e2 (r.o5 (e1 g0))
  o6:=fun g0=>e2 (r.o6 (e1 g0)) }
theorem opSa_4 {p:ProgL} {xs:List RunT} {N k:Nat} {out:List (List UInt8)} {sg:List UInt8} {m:Nat} (L:Nat→Bool) (S:St) (r:R13Sa p xs N k out sg m L S) (hL:L 4=false):aDo EE Tryz.f15.ntmps opsS13 (opsS13[4]'(by decide)) S (R13Sa p xs N k out sg m (fun j=>L j || j==4)):=by
 have n8:L 8=false:=by
  cases h:L 8 with
  |false=>rfl
  |true=>exact absurd (r.o6 (r.o4 (r.o5 h))) (by rw[hL];decide)
 have hat:At [(8,.ref (.n 970) 0 out.length)] [] [] S:=⟨⟨r.q8a n8,trivial⟩,trivial,trivial⟩
 obtain⟨τ,H,rfl⟩:=hat.form
 conv=>whnf
 exact {
  u7:=r.u7
  u24:=r.u24
  u25:=r.u25
  u26:=r.u26
  u10:=r.u10
  u11:=r.u11
  h970:=r.h970
  h903:=r.h903
  a12:=fun g0=>r.a12 (e1 g0)
  q8a:=fun g0=>r.q8a (e1 g0)
  q8b:=fun g0=>r.q8b (e1 g0)
  c0:=fun g0 g1=>r.c0 (e1 g0) (e1 g1)
  c1:=fun g0=>r.c1 (e1 g0)
  c2:=fun g0=>r.c2 (e1 g0)
  c3:=fun g0 g1=>r.c3 (e1 g0) (e1 g1)
  c4:=fun _=>rfl
  c5:=fun g0=>r.c5 (e1 g0)
  c6:=fun g0=>r.c6 (e1 g0)
  c7:=fun g0=>r.c7 (e1 g0)
  e2:=fun g0=>r.e2 (e1 g0)
  h61a:=fun g0=>r.h61a (e1 g0)
  h61b:=fun g0 g1=>r.h61b (e1 g0) (e1 g1)
  h61c:=fun g0=>r.h61c (e1 g0)
  o1:=fun g0=>e2 (r.o1 (e1 g0))
  o2:=fun g0=>e2 (r.o2 (e1 g0))
  o3:=fun g0=>e2 (r.o3 (e1 g0))
  o4:=fun g0=>e2 (r.o4 (e1 g0))
  o5:=fun g0=>e2 (r.o5 (e1 g0))
  o6:=fun g0=>e2 (r.o6 (e1 g0)) }
theorem opSa_5 {p:ProgL} {xs:List RunT} {N k:Nat} {out:List (List UInt8)} {sg:List UInt8} {m:Nat} (L:Nat→Bool) (S:St) (r:R13Sa p xs N k out sg m L S) (hL:L 5=false):aDo EE Tryz.f15.ntmps opsS13 (opsS13[5]'(by decide)) S (R13Sa p xs N k out sg m (fun j=>L j || j==5)):=by
 have hat:At [(11,i64 m)] [] [] S:=⟨⟨r.u11,trivial⟩,trivial,trivial⟩
 obtain⟨τ,H,rfl⟩:=hat.form
 conv=>whnf
 exact {
  u7:=r.u7
  u24:=r.u24
  u25:=r.u25
  u26:=r.u26
  u10:=r.u10
  u11:=r.u11
  h970:=r.h970
  h903:=r.h903
  a12:=fun g0=>r.a12 (e1 g0)
  q8a:=fun g0=>r.q8a (e1 g0)
  q8b:=fun g0=>r.q8b (e1 g0)
  c0:=fun g0 g1=>r.c0 (e1 g0) (e1 g1)
  c1:=fun g0=>r.c1 (e1 g0)
  c2:=fun g0=>r.c2 (e1 g0)
  c3:=fun g0 g1=>r.c3 (e1 g0) (e1 g1)
  c4:=fun g0=>r.c4 (e1 g0)
  c5:=fun _=>rfl
  c6:=fun g0=>r.c6 (e1 g0)
  c7:=fun g0=>r.c7 (e1 g0)
  e2:=fun g0=>r.e2 (e1 g0)
  h61a:=fun g0=>r.h61a (e1 g0)
  h61b:=fun g0 g1=>r.h61b (e1 g0) (e1 g1)
  h61c:=fun g0=>r.h61c (e1 g0)
  o1:=fun g0=>e2 (r.o1 (e1 g0))
  o2:=fun g0=>e2 (r.o2 (e1 g0))
  o3:=fun g0=>e2 (r.o3 (e1 g0))
  o4:=fun g0=>e2 (r.o4 (e1 g0))
  o5:=fun g0=>e2 (r.o5 (e1 g0))
  o6:=fun g0=>e2 (r.o6 (e1 g0)) }
theorem opSa_6 {p:ProgL} {xs:List RunT} {N k:Nat} {out:List (List UInt8)} {sg:List UInt8} {m:Nat} (hv:m≤out.length) (hn:out.length≤1000) (hml:m=0∨m<out.length) (L:Nat→Bool) (S:St) (r:R13Sa p xs N k out sg m L S) (hL:L 6=false) (k4:L 4=true) (k5:L 5=true):aDo EE Tryz.f15.ntmps opsS13 (opsS13[6]'(by decide)) S (R13Sa p xs N k out sg m (fun j=>L j || j==6)):=by
 have hat:At [(65,.ref (.n 970) 0 out.length),(66,i64 m)] [(.n 970,.ds 9 1 (out.map encStr))] [] S:=⟨⟨r.c4 k4,r.c5 k5,trivial⟩,⟨r.h970,trivial⟩,trivial⟩
 obtain⟨τ,H,rfl⟩:=hat.form
 conv=>whnf
 refine .inl ⟨⟨by omega,by show(m:Int)≤out.length;omega,by omega,by omega⟩,?_⟩
 conv=>whnf
 exact {
  u7:=r.u7
  u24:=r.u24
  u25:=r.u25
  u26:=r.u26
  u10:=r.u10
  u11:=r.u11
  h970:=r.h970
  h903:=r.h903
  a12:=fun g0=>r.a12 (e1 g0)
  q8a:=fun g0=>r.q8a (e1 g0)
  q8b:=fun g0=>r.q8b (e1 g0)
  c0:=fun g0 g1=>r.c0 (e1 g0) (e1 g1)
  c1:=fun g0=>r.c1 (e1 g0)
  c2:=fun g0=>r.c2 (e1 g0)
  c3:=fun g0 g1=>r.c3 (e1 g0) (e1 g1)
  c4:=fun g0=>r.c4 (e1 g0)
  c5:=fun g0=>r.c5 (e1 g0)
  c6:=fun _=>by
   show AV.ref (.n 970) (0+(m:Int).toNat) ((out.length:Int).toNat - (m:Int).toNat)=_
   rw[Int.toNat_natCast,Int.toNat_natCast,Nat.zero_add]
  c7:=fun g0=>r.c7 (e1 g0)
  e2:=fun g0=>r.e2 (e1 g0)
  h61a:=fun g0=>r.h61a (e1 g0)
  h61b:=fun g0 g1=>r.h61b (e1 g0) (e1 g1)
  h61c:=fun g0=>r.h61c (e1 g0)
  o1:=fun g0=>e2 (r.o1 (e1 g0))
  o2:=fun g0=>e2 (r.o2 (e1 g0))
  o3:=fun g0=>e2 (r.o3 (e1 g0))
  o4:=fun g0=>e2 (r.o4 (e1 g0))
  o5:=fun g0=>e2 (r.o5 (e1 g0))
  o6:=fun _=>e2 k4 }
theorem opSa_7 {p:ProgL} {xs:List RunT} {N k:Nat} {out:List (List UInt8)} {sg:List UInt8} {m:Nat} (hv:m≤out.length) (hn:out.length≤1000) (hml:m=0∨m<out.length) (L:Nat→Bool) (S:St) (r:R13Sa p xs N k out sg m L S) (hL:L 7=false) (k3:L 3=true) (k6:L 6=true):aDo EE Tryz.f15.ntmps opsS13 (opsS13[7]'(by decide)) S (R13Sa p xs N k out sg m (fun j=>L j || j==7)):=by
 have hat:At [(64,.ref (.n 61) 0 (m+1)),(67,.ref (.n 970) m (out.length - m))] [(.n 61,.ds 9 1 ((out.take m++[sg]).map encStr)),(.n 970,.ds 9 1 (out.map encStr))] [] S:=⟨⟨r.c3 k3 hL,r.c6 k6,trivial⟩,⟨r.h61b k3 hL,r.h970,trivial⟩,trivial⟩
 obtain⟨τ,H,rfl⟩:=hat.form
 conv=>whnf
 have hdl:((out.drop m).map encStr).length=out.length - m:=by simp
 have hT:List.take (out.length - m) (List.drop m (List.map encStr out))=(out.drop m).map encStr:=by rw[← List.map_drop,List.take_of_length_le (by simp)]
 rw[hT]
 refine⟨⟨by rw[List.all_eq_true];intro c hc;obtain⟨y,_,rfl⟩:=List.mem_map.1 hc;rfl,by rw[hdl];simp only[ti9];omega,by rw[hdl];omega⟩,?_⟩
 conv=>whnf
 exact {
  u7:=k1 (r.u7)
  u24:=k1 (r.u24)
  u25:=k1 (r.u25)
  u26:=k1 (r.u26)
  u10:=k1 (r.u10)
  u11:=k1 (r.u11)
  h970:=q1 (r.h970)
  h903:=q1 (r.h903)
  a12:=fun g0=>absurd (r.o1 k3) (by rw[e1 g0];decide)
  q8a:=fun g0=>k1 (r.q8a (e1 g0))
  q8b:=fun g0=>absurd (r.o5 (e1 g0)) (by rw[hL];decide)
  c0:=fun _ g1=>absurd k3 (by rw[e1 g1];decide)
  c1:=fun g0=>k1 (r.c1 (e1 g0))
  c2:=fun g0=>k1 (r.c2 (e1 g0))
  c3:=fun g0 g1=>absurd g1 (by simp)
  c4:=fun g0=>k1 (r.c4 (e1 g0))
  c5:=fun g0=>k1 (r.c5 (e1 g0))
  c6:=fun g0=>k1 (r.c6 (e1 g0))
  c7:=fun _=>by
   show AV.ref (.n 61) 0 (m+1+((out.drop m).map encStr).length)=_
   rw[hdl,show m+1+(out.length - m)=out.length+1 by omega]
  e2:=fun g0=>q1 (r.e2 (e1 g0))
  h61a:=fun g0=>absurd k3 (by rw[e1 g0];decide)
  h61b:=fun g0 g1=>absurd g1 (by simp)
  h61c:=fun _=>by
   show some (Ob.ds 9 1 (((out.take m++[sg]).map encStr).take (m+1)++(out.drop m).map encStr))=_
   rw[List.take_of_length_le (by simp;omega)]
   simp[encStr]
  o1:=fun g0=>e2 (r.o1 (e1 g0))
  o2:=fun g0=>e2 (r.o2 (e1 g0))
  o3:=fun _=>e2 k3
  o4:=fun _=>e2 k6
  o5:=fun g0=>e2 (r.o5 (e1 g0))
  o6:=fun g0=>e2 (r.o6 (e1 g0)) }
theorem opSa_8 {p:ProgL} {xs:List RunT} {N k:Nat} {out:List (List UInt8)} {sg:List UInt8} {m:Nat} (L:Nat→Bool) (S:St) (r:R13Sa p xs N k out sg m L S) (hL:L 8=false) (k7:L 7=true):aDo EE Tryz.f15.ntmps opsS13 (opsS13[8]'(by decide)) S (R13Sa p xs N k out sg m (fun j=>L j || j==8)):=by
 have hat:At [(68,.ref (.n 61) 0 (out.length+1))] [] [] S:=⟨⟨r.c7 k7,trivial⟩,trivial,trivial⟩
 obtain⟨τ,H,rfl⟩:=hat.form
 conv=>whnf
 exact {
  u7:=r.u7
  u24:=r.u24
  u25:=r.u25
  u26:=r.u26
  u10:=r.u10
  u11:=r.u11
  h970:=r.h970
  h903:=r.h903
  a12:=fun g0=>r.a12 (e1 g0)
  q8a:=fun g0=>absurd g0 (by simp)
  q8b:=fun _=>rfl
  c0:=fun g0 g1=>r.c0 (e1 g0) (e1 g1)
  c1:=fun g0=>r.c1 (e1 g0)
  c2:=fun g0=>r.c2 (e1 g0)
  c3:=fun g0 g1=>r.c3 (e1 g0) (e1 g1)
  c4:=fun g0=>r.c4 (e1 g0)
  c5:=fun g0=>r.c5 (e1 g0)
  c6:=fun g0=>r.c6 (e1 g0)
  c7:=fun g0=>r.c7 (e1 g0)
  e2:=fun g0=>r.e2 (e1 g0)
  h61a:=fun g0=>r.h61a (e1 g0)
  h61b:=fun g0 g1=>r.h61b (e1 g0) (e1 g1)
  h61c:=fun g0=>r.h61c (e1 g0)
  o1:=fun g0=>e2 (r.o1 (e1 g0))
  o2:=fun g0=>e2 (r.o2 (e1 g0))
  o3:=fun g0=>e2 (r.o3 (e1 g0))
  o4:=fun g0=>e2 (r.o4 (e1 g0))
  o5:=fun _=>e2 k7
  o6:=fun g0=>e2 (r.o6 (e1 g0)) }
theorem drawSa {p:ProgL} {xs:List RunT} {N k:Nat} {out:List (List UInt8)} {sg:List UInt8} {m:Nat} (hm:m≤1000) (hv:m≤out.length) (hn:out.length≤1000) (hml:m=0∨m<out.length)
  (Q:AX→St→Prop) (S:St) (h:R13Sa p xs N k out sg m (fun _=>false) S) (hQ:∀ L S',(∀ i,i<9→L i=true)→R13Sa p xs N k out sg m L S'→Q .normal S'):m4 EE Tryz.f15.ntmps opsS13 Q S:=by
 refine⟨R13Sa p xs N k out sg m,h,?_,fun L S' hL hS=>hQ L S' hL hS,by kernel_rfl,trivial⟩
 intro n o ho L S hL hd hI
 match n,ho,hL with
 | 0,ho,hL =>
  obtain rfl:opsS13[0]'(by decide)=o:=Option.some.inj (show some (opsS13[0]'(by decide))=some o from ho)
  exact opSa_0 L S hI hL
 | 1,ho,hL =>
  obtain rfl:opsS13[1]'(by decide)=o:=Option.some.inj (show some (opsS13[1]'(by decide))=some o from ho)
  exact opSa_1 L S hI hL
 | 2,ho,hL =>
  obtain rfl:opsS13[2]'(by decide)=o:=Option.some.inj (show some (opsS13[2]'(by decide))=some o from ho)
  have k1:L 1=true:=hd _ (Array.getElem_mem (i:=0) (by decide)) rfl
  exact opSa_2 L S hI hL k1
 | 3,ho,hL =>
  obtain rfl:opsS13[3]'(by decide)=o:=Option.some.inj (show some (opsS13[3]'(by decide))=some o from ho)
  have k0:L 0=true:=hd _ (Array.getElem_mem (i:=0) (by decide)) rfl
  have k2:L 2=true:=hd _ (Array.getElem_mem (i:=1) (by decide)) rfl
  exact opSa_3 hm L S hI hL k0 k2
 | 4,ho,hL =>
  obtain rfl:opsS13[4]'(by decide)=o:=Option.some.inj (show some (opsS13[4]'(by decide))=some o from ho)
  exact opSa_4 L S hI hL
 | 5,ho,hL =>
  obtain rfl:opsS13[5]'(by decide)=o:=Option.some.inj (show some (opsS13[5]'(by decide))=some o from ho)
  exact opSa_5 L S hI hL
 | 6,ho,hL =>
  obtain rfl:opsS13[6]'(by decide)=o:=Option.some.inj (show some (opsS13[6]'(by decide))=some o from ho)
  have k4:L 4=true:=hd _ (Array.getElem_mem (i:=0) (by decide)) rfl
  have k5:L 5=true:=hd _ (Array.getElem_mem (i:=1) (by decide)) rfl
  exact opSa_6 hv hn hml L S hI hL k4 k5
 | 7,ho,hL =>
  obtain rfl:opsS13[7]'(by decide)=o:=Option.some.inj (show some (opsS13[7]'(by decide))=some o from ho)
  have k3:L 3=true:=hd _ (Array.getElem_mem (i:=0) (by decide)) rfl
  have k6:L 6=true:=hd _ (Array.getElem_mem (i:=1) (by decide)) rfl
  exact opSa_7 hv hn hml L S hI hL k3 k6
 | 8,ho,hL =>
  obtain rfl:opsS13[8]'(by decide)=o:=Option.some.inj (show some (opsS13[8]'(by decide))=some o from ho)
  have k7:L 7=true:=hd _ (Array.getElem_mem (i:=0) (by decide)) rfl
  exact opSa_8 L S hI hL k7
 |n+9,ho,hL =>
  have h1:n+9<opsS13.size:=(Array.getElem?_eq_some_iff.1 ho).1
  have h2:opsS13.size=9:=by decide
  omega
structure R13Sb (p:ProgL) (xs:List RunT) (N k:Nat) (out:List (List UInt8)) (sg:List UInt8) (m:Nat) (L:Nat→Bool) (S:St):Prop where
 u7:S.τ 7=bv true
 u24:S.τ 24=.ref (.n 903) 0 N
 u25:S.τ 25=i64 N
 u26:S.τ 26=i64 k
 u10:S.τ 10=sv sg
 u11:S.τ 11=i64 m
 h970:S.H (.n 970)=some (.ds 9 1 (out.map encStr))
 h903:S.H (.n 903)=some (.ds 9 1 (xs.map (rowSg p)))
 a12:L 0=false→S.τ 12=.ref (.n 61) 0 m
 q8a:L 8=false→S.τ 8=.ref (.n 970) 0 out.length
 q8b:L 8=true→S.τ 8=.ref (.n 61) 0 (out.length+1)
 c0:L 0=true→L 3=false→S.τ 61=.ref (.n 61) 0 m
 c1:L 1=true→S.τ 62=sv sg
 c2:L 2=true→S.τ 63=.ref (.n 63) 0 1
 c3:L 3=true→L 7=false→S.τ 64=.ref (.n 61) 0 (m+1)
 c4:L 4=true→S.τ 65=.ref (.n 970) 0 out.length
 c5:L 5=true→S.τ 66=i64 m
 c6:L 6=true→S.τ 67=sl []
 c7:L 7=true→S.τ 68=.ref (.n 61) 0 (out.length+1)
 e2:L 2=true→S.H (.n 63)=some (.ds 9 1 [[.str sg]])
 h61a:L 3=false→S.H (.n 61)=some (.ds 9 1 ((out.take m).map encStr))
 h61b:L 3=true→L 7=false→S.H (.n 61)=some (.ds 9 1 ((out.take m++[sg]).map encStr))
 h61c:L 7=true→S.H (.n 61)=some (.ds 9 1 ((out.take m++sg::out.drop m).map encStr))
 o1:L 3=true→L 0=true
 o2:L 3=true→L 2=true
 o3:L 7=true→L 3=true
 o4:L 7=true→L 6=true
 o5:L 8=true→L 7=true
 o6:L 6=true→L 4=true
theorem opSb_0 {p:ProgL} {xs:List RunT} {N k:Nat} {out:List (List UInt8)} {sg:List UInt8} {m:Nat} (L:Nat→Bool) (S:St) (r:R13Sb p xs N k out sg m L S) (hL:L 0=false):aDo EE Tryz.f15.ntmps opsS13 (opsS13[0]'(by decide)) S (R13Sb p xs N k out sg m (fun j=>L j || j==0)):=by
 have hat:At [(12,.ref (.n 61) 0 m)] [] [] S:=⟨⟨r.a12 hL,trivial⟩,trivial,trivial⟩
 obtain⟨τ,H,rfl⟩:=hat.form
 conv=>whnf
 exact {
  u7:=r.u7
  u24:=r.u24
  u25:=r.u25
  u26:=r.u26
  u10:=r.u10
  u11:=r.u11
  h970:=r.h970
  h903:=r.h903
  a12:=fun g0=>absurd g0 (by simp)
  q8a:=fun g0=>r.q8a (e1 g0)
  q8b:=fun g0=>r.q8b (e1 g0)
  c0:=fun _ _=>rfl
  c1:=fun g0=>r.c1 (e1 g0)
  c2:=fun g0=>r.c2 (e1 g0)
  c3:=fun g0 g1=>r.c3 (e1 g0) (e1 g1)
  c4:=fun g0=>r.c4 (e1 g0)
  c5:=fun g0=>r.c5 (e1 g0)
  c6:=fun g0=>r.c6 (e1 g0)
  c7:=fun g0=>r.c7 (e1 g0)
  e2:=fun g0=>r.e2 (e1 g0)
  h61a:=fun g0=>r.h61a (e1 g0)
  h61b:=fun g0 g1=>r.h61b (e1 g0) (e1 g1)
  h61c:=fun g0=>r.h61c (e1 g0)
  o1:=fun g0=>e2 (r.o1 (e1 g0))
  o2:=fun g0=>e2 (r.o2 (e1 g0))
  o3:=fun g0=>e2 (r.o3 (e1 g0))
  o4:=fun g0=>e2 (r.o4 (e1 g0))
  o5:=fun g0=>e2 (r.o5 (e1 g0))
  o6:=fun g0=>e2 (r.o6 (e1 g0)) }
theorem opSb_1 {p:ProgL} {xs:List RunT} {N k:Nat} {out:List (List UInt8)} {sg:List UInt8} {m:Nat} (L:Nat→Bool) (S:St) (r:R13Sb p xs N k out sg m L S) (hL:L 1=false):aDo EE Tryz.f15.ntmps opsS13 (opsS13[1]'(by decide)) S (R13Sb p xs N k out sg m (fun j=>L j || j==1)):=by
 have hat:At [(10,sv sg)] [] [] S:=⟨⟨r.u10,trivial⟩,trivial,trivial⟩
 obtain⟨τ,H,rfl⟩:=hat.form
 conv=>whnf
 exact {
  u7:=r.u7
  u24:=r.u24
  u25:=r.u25
  u26:=r.u26
  u10:=r.u10
  u11:=r.u11
  h970:=r.h970
  h903:=r.h903
  a12:=fun g0=>r.a12 (e1 g0)
  q8a:=fun g0=>r.q8a (e1 g0)
  q8b:=fun g0=>r.q8b (e1 g0)
  c0:=fun g0 g1=>r.c0 (e1 g0) (e1 g1)
  c1:=fun _=>rfl
  c2:=fun g0=>r.c2 (e1 g0)
  c3:=fun g0 g1=>r.c3 (e1 g0) (e1 g1)
  c4:=fun g0=>r.c4 (e1 g0)
  c5:=fun g0=>r.c5 (e1 g0)
  c6:=fun g0=>r.c6 (e1 g0)
  c7:=fun g0=>r.c7 (e1 g0)
  e2:=fun g0=>r.e2 (e1 g0)
  h61a:=fun g0=>r.h61a (e1 g0)
  h61b:=fun g0 g1=>r.h61b (e1 g0) (e1 g1)
  h61c:=fun g0=>r.h61c (e1 g0)
  o1:=fun g0=>e2 (r.o1 (e1 g0))
  o2:=fun g0=>e2 (r.o2 (e1 g0))
  o3:=fun g0=>e2 (r.o3 (e1 g0))
  o4:=fun g0=>e2 (r.o4 (e1 g0))
  o5:=fun g0=>e2 (r.o5 (e1 g0))
  o6:=fun g0=>e2 (r.o6 (e1 g0)) }
theorem opSb_2 {p:ProgL} {xs:List RunT} {N k:Nat} {out:List (List UInt8)} {sg:List UInt8} {m:Nat} (L:Nat→Bool) (S:St) (r:R13Sb p xs N k out sg m L S) (hL:L 2=false) (k1:L 1=true):aDo EE Tryz.f15.ntmps opsS13 (opsS13[2]'(by decide)) S (R13Sb p xs N k out sg m (fun j=>L j || j==2)):=by
 have hat:At [(62,sv sg)] [] [] S:=⟨⟨r.c1 k1,trivial⟩,trivial,trivial⟩
 obtain⟨τ,H,rfl⟩:=hat.form
 conv=>whnf
 exact {
  u7:=k3 (r.u7)
  u24:=k3 (r.u24)
  u25:=k3 (r.u25)
  u26:=k3 (r.u26)
  u10:=k3 (r.u10)
  u11:=k3 (r.u11)
  h970:=q3 (r.h970)
  h903:=q3 (r.h903)
  a12:=fun g0=>k3 (r.a12 (e1 g0))
  q8a:=fun g0=>k3 (r.q8a (e1 g0))
  q8b:=fun g0=>k3 (r.q8b (e1 g0))
  c0:=fun g0 g1=>k3 (r.c0 (e1 g0) (e1 g1))
  c1:=fun g0=>k3 (r.c1 (e1 g0))
  c2:=fun _=>rfl
  c3:=fun g0 g1=>k3 (r.c3 (e1 g0) (e1 g1))
  c4:=fun g0=>k3 (r.c4 (e1 g0))
  c5:=fun g0=>k3 (r.c5 (e1 g0))
  c6:=fun g0=>k3 (r.c6 (e1 g0))
  c7:=fun g0=>k3 (r.c7 (e1 g0))
  e2:=fun _=>rfl
  h61a:=fun g0=>q3 (r.h61a (e1 g0))
  h61b:=fun g0 g1=>q3 (r.h61b (e1 g0) (e1 g1))
  h61c:=fun g0=>q3 (r.h61c (e1 g0))
  o1:=fun g0=>e2 (r.o1 (e1 g0))
  o2:=fun g0=>e2 (r.o2 (e1 g0))
  o3:=fun g0=>e2 (r.o3 (e1 g0))
  o4:=fun g0=>e2 (r.o4 (e1 g0))
  o5:=fun g0=>e2 (r.o5 (e1 g0))
  o6:=fun g0=>e2 (r.o6 (e1 g0)) }
theorem opSb_3 {p:ProgL} {xs:List RunT} {N k:Nat} {out:List (List UInt8)} {sg:List UInt8} {m:Nat} (hm:m≤1000) (L:Nat→Bool) (S:St) (r:R13Sb p xs N k out sg m L S) (hL:L 3=false) (k0:L 0=true) (k2:L 2=true):aDo EE Tryz.f15.ntmps opsS13 (opsS13[3]'(by decide)) S (R13Sb p xs N k out sg m (fun j=>L j || j==3)):=by
 have hat:At [(61,.ref (.n 61) 0 m),(63,.ref (.n 63) 0 1)] [(.n 61,.ds 9 1 ((out.take m).map encStr)),(.n 63,.ds 9 1 [[.str sg]])] [] S:=⟨⟨r.c0 k0 hL,r.c2 k2,trivial⟩,⟨r.h61a hL,r.e2 k2,trivial⟩,trivial⟩
 obtain⟨τ,H,rfl⟩:=hat.form
 conv=>whnf
 refine⟨⟨rfl,by show(m+1)*_≤_;simp only[ti9];omega,by show m+1≤_;omega⟩,?_⟩
 conv=>whnf
 exact {
  u7:=k1 (r.u7)
  u24:=k1 (r.u24)
  u25:=k1 (r.u25)
  u26:=k1 (r.u26)
  u10:=k1 (r.u10)
  u11:=k1 (r.u11)
  h970:=q1 (r.h970)
  h903:=q1 (r.h903)
  a12:=fun g0=>absurd k0 (by rw[e1 g0];decide)
  q8a:=fun g0=>k1 (r.q8a (e1 g0))
  q8b:=fun g0=>absurd (r.o3 (r.o5 (e1 g0))) (by rw[hL];decide)
  c0:=fun g0 g1=>absurd g1 (by simp)
  c1:=fun g0=>k1 (r.c1 (e1 g0))
  c2:=fun g0=>k1 (r.c2 (e1 g0))
  c3:=fun _ _=>rfl
  c4:=fun g0=>k1 (r.c4 (e1 g0))
  c5:=fun g0=>k1 (r.c5 (e1 g0))
  c6:=fun g0=>k1 (r.c6 (e1 g0))
  c7:=fun g0=>absurd (r.o3 (e1 g0)) (by rw[hL];decide)
  e2:=fun g0=>q1 (r.e2 (e1 g0))
  h61a:=fun g0=>absurd g0 (by simp)
  h61b:=fun _ _=>by
   show some (Ob.ds 9 1 (((out.take m).map encStr).take m++[[.str sg]]))=_
   rw[List.take_of_length_le (by simp;omega)]
   simp[encStr]
  h61c:=fun g0=>absurd (r.o3 (e1 g0)) (by rw[hL];decide)
  o1:=fun _=>e2 k0
  o2:=fun _=>e2 k2
  o3:=fun g0=>e2 (r.o3 (e1 g0))
  o4:=fun g0=>e2 (r.o4 (e1 g0))
  o5:=fun g0=>e2 (r.o5 (e1 g0))
  o6:=fun g0=>e2 (r.o6 (e1 g0)) }
theorem opSb_4 {p:ProgL} {xs:List RunT} {N k:Nat} {out:List (List UInt8)} {sg:List UInt8} {m:Nat} (L:Nat→Bool) (S:St) (r:R13Sb p xs N k out sg m L S) (hL:L 4=false):aDo EE Tryz.f15.ntmps opsS13 (opsS13[4]'(by decide)) S (R13Sb p xs N k out sg m (fun j=>L j || j==4)):=by
 have n8:L 8=false:=by
  cases h:L 8 with
  |false=>rfl
  |true=>exact absurd (r.o6 (r.o4 (r.o5 h))) (by rw[hL];decide)
 have hat:At [(8,.ref (.n 970) 0 out.length)] [] [] S:=⟨⟨r.q8a n8,trivial⟩,trivial,trivial⟩
 obtain⟨τ,H,rfl⟩:=hat.form
 conv=>whnf
 exact {
  u7:=r.u7
  u24:=r.u24
  u25:=r.u25
  u26:=r.u26
  u10:=r.u10
  u11:=r.u11
  h970:=r.h970
  h903:=r.h903
  a12:=fun g0=>r.a12 (e1 g0)
  q8a:=fun g0=>r.q8a (e1 g0)
  q8b:=fun g0=>r.q8b (e1 g0)
  c0:=fun g0 g1=>r.c0 (e1 g0) (e1 g1)
  c1:=fun g0=>r.c1 (e1 g0)
  c2:=fun g0=>r.c2 (e1 g0)
  c3:=fun g0 g1=>r.c3 (e1 g0) (e1 g1)
  c4:=fun _=>rfl
  c5:=fun g0=>r.c5 (e1 g0)
  c6:=fun g0=>r.c6 (e1 g0)
  c7:=fun g0=>r.c7 (e1 g0)
  e2:=fun g0=>r.e2 (e1 g0)
  h61a:=fun g0=>r.h61a (e1 g0)
  h61b:=fun g0 g1=>r.h61b (e1 g0) (e1 g1)
  h61c:=fun g0=>r.h61c (e1 g0)
  o1:=fun g0=>e2 (r.o1 (e1 g0))
  o2:=fun g0=>e2 (r.o2 (e1 g0))
  o3:=fun g0=>e2 (r.o3 (e1 g0))
  o4:=fun g0=>e2 (r.o4 (e1 g0))
  o5:=fun g0=>e2 (r.o5 (e1 g0))
  o6:=fun g0=>e2 (r.o6 (e1 g0)) }
theorem opSb_5 {p:ProgL} {xs:List RunT} {N k:Nat} {out:List (List UInt8)} {sg:List UInt8} {m:Nat} (L:Nat→Bool) (S:St) (r:R13Sb p xs N k out sg m L S) (hL:L 5=false):aDo EE Tryz.f15.ntmps opsS13 (opsS13[5]'(by decide)) S (R13Sb p xs N k out sg m (fun j=>L j || j==5)):=by
 have hat:At [(11,i64 m)] [] [] S:=⟨⟨r.u11,trivial⟩,trivial,trivial⟩
 obtain⟨τ,H,rfl⟩:=hat.form
 conv=>whnf
 exact {
  u7:=r.u7
  u24:=r.u24
  u25:=r.u25
  u26:=r.u26
  u10:=r.u10
  u11:=r.u11
  h970:=r.h970
  h903:=r.h903
  a12:=fun g0=>r.a12 (e1 g0)
  q8a:=fun g0=>r.q8a (e1 g0)
  q8b:=fun g0=>r.q8b (e1 g0)
  c0:=fun g0 g1=>r.c0 (e1 g0) (e1 g1)
  c1:=fun g0=>r.c1 (e1 g0)
  c2:=fun g0=>r.c2 (e1 g0)
  c3:=fun g0 g1=>r.c3 (e1 g0) (e1 g1)
  c4:=fun g0=>r.c4 (e1 g0)
  c5:=fun _=>rfl
  c6:=fun g0=>r.c6 (e1 g0)
  c7:=fun g0=>r.c7 (e1 g0)
  e2:=fun g0=>r.e2 (e1 g0)
  h61a:=fun g0=>r.h61a (e1 g0)
  h61b:=fun g0 g1=>r.h61b (e1 g0) (e1 g1)
  h61c:=fun g0=>r.h61c (e1 g0)
  o1:=fun g0=>e2 (r.o1 (e1 g0))
  o2:=fun g0=>e2 (r.o2 (e1 g0))
  o3:=fun g0=>e2 (r.o3 (e1 g0))
  o4:=fun g0=>e2 (r.o4 (e1 g0))
  o5:=fun g0=>e2 (r.o5 (e1 g0))
  o6:=fun g0=>e2 (r.o6 (e1 g0)) }
theorem opSb_6 {p:ProgL} {xs:List RunT} {N k:Nat} {out:List (List UInt8)} {sg:List UInt8} {m:Nat} (hv:m≤out.length) (hn:out.length≤1000) (hml:¬ (m=0∨m<out.length)) (L:Nat→Bool) (S:St) (r:R13Sb p xs N k out sg m L S) (hL:L 6=false) (k4:L 4=true) (k5:L 5=true):aDo EE Tryz.f15.ntmps opsS13 (opsS13[6]'(by decide)) S (R13Sb p xs N k out sg m (fun j=>L j || j==6)):=by
 have hat:At [(65,.ref (.n 970) 0 out.length),(66,i64 m)] [(.n 970,.ds 9 1 (out.map encStr))] [] S:=⟨⟨r.c4 k4,r.c5 k5,trivial⟩,⟨r.h970,trivial⟩,trivial⟩
 obtain⟨τ,H,rfl⟩:=hat.form
 conv=>whnf
 refine .inr ⟨⟨by omega,by show(m:Int)=out.length;omega,by omega⟩,?_⟩
 conv=>whnf
 exact {
  u7:=r.u7
  u24:=r.u24
  u25:=r.u25
  u26:=r.u26
  u10:=r.u10
  u11:=r.u11
  h970:=r.h970
  h903:=r.h903
  a12:=fun g0=>r.a12 (e1 g0)
  q8a:=fun g0=>r.q8a (e1 g0)
  q8b:=fun g0=>r.q8b (e1 g0)
  c0:=fun g0 g1=>r.c0 (e1 g0) (e1 g1)
  c1:=fun g0=>r.c1 (e1 g0)
  c2:=fun g0=>r.c2 (e1 g0)
  c3:=fun g0 g1=>r.c3 (e1 g0) (e1 g1)
  c4:=fun g0=>r.c4 (e1 g0)
  c5:=fun g0=>r.c5 (e1 g0)
  c6:=fun _=>rfl
  c7:=fun g0=>r.c7 (e1 g0)
  e2:=fun g0=>r.e2 (e1 g0)
  h61a:=fun g0=>r.h61a (e1 g0)
  h61b:=fun g0 g1=>r.h61b (e1 g0) (e1 g1)
  h61c:=fun g0=>r.h61c (e1 g0)
  o1:=fun g0=>e2 (r.o1 (e1 g0))
  o2:=fun g0=>e2 (r.o2 (e1 g0))
  o3:=fun g0=>e2 (r.o3 (e1 g0))
  o4:=fun g0=>e2 (r.o4 (e1 g0))
  o5:=fun g0=>e2 (r.o5 (e1 g0))
  o6:=fun _=>e2 k4 }
theorem opSb_7 {p:ProgL} {xs:List RunT} {N k:Nat} {out:List (List UInt8)} {sg:List UInt8} {m:Nat} (hv:m≤out.length) (hn:out.length≤1000) (hml:¬ (m=0∨m<out.length)) (L:Nat→Bool) (S:St) (r:R13Sb p xs N k out sg m L S) (hL:L 7=false) (k3:L 3=true) (k6:L 6=true):aDo EE Tryz.f15.ntmps opsS13 (opsS13[7]'(by decide)) S (R13Sb p xs N k out sg m (fun j=>L j || j==7)):=by
 have hat:At [(64,.ref (.n 61) 0 (m+1)),(67,sl [])] [(.n 61,.ds 9 1 ((out.take m++[sg]).map encStr)),(.n 970,.ds 9 1 (out.map encStr))] [] S:=⟨⟨r.c3 k3 hL,r.c6 k6,trivial⟩,⟨r.h61b k3 hL,r.h970,trivial⟩,trivial⟩
 obtain⟨τ,H,rfl⟩:=hat.form
 conv=>whnf
 have hd:out.drop m=[]:=List.drop_of_length_le (by omega)
 refine⟨⟨rfl,by show(m+1+0)*_≤_;simp only[ti9];omega,by show m+1+0≤_;omega⟩,?_⟩
 conv=>whnf
 exact {
  u7:=k1 (r.u7)
  u24:=k1 (r.u24)
  u25:=k1 (r.u25)
  u26:=k1 (r.u26)
  u10:=k1 (r.u10)
  u11:=k1 (r.u11)
  h970:=q1 (r.h970)
  h903:=q1 (r.h903)
  a12:=fun g0=>absurd (r.o1 k3) (by rw[e1 g0];decide)
  q8a:=fun g0=>k1 (r.q8a (e1 g0))
  q8b:=fun g0=>absurd (r.o5 (e1 g0)) (by rw[hL];decide)
  c0:=fun _ g1=>absurd k3 (by rw[e1 g1];decide)
  c1:=fun g0=>k1 (r.c1 (e1 g0))
  c2:=fun g0=>k1 (r.c2 (e1 g0))
  c3:=fun g0 g1=>absurd g1 (by simp)
  c4:=fun g0=>k1 (r.c4 (e1 g0))
  c5:=fun g0=>k1 (r.c5 (e1 g0))
  c6:=fun g0=>k1 (r.c6 (e1 g0))
  c7:=fun _=>by
   show AV.ref (.n 61) 0 (m+1+0)=_
   rw[show m+1+0=out.length+1 by omega]
  e2:=fun g0=>q1 (r.e2 (e1 g0))
  h61a:=fun g0=>absurd k3 (by rw[e1 g0];decide)
  h61b:=fun g0 g1=>absurd g1 (by simp)
  h61c:=fun _=>by
   show some (Ob.ds 9 1 (((out.take m++[sg]).map encStr).take (m+1)++[]))=_
   rw[List.take_of_length_le (by simp;omega),hd]
   simp[encStr]
  o1:=fun g0=>e2 (r.o1 (e1 g0))
  o2:=fun g0=>e2 (r.o2 (e1 g0))
  o3:=fun _=>e2 k3
  o4:=fun _=>e2 k6
  o5:=fun g0=>e2 (r.o5 (e1 g0))
  o6:=fun g0=>e2 (r.o6 (e1 g0)) }
theorem opSb_8 {p:ProgL} {xs:List RunT} {N k:Nat} {out:List (List UInt8)} {sg:List UInt8} {m:Nat} (L:Nat→Bool) (S:St) (r:R13Sb p xs N k out sg m L S) (hL:L 8=false) (k7:L 7=true):aDo EE Tryz.f15.ntmps opsS13 (opsS13[8]'(by decide)) S (R13Sb p xs N k out sg m (fun j=>L j || j==8)):=by
 have hat:At [(68,.ref (.n 61) 0 (out.length+1))] [] [] S:=⟨⟨r.c7 k7,trivial⟩,trivial,trivial⟩
 obtain⟨τ,H,rfl⟩:=hat.form
 conv=>whnf
 exact {
  u7:=r.u7
  u24:=r.u24
  u25:=r.u25
  u26:=r.u26
  u10:=r.u10
  u11:=r.u11
  h970:=r.h970
  h903:=r.h903
  a12:=fun g0=>r.a12 (e1 g0)
  q8a:=fun g0=>absurd g0 (by simp)
  q8b:=fun _=>rfl
  c0:=fun g0 g1=>r.c0 (e1 g0) (e1 g1)
  c1:=fun g0=>r.c1 (e1 g0)
  c2:=fun g0=>r.c2 (e1 g0)
  c3:=fun g0 g1=>r.c3 (e1 g0) (e1 g1)
  c4:=fun g0=>r.c4 (e1 g0)
  c5:=fun g0=>r.c5 (e1 g0)
  c6:=fun g0=>r.c6 (e1 g0)
  c7:=fun g0=>r.c7 (e1 g0)
  e2:=fun g0=>r.e2 (e1 g0)
  h61a:=fun g0=>r.h61a (e1 g0)
  h61b:=fun g0 g1=>r.h61b (e1 g0) (e1 g1)
  h61c:=fun g0=>r.h61c (e1 g0)
  o1:=fun g0=>e2 (r.o1 (e1 g0))
  o2:=fun g0=>e2 (r.o2 (e1 g0))
  o3:=fun g0=>e2 (r.o3 (e1 g0))
  o4:=fun g0=>e2 (r.o4 (e1 g0))
  o5:=fun _=>e2 k7
  o6:=fun g0=>e2 (r.o6 (e1 g0)) }
theorem drawSb {p:ProgL} {xs:List RunT} {N k:Nat} {out:List (List UInt8)} {sg:List UInt8} {m:Nat} (hm:m≤1000) (hv:m≤out.length) (hn:out.length≤1000) (hml:¬ (m=0∨m<out.length))
  (Q:AX→St→Prop) (S:St) (h:R13Sb p xs N k out sg m (fun _=>false) S) (hQ:∀ L S',(∀ i,i<9→L i=true)→R13Sb p xs N k out sg m L S'→Q .normal S'):m4 EE Tryz.f15.ntmps opsS13 Q S:=by
 refine⟨R13Sb p xs N k out sg m,h,?_,fun L S' hL hS=>hQ L S' hL hS,by kernel_rfl,trivial⟩
 intro n o ho L S hL hd hI
 match n,ho,hL with
 | 0,ho,hL =>
  obtain rfl:opsS13[0]'(by decide)=o:=Option.some.inj (show some (opsS13[0]'(by decide))=some o from ho)
  exact opSb_0 L S hI hL
 | 1,ho,hL =>
  obtain rfl:opsS13[1]'(by decide)=o:=Option.some.inj (show some (opsS13[1]'(by decide))=some o from ho)
  exact opSb_1 L S hI hL
 | 2,ho,hL =>
  obtain rfl:opsS13[2]'(by decide)=o:=Option.some.inj (show some (opsS13[2]'(by decide))=some o from ho)
  have k1:L 1=true:=hd _ (Array.getElem_mem (i:=0) (by decide)) rfl
  exact opSb_2 L S hI hL k1
 | 3,ho,hL =>
  obtain rfl:opsS13[3]'(by decide)=o:=Option.some.inj (show some (opsS13[3]'(by decide))=some o from ho)
  have k0:L 0=true:=hd _ (Array.getElem_mem (i:=0) (by decide)) rfl
  have k2:L 2=true:=hd _ (Array.getElem_mem (i:=1) (by decide)) rfl
  exact opSb_3 hm L S hI hL k0 k2
 | 4,ho,hL =>
  obtain rfl:opsS13[4]'(by decide)=o:=Option.some.inj (show some (opsS13[4]'(by decide))=some o from ho)
  exact opSb_4 L S hI hL
 | 5,ho,hL =>
  obtain rfl:opsS13[5]'(by decide)=o:=Option.some.inj (show some (opsS13[5]'(by decide))=some o from ho)
  exact opSb_5 L S hI hL
 | 6,ho,hL =>
  obtain rfl:opsS13[6]'(by decide)=o:=Option.some.inj (show some (opsS13[6]'(by decide))=some o from ho)
  have k4:L 4=true:=hd _ (Array.getElem_mem (i:=0) (by decide)) rfl
  have k5:L 5=true:=hd _ (Array.getElem_mem (i:=1) (by decide)) rfl
  exact opSb_6 hv hn hml L S hI hL k4 k5
 | 7,ho,hL =>
  obtain rfl:opsS13[7]'(by decide)=o:=Option.some.inj (show some (opsS13[7]'(by decide))=some o from ho)
  have k3:L 3=true:=hd _ (Array.getElem_mem (i:=0) (by decide)) rfl
  have k6:L 6=true:=hd _ (Array.getElem_mem (i:=1) (by decide)) rfl
  exact opSb_7 hv hn hml L S hI hL k3 k6
 | 8,ho,hL =>
  obtain rfl:opsS13[8]'(by decide)=o:=Option.some.inj (show some (opsS13[8]'(by decide))=some o from ho)
  have k7:L 7=true:=hd _ (Array.getElem_mem (i:=0) (by decide)) rfl
  exact opSb_8 L S hI hL k7
 |n+9,ho,hL =>
  have h1:n+9<opsS13.size:=(Array.getElem?_eq_some_iff.1 ho).1
  have h2:opsS13.size=9:=by decide
  omega
end Ai
namespace Ai
set_option maxRecDepth 100000
open Go Go.Proofs Go.Sort Cyc
theorem tw_take {α:Type} {f:α→Bool}:∀ {l:List α} {m:Nat},(∀ i (h:i<l.length),i<m→f l[i]=true)→m≤l.length→(∀ h:m<l.length,f l[m]=false)→l.takeWhile f=l.take m∧l.dropWhile f=l.drop m
 | [],m,h1,h2,h3=>by simp
 |x::xs,0,h1,h2,h3=>by
  have:=h3 (by simp)
  have:f x=false:=this
  simp[List.takeWhile_cons,List.dropWhile_cons,this]
 |x::xs,m+1,h1,h2,h3=>by
  have h0:f x=true:=h1 0 (by simp) (by omega)
  have ih:=tw_take (l:=xs) (m:=m) (fun i h hi=>h1 (i+1) (by simp;omega) (by omega)) (by simpa using h2) (fun h=>h3 (by simp;omega))
  simp[List.takeWhile_cons,List.dropWhile_cons,h0,ih.1,ih.2]
theorem insL_at {l:List (List UInt8)} {s:List UInt8} {m:Nat} (h1:∀ i (h:i<l.length),i<m→l[i]<s) (h2:m≤l.length) (h3:∀ h:m<l.length,¬ l[m]<s) :
  gN ltStr l s=if l[m]?=some s then l else l.take m++s::l.drop m:=by
 obtain⟨e1,e2⟩:=tw_take (f:=fun y=>ltStr y s) (l:=l) (m:=m) (fun i h hi=>by simp[ltStr,h1 i h hi]) h2 (fun h=>by simp[ltStr,h3 h])
 unfold gN
 rw[e1,e2,List.head?_drop]
open Classical in
/-- what SignsOf finds -/
noncomputable def xS (p:ProgL) (b:Int):List (List UInt8) × Bool:=if OkA p b then (wJ ((kV p b).1.map (xX p)),true) else ([],false)
def soL (N k:Nat) (out:List (List UInt8)):List (Nat × AV):=[(7,bv true),(8,.ref (.n 970) 0 out.length),(24,.ref (.n 903) 0 N),(25,i64 N),(26,i64 k)]
def soM (N k:Nat) (out:List (List UInt8)) (s:List UInt8) (m:Nat):List (Nat × AV):=[(7,bv true),(8,.ref (.n 970) 0 out.length),(24,.ref (.n 903) 0 N),(25,i64 N),(26,i64 k),(10,sv s),(11,i64 m)]
noncomputable def soO (p:ProgL) (xs:List RunT) (out:List (List UInt8)):List (Key × Ob):=[(.n 903,.ds 9 1 (xs.map (rowSg p))),(.n 970,.ds 9 1 (out.map encStr))]
def SoIn (out:List (List UInt8)) (sg:List UInt8) (m:Nat) (c:Bool):Prop:=m≤out.length∧(c=true→gN ltStr out sg=out.take m++sg::out.drop m)∧(c=false→gN ltStr out sg=out)
def soN (N k:Nat) (out:List (List UInt8)) (s:List UInt8) (m:Nat) (c:Bool):List (Nat × AV):=[(7,bv true),(8,.ref (.n 970) 0 out.length),(24,.ref (.n 903) 0 N),(25,i64 N),(26,i64 k),(10,sv s),(11,i64 m),(55,bv c)]
def soP (N k:Nat) (out:List (List UInt8)) (s:List UInt8) (m:Nat):List (Nat × AV):=[(7,bv true),(8,.ref (.n 970) 0 out.length),(24,.ref (.n 903) 0 N),(25,i64 N),(26,i64 k),(10,sv s),(11,i64 m),(12,.ref (.n 61) 0 m)]
noncomputable def soO2 (p:ProgL) (xs:List RunT) (out:List (List UInt8)) (m:Nat):List (Key × Ob):=[(.n 903,.ds 9 1 (xs.map (rowSg p))),(.n 970,.ds 9 1 (out.map encStr)),(.n 61,.ds 9 1 ((out.take m).map encStr))]
noncomputable def SoOut (p:ProgL) (xs:List RunT) (k:Nat) (S:St):Prop:=∃ S' out',Weak EE Tryz.f15.ntmps S S'∧out'.length≤k+1∧out'=((xs.map (xX p)).take (k+1)).foldl (gN ltStr) []∧At (soL xs.length k out') (soO p xs out') [] S'
theorem SignsOfS_ok (p:ProgL) (hp:p.wf) (hs:p.rs.length≤1048576∧∀ x∈p.rs,x.length≤1048576) (hv:p.flt) (b:Int) :
  CallsTo EE 15 [agg (encProg p),i64 b] (·=.tup [sl ((xS p b).1.map encStr),bv (xS p b).2]):=by
 classical
 unfold xS
 have hle:=aG p b
 refine bV (fn:=Tryz.f15) (c:=Tryz.f15.body.getD .skip) Tryz.func15 rfl (by kernel_rfl) rfl ?_
 refine lX 4 (fun S=>OkA p b∧At [(6,.ptr (.n 905) 0),(7,bv true),(8,.d .nil)] [(.n 905,.vs 81 (wkC p b false (kV p b).1.length false)),(.n 903,.ds 9 1 ((kV p b).1.map (rowSg p)))] [] S) (fun K hK=>?_) (fun S hS=>?_)
 ·conv=>whnf
  refine⟨_,42,[],Weak.refl,rfl,999,99,rO,_,l10All_at p hp hs hv b false rfl rfl rfl rfl,rfl,?_⟩
  rintro q H1 (⟨hok,rfl,rfl⟩|⟨hn,rfl,rfl⟩)
  rotate_left 1
  ·refine⟨fun _ _=>rfl,fun n hn=>?_,?_⟩
   ·cases hn
   rw[if_neg fun e=>hn e.1]
   conv=>whnf
   refine .inl ?_
   conv=>whnf
   try rfl
  rw[allX_eq]
  refine⟨m7,fun n hn=>?_,?_⟩
  ·cases hn
  have hA:OkA p b↔(kV p b).2=true:=⟨fun e=>e.2,fun e=>⟨hok,e⟩⟩
  generalize kV p b=X at *
  obtain⟨xs,okk⟩:=X
  cases okk with
  |false =>
   rw[if_neg fun e=>absurd (hA.1 e) (by simp)]
   conv=>whnf
   refine .inl ?_
   conv=>whnf
   try rfl
  |true =>
   conv=>whnf
   refine hK _ _ Weak.refl ⟨hA.2 rfl,⟨rfl,rfl,rfl,trivial⟩,⟨rfl,rfl,trivial⟩,trivial⟩
 obtain⟨hA,hat⟩:=hS
 rw[if_pos hA]
 clear hA
 generalize (kV p b).1=xs at *
 refine p9 (K:=fun S=>At [(7,bv true),(8,.ref (.n 970) 0 (wJ (xs.map (xX p))).length)] [(.n 970,.ds 9 1 ((wJ (xs.map (xX p))).map encStr))] [] S) ?_ (fun S hS=>qC ?_)
 rotate_left 1
 ·obtain⟨τ,H,rfl⟩:=hS.form
  conv=>whnf
  refine .inl ?_
  conv=>whnf
  show AV.tup [sl ((((wJ (xs.map (xX p))).map encStr).drop 0).take (wJ (xs.map (xX p))).length),bv true]=_
  rw[List.drop_zero,List.take_of_length_le (by simp)]
 refine y1 (K:=fun S=>At [(7,bv true),(8,.d .nil),(24,.ref (.n 903) 0 xs.length),(25,i64 xs.length),(26,i64 0)] [(.n 903,.ds 9 1 (xs.map (rowSg p)))] [] S) ?_ (fun S hS=>eW ?_)
 ·obtain⟨τ,H,rfl⟩:=hat.form
  conv=>whnf
  exact⟨⟨rfl,rfl,rfl,rfl,rfl,trivial⟩,⟨rfl,trivial⟩,trivial⟩
 obtain⟨τ,H,rfl⟩:=hS.form
 clear hS hat
 refine snd_loopF (fun x:Nat × List (List UInt8)=>soL xs.length x.1 x.2) (fun x=>soO p xs x.2) (fun _=>[]) (fun x=>xs.length - x.1)
   (fun x=>x.1≤xs.length∧x.2.length≤x.1∧x.2=((xs.map (xX p)).take x.1).foldl (gN ltStr) []) (0,[]) (weak_nil 8 (.n 970) 9 1 rfl) ⟨rfl,rfl,rfl,rfl,rfl,trivial⟩ ⟨rfl,rfl,trivial⟩ trivial ⟨Nat.zero_le _,Nat.zero_le _,rfl⟩ ?_
 rintro⟨k,out⟩ τ H ⟨hk,hol,hout⟩
 have hk:k≤xs.length:=hk
 have hol:out.length≤k:=hol
 have hout:out=((xs.map (xX p)).take k).foldl (gN ltStr) []:=hout
 refine lX 2 (fun S=>k<xs.length∧At (soL xs.length k out) (soO p xs out) [] S) (fun K hK=>?_) (fun S hS=>?_)
 ·conv=>whnf
  refine kbi (fun h=>?_) (fun h=>?_)
  ·have hlt:k<xs.length:=by simpa using h
   conv=>whnf
   exact hK _ _ Weak.refl ⟨hlt,⟨rfl,rfl,rfl,rfl,rfl,trivial⟩,⟨rfl,rfl,trivial⟩,trivial⟩
  ·have hkk:k=xs.length:=by
    have:¬ k<xs.length:=by simpa using h
    omega
   subst hkk
   have e:out=wJ (xs.map (xX p)):=by rw[hout,List.take_of_length_le (by simp),fold_riseT]
   conv=>whnf
   rw[← e]
   exact⟨⟨rfl,rfl,trivial⟩,⟨rfl,trivial⟩,trivial⟩
 obtain⟨hlt,hat⟩:=hS
 refine p9 (K:=SoOut p xs k) (eW ?_) (fun S hS=>?_)
 rotate_left 1
 ·obtain⟨S',out',hw,h1,h2,hat⟩:=hS
  refine tI hw (qC ?_)
  obtain⟨τ,H,rfl⟩:=hat.form
  conv=>whnf
  exact⟨(k+1,out'),_,Weak.refl,⟨hlt,h1,h2⟩,by show xs.length - (k+1)<xs.length - k;omega,⟨rfl,rfl,rfl,rfl,next_i64 hlt (by omega),trivial⟩,⟨rfl,rfl,trivial⟩,trivial⟩
 have hnx:((xs.map (xX p)).take (k+1)).foldl (gN ltStr) []=gN ltStr out (xX p xs[k]):=by
  rw[List.take_succ_eq_append_getElem (by simpa using hlt),List.foldl_append,← hout];simp
 have hg:(xs.map (rowSg p))[k]?=some [.str (xX p xs[k])]:=by simp[hlt,rowSg]
 refine lX 4 (fun S=>∃ m c,SoIn out (xX p xs[k]) m c∧At (soN xs.length k out (xX p xs[k]) m c) (soO p xs out) [] S) (fun K hK=>?_) (fun S hS=>?_)
 ·obtain⟨τ,H,rfl⟩:=hat.form
  clear hat
  conv=>whnf
  refine⟨⟨by show 0≤(k:Int);omega,by show(k:Int)<_;omega⟩,?_⟩
  conv=>whnf
  refine⟨[.str (xX p xs[k])],⟨by rw[Nat.zero_add];exact hg,Nat.le_refl 1⟩,?_⟩
  generalize xX p xs[k]=sg at *
  conv=>whnf
  refine aloopF (fun m:Nat=>soM xs.length k out sg m) (fun m=>soO p xs out) (fun _=>[]) (fun m=>out.length - m)
   (fun m=>m≤out.length∧∀ i (h:i<out.length),i<m→out[i]<sg) 0 Weak.refl ⟨rfl,rfl,rfl,rfl,rfl,rfl,rfl,trivial⟩ ⟨rfl,rfl,trivial⟩ trivial ⟨Nat.zero_le _,fun i h hi=>by omega⟩ ?_
  intro m τ H ⟨hm,hms⟩
  have hm:m≤out.length:=hm
  conv=>whnf
  refine kbi (fun h=>?_) (fun h=>?_)
  ·have hml:m<out.length:=by simpa using h
   have hgm:(out.map encStr)[m]?=some [.str out[m]]:=by simp[hml,encStr]
   conv=>whnf
   refine⟨⟨by show 0≤(m:Int);omega,by show(m:Int)<_;omega⟩,?_⟩
   conv=>whnf
   refine⟨[.str out[m]],⟨by rw[Nat.zero_add];exact hgm,Nat.le_refl 1⟩,?_⟩
   conv=>whnf
   refine kbi (fun h2=>?_) (fun h2=>?_)
   ·have h2:out[m]<sg:=by have h2:Op.bytesLess out[m] sg=true:=h2;rw[bytesLess_eq] at h2;simpa using h2
    conv=>whnf
    refine⟨m+1,_,Weak.refl,⟨hml,fun i h hi=>?_⟩,by show out.length - (m+1)<out.length - m;omega,⟨rfl,rfl,rfl,rfl,rfl,rfl,next_i64 hml (by omega),trivial⟩,⟨rfl,rfl,trivial⟩,trivial⟩
    rcases Nat.lt_or_ge i m with h3|h3
    ·exact hms i h h3
    ·have:i=m:=by omega
     subst this;exact h2
   ·have h2:¬ out[m]<sg:=by have h2:¬ Op.bytesLess out[m] sg=true:=h2;rw[bytesLess_eq] at h2;simpa using h2
    have hins:=insL_at hms hm (fun _=>h2)
    conv=>whnf
    refine kbi (fun h=>absurd h (by simp;omega)) (fun _=>?_)
    conv=>whnf
    refine⟨⟨by show 0≤(m:Int);omega,by show(m:Int)<_;omega⟩,?_⟩
    conv=>whnf
    refine⟨[.str out[m]],⟨by rw[Nat.zero_add];exact hgm,Nat.le_refl 1⟩,?_⟩
    conv=>whnf
    refine kbi (fun h3=>?_) (fun h3=>?_)
    ·have h3:out[m]≠sg:=by simpa using h3
     have hq:gN ltStr out sg=out.take m++sg::out.drop m:=by rw[hins,if_neg (by rw[List.getElem?_eq_getElem hml];simpa using h3)]
     conv=>whnf
     exact hK _ _ Weak.refl ⟨m,true,⟨hm,fun _=>hq,fun e=>by cases e⟩,⟨rfl,rfl,rfl,rfl,rfl,rfl,rfl,rfl,trivial⟩,⟨rfl,rfl,trivial⟩,trivial⟩
    ·have h3:out[m]=sg:=by simpa using h3
     have hq:gN ltStr out sg=out:=by rw[hins,if_pos (by rw[List.getElem?_eq_getElem hml,h3])]
     conv=>whnf
     exact hK _ _ Weak.refl ⟨m,false,⟨hm,(fun e=>by cases e),fun _=>hq⟩,⟨rfl,rfl,rfl,rfl,rfl,rfl,rfl,rfl,trivial⟩,⟨rfl,rfl,trivial⟩,trivial⟩
  ·have hml:m=out.length:=by
    have:¬ m<out.length:=by simpa using h
    omega
   have hins:=insL_at hms hm (fun h=>by omega)
   conv=>whnf
   refine kbi (fun h=>?_) (fun h=>absurd h (by simp;omega))
   have hq:gN ltStr out sg=out.take m++sg::out.drop m:=by rw[hins,if_neg (by rw[List.getElem?_eq_none (by omega)];simp)]
   conv=>whnf
   exact hK _ _ Weak.refl ⟨m,true,⟨hm,fun _=>hq,fun e=>by cases e⟩,⟨rfl,rfl,rfl,rfl,rfl,rfl,rfl,rfl,trivial⟩,⟨rfl,rfl,trivial⟩,trivial⟩
 obtain⟨m,c,⟨hm,hc1,hc2⟩,hat⟩:=hS
 rw[← hnx] at hc1 hc2
 generalize xX p xs[k]=sg at *
 obtain⟨τ,H,rfl⟩:=hat.form
 clear hat
 refine snd_if (b:=c) rfl (fun hc=>?_) (fun hc=>qC ?_)
 rotate_left 1
 ·conv=>whnf
  exact⟨_,out,Weak.refl,by omega,(hc2 hc).symm,⟨rfl,rfl,rfl,rfl,rfl,trivial⟩,⟨rfl,rfl,trivial⟩,trivial⟩
 have hTl:(out.take m).length=m:=by simp;omega
 refine y1 (K:=fun S=>∃ S',Weak EE Tryz.f15.ntmps S S'∧At (soP xs.length k out sg m) (soO2 p xs out m) [] S') ?_ (fun S hS=>?_)
 ·conv=>whnf
  refine .inl ⟨⟨by omega,by omega,by show(m:Int)≤out.length;omega,.inl rfl⟩,?_⟩
  conv=>whnf
  have hT:List.take ((m:Int).toNat - Int.toNat 0) (List.drop (0+Int.toNat 0) (List.map encStr out))=(out.take m).map encStr:=by simp[List.map_take]
  rw[hT]
  refine⟨⟨by rw[List.all_eq_true];intro c hc;obtain⟨y,_,rfl⟩:=List.mem_map.1 hc;rfl,by simp only[ti9,List.length_map,hTl];omega,by simp only[List.length_map,hTl];omega⟩,?_⟩
  conv=>whnf
  refine⟨_,wL 56 61,⟨rfl,rfl,rfl,rfl,rfl,rfl,rfl,?_,trivial⟩,⟨rfl,rfl,?_,trivial⟩,trivial⟩
  ·show AV.ref (.n 61) 0 (0+((out.take m).map encStr).length)=_
   rw[List.length_map,hTl,Nat.zero_add]
  ·rfl
 obtain⟨S',hw,hat⟩:=hS
 refine tI hw (qC ?_)
 have hc1:=hc1 hc
 have fin:∀ S2,At [(7,bv true),(8,.ref (.n 61) 0 (out.length+1)),(24,.ref (.n 903) 0 xs.length),(25,i64 xs.length),(26,i64 k)] [(.n 903,.ds 9 1 (xs.map (rowSg p))),(.n 61,.ds 9 1 ((out.take m++sg::out.drop m).map encStr))] [] S2→SoOut p xs k S2:=by
  intro S2 hS2
  obtain⟨τ,H,rfl⟩:=hS2.form
  refine⟨_,out.take m++sg::out.drop m,wL 61 970,by simp;omega,hc1.symm,⟨rfl,?_,rfl,rfl,rfl,trivial⟩,⟨rfl,rfl,trivial⟩,trivial⟩
  show AV.ref (.n 970) 0 (out.length+1)=AV.ref (.n 970) 0 (out.take m++sg::out.drop m).length
  rw[show(out.take m++sg::out.drop m).length=out.length+1 by simp;omega]
 obtain⟨⟨t7,t8,t24,t25,t26,t10,t11,t12,_⟩,⟨g1,g2,g3,_⟩,_⟩:=hat
 by_cases hml:m=0∨m<out.length
 ·refine .inr (.inr (.inl (drawSa (N:=xs.length) (by omega) hm (by omega) hml _ S' ⟨t7,t24,t25,t26,t10,t11,g2,g1,fun _=>t12,fun _=>t8,?_,?_,?_,?_,?_,?_,?_,?_,?_,?_,fun _=>g3,?_,?_,?_,?_,?_,?_,?_,?_⟩ fun L S2 hL r=>?_)))
  all_goals first|(intro h;cases h)|(intro h1 h2;cases h1)|skip
  exact fin S2 ⟨⟨r.u7,r.q8b (hL 8 (by omega)),r.u24,r.u25,r.u26,trivial⟩,⟨r.h903,r.h61c (hL 7 (by omega)),trivial⟩,trivial⟩
 ·refine .inr (.inr (.inl (drawSb (N:=xs.length) (by omega) hm (by omega) hml _ S' ⟨t7,t24,t25,t26,t10,t11,g2,g1,fun _=>t12,fun _=>t8,?_,?_,?_,?_,?_,?_,?_,?_,?_,?_,fun _=>g3,?_,?_,?_,?_,?_,?_,?_,?_⟩ fun L S2 hL r=>?_)))
  all_goals first|(intro h;cases h)|(intro h1 h2;cases h1)|skip
  exact fin S2 ⟨⟨r.u7,r.q8b (hL 8 (by omega)),r.u24,r.u25,r.u26,trivial⟩,⟨r.h903,r.h61c (hL 7 (by omega)),trivial⟩,trivial⟩
end Ai
namespace Ai
set_option maxRecDepth 100000
open Go Go.Proofs Go.Sort Cyc
theorem dB (p:ProgL) (hp:p.wf) (hs:p.rs.length≤1048576∧∀ x∈p.rs,x.length≤1048576) (hv:p.flt) (b:Int) :
  CallsTo EE 16 [agg (encProg p),i64 b] (fun r=>(OkA p b∧r=.ownF 1 [.uq 9 1 ((xS p b).1.map encStr),bv true])∨(¬ OkA p b∧r=.tup [sl [],bv false])):=by
 classical
 have hle:=aG p b
 refine callsTo_of_AW (fn:=Tryz.f16) Tryz.func16 rfl (by kernel_rfl) rfl ?_
 conv=>whnf
 refine⟨_,allI_ok p hp hs hv b,?_⟩
 rintro r (⟨hok,rfl⟩|⟨hn,rfl⟩)
 rotate_left 1
 ·conv=>whnf
  refine .inl ?_
  conv=>whnf
  exact .inr ⟨fun e=>hn e.1,rfl⟩
 have hA:OkA p b↔(kV p b).2=true:=⟨fun e=>e.2,fun e=>⟨hok,e⟩⟩
 have hend:=allR_end hok.1 hv hok.2.1
 have hsv:OkA p b→(xS p b).1=wJ ((kV p b).1.map (xX p)):=fun h=>by unfold xS;rw[if_pos h]
 generalize xS p b=V at *
 generalize kV p b=X at *
 obtain⟨xs,okk⟩:=X
 have hle:xs.length≤401:=hle
 cases okk with
 |false =>
  conv=>whnf
  refine .inl ?_
  conv=>whnf
  exact .inr ⟨fun e=>absurd (hA.1 e) (by simp),rfl⟩
 |true =>
  have hOk:=hA.2 rfl
  have hsv:=hsv hOk
  clear hA
  conv=>whnf
  refine aloopF (fun k:Nat=>[(2,.ptr (.n 2) 0),(8,.ref (.n 19) 0 k),(20,sl (xs.map kN)),(21,i64 xs.length),(22,i64 k)]) (fun k=>[(.n 2,.vs 39 ((encProg p).map .d)),(.n 19,.ds 9 1 (((xs.map (xX p)).take k).map encStr))]) (fun _=>[]) (fun k=>xs.length - k)
   (fun k=>k≤xs.length) 0 Weak.refl ⟨rfl,rfl,rfl,?_,rfl,trivial⟩ ⟨rfl,rfl,trivial⟩ trivial (Nat.zero_le _) ?_
  ·show i64 (xs.map kN).length=_
   rw[List.length_map]
  intro k τ H hk
  have hk:k≤xs.length:=hk
  conv=>whnf
  refine kbi (fun h=>?_) (fun h=>?_)
  ·have hlt:k<xs.length:=by simpa using h
   have hx:=hend xs[k] (List.getElem_mem hlt)
   have hb:=hok.2
   have hsg:=signOf_ok p hp hok.1 b xs[k] hx.fin (by have:=hb.2;omega)
   conv=>whnf
   refine⟨kN xs[k],⟨by omega,by rw[Int.toNat_natCast];simp[hlt],rfl⟩,?_⟩
   conv=>whnf
   refine⟨_,hsg,?_⟩
   rintro r rfl
   conv=>whnf
   refine⟨⟨rfl,by show(k+1)*_≤_;simp only[ti9];omega,by show k+1≤_;omega⟩,?_⟩
   conv=>whnf
   refine⟨k+1,_,Weak.refl,hlt,by show xs.length - (k+1)<xs.length - k;omega,⟨rfl,rfl,rfl,rfl,next_i64 hlt (by omega),trivial⟩,⟨rfl,?_,trivial⟩,trivial⟩
   show some (Ob.ds 9 1 ((((xs.map (xX p)).take k).map encStr).take k++[[.str (xX p xs[k])]]))=_
   rw[List.take_of_length_le (by simp;omega),List.take_succ_eq_append_getElem (show k<(xs.map (xX p)).length by simpa using hlt)]
   simp[encStr]
  ·have hkk:k=xs.length:=by
    have:¬ k<xs.length:=by simpa using h
    omega
   subst hkk
   conv=>whnf
   rw[List.take_of_length_le (show(xs.map (xX p)).length≤xs.length by simp)]
   have hl2:xs.length=(xs.map (xX p)).length:=by simp
   generalize xs.map (xX p)=ts at *
   have hrl:=mD ts
   refine .inr (.inr (.inr (.inl ⟨_,44,[],wL 19 77,rfl,999,99,isK (.n 77),_,io_congr (textsIO_ok ts xs.length hl2 (by omega) _ rfl) rfl,rfl,?_⟩)))
   rintro r H1 ⟨rfl,rfl⟩
   refine⟨fun κ hκ=>by
    show(bif Key.beq κ (.n 77) then _ else yJ _ _ κ)=none
    have hκ:Key.beq κ (.n 77)=false:=hκ
    rw[hκ];exact fC hκ,fun n hn=>(by cases hn),?_⟩
   conv=>whnf
   have hrt:((yM ts).map encStr).take (wJ ts).length=(wJ ts).map encStr:=by
    unfold yM
    rw[List.map_append,List.take_left' (by simp)]
   refine .inr ⟨1,[.uq 9 1 ((wJ ts).map encStr),bv true],_,[.ref (.n 900) 0 (wJ ts).length,bv true],(m9 (.n 77) (wJ ts).length (e:=9) (sz:=1) (els:=(yM ts).map encStr) rfl).trans (wL 77 900),?_,by simp,?_,?_,nY ⟨?_,trivial,trivial⟩,.inl ⟨hOk,by rw[hsv]⟩⟩
   ·have hble:Nat.ble (0+(wJ ts).length) (wJ ts).length=true:=by rw[Nat.zero_add];exact Nat.ble_eq_true_of_le (Nat.le_refl _)
    show some [ren (swp (.n 77) (.n 900)) (bif Nat.ble (0+(wJ ts).length) (wJ ts).length then AV.ref (.n 77) 0 (wJ ts).length else .junk),bv true]=_
    rw[hble];rfl
   ·show AV.tup [.ref (.n 900) 0 ((wJ ts).map encStr).length,bv true]=_
    rw[List.length_map]
   ·intro v hv
    simp only[List.mem_cons,List.not_mem_nil,or_false] at hv
    rcases hv with rfl|rfl <;> trivial
   ·show some (Ob.ds 9 1 (((yM ts).map encStr).take (wJ ts).length))=_
    rw[hrt]
end Ai
namespace Ai
set_option maxRecDepth 100000
open Go Go.Proofs
theorem nD (xs:List (List UInt8)) (hx:xs.length≤1048576):CallsTo EE 17 [sl (xs.map encStr),sl (xs.map encStr)] (·=bv true):=by
 refine callsTo_of_AW (fn:=Tryz.f17) Tryz.func17 rfl (by kernel_rfl) rfl ?_
 conv=>whnf
 refine⟨fun h=>(wF _ h).elim,fun _=>?_⟩
 conv=>whnf
 refine yV (fun k:Nat=>[(0,sl (xs.map encStr)),(1,sl (xs.map encStr)),(5,i64 k)]) (fun k=>[]) (fun k=>xs.length - k) (fun k=>k≤xs.length) 0 .refl ⟨rfl,rfl,rfl,trivial⟩ trivial (Nat.zero_le _) ?_
 intro k τ H hk
 conv=>whnf
 refine⟨fun h=>?_,fun h=>?_⟩
 ·have hlt:=xO h
  conv=>whnf
  refine⟨by kernel_rfl,?_⟩
  conv=>whnf
  refine⟨encStr xs[k],yD encStr hlt rfl,?_⟩
  conv=>whnf
  refine⟨encStr xs[k],yD encStr hlt rfl,?_⟩
  conv=>whnf
  refine kbi (fun h=>absurd h (by simp)) (fun _=>?_)
  conv=>whnf
  refine⟨k+1,by omega,by show xs.length - (k+1)<xs.length - k;omega,⟨rfl,rfl,next_i64 hlt (by omega),trivial⟩,trivial⟩
 ·conv=>whnf
def dg:Nat→Nat→List UInt8
 | 0,_=>[]
 |f+1,n=>if n=0 then [] else dg f (n / 10)++[UInt8.ofNat (48+n % 10)]
theorem dg_any:∀ (f f' n:Nat),n≤f→n≤f'→dg f n=dg f' n
 | 0,0,n,_,_=>rfl
 | 0,f'+1,n,h,_=>by
  have:n=0:=by omega
  subst this;simp[dg]
 |f+1,0,n,_,h=>by
  have:n=0:=by omega
  subst this;simp[dg]
 |f+1,f'+1,n,h,h'=>by
  unfold dg
  by_cases h0:n=0
  ·simp[h0]
  ·rw[if_neg h0,if_neg h0,dg_any f f' (n / 10) (by omega) (by omega)]
def mtx (k:Int):List UInt8:=if k≤0 then [109,48] else 109::dg k.toNat k.toNat
theorem rF (k:Int) (h1:k≤1073741824):CallsTo EE 46 [i64 k] (·=sv (mtx k)):=by
 refine callsTo_of_AW (fn:=Tryz.f46) Tryz.func46 rfl (by kernel_rfl) rfl ?_
 conv=>whnf
 refine kbi (fun h=>?_) (fun h=>?_)
 ·have h0:k≤0:=by simpa using h
  conv=>whnf
  unfold mtx
  rw[if_pos h0]
 have h0:¬ k≤0:=by simpa using h
 obtain⟨n0,rfl⟩:∃ n:Nat,k=(n:Int):=⟨k.toNat,by omega⟩
 have hm:mtx (n0:Int)=109::dg n0 n0:=by unfold mtx;rw[if_neg h0,Int.toNat_natCast]
 rw[hm]
 conv=>whnf
 refine yV (fun x:Nat × List UInt8=>[(0,i64 x.1),(3,sv x.2)]) (fun x=>[]) (fun x=>x.1) (fun x=>x.1≤n0∧x.2.length+x.1≤n0∧dg n0 x.1++x.2=dg n0 n0) (n0,[]) .refl ⟨rfl,rfl,trivial⟩ trivial ⟨Nat.le_refl _,by simp,by simp⟩ ?_
 rintro⟨n,acc⟩ τ H ⟨hn,hl,he⟩
 have hn:n≤n0:=hn
 have hl:acc.length+n≤n0:=hl
 have he:dg n0 n++acc=dg n0 n0:=he
 conv=>whnf
 refine kbi (fun h=>?_) (fun h=>?_)
 ·have hpos:0<n:=by
   have h:(n:Int) > 0:=by simpa using h
   omega
  conv=>whnf
  refine⟨by decide,?_⟩
  conv=>whnf
  refine⟨[_],rfl,?_⟩
  conv=>whnf
  refine⟨by show 1+acc.length≤_;omega,?_⟩
  conv=>whnf
  refine⟨by decide,?_⟩
  conv=>whnf
  have hdv:n / 10<n:=Nat.div_lt_self hpos (by omega)
  have hdn:dg n0 n=dg n0 (n / 10)++[UInt8.ofNat (48+n % 10)]:=by
   obtain⟨f,rfl⟩:∃ f,n0=f+1:=⟨n0 - 1,by omega⟩
   rw[dg_any (f+1) f (n / 10) (by omega) (by omega)]
   show(if n=0 then [] else dg f (n / 10)++[UInt8.ofNat (48+n % 10)])=_
   rw[if_neg (by omega)]
  have w1:IntKind.i64.wrap ((n:Int).tdiv 10)=((n / 10:Nat):Int):=by
   rw[show(n:Int).tdiv 10=((n / 10:Nat):Int) by rw[Int.tdiv_eq_ediv_of_nonneg (by omega)];omega,zE (by omega) (by omega)]
  have w2:UInt8.ofNat (IntKind.u8.wrap (IntKind.i64.wrap (48+(n:Int).tmod 10))).toNat=UInt8.ofNat (48+n % 10):=by
   rw[show(n:Int).tmod 10=((n % 10:Nat):Int) by rw[Int.tmod_eq_emod_of_nonneg (by omega)];omega]
   have hr:n % 10<10:=Nat.mod_lt _ (by omega)
   generalize n % 10=r at hr ⊢
   rcases(show r=0∨r=1∨r=2∨r=3∨r=4∨r=5∨r=6∨r=7∨r=8∨r=9 by omega) with rfl|rfl|rfl|rfl|rfl|rfl|rfl|rfl|rfl|rfl <;> rfl
  refine⟨(n / 10,UInt8.ofNat (48+n % 10)::acc),⟨by show n / 10≤n0;omega,by show acc.length+1+n / 10≤n0;omega,by rw[← he,hdn];simp⟩,hdv,⟨?_,?_,trivial⟩,trivial⟩
  ·show AV.d (.int .i64 (IntKind.i64.wrap ((n:Int).tdiv 10)))=_
   rw[w1]
  ·show AV.d (.str (UInt8.ofNat (IntKind.u8.wrap (IntKind.i64.wrap (48+(n:Int).tmod 10))).toNat::acc))=_
   rw[w2]
 ·have hz:n=0:=by
   have h:¬ (n:Int) > 0:=by simpa using h
   omega
  subst hz
  have hd0:dg n0 0=[]:=by cases n0 <;> simp[dg]
  rw[hd0] at he
  have he:acc=dg n0 n0:=he
  conv=>whnf
  refine⟨by show 1+acc.length≤_;omega,?_⟩
  conv=>whnf
  rw[← he]
  rfl
def vH (k:Int) (n:Nat):List (List UInt8):=(List.range n).map fun (j:Nat)=>mtx (k+(j:Int))
theorem qH (k:Int) (n:Nat):(vH k n).length=n:=by simp[vH]
theorem marksX_get {k:Int} {n j:Nat} (h:j<n):(vH k n)[j]?=some (mtx (k+(j:Int))):=by simp[vH,h]
def jM (xs:List (List UInt8)) (k:Int) (n:Nat):List (List UInt8):=vH k n++xs.drop n
theorem w6 {xs:List (List UInt8)} {k:Int} {n:Nat} (h:n<xs.length):(jM xs k n).set n (mtx (k+(n:Int)))=jM xs k (n+1):=by
 unfold jM
 rw[List.drop_eq_getElem_cons h,List.set_append_right _ _ (by rw[qH];omega),qH,Nat.sub_self,List.set_cons_zero]
 unfold vH
 rw[List.range_succ,List.map_append]
 simp
theorem setEl_str {l:List (List UInt8)} {n:Nat} {x:List UInt8}:vJ (l.map encStr) 1 (0+(n:Int).toNat) 0 [.str x]=(l.set n x).map encStr:=by
 unfold vJ
 rw[show Nat.beq ([D.str x]:List D).length 1=true from rfl,show Nat.beq 0 0=true from rfl,Nat.zero_add,Int.toNat_natCast]
 show(l.map encStr).set n [.str x]=_
 rw[List.map_set]
 rfl
theorem tX (xs:List (List UInt8)) (k:Int) (hx:xs.length≤1048576) (h0:0≤k) (h1:k≤8388608) (H0:Key→Option Ob) (hH:H0 (.l 77)=some (.ds 9 1 (xs.map encStr))) :
  IOCall EE 19 [.ref (.l 77) 0 xs.length,i64 k] H0 (fun r H1=>r=i64 (k+xs.length)∧H1 (.l 77)=some (.ds 9 1 ((vH k xs.length).map encStr))∧∀ κ',isK (.l 77) κ'=false→H1 κ'=none):=by
 refine io_of_AW (fn:=Tryz.f19) (c:=Tryz.f19.body.getD .skip) Tryz.func19 rfl (by kernel_rfl) rfl ?_
 have hat:At [(0,.ref (.l 77) 0 xs.length),(1,i64 k)] [(.l 77,.ds 9 1 (xs.map encStr))] [] ⟨fun i=>[AV.ref (.l 77) 0 xs.length,i64 k].getD i .junk,H0⟩:=⟨⟨rfl,rfl,trivial⟩,⟨hH,trivial⟩,trivial⟩
 obtain⟨τ,H,hf⟩:=hat.form
 rw[hf]
 conv=>whnf
 refine yV (fun n:Nat=>[(0,.ref (.l 77) 0 xs.length),(1,i64 (k+(n:Int))),(5,i64 n)]) (fun n=>[(.l 77,.ds 9 1 ((jM xs k n).map encStr))]) (fun n=>xs.length - n) (fun n=>n≤xs.length) 0
  Weak.refl ⟨rfl,?_,rfl,trivial⟩ ⟨?_,trivial⟩ (Nat.zero_le _) ?_
 ·show i64 k=i64 (k+((0:Nat):Int))
  rw[show k+((0:Nat):Int)=k by omega]
 ·show some (Ob.ds 9 1 (xs.map encStr))=some (Ob.ds 9 1 ((jM xs k 0).map encStr))
  simp[jM,vH]
 intro n τ H hn
 have hn:n≤xs.length:=hn
 conv=>whnf
 refine kbi (fun h=>?_) (fun h=>?_)
 ·have hlt:n<xs.length:=by simpa using h
  conv=>whnf
  refine⟨_,rF (k+(n:Int)) (by omega),?_⟩
  rintro r rfl
  conv=>whnf
  refine⟨⟨by omega,by omega⟩,?_⟩
  conv=>whnf
  refine⟨n+1,by show n+1≤xs.length;omega,by show xs.length - (n+1)<xs.length - n;omega,⟨rfl,?_,?_,trivial⟩,⟨?_,trivial⟩⟩
  ·show AV.d (.int .i64 (IntKind.i64.wrap ((k+(n:Int))+1)))=i64 (k+((n+1:Nat):Int))
   rw[zE (by omega) (by omega)]
   exact congrArg i64 (by omega)
  ·show AV.d (.int .i64 (IntKind.i64.wrap ((n:Int)+1)))=i64 ((n+1:Nat):Int)
   rw[zE (by omega) (by omega)]
   rfl
  ·show some (Ob.ds 9 1 (vJ ((jM xs k n).map encStr) 1 (0+(n:Int).toNat) 0 [.str (mtx (k+(n:Int)))]))=_
   rw[setEl_str,w6 hlt]
 ·have hkk:n=xs.length:=by
   have:¬ n<xs.length:=by simpa using h
   omega
  subst hkk
  conv=>whnf
  refine⟨_,Weak.refl,?_⟩
  conv=>whnf
  refine⟨isK (.l 77),rfl,?_,fun κ hκ=>?_⟩
  ·show some (Ob.ds 9 1 ((jM xs k xs.length).map encStr))=_
   simp[jM]
  ·unfold yJ
   rw[hκ];rfl
theorem bN (k:Int) (n:Nat) (hx:n≤1048576) (h0:0≤k) (h1:k≤8388608):CallsTo EE 20 [sl ((vH k n).map encStr),i64 k] (·=i64 (k+n)):=by
 refine callsTo_of_AW (fn:=Tryz.f20) Tryz.func20 rfl (by kernel_rfl) rfl ?_
 conv=>whnf
 refine yV (fun j:Nat=>[(0,sl ((vH k n).map encStr)),(1,i64 (k+(j:Int))),(5,i64 j)]) (fun j=>[]) (fun j=>n - j) (fun j=>j≤n) 0
  Weak.refl ⟨rfl,?_,rfl,trivial⟩ trivial (Nat.zero_le _) ?_
 ·show i64 k=i64 (k+((0:Nat):Int))
  rw[show k+((0:Nat):Int)=k by omega]
 intro j τ H hj
 have hj:j≤n:=hj
 conv=>whnf
 refine kbi (fun h=>?_) (fun h=>?_)
 ·have hlt0:=xO h
  have hlt:j<n:=by rw[qH] at hlt0;exact hlt0
  have hg:(vH k n)[j]=mtx (k+(j:Int)):=by
   have:=marksX_get (k:=k) hlt
   rw[List.getElem?_eq_getElem hlt0] at this
   exact Option.some.inj this
  conv=>whnf
  refine⟨by kernel_rfl,?_⟩
  conv=>whnf
  refine⟨encStr (vH k n)[j],yD encStr hlt0 rfl,?_⟩
  rw[hg]
  conv=>whnf
  refine⟨_,rF (k+(j:Int)) (by omega),?_⟩
  conv=>whnf
  refine kbi (fun h=>absurd h (by simp)) (fun _=>?_)
  conv=>whnf
  refine⟨j+1,hlt,by show n - (j+1)<n - j;omega,⟨rfl,?_,next_i64 hlt (by omega),trivial⟩,trivial⟩
  show AV.d (.int .i64 (IntKind.i64.wrap ((k+(j:Int))+1)))=i64 (k+((j+1:Nat):Int))
  rw[zE (by omega) (by omega)]
  exact congrArg i64 (by omega)
 ·have hkk:j=n:=by
   have:¬ j<(vH k n).length:=by simpa using h
   rw[qH] at this
   omega
  subst hkk
  conv=>whnf
end Ai
namespace Ai
set_option maxRecDepth 100000
open Go Go.Proofs
def iP:Key→Bool
 | .n k=>Nat.beq k 903
 | .s o _=>Nat.beq o 903
 | .l _=>false
theorem vZ {p:Key→Bool} (subs:List (List (List D))) (hp:∀ j,p (.s 903 j)=false):(wN subs 0).map (scrPL p)=wN subs 0 :=
 nU _ fun j=>by
  unfold sF
  rw[if_neg (by omega)]
  simp[scrPL,scrP,hp j]
theorem gX {f:Key→Key} (subs:List (List (List D))) (hf:∀ j,f (.s 903 j)=.s 903 j):(wN subs 0).map (renL f)=wN subs 0 :=
 nU _ fun j=>by
  unfold sF
  rw[if_neg (by omega)]
  simp[renL,ren,hf j]
theorem rG (c l d:Int) (subs:List (List (List D))) (k:Int) (hx:subs.length≤1048576) (hs:∀ q∈subs,∀ c∈q,c.length=4) (ht:tot subs subs.length≤1048576) (h0:0≤k) (h1:k≤1048576) (H0:Key→Option Ob)
  (hH:H0 (.n 903)=some (.rs 99 1 (wN subs 0))) (hF:∀ j,H0 (.s 903 j)=uY subs 0 j) :
  IOCall EE 18 [.agg [i64 c,i64 l,i64 d,.dref (.n 903) subs.length],i64 k] H0 (fun r H1=>r=i64 (k+4*tot subs subs.length)∧∀ κ,H1 κ=none):=by
 refine io_of_AW (fn:=Tryz.f18) (c:=Tryz.f18.body.getD .skip) Tryz.func18 rfl (by kernel_rfl) rfl ?_
 have hat:At [(0,.agg [i64 c,i64 l,i64 d,.dref (.n 903) subs.length]),(1,i64 k)] [(.n 903,.rs 99 1 (wN subs 0))] [(903,uY subs 0)] ⟨fun i=>[AV.agg [i64 c,i64 l,i64 d,.dref (.n 903) subs.length],i64 k].getD i .junk,H0⟩:=⟨⟨rfl,rfl,trivial⟩,⟨hH,trivial⟩,⟨hF,trivial⟩⟩
 obtain⟨τ,H,hf⟩:=hat.form
 rw[hf]
 conv=>whnf
 refine .inr (.inl ⟨999,0,iP,(fun r H1=>r=i64 (k+4*tot subs subs.length)∧∀ κ,H1 κ=none),?_,rfl,?_⟩)
 ·refine io_congr (o7 subs k hx hs ht h0 h1 _ ?_ fun j=>?_) rfl
  ·show some (Ob.rs 99 1 ((((wN subs 0).map (scrPL (isK (.n 2)))).map (renL (swp (.n 999) (.l 0)))).map (scrPL (fun o=>!iP o))))=_
   rw[vZ subs (fun j=>rfl),gX subs (fun j=>rfl),vZ subs (fun j=>rfl)]
  ·show Option.map _ (Option.map _ (Option.map _ (uY subs 0 j)))=_
   rw[qX,qY,qX]
 ·rintro r H1 ⟨rfl,q⟩
  refine⟨fun κ _=>q κ,fun n hn=>(by cases hn),?_⟩
  conv=>whnf
  refine⟨_,Weak.refl,?_⟩
  conv=>whnf
  exact⟨fun _=>false,rfl,fun κ=>rfl⟩
def gI (r:List OpL):List (List D):=r.map encOp
def zP (p:ProgL):List (List (List D)):=p.rs.map gI
def aY (subs:List (List (List D))) (i j:Nat):List AV:=if j<i then [.ref (.s 900 j) 0 (subs.getD j []).length] else [.d .nil]
def vV (subs:List (List (List D))) (i:Nat):List (List AV):=(List.range subs.length).map (aY subs i)
def pM (subs:List (List (List D))) (i j:Nat):Option Ob:=if j<i then (subs[j]?).map (.ds 102 4) else none
theorem rowsT_zero (subs:List (List (List D))):vV subs 0=List.replicate subs.length [.d .nil]:=by
 apply List.ext_getElem?
 intro j
 simp only[vV,List.getElem?_map,List.getElem?_replicate,List.getElem?_range']
 by_cases h:j<subs.length
 ·rw[if_pos h,List.getElem?_eq_getElem (by simpa using h)]
  simp[aY]
 ·rw[if_neg h,List.getElem?_eq_none (by simpa using h)]
  rfl
theorem rowsT_map {subs:List (List (List D))} {i i':Nat} (f:List AV→List AV) (h:∀ j,f (aY subs i j)=aY subs i' j):(vV subs i).map f=vV subs i':=by
 unfold vV
 rw[List.map_map]
 exact List.map_congr_left fun j _=>h j
theorem eZ {p:Key→Bool} (subs:List (List (List D))) (i:Nat) (hp:∀ j,p (.s 900 j)=false):(vV subs i).map (scrPL p)=vV subs i :=
 rowsT_map _ fun j=>by
  unfold aY
  split
  ·simp[scrPL,scrP,hp j]
  ·rfl
theorem famT_ren (f:Key→Key) (subs:List (List (List D))) (i j:Nat):(pM subs i j).map (renO f)=pM subs i j:=by
 unfold pM
 split
 ·cases subs[j]? <;> rfl
 ·rfl
theorem famT_scr (p:Key→Bool) (subs:List (List (List D))) (i j:Nat):(pM subs i j).map (scrPO p)=pM subs i j:=by
 unfold pM
 split
 ·cases subs[j]? <;> rfl
 ·rfl
theorem rowsT_put {subs:List (List (List D))} {k:Nat} (h:k<subs.length):((xG (vV subs k) 1 k 0 [.ref (.n 20) 0 subs[k].length]).map (renL (swp (.n 20) (.s 900 k))))=vV subs (k+1):=by
 have hlen:(vV subs k).length=subs.length:=by simp[vV]
 apply List.ext_getElem?
 intro j
 by_cases hj:j=k
 ·subst hj
  rw[List.getElem?_map,vI (c:=aY subs j j) (c':=[.ref (.n 20) 0 subs[j].length]) (by simp[vV,h]) rfl]
  simp only[vV,List.getElem?_map,List.getElem?_range h,Option.map_some,Option.some.injEq]
  unfold aY
  rw[if_pos (by omega)]
  have e:swp (.n 20) (.s 900 j) (.n 20)=.s 900 j:=by simp[swp,Key.beq]
  simp[renL,ren,e,List.getD_eq_getElem?_getD,h]
 ·by_cases hl:j<subs.length
  ·rw[List.getElem?_map,sL hj (c:=aY subs k j) (by simp[vV,hl])]
   simp only[vV,List.getElem?_map,List.getElem?_range hl,Option.map_some,Option.some.injEq]
   have e:swp (.n 20) (.s 900 k) (.s 900 j)=.s 900 j:=by simp[swp,Key.beq,nbeq_ne hj]
   unfold aY
   by_cases hjk:j<k
   ·rw[if_pos hjk,if_pos (by omega)]
    simp[renL,ren,e]
   ·rw[if_neg hjk,if_neg (by omega)]
    simp[renL,ren]
  ·rw[List.getElem?_eq_none (by simp[xG];simp[hlen];omega),List.getElem?_eq_none (by simp[vV];omega)]
def lend9:Key→Bool
 | .n k=>Nat.beq k 900
 | .s o _=>Nat.beq o 900
 | .l _=>false
theorem own1_n {x:AV} {q:Nat} (h:q≠900):ownH [x] (.n q)=none:=by
 unfold ownH
 cases hb:Nat.blt q 900 with
 |true=>simp only[hb,cond_true]
 |false =>
  have:¬ q<900:=by
   intro e
   have:Nat.blt q 900=true:=by simpa[Nat.blt_eq] using e
   rw[this] at hb;cases hb
  have:([x]:List AV)[q - 900]?=none:=List.getElem?_eq_none (by simp;omega)
  simp only[hb,cond_false,this]
theorem own1_s {x:AV} {q j:Nat} (h:q≠900):ownH [x] (.s q j)=none:=by
 unfold ownH
 cases hb:Nat.blt q 900 with
 |true=>simp only[hb,cond_true]
 |false =>
  have:¬ q<900:=by
   intro e
   have:Nat.blt q 900=true:=by simpa[Nat.blt_eq] using e
   rw[this] at hb;cases hb
  have:([x]:List AV)[q - 900]?=none:=List.getElem?_eq_none (by simp;omega)
  simp only[hb,cond_false,this]
theorem rowsT_own (xs:List (List OpL)):vV (xs.map gI) xs.length=ownRows 900 0 (xs.map fun _=>[.nil]) (xs.map gI):=by
 unfold ownRows vV
 apply List.ext_getElem?
 intro j
 by_cases h:j<xs.length
 ·have h2:j<(xs.map gI).length:=by simpa using h
  simp only[List.getElem?_map,List.getElem?_range h2,Option.map_some,List.getElem?_mapIdx,List.getElem?_eq_getElem h]
  unfold aY
  rw[if_pos h]
  rfl
 ·rw[List.getElem?_eq_none (by simp;omega),List.getElem?_eq_none (by simp;omega)]
theorem toOpSS_own (xs:List (List OpL)) (hx:xs.length≤1048576) (hx2:∀ x∈xs,x.length≤1048576):CallsTo EE 32 [sl (xs.map zO)] (·=.ownF 1 [.uqd 99 1 0 102 4 (xs.map fun _=>[.nil]) (xs.map gI)]):=by
 refine calls_of_io (fun v hv=>?_) ?_
 ·simp only[List.mem_cons,List.not_mem_nil,or_false] at hv
  subst hv
  show(xs.map _).length=(xs.map gI).length
  simp
 refine io_of_AW (fn:=Tryz.f32) (c:=Tryz.f32.body.getD .skip) Tryz.func32 rfl (by kernel_rfl) rfl ?_
 conv=>whnf
 refine⟨by simp;omega,?_⟩
 conv=>whnf
 refine aloopF (fun k:Nat=>[(0,sl (xs.map zO)),(3,.dref (.n 900) xs.length),(4,i64 k)]) (fun k=>[(.n 900,.rs 99 1 (vV (xs.map gI) k))]) (fun k=>[(900,pM (xs.map gI) k)]) (fun k=>xs.length - k) (fun k=>k≤xs.length) 0
  ((m8 (.n 7) rfl).trans (wL 7 900)) ?_ ?_ ?_ (Nat.zero_le _) ?_
 ·exact⟨rfl,by show AV.dref (.n 900) (((xs.map zO).length:Nat):Int).toNat=_;simp,rfl,trivial⟩
 ·refine⟨?_,trivial⟩
  show some (Ob.rs 99 1 (((List.replicate (((xs.map zO).length:Nat):Int).toNat [D.nil]).map (List.map AV.d)).map (renL (swp (.n 7) (.n 900)))))=_
  rw[rowsT_zero]
  simp[renL,ren]
 ·refine⟨fun j=>?_,trivial⟩
  unfold pM
  rw[if_neg (by omega)]
  rfl
 intro k τ H hk
 have hk:k≤xs.length:=hk
 conv=>whnf
 refine kbi (fun h=>?_) (fun h=>?_)
 ·have hlt:=xO h
  have hlt2:k<(xs.map gI).length:=by simpa using hlt
  have hgk:(xs.map gI)[k]=xs[k].map encOp:=by simp[gI]
  conv=>whnf
  refine⟨zO xs[k],yD zO hlt rfl,?_⟩
  conv=>whnf
  refine⟨_,p6 xs[k] (hx2 _ (List.getElem_mem hlt)),?_⟩
  rintro r rfl
  refine .inr ⟨_,rfl,?_⟩
  conv=>whnf
  refine⟨⟨by omega,by omega⟩,?_⟩
  conv=>whnf
  refine⟨k+1,_,jR 20 900 k,by show k+1≤xs.length;omega,by show xs.length - (k+1)<xs.length - k;omega,⟨rfl,rfl,next_i64 hlt (by omega),trivial⟩,⟨?_,trivial⟩,⟨fun j=>?_,trivial⟩⟩
  ·show some (Ob.rs 99 1 ((xG ((vV (xs.map gI) k).map (scrPL (isK (.n 20)))) 1 ((k:Int)).toNat 0 [.ref (.n 20) 0 (xs[k].map encOp).length]).map (renL (swp (.n 20) (.s 900 k)))))=_
   rw[eZ _ _ (fun j=>rfl),Int.toNat_natCast,← hgk,rowsT_put hlt2]
  ·show(St.H _ (swp (.n 20) (.s 900 k) (.s 900 j))).map _=_
   by_cases hj:j=k
   ·subst hj
    have e:swp (.n 20) (.s 900 j) (.s 900 j)=.n 20:=by simp[swp,Key.beq]
    rw[e]
    unfold pM
    rw[if_pos (by omega),List.getElem?_eq_getElem hlt2,hgk]
    rfl
   ·have e:swp (.n 20) (.s 900 k) (.s 900 j)=.s 900 j:=by simp[swp,Key.beq,nbeq_ne hj]
    rw[e]
    show Option.map _ (Option.map _ (pM (xs.map gI) k j))=_
    rw[famT_scr,famT_ren]
    unfold pM
    by_cases hjk:j<k
    ·rw[if_pos hjk,if_pos (by omega)]
    ·rw[if_neg hjk,if_neg (by omega)]
 ·have hkk:k=xs.length:=by
   have:¬ k<xs.length:=by simpa using h
   omega
  subst hkk
  conv=>whnf
  refine⟨_,Weak.refl,?_⟩
  conv=>whnf
  refine⟨lend9,?_,fun κ hκ=>?_⟩
  ·show AV.dref (.n 900) xs.length=AV.dref (.n 900) (xs.map _).length
   rw[List.length_map]
  ·cases κ with
   |l n=>exact absurd rfl hκ
   |n q =>
    by_cases hq:q=900
    ·subst hq
     show some (Ob.rs 99 1 ((vV (xs.map gI) xs.length).map (scrPL (fun o=>!lend9 o))))=some (Ob.rs 99 1 (ownRows 900 0 (xs.map fun _=>[.nil]) (xs.map gI)))
     rw[eZ _ _ (fun j=>rfl),rowsT_own]
    ·exact absurd (own1_n hq) hκ
   |s o j =>
    by_cases hq:o=900
    ·subst hq
     show Option.map _ (pM (xs.map gI) xs.length j)=((xs.map gI)[j]?).map (Ob.ds 102 4)
     rw[famT_scr]
     unfold pM
     by_cases hj:j<xs.length
     ·rw[if_pos hj]
     ·rw[if_neg hj,List.getElem?_eq_none (by simp;omega)]
      rfl
    ·exact absurd (own1_s hq) hκ
end Ai
namespace Ai
set_option maxRecDepth 100000
open Go Go.Proofs
def e6 (p:ProgL):List AV:=[i64 p.cells,i64 p.locks,i64 p.conds,.uqd 99 1 0 102 4 (p.rs.map fun _=>[.nil]) (zP p)]
theorem nZ (o:Nat) (p:ProgL):ownRows o 0 (p.rs.map fun _=>[.nil]) (zP p)=(List.range p.rs.length).map fun j=>[.ref (.s o j) 0 ((zP p).getD j []).length]:=by
 unfold ownRows
 apply List.ext_getElem?
 intro j
 by_cases h:j<p.rs.length
 ·simp[h]
 ·rw[List.getElem?_eq_none (by simp;omega),List.getElem?_eq_none (by simp;omega)]
theorem a8 {o o':Nat} {p:ProgL} (f:List AV→List AV) (h:∀ j n,f [.ref (.s o j) 0 n]=[.ref (.s o' j) 0 n]):(ownRows o 0 (p.rs.map fun _=>[.nil]) (zP p)).map f=ownRows o' 0 (p.rs.map fun _=>[.nil]) (zP p):=by
 rw[nZ,nZ,List.map_map]
 exact List.map_congr_left fun j _=>h j _
theorem ownRows_M (p:ProgL):ownRows 903 0 (p.rs.map fun _=>[.nil]) (zP p)=wN (zP p) 0:=by
 rw[nZ]
 unfold wN
 rw[show(zP p).length=p.rs.length by simp[zP]]
 refine List.map_congr_left fun j _=>?_
 unfold sF
 rw[if_neg (by omega)]
theorem toProg_own (p:ProgL) (h:p.rs.length≤1048576∧∀ x∈p.rs,x.length≤1048576):CallsTo EE 10 [agg (encProg p)] (·=.own (e6 p)):=by
 refine callsTo_of_AW (fn:=Tryz.f10) Tryz.func10 rfl (by kernel_rfl) rfl ?_
 conv=>whnf
 refine⟨_,toOpSS_own _ h.1 h.2,?_⟩
 rintro r rfl
 conv=>whnf
 refine .inr (.inr ⟨e6 p,_,weak_re shA,rfl,?_,nY ⟨trivial,trivial,trivial,⟨?_,fun j q hq=>?_⟩,trivial⟩,rfl⟩)
 ·intro v hv
  simp only[e6,List.mem_cons,List.not_mem_nil,or_false] at hv
  rcases hv with rfl|rfl|rfl|rfl
  ·trivial
  ·trivial
  ·trivial
  ·show(p.rs.map _).length=(zP p).length
   simp[zP]
 ·show some (Ob.rs 99 1 ((ownRows 900 0 (p.rs.map fun _=>[.nil]) (zP p)).map (renL shA.f)))=some (Ob.rs 99 1 (ownRows 903 0 (p.rs.map fun _=>[.nil]) (zP p)))
  exact congrArg (fun x=>some (Ob.rs 99 1 x)) (a8 _ fun j n=>rfl)
 ·have hq:(zP p)[j]?=some q:=hq
  have e:ownH [.uqd 99 1 0 102 4 (p.rs.map fun _=>[.nil]) (zP p)] (.s 900 j)=some (.ds 102 4 q):=by
   show((zP p)[j]?).map (Ob.ds 102 4)=_
   rw[hq]
   rfl
  show Option.map (renO shA.f) (match ownH [.uqd 99 1 0 102 4 (p.rs.map fun _=>[.nil]) (zP p)] (.s 900 j) with|some ob=>some ob|none=>_)=_
  rw[e]
  rfl
end Ai
namespace Ai
set_option maxRecDepth 100000
open Go Go.Proofs Cyc
theorem ownPg_fam {p:ProgL} {j:Nat}:ownH (e6 p) (.s 903 j)=uY (zP p) 0 j:=by
 show((zP p)[j]?).map (Ob.ds 102 4)=_
 unfold uY
 rw[if_neg (by omega)]
theorem fz_own {p:ProgL} {S:St} {n:Nat} (h1:S.H (.n 903)=some (.rs 99 1 (wN (zP p) 0))) (h2:∀ j,S.H (.s 903 j)=uY (zP p) 0 j) (hn:n=p.rs.length) :
  FzC S [i64 p.cells,i64 p.locks,i64 p.conds,.dref (.n 903) n] (encProg p):=by
 subst hn
 refine⟨di p.cells,_,rfl,rfl,di p.locks,_,rfl,rfl,di p.conds,_,rfl,rfl,.sl (p.rs.map zO),_,rfl,⟨_,rfl,viewR h1 (by simp) (by simp[wN,zP]) ?_⟩,rfl⟩
 intro j row d hr hd
 have hj:j<p.rs.length:=by
  have:=(List.getElem?_eq_some_iff.1 hd).1
  simpa using this
 have hjs:j<(zP p).length:=by simpa[zP] using hj
 rw[iA hjs] at hr
 rw[List.getElem?_map,List.getElem?_eq_getElem hj] at hd
 simp only[Option.map_some,Option.some.injEq] at hr hd
 subst hr hd
 have hg:(zP p)[j]=p.rs[j].map encOp:=by simp[zP,gI]
 have h3:=h2 j
 unfold uY at h3
 rw[if_neg (by omega),List.getElem?_eq_getElem hjs,hg] at h3
 unfold sF
 rw[if_neg (by omega)]
 simp[fz1s,fz1,h3,List.getD_eq_getElem?_getD,hjs,hg,zO,List.take_of_length_le]
def lwF (p:ProgL):List (Nat × (Nat→Option Ob)):=[(903,uY (zP p) 0)]
theorem p5 {p:ProgL} (h:p.size≤1048576):tot (zP p) (zP p).length≤1048576:=by
 unfold ProgL.size bE at h
 unfold tot zP
 rw[List.take_length,List.map_map]
 have e:(List.length ∘ gI:List OpL→Nat)=List.length:=by funext r;simp[gI]
 rw[e];omega
theorem ops4 (p:ProgL):∀ q∈zP p,∀ c∈q,c.length=4:=by
 intro q hq c hc
 obtain⟨r,_,rfl⟩:=List.mem_map.1 hq
 obtain⟨y,_,rfl⟩:=List.mem_map.1 hc
 rfl
structure SmC (p:ProgL):Prop where
 hs:p.rs.length≤1048576∧∀ x∈p.rs,x.length≤1048576
 hz:p.size≤1048576
end Ai
namespace Ai
set_option maxRecDepth 100000
open Go Go.Proofs Cyc
theorem fz_progV {S:St} (p:ProgL):FzA S (agg (encProg p)) (agg (encProg p)):=⟨encProg p,rfl,_,_,rfl,rfl,_,_,rfl,rfl,_,_,rfl,rfl,_,_,rfl,rfl,rfl⟩
def vA (b:Int) (V:List (List UInt8)) (B:AV):List (Nat × AV):=[(1,i64 b),(2,.ptr (.n 2) 0),(6,sl (V.map encStr)),(7,B),(8,.ptr (.n 8) 0)]
def vAo (p:ProgL):List (Key × Ob):=[(.n 2,.vs 24 ((encProg p).map .d)),(.n 8,.vs 39 [i64 p.cells,i64 p.locks,i64 p.conds,.dref (.n 903) p.rs.length]),(.n 903,.rs 99 1 (wN (zP p) 0))]
def vB (b:Int) (V:List (List UInt8)):List (Nat × AV):=[(1,i64 b),(2,.ptr (.n 2) 0),(6,sl (V.map encStr)),(7,bv true),(8,.ptr (.n 8) 0),(9,.ref (.n 43) 0 V.length),(10,bv true)]
def vBo (p:ProgL) (V:List (List UInt8)):List (Key × Ob):=[(.n 2,.vs 24 ((encProg p).map .d)),(.n 8,.vs 39 [i64 p.cells,i64 p.locks,i64 p.conds,.dref (.n 903) p.rs.length]),(.n 903,.rs 99 1 (wN (zP p) 0)),(.n 43,.ds 9 1 (V.map encStr))]
def vF (b:Int):List (Nat × AV):=[(1,i64 b),(2,.ptr (.n 2) 0),(6,sl []),(7,bv false),(8,.ptr (.n 8) 0),(9,sl []),(10,bv false)]
theorem signsV_no {p:ProgL} {b:Int} (h:¬ OkA p b):xS p b=([],false):=by unfold xS;rw[if_neg h]
theorem signsV_yes {p:ProgL} {b:Int} (h:OkA p b):(xS p b).2=true:=by unfold xS;rw[if_pos h]
theorem tJ (p:ProgL) (b:Int):(xS p b).1.length≤401:=by
 unfold xS
 split
 ·have h:=mD ((kV p b).1.map (xX p))
  have h2:=aG p b
  rw[List.length_map] at h
  show(wJ _).length≤401
  omega
 ·simp
theorem lawSigns1 (p:ProgL) (hp:p.wf) (hv:p.flt) (b:Int)
  (hT:SmC p→OkA p b→∀ S,At (vB b (xS p b).1) (vBo p (xS p b).1) (lwF p) S→AW EE Tryz.f4.ntmps (dropC 7 (Tryz.f4.body.getD .skip)) (sG EE Tryz.f4 (·=bv true)) S)
  (hF:SmC p→¬ OkA p b→∀ S,At (vF b) (vAo p) (lwF p) S→AW EE Tryz.f4.ntmps (dropC 7 (Tryz.f4.body.getD .skip)) (sG EE Tryz.f4 (·=bv true)) S) :
  CallsTo EE 4 [agg (encProg p),i64 b] (·=bv true):=by
 refine bV (fn:=Tryz.f4) (c:=Tryz.f4.body.getD .skip) Tryz.func4 rfl (by kernel_rfl) rfl ?_
 refine lX 6 (fun S=>SmC p∧At (vA b (xS p b).1 (bv (xS p b).2)) (vAo p) (lwF p) S) (fun K hK=>?_) (fun S hS=>?_)
 ·conv=>whnf
  refine⟨_,szProg_ok p 1048576 (by omega) (by omega) hp,?_⟩
  rintro r ⟨n,rfl,hn1,hn2,hn3⟩
  conv=>whnf
  refine kbi (fun _=>?_) (fun h=>?_)
  ·conv=>whnf
   try rfl
  have h0:0≤n:=by simp at h;omega
  have hsz:p.size≤1048576:=by have:=hn3 h0;omega
  have hs:=size_le List.length p.rs 1048576 hsz
  have cS:=SignsOfS_ok p hp hs hv b
  conv=>whnf
  refine⟨_,kY p hs,?_⟩
  rintro r rfl
  conv=>whnf
  refine⟨_,cS,?_⟩
  rintro r rfl
  conv=>whnf
  refine⟨_,toProg_own p hs,?_⟩
  rintro r rfl
  conv=>whnf
  refine hK _ _ Weak.refl ⟨⟨hs,hsz⟩,⟨rfl,rfl,rfl,rfl,rfl,trivial⟩,⟨?_,?_,?_,trivial⟩,⟨fun j=>?_,trivial⟩⟩
  ·rfl
  ·show some (Ob.vs 39 [i64 p.cells,i64 p.locks,i64 p.conds,.dref (.n 903) (p.rs.map fun _=>[D.nil]).length])=_
   rw[List.length_map]
  ·show some (Ob.rs 99 1 ((ownRows 903 0 (p.rs.map fun _=>[.nil]) (zP p)).map (scrPL (isK (.n 8)))))=_
   rw[ownRows_M,vZ _ (fun j=>rfl)]
  ·show Option.map _ (match ownH (e6 p) (.s 903 j) with|some ob=>some ob|none=>_)=_
   rw[ownPg_fam]
   cases hq:uY (zP p) 0 j with
   |none=>rfl
   |some ob =>
    show Option.map _ (some ob)=some ob
    rw[← hq,qX]
 obtain⟨hSm,hat⟩:=hS
 have cI:=dB p hp hSm.hs hv b
 refine lX 1 (fun S=>(OkA p b∧At (vB b (xS p b).1) (vBo p (xS p b).1) (lwF p) S)∨(¬ OkA p b∧At (vF b) (vAo p) (lwF p) S)) (fun K hK=>?_) (fun S hS=>?_)
 rotate_left 1
 ·rcases hS with ⟨h,hS⟩|⟨h,hS⟩
  ·exact qC (hT hSm h S hS)
  ·exact qC (hF hSm h S hS)
 obtain⟨τ,H,rfl⟩:=hat.form
 clear hat hT hF
 conv=>whnf
 refine .inl ⟨[agg (encProg p),i64 b],[],_,⟨_,_,rfl,⟨_,rfl,fz_own rfl (fun j=>rfl) rfl⟩,_,_,rfl,rfl,rfl⟩,rfl,cI,?_⟩
 rintro r (⟨hok,rfl⟩|⟨hno,rfl⟩)
 ·refine⟨?_,?_⟩
  ·intro c hc
   simp only[List.mem_cons,List.not_mem_nil,or_false] at hc
   rcases hc with rfl|rfl
   ·intro c hc
    obtain⟨y,_,rfl⟩:=List.mem_map.1 hc;rfl
   ·rfl
  have hb:=signsV_yes hok
  generalize xS p b=X at *
  obtain⟨V,B⟩:=X
  have hb:B=true:=hb
  subst hb
  conv=>whnf
  refine hK _ _ (wL 900 43) (.inl ⟨hok,⟨rfl,rfl,rfl,rfl,rfl,?_,rfl,trivial⟩,⟨rfl,rfl,?_,rfl,trivial⟩,⟨fun j=>?_,trivial⟩⟩)
  ·show AV.ref (.n 43) 0 (V.map encStr).length=_
   rw[List.length_map]
  ·show some (Ob.rs 99 1 (((wN (zP p) 0).map (scrPL _)).map (renL (swp (.n 900) (.n 43)))))=_
   rw[vZ _ (fun j=>rfl),gX _ (fun j=>rfl)]
  ·show Option.map _ (Option.map _ (uY (zP p) 0 j))=_
   rw[qX,qY]
 ·refine⟨?_,?_⟩
  ·intro c hc
   simp only[List.mem_cons,List.not_mem_nil,or_false] at hc
   rcases hc with rfl|rfl
   ·exact .inl ⟨_,rfl,rfl⟩
   ·exact .inl ⟨_,rfl,rfl⟩
  rw[signsV_no hno]
  conv=>whnf
  refine hK _ _ Weak.refl (.inr ⟨hno,⟨rfl,rfl,rfl,rfl,rfl,rfl,rfl,trivial⟩,⟨rfl,rfl,rfl,trivial⟩,⟨fun j=>rfl,trivial⟩⟩)
end Ai
namespace Ai
set_option maxRecDepth 100000
open Go Go.Proofs Cyc
def vC (b:Int) (V:List (List UInt8)) (k:Int):List (Nat × AV):=[(1,i64 b),(2,.ptr (.n 2) 0),(6,sl (V.map encStr)),(7,bv true),(9,.ref (.n 43) 0 V.length),(10,bv true),(11,i64 k)]
def vCo (p:ProgL) (V:List (List UInt8)):List (Key × Ob):=[(.n 2,.vs 24 ((encProg p).map .d)),(.n 43,.ds 9 1 (V.map encStr))]
def vD (b:Int) (V:List (List UInt8)):List (Nat × AV):=[(1,i64 b),(2,.ptr (.n 2) 0),(6,sl (V.map encStr)),(7,bv true),(9,.ref (.n 43) 0 V.length),(12,i64 (1+(V.length:Int)))]
theorem rX {E:Env} {g:FuncId} {xs:List AV} {R R':AV→Prop} (h:CallsTo E g xs R) (hr:∀ r,R r→R' r):CallsTo E g xs R' :=
 fun w A vs hI ha=>(h w A vs hI ha).mono fun _ _ ⟨r,h1,h2,h3⟩=>⟨r,hr r h1,h2,h3⟩
theorem eqRw {V:List (List UInt8)} (h:V.length≤1048576):CallsTo EE 17 [sl (((V.map encStr).drop 0).take V.length),sl (V.map encStr)] (·=bv true):=by
 rw[List.drop_zero,List.take_of_length_le (by simp)]
 exact nD V h
theorem lawSigns2 (p:ProgL) (b:Int) (h:SmC p) (V:List (List UInt8)) (hl:V.length≤401)
  (hL:∀ S,(∃ k:Int,0≤k∧At (vC b V k) (vCo p V) [] S)→AW EE Tryz.f4.ntmps (dropC 11 (Tryz.f4.body.getD .skip)) (sG EE Tryz.f4 (·=bv true)) S)
  {S:St} (hS:At (vB b V) (vBo p V) (lwF p) S):AW EE Tryz.f4.ntmps (dropC 7 (Tryz.f4.body.getD .skip)) (sG EE Tryz.f4 (·=bv true)) S:=by
 refine dD 4 (fun S=>∃ k:Int,0≤k∧At (vC b V k) (vCo p V) [] S) (fun K hK=>?_) hL
 obtain⟨τ,H,rfl⟩:=hS.form
 clear hS hL
 have hsl:(zP p).length=p.rs.length:=by simp[zP]
 have ht:=p5 h.hz
 conv=>whnf
 refine .inl ⟨_,eqRw (by omega),?_⟩
 rintro r rfl
 refine⟨rfl,?_⟩
 conv=>whnf
 refine kbi (fun h=>absurd h (by simp)) (fun _=>?_)
 conv=>whnf
 refine⟨by kernel_rfl,?_⟩
 conv=>whnf
 refine⟨_,kY p h.hs,?_⟩
 conv=>whnf
 refine⟨[agg (encProg p),agg (encProg p)],[],bv true,⟨_,_,rfl,⟨_,rfl,fz_own ?_ (fun j=>?_) rfl⟩,_,_,rfl,fz_progV p,rfl⟩,rfl,oF p h.hs,rfl,?_⟩
 ·first|rfl|(show some (Ob.rs 99 1 ((wN (zP p) 0).map (scrPL _)))=_;rw[vZ _ fun j=>rfl])
 ·first|rfl|(show Option.map _ (uY (zP p) 0 j)=_;exact qX _ _ _ _)
 conv=>whnf
 refine .inr (.inr (.inl ⟨_,18,[],Weak.refl,rfl,999,0,iP,(fun r H1=>r=i64 (1+4*tot (zP p) (zP p).length)∧∀ κ,H1 κ=none),?_,rfl,?_⟩))
 ·refine io_congr (rG p.cells p.locks p.conds (zP p) 1 (by rw[hsl];exact h.hs.1) (ops4 p) ht (by omega) (by omega) _ ?_ fun j=>?_) ?_
  ·show some (Ob.rs 99 1 (((wN (zP p) 0).map (renL (swp (.n 999) (.l 0)))).map (scrPL (fun o=>!iP o))))=_
   rw[gX _ (fun j=>rfl),vZ _ (fun j=>rfl)]
  ·show Option.map _ (Option.map _ (uY (zP p) 0 j))=_
   rw[qY,qX]
  ·rw[hsl];rfl
 rintro r H1 ⟨rfl,q⟩
 refine⟨fun κ _=>q κ,fun n hn=>(by cases hn),?_⟩
 generalize tot (zP p) (zP p).length=T at ht ⊢
 conv=>whnf
 refine hK _ ⟨1+4*(T:Int),by omega,⟨rfl,rfl,rfl,rfl,rfl,rfl,rfl,trivial⟩,⟨rfl,rfl,trivial⟩,trivial⟩
theorem lawSigns3 (p:ProgL) (b:Int) (V:List (List UInt8)) (hl:V.length≤401)
  (hL:∀ S,At (vD b V) [(.n 2,.vs 24 ((encProg p).map .d)),(.n 43,.ds 9 1 ((vH 1 V.length).map encStr))] [] S→AW EE Tryz.f4.ntmps (dropC 14 (Tryz.f4.body.getD .skip)) (sG EE Tryz.f4 (·=bv true)) S)
  {S:St} (hS:∃ k:Int,0≤k∧At (vC b V k) (vCo p V) [] S):AW EE Tryz.f4.ntmps (dropC 11 (Tryz.f4.body.getD .skip)) (sG EE Tryz.f4 (·=bv true)) S:=by
 refine dD 3 (At (vD b V) [(.n 2,.vs 24 ((encProg p).map .d)),(.n 43,.ds 9 1 ((vH 1 V.length).map encStr))] []) (fun K hK=>?_) hL
 obtain⟨k,hk,hS⟩:=hS
 obtain⟨τ,H,rfl⟩:=hS.form
 clear hS hL
 conv=>whnf
 refine kbi (fun h=>absurd h (by simp;omega)) (fun _=>?_)
 conv=>whnf
 refine .inl ⟨_,eqRw (by omega),?_⟩
 rintro r rfl
 refine⟨rfl,?_⟩
 conv=>whnf
 refine kbi (fun h=>absurd h (by simp)) (fun _=>?_)
 conv=>whnf
 refine .inr (.inl ⟨43,77,isK (.l 77),_,io_congr (tX V 1 (by omega) (by omega) (by omega) _ rfl) rfl,rfl,?_⟩)
 rintro r H1 ⟨rfl,e1,q⟩
 refine⟨q,fun n hn=>⟨.ds 9 1 (V.map encStr),?_,(vH 1 V.length).map encStr,?_,by simp[qH]⟩,?_⟩
 ·have:n=77:=Nat.eq_of_beq_eq_true hn
  subst this;rfl
 ·have:n=77:=Nat.eq_of_beq_eq_true hn
  subst this;exact e1
 conv=>whnf
 refine hK _ ⟨⟨rfl,rfl,rfl,rfl,rfl,rfl,trivial⟩,⟨rfl,?_,trivial⟩,trivial⟩
 show Option.map _ (H1 (.l 77))=_
 rw[e1];rfl
theorem lawSigns4 (p:ProgL) (hp:p.wf) (hv:p.flt) (b:Int) (h:SmC p) (hok:OkA p b)
  {S:St} (hS:At (vD b (xS p b).1) [(.n 2,.vs 24 ((encProg p).map .d)),(.n 43,.ds 9 1 ((vH 1 (xS p b).1.length).map encStr))] [] S):AW EE Tryz.f4.ntmps (dropC 14 (Tryz.f4.body.getD .skip)) (sG EE Tryz.f4 (·=bv true)) S:=by
 have cI:CallsTo EE 16 [agg (encProg p),i64 b] (·=.ownF 1 [.uq 9 1 ((xS p b).1.map encStr),bv true]):=by
  refine rX (dB p hp h.hs hv b) ?_
  rintro r (⟨hy,rfl⟩|⟨hy,rfl⟩)
  ·rfl
  ·exact absurd hok hy
 have hl:=tJ p b
 generalize (xS p b).1=V at *
 obtain⟨τ,H,rfl⟩:=hS.form
 clear hS
 have hh:CallsTo EE 20 [sl ((((vH 1 V.length).map encStr).drop 0).take V.length),i64 1] (·=i64 (1+(V.length:Int))):=by
  rw[List.drop_zero,List.take_of_length_le (by simp[qH])]
  exact bN 1 V.length (by omega) (by omega) (by omega)
 conv=>whnf
 refine .inl ⟨_,hh,?_⟩
 rintro r rfl
 refine⟨rfl,?_⟩
 conv=>whnf
 refine kbi (fun h=>absurd h (by simp;omega)) (fun _=>?_)
 conv=>whnf
 refine kbi (fun h=>absurd h (by simp)) (fun _=>?_)
 conv=>whnf
 refine⟨_,kY p h.hs,?_⟩
 rintro r rfl
 conv=>whnf
 refine⟨_,cI,?_⟩
 rintro r rfl
 conv=>whnf
 have heq2:CallsTo EE 17 [sl (((V.map encStr).drop 0).take (V.map encStr).length),sl (V.map encStr)] (·=bv true):=by
  rw[List.length_map];exact eqRw (by omega)
 refine .inl ⟨_,heq2,?_⟩
 rintro r rfl
 refine⟨rfl,?_⟩
 conv=>whnf
 refine kbi (fun h=>absurd h (by simp)) (fun _=>?_)
 conv=>whnf
 refine .inl ⟨_,hh,?_⟩
 rintro r rfl
 refine⟨rfl,?_⟩
 conv=>whnf
 refine kbi (fun h=>absurd h (by simp;omega)) (fun _=>?_)
 conv=>whnf
 refine kbi (fun h=>absurd h (by simp)) (fun _=>?_)
 conv=>whnf
theorem markX0 (m:Int):CallsTo EE 19 [sl [],i64 m] (·=i64 m):=by
 refine callsTo_of_AW (fn:=Tryz.f19) Tryz.func19 rfl (by kernel_rfl) rfl ?_
 conv=>whnf
 refine yV (fun k:Nat=>[(0,sl []),(1,i64 m),(5,i64 0)]) (fun k=>[]) (fun _=>0) (fun _=>True) 0 .refl ⟨rfl,rfl,rfl,trivial⟩ trivial trivial ?_
 intro k τ H hk
 conv=>whnf
 refine⟨fun h=>absurd h (by simp),fun _=>?_⟩
 conv=>whnf
theorem lawSignsF (p:ProgL) (hp:p.wf) (hv:p.flt) (b:Int) (h:SmC p) (hno:¬ OkA p b)
  {S:St} (hS:At (vF b) (vAo p) (lwF p) S):AW EE Tryz.f4.ntmps (dropC 7 (Tryz.f4.body.getD .skip)) (sG EE Tryz.f4 (·=bv true)) S:=by
 have cI:CallsTo EE 16 [agg (encProg p),i64 b] (·=.tup [sl [],bv false]):=by
  refine rX (dB p hp h.hs hv b) ?_
  rintro r (⟨hy,rfl⟩|⟨hy,rfl⟩)
  ·exact absurd hy hno
  ·rfl
 have heq:CallsTo EE 17 [sl [],sl []] (·=bv true):=nD [] (by simp)
 have hh:CallsTo EE 20 [sl [],i64 1] (·=i64 1):=bN 1 0 (by omega) (by omega) (by omega)
 obtain⟨τ,H,rfl⟩:=hS.form
 clear hS
 have hsl:(zP p).length=p.rs.length:=by simp[zP]
 have ht:=p5 h.hz
 conv=>whnf
 refine⟨_,heq,?_⟩
 rintro r rfl
 conv=>whnf
 refine kbi (fun h=>absurd h (by simp)) (fun _=>?_)
 conv=>whnf
 refine⟨by kernel_rfl,?_⟩
 conv=>whnf
 refine⟨_,kY p h.hs,?_⟩
 conv=>whnf
 refine⟨[agg (encProg p),agg (encProg p)],[],bv true,⟨_,_,rfl,⟨_,rfl,fz_own rfl (fun j=>rfl) rfl⟩,_,_,rfl,fz_progV p,rfl⟩,rfl,oF p h.hs,rfl,?_⟩
 conv=>whnf
 refine .inr (.inr (.inl ⟨_,18,[],Weak.refl,rfl,999,0,iP,(fun r H1=>r=i64 (1+4*tot (zP p) (zP p).length)∧∀ κ,H1 κ=none),?_,rfl,?_⟩))
 ·refine io_congr (rG p.cells p.locks p.conds (zP p) 1 (by rw[hsl];exact h.hs.1) (ops4 p) ht (by omega) (by omega) _ ?_ fun j=>?_) ?_
  ·show some (Ob.rs 99 1 (((wN (zP p) 0).map (renL (swp (.n 999) (.l 0)))).map (scrPL (fun o=>!iP o))))=_
   rw[gX _ (fun j=>rfl),vZ _ (fun j=>rfl)]
  ·show Option.map _ (Option.map _ (uY (zP p) 0 j))=_
   rw[qY,qX]
  ·rw[hsl];rfl
 rintro r H1 ⟨rfl,q⟩
 refine⟨fun κ _=>q κ,fun n hn=>(by cases hn),?_⟩
 generalize tot (zP p) (zP p).length=T at ht ⊢
 conv=>whnf
 refine kbi (fun h=>absurd h (by simp;omega)) (fun _=>?_)
 conv=>whnf
 refine⟨_,heq,?_⟩
 rintro r rfl
 conv=>whnf
 refine kbi (fun h=>absurd h (by simp)) (fun _=>?_)
 conv=>whnf
 refine⟨_,markX0 1,?_⟩
 rintro r rfl
 conv=>whnf
 refine⟨_,hh,?_⟩
 rintro r rfl
 conv=>whnf
 refine⟨fun h=>absurd h (by simp),fun _=>?_⟩
 conv=>whnf
 refine⟨fun h=>absurd h (by simp),fun _=>?_⟩
 conv=>whnf
 refine⟨_,kY p h.hs,?_⟩
 rintro r rfl
 conv=>whnf
 refine⟨_,cI,?_⟩
 rintro r rfl
 conv=>whnf
 refine⟨_,heq,?_⟩
 rintro r rfl
 conv=>whnf
 refine kbi (fun h=>absurd h (by simp)) (fun _=>?_)
 conv=>whnf
 refine⟨_,hh,?_⟩
 rintro r rfl
 conv=>whnf
 refine⟨fun h=>absurd h (by simp),fun _=>?_⟩
 conv=>whnf
 refine⟨fun h=>absurd h (by simp),fun _=>?_⟩
 conv=>whnf
theorem lawSigns (p:ProgL) (hp:p.wf) (hv:p.flt) (b:Int):CallsTo EE 4 [agg (encProg p),i64 b] (·=bv true):=by
 have hl:=tJ p b
 refine lawSigns1 p hp hv b (fun h hok S hS=>?_) (fun h hno S hS=>lawSignsF p hp hv b h hno hS)
 exact lawSigns2 p b h _ hl (fun S hS=>lawSigns3 p b _ hl (fun S hS=>lawSigns4 p hp hv b h hok hS) hS) hS
end Ai
