import Derived.Test.YtdnffjbcmimnnaaGreatZC
import Derived.Lib.SlicesCompact
import Derived.WalkKit
import Derived.ChangeArms
import Derived.Deep.Slices
import Derived.Shelf.Small.Bits
import Derived.Ground.NamesProg
import Derived.Test.YtdnffjbcmimnnaaGreatProg
set_option maxHeartbeats 8000000
set_option linter.unusedVariables false
set_option linter.unusedSimpArgs false
section
set_option maxRecDepth 100000
namespace Ai
open Go Go.Proofs Go.Shelf
theorem uq_of_owns {w w' : World} {A : Nat → Prop} {e : TypeId} {v : Value} {xs : List Int} (h : w'.ownsRow w.heap.size e 1 v xs.length (xs.map (Value.int .i64))) : cU w w' A (.uq e 1 (xs.map encInt)) v := by
 obtain ⟨h1,h2⟩ := h
 rcases h2 with ⟨rfl,h0⟩ | ⟨g,cap,cur,rfl,hg,hcur,hn,hm,hsz,ht⟩
 ·left
  have : xs = [] := List.eq_nil_of_length_eq_zero h0
  subst this
  exact ⟨rfl,rfl⟩
 ·right
  refine ⟨g,cap,cur,by simp,hg,hcur,by simpa using hn,hm,hsz,fun j c hj => ?_⟩
  rw [List.getElem?_map,Option.map_eq_some_iff] at hj
  obtain ⟨x,hx,rfl⟩ := hj
  refine ⟨rfl,fun i d hi => ?_⟩
  match i,hi with
  | 0,hi =>
   simp only [encInt,List.getElem?_cons_zero,Option.some.injEq] at hi
   subst hi
   have hjl : j < xs.length := (List.getElem?_eq_some_iff.1 hx).1
   refine ⟨.int .i64 x,?_,.int _ _⟩
   have h3 : (cur.toList.take (xs.length * 1))[j]? = some (Value.int .i64 x) := by rw [ht,List.getElem?_map,hx]; rfl
   rw [List.getElem?_take_of_lt (by omega)] at h3
   simpa using h3
  |i + 1,hi => simp [encInt] at hi
theorem iO {w : World} {A : Nat → Prop} {vs : Array Value} {xs : List Int} (hC : Calls Tryz.prog 115 vs w fun e w' => ∃ v',e = .returned v' ∧ w'.ownsRow w.heap.size 3 1 v' xs.length (xs.map (Value.int .i64)) ∧ v' ≠ .slice none 0 0 ∧ RowKit.Below w.heap.size w w') :
  Calls Tryz.prog 115 vs w fun e w'' => ∃ v,e = .returned v ∧ ∃ r,r = .uq 3 1 (xs.map encInt) ∧ RowKit.Below w.heap.size w w'' ∧ cU w w'' A r v := by
 refine Calls.mono hC ?_
 rintro e w' ⟨v,rfl,ho,_,hb⟩
 exact ⟨_,rfl,_,rfl,hb,uq_of_owns ho⟩
theorem Clone_ok (xs : List Int) (hx : xs.length ≤ 1048576) : CallsTo EE 115 [sl (xs.map encInt)] (· = .uq 3 1 (xs.map encInt)) := by
 intro w A vs hI hA
 obtain ⟨v,rfl,hv⟩ := one_arg hA
 cases hv with
 |d _ _ hd =>
  unfold Invokes
  rw [show Sem.run EE.P (callFunc 115 #[v]) w = _ from ent50 _ w]
  rcases row1 (d := D.int .i64) (xs := xs) hd with ⟨rfl,a,cap,rfl⟩ | ⟨b,off,cap,us,rfl,hok,hcap,hc⟩
  ·cases a with
   |none =>
    have hC := Any.slices_Clone_int_nil Tryz.laysClone 0 cap w
    refine Calls.mono (show Calls Tryz.prog 115 _ _ _ from hC) ?_
    rintro e w' ⟨rfl,rfl⟩
    exact ⟨_,rfl,_,rfl,RowKit.Below.refl _ _,.inl ⟨rfl,rfl⟩⟩
   |some ad =>
    have hC := Any.slices_Clone_int_zero Tryz.laysClone ad cap w
    exact iO (xs := []) hC
  ·have hcells : ∀ j,j < xs.length → w.cell? ⟨b,off + j,none⟩ = some (.int .i64 (xs.getD j 0)) := by
    intro j hj
    obtain ⟨g1,g2⟩ := hc j xs[j] (List.getElem?_eq_getElem hj)
    rw [g1,intInv g2]
    simp [List.getD_eq_getElem?_getD,List.getElem?_eq_getElem hj]
   have hC := Any.slices_Clone_int Tryz.laysClone b off xs.length cap xs w (Nat.le_refl _) (by omega) hcells
   rw [List.take_of_length_le (Nat.le_refl _)] at hC
   exact iO hC
end Ai
end
section
set_option maxRecDepth 100000
namespace Ai
open Go Go.Proofs Go.Shelf Go.Sort Go.RowKit
def sorted (zs : List Int) : List Int := zs.mergeSort fun x y => decide (x ≤ y)
end Ai
end
section
set_option maxRecDepth 100000
namespace Ai
open Go Go.Proofs
def PctL.goodI (s : PctL) : Prop := s.ranks.length = 5 ∧ (Lib.compact (sorted s.ranks)).length = 5 ∧ Rise (Lib.compact (sorted s.ranks)) 0 4 ∧ s.changes.length ≤ 4 ∧ Rise s.changes 0 199
end Ai
end
section
set_option maxRecDepth 100000
namespace Ai
open Go Go.Proofs
theorem indexOp_ok (xs : List OpL) (hx : xs.length ≤ 1048576) (g : FuncId) (c1 c2 : List D) (P : OpL → Prop) (hc : ∀ x ∈ xs,CallsTo EE g ([agg (encOp x)] ++ [.fp c1,.fp c2]) (· = bp (P x))) :
  CallsTo EE 211 [sl (xs.map encOp),.fn g [.fp c1,.fp c2]] (fun r => ∃ n : Int,r = i64 n ∧ (0 ≤ n ↔ ∃ x ∈ xs,P x)) := by
 refine callsTo_of_AW (fn := Tryz.f211) Tryz.func211 rfl (by kernel_rfl) rfl ?_
 conv => whnf
 refine xA (fun k : Nat => [(0,sl (xs.map encOp)),(1,.fn g [.fp c1,.fp c2]),(6,sl (xs.map encOp)),(7,i64 (xs.map encOp).length),(8,i64 k)]) (fun k => []) (fun k => xs.length - k) (fun k => k ≤ xs.length ∧ ∀ x ∈ xs.take k,¬ P x) 0 .refl ⟨rfl,rfl,rfl,rfl,rfl,trivial⟩ trivial ⟨Nat.zero_le _,kE⟩ ?_
 rintro k τ H ⟨hk,ih⟩
 conv => whnf
 refine kbi (fun h => ?_) (fun h => ?_)
 ·have hlt := xH h
  conv => whnf
  refine ⟨encOp xs[k],yB encOp hlt rfl,?_⟩
  conv => whnf
  refine ocase (hc _ (List.getElem_mem hlt)) (fun h1 => ?_) (fun h1 => ?_)
  ·conv => whnf
   exact ⟨_,rfl,fun _ => ⟨_,List.getElem_mem hlt,h1⟩,fun _ => by omega⟩
  ·conv => whnf
   exact ⟨k + 1,⟨by omega,qM ih hlt h1⟩,by show xs.length - (k + 1) < xs.length - k; omega,⟨rfl,rfl,rfl,rfl,next_i64 hlt (by omega),trivial⟩,trivial⟩
 ·have hge : xs.length ≤ k := by simpa using h
  have hall := kP ih hge
  conv => whnf
  exact ⟨_,rfl,fun h => absurd h (by decide),fun ⟨x,hx,hp⟩ => absurd hp (hall x hx)⟩
theorem aK (xs : List OpL) (hx : xs.length ≤ 1048576) (g : FuncId) (c1 c2 : List D) (P : OpL → Prop) (hc : ∀ x ∈ xs,CallsTo EE g ([agg (encOp x)] ++ [.fp c1,.fp c2]) (· = bp (P x))) :
  CallsTo EE 154 [sl (xs.map encOp),.fn g [.fp c1,.fp c2]] (· = bp (∃ x ∈ xs,P x)) := by
 refine callsTo_of_AW (fn := Tryz.f154) Tryz.func154 rfl (by kernel_rfl) rfl ?_
 conv => whnf
 refine ⟨_,indexOp_ok xs hx g c1 c2 P hc,?_⟩
 rintro r ⟨n,rfl,hn⟩
 conv => whnf
 refine kbi (fun h => ?_) (fun h => ?_)
 ·conv => whnf
  exact bpt (hn.1 (by simpa using h))
 ·conv => whnf
  exact bpf fun hm => h (by simpa using hn.2 hm)
theorem oY (p : ProgL) (hp : p.headS) (r : List OpL) (o : OpL) : CallsTo EE 155 ([agg (encOp o)] ++ [.fp (encProg p),.fp (zS r)]) (· = bp (¬ o.goodI p r.length)) := by
 refine callsTo_of_AW (fn := Tryz.f155) Tryz.func155 rfl (by kernel_rfl) rfl ?_
 conv => whnf
 have hop : CallsTo EE 156 [agg (encProg p),agg (encOp o),i64 (r.map encOp).length] (· = bp (o.goodI p r.length)) := by
  rw [List.length_map]
  exact isGood_ok p hp _ o
 refine ocase hop (fun h => ?_) (fun h => ?_)
 ·conv => whnf
  exact bpf fun hm => hm h
 ·conv => whnf
  exact bpt h
def ProgL.goodI (p : ProgL) : Prop := p.headS ∧ ∀ r ∈ p.rs,r.length ≤ 24 ∧ ∀ o ∈ r,o.goodI p r.length
theorem v7 (p : ProgL) (hs : p.rs.length ≤ 1048576 ∧ ∀ x ∈ p.rs,x.length ≤ 1048576) : CallsTo EE 84 [agg (encProg p)] (· = bp p.goodI) := by
 refine callsTo_of_AW (fn := Tryz.f84) Tryz.func84 rfl (by kernel_rfl) rfl ?_
 conv => whnf
 refine ocase (in_ok _ _ _) (fun h1 => ?_) (fun h1 => ?_)
 rotate_left
 ·conv => whnf
  exact bpf fun hm => h1 hm.1.1
 conv => whnf
 refine ocase (in_ok _ _ _) (fun h2 => ?_) (fun h2 => ?_)
 rotate_left
 ·conv => whnf
  exact bpf fun hm => h2 hm.1.2.1
 conv => whnf
 refine ocase (in_ok _ _ _) (fun h3 => ?_) (fun h3 => ?_)
 rotate_left
 ·conv => whnf
  exact bpf fun hm => h3 hm.1.2.2.1
 conv => whnf
 refine ocase (in_ok _ _ _) (fun h4 => ?_) (fun h4 => ?_)
 rotate_left
 ·conv => whnf
  exact bpf fun hm => h4 (by simpa using hm.1.2.2.2)
 have hh : p.headS := ⟨h1,h2,h3,by simpa using h4⟩
 conv => whnf
 refine xA (fun k : Nat => [(1,.ptr 1 0),(29,sl (p.rs.map zS)),(30,i64 (p.rs.map zS).length),(31,i64 k)]) (fun k => [(1,.vs 31 ((encProg p).map .d))]) (fun k => p.rs.length - k) (fun k => k ≤ p.rs.length ∧ ∀ r ∈ p.rs.take k,r.length ≤ 24 ∧ ∀ o ∈ r,o.goodI p r.length) 0 .refl ⟨rfl,rfl,rfl,rfl,trivial⟩ ⟨rfl,trivial⟩ ⟨Nat.zero_le _,kE⟩ ?_
 rintro k τ H ⟨hk,ih⟩
 conv => whnf
 refine kbi (fun h => ?_) (fun h => ?_)
 ·have hlt := xH h
  conv => whnf
  refine ⟨zS p.rs[k],yB zS hlt rfl,?_⟩
  conv => whnf
  have hrl := hs.2 _ (List.getElem_mem hlt)
  refine kbi (fun h5 => ?_) (fun h5 => ?_)
  ·conv => whnf
   refine bpf fun hm => ?_
   have := (hm.2 _ (List.getElem_mem hlt)).1
   simp at h5
   omega
  ·conv => whnf
   have hcf := aK p.rs[k] hrl 155 (encProg p) (zS p.rs[k]) (fun o => ¬ o.goodI p p.rs[k].length) (fun o _ => oY p hh p.rs[k] o)
   refine .inl (fcase hcf (fun h6 => ?_) (fun h6 => ?_))
   ·conv => whnf
    refine bpf fun hm => ?_
    obtain ⟨o,ho,hb⟩ := h6
    exact hb ((hm.2 _ (List.getElem_mem hlt)).2 o ho)
   ·conv => whnf
    simp at h5
    refine ⟨k + 1,⟨by omega,qM ih hlt ⟨by omega,fun o ho => ?_⟩⟩,by show p.rs.length - (k + 1) < p.rs.length - k; omega,⟨rfl,rfl,rfl,next_i64 hlt (by omega),trivial⟩,⟨rfl,trivial⟩⟩
    exact Classical.byContradiction fun hb => h6 ⟨o,ho,hb⟩
 ·have hge : p.rs.length ≤ k := by simpa using h
  conv => whnf
  exact bpt ⟨hh,kP ih hge⟩
end Ai
end
section
set_option maxRecDepth 100000
namespace Ai
open Go Go.Proofs
theorem op_same (p : ProgL) (hp : p.headS) (n : Nat) (hn : n ≤ 24) (o : OpL) : o.goodS p n ↔ o.goodI p n := by
 obtain ⟨a1,a2,a3,a4⟩ := hp
 unfold InR at a1 a2 a3 a4
 have hc : (0 < hJ o.code ↔ (dE o.code ∨ o.code = 16)) ∧ (1 < hJ o.code ↔ o.code = 16) := by
  unfold hJ dE
  split
  ·omega
  ·split <;> omega
 unfold OpL.goodS OpL.goodI OpL.plainS OpL.fitsI OpL.atS OpL.atI InR
 rw [hc.1,hc.2]
 unfold dE
 constructor
 ·rintro ⟨⟨b1,b2,b3,b4,b5,b6⟩,c1,c2,c3,c4,c5,c6⟩
  refine ⟨⟨b1,?_,b6,b4⟩,?_,?_,?_,?_,?_,?_⟩ <;> omega
 ·rintro ⟨⟨b1,b2,b3,b4⟩,c1,c2,c3,c4,c5,c6⟩
  refine ⟨⟨b1,?_,?_,b4,?_,b3⟩,?_,?_,?_,?_,?_,?_⟩ <;> omega
theorem eF (p : ProgL) : p.goodS ↔ p.goodI := by
 constructor
 ·rintro ⟨h1,h2⟩
  exact ⟨h1,fun r hr => ⟨(h2 r hr).2,fun o ho => (op_same p h1 _ (h2 r hr).2 o).1 ((h2 r hr).1 o ho)⟩⟩
 ·rintro ⟨h1,h2⟩
  exact ⟨h1,fun r hr => ⟨fun o ho => (op_same p h1 _ (h2 r hr).1 o).2 ((h2 r hr).2 o ho),(h2 r hr).1⟩⟩
theorem size_le {α : Type} (f : α → Nat) (xs : List α) (n : Nat) (h : fY f xs ≤ n) : xs.length ≤ n ∧ ∀ x ∈ xs,f x ≤ n := by
 unfold fY at h
 refine ⟨by omega,fun x hx => ?_⟩
 have : f x ≤ (xs.map f).sum := by
  clear h
  induction xs with
  |nil => cases hx
  |cons y ys ih =>
   simp only [List.map_cons,List.sum_cons]
   rcases List.mem_cons.1 hx with h1 | h1
   ·subst h1; omega
   ·have := ih h1; omega
 omega
end Ai
end
section
set_option maxRecDepth 100000
namespace Ai
open Go Go.Proofs Go.Deep
def Fits (w : World) (ds : List D) (cs : List Value) : Prop := ds.length = cs.length ∧ ∀ (i : Nat) (d : D) (u : Value),ds[i]? = some d → cs[i]? = some u → RepD w (fun b => b < w.heap.size ∧ True) d u
section
variable {H : Type} {enc' : TypeId × Value → H} {w : World} {sp : Nat → Bool} {held : Bool}
theorem list_of {α : Type} {p : Nat → α → Prop} : ∀ n,(∀ i,i < n → ∃ a,p i a) → ∃ xs : List α,xs.length = n ∧ ∀ (i : Nat) (a : α),xs[i]? = some a → p i a
 | 0,_ => ⟨[],rfl,by simp⟩
 |n + 1,h => by
  obtain ⟨xs,hl,hx⟩ := list_of n fun i hi => h i (by omega)
  obtain ⟨a,ha⟩ := h n (by omega)
  refine ⟨xs ++ [a],by simp [hl],fun i b hb => ?_⟩
  rcases Nat.lt_or_ge i n with h1 | h1
  ·rw [List.getElem?_append_left (by omega)] at hb
   exact hx i b hb
  ·rw [List.getElem?_append_right (by omega)] at hb
   have : i = n := by
    have := (List.getElem?_eq_some_iff.1 hb).1
    simp at this
    omega
   subst this
   rw [hl,Nat.sub_self] at hb
   simp at hb
   subst hb
   exact ha
theorem spot_none {a : Addr} {v : Value} (h : w.cell? a = some v) : a = ⟨a.block,a.off,none⟩ := by
 obtain ⟨b,off,s⟩ := a
 cases s with
 |none => rfl
 |some s =>
  simp only [World.cell?] at h
  split at h <;> simp at h
theorem i4 (b off k : Nat) : (⟨b,off,none⟩ : Addr).add k = ⟨b,off + k,none⟩ := by
 unfold Addr.add
 split
 ·rename_i h; subst h; rfl
 ·rfl
theorem f5 {α : Type} {t e : TypeId} (ht : Tryz.prog.underlying t = some (.slice e)) (sz : Nat) (hsz : Tryz.prog.cellsOf e = sz) (h0 : 0 < sz) (enc : α → List D) (wf : α → Prop)
  (hel : ∀ n cs x,DataW.trod enc' Tryz.prog w 0 sp held n e cs = some x → ∃ a,wf a ∧ Fits w (enc a) cs) {fuel : Nat} {cs : List Value} {x : DataW H × List MemPlace}
  (h : DataW.trod enc' Tryz.prog w 0 sp held fuel t cs = some x) : ∃ xs : List α,(∀ a ∈ xs,wf a) ∧ xs.length ≤ 9223372036854775807 ∧ Fits w [.sl (xs.map enc)] cs := by
 rcases open_slice ht h with ⟨rfl,_⟩ | ⟨a,len,cap,m,n,Dd,Pl,rfl,hb,hl,hm,hmm,hx,hall⟩
 ·refine ⟨[],by simp,by simp,rfl,fun i d u hd hu => ?_⟩
  match i,hd,hu with
  | 0,hd,hu => simp at hd hu; subst hd; subst hu; exact .sl0 _ _
  |i + 1,hd,hu => simp at hd
 ·have hlm : len ≤ m := by rw [hmm]; split <;> omega
  obtain ⟨xs,hxl,hxs⟩ := list_of (α := α) (p := fun i y => wf y ∧ ∃ cs',w.cells? 0 (a.add (i * sz)) sz = some cs' ∧ Fits w (enc y) cs') len fun i hi => by
   obtain ⟨cs',h1,h2⟩ := hall i (by omega)
   obtain ⟨y,hy1,hy2⟩ := hel _ _ _ h2
   rw [hsz] at h1
   exact ⟨y,hy1,cs',h1,hy2⟩
  have hmx : maxLen = 9223372036854775807 := rfl
  refine ⟨xs,fun y hy => ?_,by omega,rfl,fun i d u hd hu => ?_⟩
  ·obtain ⟨i,hi⟩ := List.getElem?_of_mem hy
   exact (hxs i y hi).1
  match i,hd,hu with
  |i + 1,hd,hu => simp at hd
  | 0,hd,hu =>
   simp at hd hu
   subst hd; subst hu
   cases xs with
   |nil =>
    simp at hxl
    subst hxl
    exact .sl0 _ _
   |cons y0 ys =>
    have hA : a = ⟨a.block,a.off,none⟩ := by
     obtain ⟨_,cs',hc,hf1,hf2⟩ := hxs 0 y0 rfl
     obtain ⟨_,hcl,hcc⟩ := World.cells?_some hc
     have h9 := hcc 0 h0
     have h10 : cs'[0]? = some cs'[0] := List.getElem?_eq_getElem (by omega)
     rw [h10] at h9
     have e : (a.add (0 * sz)).add 0 = a := by simp [Addr.add]
     rw [e] at h9
     exact spot_none h9
    obtain ⟨b,off,spt⟩ := a
    have hsp : spt = none := by simpa using hA
    subst hsp
    clear hA
    have cellAt : ∀ (j : Nat) (y : α),(y0 :: ys)[j]? = some y → (enc y).length = sz ∧ ∀ (q : Nat) (d : D),(enc y)[q]? = some d → ∃ u,w.cell? ⟨b,off + (j * sz + q),none⟩ = some u ∧ RepD w (fun b => b < w.heap.size ∧ True) d u := by
     intro j y hj
     obtain ⟨_,cs',hc,hf1,hf2⟩ := hxs j y hj
     obtain ⟨_,hcl,hcc⟩ := World.cells?_some hc
     refine ⟨by omega,fun q d hq => ?_⟩
     have hql : q < sz := by have := (List.getElem?_eq_some_iff.1 hq).1; omega
     have hq2 : cs'[q]? = some cs'[q] := List.getElem?_eq_getElem (by omega)
     have h9 := hcc q hql
     rw [i4,i4,hq2,Nat.add_assoc] at h9
     exact ⟨cs'[q],h9,hf2 q d _ hq hq2⟩
    have hlt : b < w.heap.size := by
     obtain ⟨g1,g2⟩ := cellAt 0 y0 rfl
     have h00 : 0 < (enc y0).length := by omega
     obtain ⟨u,hu,_⟩ := g2 0 _ (List.getElem?_eq_getElem h00)
     exact rowLt hu
    have := RepD.sl (w := w) (ok := fun b => b < w.heap.size ∧ True) ((y0 :: ys).map enc) sz b off cap (fun q => (w.cell? ⟨b,off + q,none⟩).getD undef) ⟨hlt,trivial⟩ (by rw [List.length_map,hxl]; exact hl)
     (fun j c hj => by
      rw [List.getElem?_map,Option.map_eq_some_iff] at hj
      obtain ⟨y,hy,rfl⟩ := hj
      obtain ⟨g1,g2⟩ := cellAt j y hy
      refine ⟨g1,fun q d hq => ?_⟩
      obtain ⟨u,hu,_⟩ := g2 q d hq
      rw [hu]; rfl)
     (fun j c hj q d hq => by
      rw [List.getElem?_map,Option.map_eq_some_iff] at hj
      obtain ⟨y,hy,rfl⟩ := hj
      obtain ⟨g1,g2⟩ := cellAt j y hy
      obtain ⟨u,hu,hr⟩ := g2 q d hq
      rw [hu]; exact hr)
    rw [List.length_map,hxl] at this
    exact this
theorem rd_int {n : Nat} {cs : List Value} {x : DataW H × List MemPlace} (h : DataW.trod enc' Tryz.prog w 0 sp held n 3 cs = some x) : ∃ k : Int,Fits w [di k] cs := by
 obtain ⟨k,rfl,_,_⟩ := DataW.trod_int Tryz.underlying3 h
 refine ⟨k,rfl,fun i d u hd hu => ?_⟩
 match i,hd,hu with
 | 0,hd,hu => simp at hd hu; subst hd; subst hu; exact .int _ _
 |i + 1,hd,hu => simp at hd
theorem rd_flt {n : Nat} {cs : List Value} {x : DataW H × List MemPlace} (h : DataW.trod enc' Tryz.prog w 0 sp held n 132 cs = some x) : ∃ v : Nat,v < 18446744073709551616 ∧ Fits w [.flt v] cs := by
 cases n with
 |zero => simp [DataW.trod] at h
 |succ n =>
  unfold DataW.trod at h
  rw [Tryz.underlying132] at h
  split at h <;> simp_all
  rename_i kk b e2
  obtain ⟨⟨e1,hb⟩,_⟩ := h
  subst e2
  have hb0 : (Lit.float FloatKind.f64 b).wf = true := hb
  refine ⟨canon b,?_,rfl,fun i d u hd hu => ?_⟩
  ·have hb2 : b < 18446744073709551616 := by simpa [Lit.wf] using hb0
   unfold canon nanC
   cases zQ b <;> simp <;> omega
  match i,hd,hu with
  | 0,hd,hu => simp at hd hu; subst hd; subst hu; exact .flt _
  |i + 1,hd,hu => simp at hd
theorem fits_app {ds ds2 : List D} {cs : List Value} {k : Nat} (h1 : Fits w ds (cs.take k)) (hk : ds.length = k) (h2 : Fits w ds2 (cs.drop k)) (hc : k ≤ cs.length) : Fits w (ds ++ ds2) cs := by
 refine ⟨by have := h2.1; simp at this ⊢; omega,fun i d u hd hu => ?_⟩
 rcases Nat.lt_or_ge i k with h | h
 ·rw [List.getElem?_append_left (by omega)] at hd
  exact h1.2 i d u hd (by rw [List.getElem?_take_of_lt h]; exact hu)
 ·rw [List.getElem?_append_right (by omega)] at hd
  exact h2.2 (i - k) d u (by rw [hk] at hd; exact hd) (by rw [List.getElem?_drop]; rw [show k + (i - k) = i by omega]; exact hu)
theorem uF {d : D} {ds : List D} {cs : List Value} {k : Nat} (h1 : Fits w [d] ((cs.drop k).take 1)) (h2 : Fits w ds (cs.drop (k + 1))) : Fits w (d :: ds) (cs.drop k) := by
 have hl : 1 ≤ (cs.drop k).length := by
  have := h1.1
  simp at this ⊢
  omega
 refine fits_app (ds := [d]) (k := 1) h1 rfl ?_ hl
 rw [List.drop_drop]
 exact h2
theorem p8 {cs : List Value} {k : Nat} (h : cs.length = k) : Fits w [] (cs.drop k) := ⟨by simp [h],by simp⟩
def OpL.fl (o : OpL) : Prop := o.v < 18446744073709551616
theorem rd_op {n : Nat} {cs : List Value} {x : DataW H × List MemPlace} (h : DataW.trod enc' Tryz.prog w 0 sp held n 228 cs = some x) : ∃ o : OpL,o.fl ∧ Fits w (encOp o) cs := by
 obtain ⟨xs,m,_,_,hcl,hxl,hf⟩ := DataW.trod_struct Tryz.underlying228 h
 have c3 : Tryz.prog.cellsOf 3 = 1 := by kernel_rfl
 have c105 : Tryz.prog.cellsOf 132 = 1 := by kernel_rfl
 have c151 : Tryz.prog.cellsOf 228 = 4 := by kernel_rfl
 have hxl4 : xs.length = 4 := hxl
 have g0 : DataW.trod enc' Tryz.prog w 0 sp held m 3 ((cs.drop 0).take (Tryz.prog.cellsOf 3)) = xs[0]? := hf 0 _ rfl
 have g1 : DataW.trod enc' Tryz.prog w 0 sp held m 3 ((cs.drop 1).take (Tryz.prog.cellsOf 3)) = xs[1]? := hf 1 _ rfl
 have g2 : DataW.trod enc' Tryz.prog w 0 sp held m 3 ((cs.drop 2).take (Tryz.prog.cellsOf 3)) = xs[2]? := hf 2 _ rfl
 have g3 : DataW.trod enc' Tryz.prog w 0 sp held m 132 ((cs.drop 3).take (Tryz.prog.cellsOf 132)) = xs[3]? := hf 3 _ rfl
 simp only [c3,c105] at g0 g1 g2 g3
 rw [List.getElem?_eq_getElem (by omega)] at g0 g1 g2 g3
 obtain ⟨k0,f0⟩ := rd_int g0
 obtain ⟨k1,f1⟩ := rd_int g1
 obtain ⟨k2,f2⟩ := rd_int g2
 obtain ⟨v,hv,f3⟩ := rd_flt g3
 exact ⟨⟨k0,k1,k2,v⟩,hv,uF (k := 0) f0 (uF (k := 1) f1 (uF (k := 2) f2 (uF (k := 3) f3 (p8 (by omega)))))⟩
theorem c3 : Tryz.prog.cellsOf 3 = 1 := by kernel_rfl
theorem rd_row {n : Nat} {cs : List Value} {x : DataW H × List MemPlace} (h : DataW.trod enc' Tryz.prog w 0 sp held n 155 cs = some x) : ∃ l : List OpL,(l.length ≤ 9223372036854775807 ∧ ∀ o ∈ l,o.fl) ∧ Fits w (zS l) cs := by
 obtain ⟨xs,hw,hl,hf⟩ := f5 (α := OpL) Tryz.underlying155 4 (by kernel_rfl) (by omega) encOp OpL.fl (fun n cs x h => rd_op h) h
 exact ⟨xs,⟨hl,hw⟩,hf⟩
theorem rd_rows {n : Nat} {cs : List Value} {x : DataW H × List MemPlace} (h : DataW.trod enc' Tryz.prog w 0 sp held n 22 cs = some x) : ∃ l : List (List OpL),(l.length ≤ 9223372036854775807 ∧ ∀ r ∈ l,r.length ≤ 9223372036854775807 ∧ ∀ o ∈ r,o.fl) ∧ Fits w [.sl (l.map zS)] cs := by
 obtain ⟨xs,hw,hl,hf⟩ := f5 (α := List OpL) Tryz.underlying22 1 (by kernel_rfl) (by omega) zS (fun r => r.length ≤ 9223372036854775807 ∧ ∀ o ∈ r,o.fl) (fun n cs x h => rd_row h) h
 exact ⟨xs,⟨hl,hw⟩,hf⟩
theorem rd_prog {n : Nat} {cs : List Value} {x : DataW H × List MemPlace} (h : DataW.trod enc' Tryz.prog w 0 sp held n 24 cs = some x) : ∃ p : ProgL,(p.wf ∧ p.flt) ∧ Fits w (encProg p) cs := by
 obtain ⟨xs,m,_,_,hcl,hxl,hf⟩ := DataW.trod_struct Tryz.underlying24 h
 have c22 : Tryz.prog.cellsOf 22 = 1 := by kernel_rfl
 have c24 : Tryz.prog.cellsOf 24 = 4 := by kernel_rfl
 have hxl4 : xs.length = 4 := hxl
 have g0 : DataW.trod enc' Tryz.prog w 0 sp held m 3 ((cs.drop 0).take (Tryz.prog.cellsOf 3)) = xs[0]? := hf 0 _ rfl
 have g1 : DataW.trod enc' Tryz.prog w 0 sp held m 3 ((cs.drop 1).take (Tryz.prog.cellsOf 3)) = xs[1]? := hf 1 _ rfl
 have g2 : DataW.trod enc' Tryz.prog w 0 sp held m 3 ((cs.drop 2).take (Tryz.prog.cellsOf 3)) = xs[2]? := hf 2 _ rfl
 have g3 : DataW.trod enc' Tryz.prog w 0 sp held m 22 ((cs.drop 3).take (Tryz.prog.cellsOf 22)) = xs[3]? := hf 3 _ rfl
 simp only [c3,c22] at g0 g1 g2 g3
 rw [List.getElem?_eq_getElem (by omega)] at g0 g1 g2 g3
 obtain ⟨k0,f0⟩ := rd_int g0
 obtain ⟨k1,f1⟩ := rd_int g1
 obtain ⟨k2,f2⟩ := rd_int g2
 obtain ⟨v,⟨hv1,hv2⟩,f3⟩ := rd_rows g3
 exact ⟨⟨k0,k1,k2,v⟩,⟨⟨hv1,fun r hr => (hv2 r hr).1⟩,fun r hr => (hv2 r hr).2⟩,uF (k := 0) f0 (uF (k := 1) f1 (uF (k := 2) f2 (uF (k := 3) f3 (p8 (by omega)))))⟩
end
end Ai
end
section
namespace Ai
open Go Go.Proofs
def LexLt (x y : List Int) : Prop := ∃ (pre : List Int) (a b : Int) (s t : List Int),x = pre ++ a :: s ∧ y = pre ++ b :: t ∧ a < b
def bO : List Int → List Int → Int
 | [],[] => 0
 | [],_ :: _ => -1
 | _ :: _,[] => 1
 |a :: x,b :: y => if a < b then -1 else if b < a then 1 else bO x y
theorem cmpL_lex {x y : List Int} (h : LexLt x y) : bO x y = -1 ∧ bO y x = 1 := by
 obtain ⟨pre,a,b,s,t,rfl,rfl,hab⟩ := h
 induction pre with
 |nil =>
  refine ⟨?_,?_⟩
  ·show (if a < b then (-1 : Int) else _) = -1
   rw [if_pos hab]
  ·show (if b < a then (-1 : Int) else if a < b then 1 else _) = 1
   rw [if_neg (by omega),if_pos hab]
 |cons c pre ih =>
  refine ⟨?_,?_⟩
  ·show (if c < c then (-1 : Int) else if c < c then 1 else bO _ _) = -1
   rw [if_neg (by omega),if_neg (by omega)]; exact ih.1
  ·show (if c < c then (-1 : Int) else if c < c then 1 else bO _ _) = 1
   rw [if_neg (by omega),if_neg (by omega)]; exact ih.2
def nX (l : List (List Int)) : Prop := l.Pairwise LexLt
theorem rise_lt {l : List (List Int)} (h : nX l) {i j : Nat} (hij : i < j) (hj : j < l.length) : LexLt (l[i]'(by omega)) l[j] := List.pairwise_iff_getElem.1 h i j (by omega) hj hij
theorem rise_cmp {l : List (List Int)} (h : nX l) {i j : Nat} (hij : i < j) (hj : j < l.length) : bO (l.getD i []) (l.getD j []) = -1 ∧ bO (l.getD j []) (l.getD i []) = 1 := by
 have e1 : l.getD i [] = l[i]'(by omega) := by simp [List.getD_eq_getElem?_getD,(by omega : i < l.length)]
 have e2 : l.getD j [] = l[j] := by simp [List.getD_eq_getElem?_getD,hj]
 rw [e1,e2]
 exact cmpL_lex (rise_lt h hij hj)
end Ai
end
section
set_option maxRecDepth 100000
namespace Ai
open Go Go.Proofs
theorem cK {N : Nat} {body : (AX → St → Prop) → St → Prop} {Q : AX → St → Prop} {s : St} (h : body (fW (fun _ => False) Q) s) : ALoop EE N body Q s := by
 unfold ALoop
 intro R hR
 exact hR s s (fun _ => False) Weak.refl h (fun t ht => ht.elim)
def wB (x : List Int) : List D := [.sl (x.map encInt)]
theorem eW (n : Int) : CallsTo EE 244 [i64 n] (· = bv false) := by
 refine callsTo_of_AW (fn := Tryz.f244) Tryz.func244 rfl (by kernel_rfl) rfl ?_
 conv => whnf
 refine kbi (fun h => absurd h (by simp)) (fun _ => ?_)
 conv => whnf
 try rfl
def rK (a b : Int) : Int := if a < b then -1 else if b < a then 1 else 0
theorem cmpN_ok (a b : Int) : CallsTo EE 188 [i64 a,i64 b] (· = i64 (rK a b)) := by
 refine callsTo_of_AW (fn := Tryz.f188) Tryz.func188 rfl (by kernel_rfl) rfl ?_
 conv => whnf
 refine ⟨_,eW a,?_⟩
 rintro r rfl
 conv => whnf
 refine ⟨_,eW b,?_⟩
 rintro r rfl
 conv => whnf
 refine kbi (fun h => ?_) (fun h => ?_)
 ·have h : a < b := of_decide_eq_true h
  conv => whnf
  show _ = i64 (rK a b)
  rw [rK,if_pos h]
 ·have h : ¬ a < b := fun e => h (decide_eq_true e)
  conv => whnf
  refine kbi (fun h2 => ?_) (fun h2 => ?_)
  ·have h2 : b < a := of_decide_eq_true h2
   conv => whnf
   show _ = i64 (rK a b)
   rw [rK,if_neg h,if_pos h2]
  ·have h2 : ¬ b < a := fun e => h2 (decide_eq_true e)
   conv => whnf
   show _ = i64 (rK a b)
   rw [rK,if_neg h,if_neg h2]
theorem cmpL_cons (a b : Int) (x y : List Int) : bO (a :: x) (b :: y) = if rK a b ≠ 0 then rK a b else bO x y := by
 show (if a < b then (-1 : Int) else if b < a then 1 else bO x y) = _
 unfold rK
 by_cases h1 : a < b
 ·simp [h1]
 ·by_cases h2 : b < a
  ·simp [h1,h2]
  ·simp [h1,h2]
theorem Compare_ok (x y : List Int) (hx : x.length ≤ 1048576) (hy : y.length ≤ 1048576) : CallsTo EE 117 [sl (x.map encInt),sl (y.map encInt)] (· = i64 (bO x y)) := by
 refine callsTo_of_AW (fn := Tryz.f117) Tryz.func117 rfl (by kernel_rfl) rfl ?_
 conv => whnf
 refine xA (fun k : Nat => [(0,sl (x.map encInt)),(1,sl (y.map encInt)),(9,sl (x.map encInt)),(10,i64 (x.map encInt).length),(11,i64 k)]) (fun k => []) (fun k => x.length - k) (fun k => k ≤ x.length ∧ k ≤ y.length ∧ bO x y = bO (x.drop k) (y.drop k)) 0 .refl
  ⟨rfl,rfl,rfl,rfl,rfl,trivial⟩ trivial ⟨Nat.zero_le _,Nat.zero_le _,by simp⟩ ?_
 rintro k τ H ⟨hk,hk2,he⟩
 have hk : k ≤ x.length := hk
 have hk2 : k ≤ y.length := hk2
 conv => whnf
 refine kbi (fun h => ?_) (fun h => ?_)
 ·have hlt : k < x.length := by simpa using h
  conv => whnf
  refine ⟨encInt x[k],yB encInt hlt rfl,?_⟩
  conv => whnf
  refine kbi (fun h2 => ?_) (fun h2 => ?_)
  ·have h2 : k = y.length := by simp at h2; omega
   conv => whnf
   show _ = i64 (bO x y)
   have e0 : y.drop k = [] := List.drop_of_length_le (by omega)
   rw [he,List.drop_eq_getElem_cons hlt,e0]
   rfl
  ·have h2 : k < y.length := by simp at h2; omega
   conv => whnf
   refine ⟨encInt y[k],yB encInt h2 rfl,?_⟩
   conv => whnf
   refine ⟨_,cmpN_ok _ _,?_⟩
   rintro r rfl
   conv => whnf
   rw [List.drop_eq_getElem_cons hlt,List.drop_eq_getElem_cons h2,cmpL_cons] at he
   refine kbi (fun h3 => ?_) (fun h3 => ?_)
   ·have h3 : rK x[k] y[k] ≠ 0 := by simpa using h3
    conv => whnf
    show _ = i64 (bO x y)
    rw [he,if_pos h3]
   ·have h3 : rK x[k] y[k] = 0 := by simpa using h3
    conv => whnf
    refine ⟨k + 1,⟨hlt,h2,by rw [he,if_neg (by simpa using h3)]⟩,by show x.length - (k + 1) < x.length - k; omega,⟨rfl,rfl,rfl,rfl,next_i64 hlt (by omega),trivial⟩,trivial⟩
 ·have hge : k = x.length := by simp at h; omega
  conv => whnf
  refine kbi (fun h2 => ?_) (fun h2 => ?_)
  ·have h2 : x.length < y.length := by simpa using h2
   conv => whnf
   show _ = i64 (bO x y)
   rw [he,List.drop_of_length_le (by omega),List.drop_eq_getElem_cons (by omega : k < y.length)]
   rfl
  ·have h2 : ¬ x.length < y.length := by simpa using h2
   conv => whnf
   show _ = i64 (bO x y)
   rw [he,List.drop_of_length_le (by omega),List.drop_of_length_le (by omega)]
   rfl
structure RowsUp (l : List (List Int)) : Prop where
 up : nX l
 len : l.length ≤ 1048576
 row : ∀ x ∈ l,x.length ≤ 1048576
theorem iK {l : List (List Int)} {i : Int} (h0 : 0 ≤ i) (h1 : i < l.length) : 0 ≤ i ∧ (l.map wB)[i.toNat]? = some (wB (l.getD i.toNat [])) ∧ (wB (l.getD i.toNat [])).length = 1 := by
 refine ⟨h0,?_,rfl⟩
 have : i.toNat < l.length := by omega
 simp [List.getD_eq_getElem?_getD,this]
theorem cmp_up {l : List (List Int)} (h : RowsUp l) {i j : Int} (h0 : 0 ≤ i) (hij : i < j) (h1 : j < l.length) : CallsTo EE 117 [sl ((l.getD j.toNat []).map encInt),sl ((l.getD i.toNat []).map encInt)] (· = i64 1) := by
 have hi : i.toNat < l.length := by omega
 have hj : j.toNat < l.length := by omega
 have hc := (rise_cmp h.up (i := i.toNat) (j := j.toNat) (by omega) hj).2
 have e1 : l.getD i.toNat [] = l[i.toNat] := by simp [List.getD_eq_getElem?_getD,hi]
 have e2 : l.getD j.toNat [] = l[j.toNat] := by simp [List.getD_eq_getElem?_getD,hj]
 rw [← hc]
 exact Compare_ok _ _ (by rw [e2]; exact h.row _ (List.getElem_mem hj)) (by rw [e1]; exact h.row _ (List.getElem_mem hi))
end Ai
end
section
set_option maxRecDepth 100000
namespace Ai
open Go Go.Proofs
abbrev cD : AV := .fn 117 []
theorem w64 {n : Int} (h1 : -1048577 ≤ n) (h2 : n ≤ 10485760) : IntKind.i64.wrap n = n := zH (by omega) (by omega)
theorem oT {l : List (List Int)} (h : RowsUp l) (b : Nat) (hb : b ≤ l.length) : CallsTo EE 234 [sl (l.map wB),i64 0,i64 b,cD] (· = .tup []) := by
 have hl := h.len
 refine callsTo_of_AW (fn := Tryz.f234) Tryz.func234 rfl (by kernel_rfl) rfl ?_
 conv => whnf
 refine xA (fun i : Nat => [(0,sl (l.map wB)),(1,i64 0),(2,i64 b),(3,cD),(8,i64 i)]) (fun i => []) (fun i => b + 1 - i) (fun i => 1 ≤ i ∧ (b = 0 ∨ i ≤ b)) 1 .refl
  ⟨rfl,rfl,rfl,rfl,rfl,trivial⟩ trivial ⟨Nat.le_refl _,by omega⟩ ?_
 rintro i τ H ⟨h1,hib⟩
 have h1 : 1 ≤ i := h1
 have hib : b = 0 ∨ i ≤ b := hib
 conv => whnf
 refine kbi (fun hh => ?_) (fun hh => ?_)
 ·have hlt : i < b := by simpa using hh
  conv => whnf
  refine cK ?_
  conv => whnf
  refine ⟨by kernel_rfl,?_⟩
  conv => whnf
  refine kbi (fun h2 => ?_) (fun h2 => ?_)
  ·conv => whnf
   refine ⟨_,iK (i := (i : Int)) (by omega) (by omega),?_⟩
   conv => whnf
   have hw : IntKind.i64.wrap ((i : Int) - 1) = (i : Int) - 1 := w64 (by omega) (by omega)
   refine ⟨_,iK (l := l) (i := IntKind.i64.wrap ((i : Int) - 1)) (by omega) (by omega),?_⟩
   conv => whnf
   refine ⟨_,cmp_up h (i := IntKind.i64.wrap ((i : Int) - 1)) (j := (i : Int)) (by omega) (by omega) (by omega),?_⟩
   conv => whnf
   refine kbi (fun h3 => absurd h3 (by decide)) (fun _ => ?_)
   conv => whnf
   refine ⟨i + 1,⟨by show 1 ≤ i + 1; omega,by show b = 0 ∨ i + 1 ≤ b; omega⟩,by show b + 1 - (i + 1) < b + 1 - i; omega,⟨rfl,rfl,rfl,rfl,next_i64 hlt (by omega),trivial⟩,trivial⟩
  ·exact absurd (show (i : Int) > 0 by omega) (by simpa using h2)
 ·conv => whnf
  try rfl
theorem partial_ok {l : List (List Int)} (h : RowsUp l) (h0 : 1 ≤ l.length) : CallsTo EE 239 [sl (l.map wB),i64 0,i64 l.length,cD] (· = bv true) := by
 have hl := h.len
 refine callsTo_of_AW (fn := Tryz.f239) Tryz.func239 rfl (by kernel_rfl) rfl ?_
 conv => whnf
 refine cK ?_
 conv => whnf
 refine kbi (fun _ => ?_) (fun h2 => absurd (by decide) h2)
 conv => whnf
 refine xA (fun i : Nat => [(0,sl (l.map wB)),(1,i64 0),(2,i64 l.length),(3,cD),(9,i64 i),(10,i64 0)]) (fun i => []) (fun i => l.length - i) (fun i => 1 ≤ i ∧ i ≤ l.length) 1 .refl
  ⟨rfl,rfl,rfl,rfl,rfl,rfl,trivial⟩ trivial ⟨Nat.le_refl _,h0⟩ ?_
 rintro i τ H ⟨h1,hib⟩
 have h1 : 1 ≤ i := h1
 have hib : i ≤ l.length := hib
 conv => whnf
 refine ⟨by kernel_rfl,?_⟩
 conv => whnf
 refine kbi (fun h2 => ?_) (fun h2 => ?_)
 ·have hlt : i < l.length := by simpa using h2
  conv => whnf
  refine ⟨_,iK (i := (i : Int)) (by omega) (by omega),?_⟩
  conv => whnf
  have hw : IntKind.i64.wrap ((i : Int) - 1) = (i : Int) - 1 := w64 (by omega) (by omega)
  refine ⟨_,iK (l := l) (i := IntKind.i64.wrap ((i : Int) - 1)) (by omega) (by omega),?_⟩
  conv => whnf
  refine ⟨_,cmp_up h (i := IntKind.i64.wrap ((i : Int) - 1)) (j := (i : Int)) (by omega) (by omega) (by omega),?_⟩
  conv => whnf
  refine kbi (fun h3 => absurd h3 (by decide)) (fun _ => ?_)
  conv => whnf
  refine ⟨i + 1,⟨by show 1 ≤ i + 1; omega,by show i + 1 ≤ l.length; omega⟩,by show l.length - (i + 1) < l.length - i; omega,⟨rfl,rfl,rfl,rfl,next_i64 hlt (by omega),rfl,trivial⟩,trivial⟩
 ·have hge : i = l.length := by simp at h2; omega
  conv => whnf
  refine kbi (fun _ => ?_) (fun h3 => absurd (by simp [hge]) h3)
  conv => whnf
  try rfl
theorem nB {l : List (List Int)} (h : RowsUp l) (a b : Int) (h0 : 0 ≤ a) (hab : a < b) (hb : b < l.length) (c : D) : CallsTo EE 297 [sl (l.map wB),i64 a,i64 b,.fp [c],cD] (· = .tup [i64 a,i64 b]) := by
 refine callsTo_of_AW (fn := Tryz.f297) Tryz.func297 rfl (by kernel_rfl) rfl ?_
 conv => whnf
 refine ⟨by kernel_rfl,?_⟩
 conv => whnf
 refine ⟨_,iK (i := b) (by omega) (by omega),?_⟩
 conv => whnf
 refine ⟨_,iK (i := a) (by omega) (by omega),?_⟩
 conv => whnf
 refine ⟨_,cmp_up h (i := a) (j := b) (by omega) (by omega) (by omega),?_⟩
 conv => whnf
 refine kbi (fun h3 => absurd h3 (by decide)) (fun _ => ?_)
 conv => whnf
 try rfl
theorem nE {l : List (List Int)} (h : RowsUp l) (a b c : Int) (h0 : 0 ≤ a) (hab : a < b) (hbc : b < c) (hb : c < l.length) (d : D) : CallsTo EE 270 [sl (l.map wB),i64 a,i64 b,i64 c,.fp [d],cD] (· = i64 b) := by
 refine callsTo_of_AW (fn := Tryz.f270) Tryz.func270 rfl (by kernel_rfl) rfl ?_
 conv => whnf
 refine ⟨_,nB h a b h0 hab (by omega) d,?_⟩
 rintro r rfl
 conv => whnf
 refine ⟨_,nB h b c (by omega) hbc (by omega) d,?_⟩
 rintro r rfl
 conv => whnf
 refine ⟨_,nB h a b h0 hab (by omega) d,?_⟩
 rintro r rfl
 conv => whnf
 try rfl
theorem nF {l : List (List Int)} (h : RowsUp l) (a : Int) (h0 : 1 ≤ a) (hb : a + 1 < l.length) (d : D) : CallsTo EE 269 [sl (l.map wB),i64 a,.fp [d],cD] (· = i64 a) := by
 have hl := h.len
 refine callsTo_of_AW (fn := Tryz.f269) Tryz.func269 rfl (by kernel_rfl) rfl ?_
 have e1 : IntKind.i64.wrap (a - 1) = a - 1 := w64 (by omega) (by omega)
 have e2 : IntKind.i64.wrap (a + 1) = a + 1 := w64 (by omega) (by omega)
 conv => whnf
 refine ⟨_,nE h (IntKind.i64.wrap (a - 1)) a (IntKind.i64.wrap (a + 1)) (by omega) (by omega) (by omega) (by omega) d,?_⟩
 rintro r rfl
 conv => whnf
 try rfl
end Ai
end
section
set_option maxRecDepth 100000
namespace Ai
open Go Go.Proofs
theorem sV (n : Nat) (q : Int) (hn : n ≤ 1048576) (hq : 0 ≤ q ∧ q ≤ 3) : IntKind.i64.wrap (0 + IntKind.i64.wrap (IntKind.i64.wrap ((IntKind.i64.wrap ((n : Int) - 0)).tdiv 4) * q)) = ((n / 4 : Nat) : Int) * q := by
 have e1 : IntKind.i64.wrap ((n : Int) - 0) = n := by rw [zH (by omega) (by omega)]; omega
 have e2 : (n : Int).tdiv 4 = ((n / 4 : Nat) : Int) := by
  rw [Int.tdiv_eq_ediv_of_nonneg (by omega)]; omega
 have e3 : ((n / 4 : Nat) : Int) * q ≤ 1048576 * 3 ∧ 0 ≤ ((n / 4 : Nat) : Int) * q := by
  obtain ⟨h0,h3⟩ := hq
  have hm : ((n / 4 : Nat) : Int) ≤ 1048576 := by omega
  have hm0 : 0 ≤ ((n / 4 : Nat) : Int) := by omega
  constructor
  ·exact Int.mul_le_mul hm h3 h0 (by omega)
  ·exact Int.mul_nonneg hm0 h0
 rw [e1,e2,zH (n := ((n / 4 : Nat) : Int)) (by omega) (by omega),zH (n := ((n / 4 : Nat) : Int) * q) (by omega) (by omega),zH (by omega) (by omega)]
 omega
theorem pivot_ok {l : List (List Int)} (h : RowsUp l) (h13 : 13 ≤ l.length) : CallsTo EE 237 [sl (l.map wB),i64 0,i64 l.length,cD] (fun r => ∃ j : Int,r = .tup [i64 j,i64 1]) := by
 have hl := h.len
 refine callsTo_of_AW (fn := Tryz.f237) Tryz.func237 rfl (by kernel_rfl) rfl ?_
 have p1 := sV l.length 1 hl (by omega)
 have p2 := sV l.length 2 hl (by omega)
 have p3 := sV l.length 3 hl (by omega)
 generalize hd : l.length / 4 = d at p1 p2 p3
 conv => whnf
 refine ⟨by decide,?_⟩
 conv => whnf
 refine ⟨by decide,?_⟩
 conv => whnf
 refine ⟨by decide,?_⟩
 conv => whnf
 have hw : IntKind.i64.wrap ((l.length : Int) - 0) = l.length := by rw [zH (by omega) (by omega)]; omega
 refine kbi (fun _ => ?_) (fun h2 => absurd (by show decide (IntKind.i64.wrap ((l.length : Int) - 0) ≥ 8) = true; rw [hw]; exact decide_eq_true (by omega)) h2)
 conv => whnf
 refine kbi (fun _ => ?_) (fun _ => ?_)
 ·conv => whnf
  refine .inl ⟨_,nF h _ (by rw [p1]; omega) (by rw [p1]; omega) _,?_⟩
  rintro r rfl
  refine ⟨rfl,?_⟩
  conv => whnf
  refine .inl ⟨_,nF h _ (by rw [p2]; omega) (by rw [p2]; omega) _,?_⟩
  rintro r rfl
  refine ⟨rfl,?_⟩
  conv => whnf
  refine .inl ⟨_,nF h _ (by rw [p3]; omega) (by rw [p3]; omega) _,?_⟩
  rintro r rfl
  refine ⟨rfl,?_⟩
  conv => whnf
  refine .inl ⟨_,nE h _ _ _ (by rw [p1]; omega) (by rw [p1,p2]; omega) (by rw [p2,p3]; omega) (by rw [p3]; omega) _,?_⟩
  rintro r rfl
  refine ⟨rfl,?_⟩
  conv => whnf
  refine kbi (fun _ => ?_) (fun h2 => absurd (by rfl) h2)
  conv => whnf
  exact ⟨_,rfl⟩
 ·conv => whnf
  refine .inl ⟨_,nE h _ _ _ (by rw [p1]; omega) (by rw [p1,p2]; omega) (by rw [p2,p3]; omega) (by rw [p3]; omega) _,?_⟩
  rintro r rfl
  refine ⟨rfl,?_⟩
  conv => whnf
  refine kbi (fun _ => ?_) (fun h2 => absurd (by rfl) h2)
  conv => whnf
  exact ⟨_,rfl⟩
theorem pdq_ok {l : List (List Int)} (h : RowsUp l) (lim : Int) (h0 : 13 ≤ l.length → lim ≠ 0) : CallsTo EE 186 [sl (l.map wB),i64 0,i64 l.length,i64 lim,cD] (· = .tup []) := by
 have hl := h.len
 refine callsTo_of_AW (fn := Tryz.f186) Tryz.func186 rfl (by kernel_rfl) rfl ?_
 have hw : IntKind.i64.wrap ((l.length : Int) - 0) = l.length := by rw [zH (by omega) (by omega)]; omega
 conv => whnf
 refine cK ?_
 conv => whnf
 refine kbi (fun h2 => ?_) (fun h2 => ?_)
 ·conv => whnf
  refine ⟨_,oT h l.length (Nat.le_refl _),?_⟩
  rintro r rfl
  conv => whnf
  try rfl
 ·have h13 : 13 ≤ l.length := by
   have h2 : ¬ IntKind.i64.wrap ((l.length : Int) - 0) ≤ 12 := fun e => h2 (decide_eq_true e)
   rw [hw] at h2
   omega
  conv => whnf
  refine kbi (fun h3 => absurd h3 (by simpa using h0 h13)) (fun _ => ?_)
  conv => whnf
  refine ⟨_,pivot_ok h h13,?_⟩
  rintro r ⟨j,rfl⟩
  conv => whnf
  refine kbi (fun h3 => absurd h3 (by decide)) (fun _ => ?_)
  conv => whnf
  refine kbi (fun _ => ?_) (fun h3 => absurd (by rfl) h3)
  conv => whnf
  refine ⟨_,partial_ok h (by omega),?_⟩
  rintro r rfl
  conv => whnf
  try rfl
end Ai
end
section
namespace Go.Proofs
open Go.Shelf
def Tryz.laysLen_ren : Go.Shelf.Ren := ⟨fun | 125 => 187 | 128 => 242 | 129 => 243 | n => n,fun | 46 => 231 | 3 => 3 | 51 => 273 | 53 => 275 | 4 => 4 | 5 => 5 | 9 => 9 | n => n,fun | n => n⟩
theorem Tryz.laysLen : Go.Proofs.Lays.n125 Tryz.prog Tryz.laysLen_ren := {
 mixed := by kernel_rfl
 f125 := Tryz.func187.trans (congrArg some (by kernel_rfl))
 f128 := Tryz.func242.trans (congrArg some (by kernel_rfl))
 f129 := Tryz.func243.trans (congrArg some (by kernel_rfl))
 t3 := Tryz.underlying3
 a3 := Tryz.isAgg3
 z3 := Tryz.sizeOf3
 v3 := Tryz.zeroValue3
 t4 := Tryz.underlying4
 a4 := Tryz.isAgg4
 z4 := Tryz.sizeOf4
 v4 := Tryz.zeroValue4
 t5 := Tryz.underlying5
 a5 := Tryz.isAgg5
 z5 := Tryz.sizeOf5
 v5 := Tryz.zeroValue5
 t9 := Tryz.underlying9
 a9 := Tryz.isAgg9
 z9 := Tryz.sizeOf9
 v9 := Tryz.zeroValue9
 t46 := Tryz.underlying231
 a46 := Tryz.isAgg231
 z46 := Tryz.sizeOf231
 v46 := Tryz.zeroValue231
 t51 := Tryz.underlying273
 a51 := Tryz.isAgg273
 z51 := Tryz.sizeOf273
 v51 := Tryz.zeroValue273
 t53 := Tryz.underlying275
 a53 := Tryz.isAgg275
 z53 := Tryz.sizeOf275
 v53 := Tryz.zeroValue275 }
end Go.Proofs
end
section
set_option maxRecDepth 100000
namespace Ai
open Go Go.Proofs
theorem ent187 : ∀ args w,(callFunc 187 args).run Tryz.prog w = .ok (.enter 187 args) w := enters_of Tryz.func187 (by kernel_rfl) rfl
theorem Len_ok (n : Int) (h0 : 0 ≤ n) (h1 : n ≤ 1048576) : CallsTo EE 187 [.d (.int .u64 n)] (fun r => ∃ k : Int,r = i64 k ∧ (n ≠ 0 → k ≠ 0)) := by
 intro w A vs hI hA
 obtain ⟨hl,hr⟩ := hA
 have h1' : vs.size = 1 := hl.symm
 obtain ⟨v,rfl⟩ : ∃ v,vs = #[v] := ⟨vs[0],by
  apply Array.ext (by simp [h1'])
  intro i h2 h3
  simp at h3
  subst h3; rfl⟩
 have g0 := hr 0 _ v rfl rfl
 cases g0 with
 |d _ _ hd =>
  cases hd with
  |int =>
   unfold Invokes
   rw [show Sem.run EE.P (callFunc 187 #[.int .u64 n]) w = _ from ent187 _ w]
   refine Calls.mono (show Calls Tryz.prog 187 _ _ _ from Any.bits_Len Tryz.laysLen n w (by omega) (by omega)) ?_
   rintro e w' ⟨rfl,rfl⟩
   refine ⟨_,rfl,_,⟨_,rfl,?_⟩,RowKit.Below.refl _ _,.d _ _ (.int _ _)⟩
   intro hn
   rw [Lib.bitLen_half n.toNat (by omega) (by omega)]
   omega
theorem SortFunc_ok {l : List (List Int)} (h : RowsUp l) : CallsTo EE 116 [sl (l.map wB),cD] (· = .tup []) := by
 have hl := h.len
 have wu : IntKind.u64.wrap ((l.map wB).length : Int) = l.length := by
  rw [List.length_map]
  have : ∀ n : Int,0 ≤ n → n ≤ 1048576 → IntKind.u64.wrap n = n := fun n h1 h2 => by
   simp [IntKind.wrap,IntKind.bits,IntKind.signed]; omega
  exact this _ (by omega) (by omega)
 refine callsTo_of_AW (fn := Tryz.f116) Tryz.func116 rfl (by kernel_rfl) rfl ?_
 conv => whnf
 refine ⟨_,Len_ok (IntKind.u64.wrap ((l.map wB).length : Int)) ?_ ?_,?_⟩
 ·rw [wu]; omega
 ·rw [wu]; omega
 rintro r ⟨k,rfl,hk⟩
 conv => whnf
 have hp := pdq_ok h k (fun h13 => hk (by rw [wu]; omega))
 have e0 : l.length = (l.map wB).length := by simp
 rw [e0] at hp
 refine ⟨_,hp,?_⟩
 rintro r rfl
 conv => whnf
 try rfl
end Ai
end
section
set_option maxRecDepth 100000
namespace Ai
open Go Go.Proofs
structure Th where
 rt : Int
 pc : Int
 st : Int
 cond : Int
 lock : Int
 stack : List Nat
structure StL where
 ths : List Th
 cells : List Nat
 owner : List Int
 fault : Int
structure Ev where
 th : Int
 kind : Int
 obj : Int
 lock : Int
 pc : Int
def encF (x : Nat) : List D := [.flt x]
def zE (t : Th) : List D := [di t.rt,di t.pc,di t.st,di t.cond,di t.lock,.sl (t.stack.map encF)]
def bM (t : Th) : List D := [di t.rt,di t.pc,di t.st,di t.cond,di t.lock,.nil]
def stk (t : Th) : List (List D) := t.stack.map encF
def encSt (s : StL) : List D := [.sl (s.ths.map zE),.sl (s.cells.map encF),.sl (s.owner.map encInt),di s.fault]
def encEv (e : Ev) : List D := [di e.th,di e.kind,di e.obj,di e.lock,di e.pc]
def kI (s : StL) : List AV := [.uqd 175 6 5 132 1 (s.ths.map bM) (s.ths.map stk),.uq 132 1 (s.cells.map encF),.uq 3 1 (s.owner.map encInt),.d (di s.fault)]
def thRows (o : Nat) (l : List Th) : List (List AV) := ownRows o 5 (l.map bM) (l.map stk)
def thRow (o j : Nat) (t : Th) : List AV := [i64 t.rt,i64 t.pc,i64 t.st,i64 t.cond,i64 t.lock,.ref (.s o j) 0 t.stack.length]
theorem xJ {o : Nat} {l : List Th} {j : Nat} (h : j < l.length) : (thRows o l)[j]? = some (thRow o j l[j]) := by
 simp only [thRows,ownRows,List.getElem?_mapIdx,List.getElem?_map,List.getElem?_eq_getElem h,Option.map_some,Option.some.injEq,List.getD_eq_getElem?_getD,Option.getD_some]
 simp [thRow,bM,stk]
theorem zU {o : Nat} {l : List Th} : (thRows o l).length = l.length := by simp [thRows,ownRows]
theorem zZ {p : Key → Bool} {o j : Nat} {t : Th} (h : p (.s o j) = false) : scrPL p (thRow o j t) = thRow o j t := by
 simp [thRow,scrPL,scrP,h]
theorem yG {p : Key → Bool} {o : Nat} {l : List Th} (h : ∀ j,j < l.length → p (.s o j) = false) : (thRows o l).map (scrPL p) = thRows o l := by
 apply List.ext_getElem?
 intro j
 rw [List.getElem?_map]
 by_cases hj : j < l.length
 ·rw [xJ hj]
  simp only [Option.map_some]
  rw [zZ (h j hj)]
 ·rw [List.getElem?_eq_none (by rw [zU]; omega)]
  rfl
theorem qT (o k : Nat) (l : List Th) : (thRows o l).map (scrPL (isK (.n k))) = thRows o l := yG fun _ _ => rfl
theorem aT {a o j i : Nat} {t : Th} (h : i ≠ j) : renL (swp (.n a) (.s o j)) (thRow o i t) = thRow o i t := by
 have e : swp (.n a) (.s o j) (.s o i) = .s o i := by
  simp [swp,Key.beq,nbeq_ne h]
 simp [thRow,renL,ren,e]
theorem dU {a o j : Nat} {l : List Th} (h : l.length ≤ j) : (thRows o l).map (renL (swp (.n a) (.s o j))) = thRows o l := by
 apply List.ext_getElem?
 intro i
 rw [List.getElem?_map]
 by_cases hj : i < l.length
 ·rw [xJ hj]
  simp only [Option.map_some]
  rw [aT (by omega)]
 ·rw [List.getElem?_eq_none (by rw [zU]; omega)]
  rfl
theorem kF (a b o : Nat) (l : List Th) : (thRows o l).map (renL (swp (.n a) (.n b))) = thRows o l := by
 apply List.ext_getElem?
 intro i
 rw [List.getElem?_map]
 by_cases hj : i < l.length
 ·rw [xJ hj]
  rfl
 ·rw [List.getElem?_eq_none (by rw [zU]; omega)]
  rfl
theorem pD (o : Nat) (l : List Th) (t : Th) : thRows o (l ++ [t]) = thRows o l ++ [thRow o l.length t] := by
 apply List.ext_getElem?
 intro i
 rcases Nat.lt_trichotomy i l.length with h | h | h
 ·rw [List.getElem?_append_left (by rw [zU]; exact h),xJ h,xJ (l := l ++ [t]) (by simp; omega)]
  simp [List.getElem_append_left h]
 ·subst h
  rw [List.getElem?_append_right (by rw [zU]; omega),xJ (l := l ++ [t]) (by simp)]
  simp [zU]
 ·rw [List.getElem?_eq_none (by rw [zU]; simp; omega),List.getElem?_eq_none (by simp [zU]; omega)]
theorem bW {α : Type} (xs : List α) (k : Nat) (h : k < xs.length) : xs.take (k + 1) = xs.take k ++ [xs[k]] := by
 rw [List.take_add_one,List.getElem?_eq_getElem h]; rfl
theorem j2 (l : List Th) (k a : Nat) (h : k < l.length) (n : Nat) (hn : n = l[k].stack.length) :
  ((((thRows 900 (l.take k)).take k ++ [[i64 l[k].rt,i64 l[k].pc,i64 l[k].st,i64 l[k].cond,i64 l[k].lock,AV.ref (.n a) 0 n]]).map (scrPL (isK (.n 900)))).map (renL (swp (.n a) (.s 900 k)))) = thRows 900 (l.take (k + 1)) ∨ a = 900 := by
 by_cases ha : a = 900
 ·exact .inr ha
 left
 have hl : (l.take k).length = k := by simp; omega
 rw [List.take_of_length_le (by rw [zU]; omega),List.map_append,List.map_append,qT 900 900,dU (by omega),bW l k h,pD,hl]
 congr 1
 have e1 : isK (.n 900) (.n a) = false := by
  show Nat.beq a 900 = false
  exact nbeq_ne ha
 have e2 : swp (.n a) (.s 900 k) (.n a) = .s 900 k := by simp [swp,zD]
 simp [scrPL,scrP,e1,renL,ren,e2,thRow,hn]
def zV (l : List Th) (j : Nat) : Option Ob := (l[j]?).map fun t => .ds 132 1 (stk t)
theorem yI (p : Key → Bool) (l : List Th) (j : Nat) : (zV l j).map (scrPO p) = zV l j := by
 unfold zV; cases l[j]? <;> rfl
theorem thFam_ren (f : Key → Key) (l : List Th) (j : Nat) : (zV l j).map (renO f) = zV l j := by
 unfold zV; cases l[j]? <;> rfl
theorem sJ {l : List Th} {k j : Nat} (h : j ≠ k) : zV (l.take k) j = zV (l.take (k + 1)) j := by
 unfold zV
 rw [List.getElem?_take,List.getElem?_take]
 by_cases h1 : j < k
 ·rw [if_pos h1,if_pos (by omega)]
 ·rw [if_neg h1,if_neg (by omega)]
end Ai
end
section
set_option maxRecDepth 100000
namespace Ai
open Go Go.Proofs
theorem gQ (xs : List Nat) (hx : xs.length ≤ 1048576) : CallsTo EE 193 [sl (xs.map encF)] (· = .uq 132 1 (xs.map encF)) := by
 refine callsTo_of_AW (fn := Tryz.f193) Tryz.func193 rfl (by kernel_rfl) rfl ?_
 conv => whnf
 refine ⟨fun h => ?_,?_⟩
 ·have : xs = [] := by simpa using h
  subst this
  conv => whnf
  exact .inr ⟨132,1,rfl⟩
 ·conv => whnf
  refine ⟨⟨by simp [encF],by simp; omega,by simp; omega⟩,?_⟩
  conv => whnf
  exact congrArg (AV.uq 132 1) (by simp [List.take_of_length_le])
theorem CloneI_ok (xs : List Int) (hx : xs.length ≤ 1048576) : CallsTo EE 115 [sl (xs.map encInt)] (· = .uq 3 1 (xs.map encInt)) := by
 refine callsTo_of_AW (fn := Tryz.f115) Tryz.func115 rfl (by kernel_rfl) rfl ?_
 conv => whnf
 refine ⟨fun h => ?_,?_⟩
 ·have : xs = [] := by simpa using h
  subst this
  conv => whnf
  exact .inr ⟨3,1,rfl⟩
 ·conv => whnf
  refine ⟨⟨by simp [encInt],by simp; omega,by simp; omega⟩,?_⟩
  conv => whnf
  exact congrArg (AV.uq 3 1) (by simp [List.take_of_length_le])
theorem CloneT_ok (xs : List Th) (hx : xs.length ≤ 1048576) : CallsTo EE 194 [sl (xs.map zE)] (· = .uq 175 6 (xs.map zE)) := by
 refine callsTo_of_AW (fn := Tryz.f194) Tryz.func194 rfl (by kernel_rfl) rfl ?_
 conv => whnf
 refine ⟨fun h => ?_,?_⟩
 ·have : xs = [] := by simpa using h
  subst this
  conv => whnf
  exact .inr ⟨175,6,rfl⟩
 ·conv => whnf
  refine ⟨⟨by simp [zE],by simp; omega,by simp; omega⟩,?_⟩
  conv => whnf
  exact congrArg (AV.uq 175 6) (by simp [List.take_of_length_le])
theorem CloneE_ok (xs : List Ev) (hx : xs.length ≤ 1048576) : CallsTo EE 125 [sl (xs.map encEv)] (· = .uq 128 5 (xs.map encEv)) := by
 refine callsTo_of_AW (fn := Tryz.f125) Tryz.func125 rfl (by kernel_rfl) rfl ?_
 conv => whnf
 refine ⟨fun h => ?_,?_⟩
 ·have : xs = [] := by simpa using h
  subst this
  conv => whnf
  exact .inr ⟨128,5,rfl⟩
 ·conv => whnf
  refine ⟨⟨by simp [encEv],by simp; omega,by simp; omega⟩,?_⟩
  conv => whnf
  exact congrArg (AV.uq 128 5) (by simp [List.take_of_length_le])
theorem l1Own_ok (xs : List Int) (hx : xs.length ≤ 1048576) : CallsTo EE 152 [sl (xs.map encInt)] (· = .uq 3 1 (xs.map encInt)) := by
 refine callsTo_of_AW (fn := Tryz.f152) Tryz.func152 rfl (by kernel_rfl) rfl ?_
 conv => whnf
 refine ⟨⟨by simp [encInt],by simp; omega,by simp; omega⟩,?_⟩
 conv => whnf
 exact congrArg (AV.uq 3 1) (by simp [List.take_of_length_le])
theorem dN (r : Int) : CallsTo EE 163 [i64 r] (· = agg [di r,di 0,di 1,di (-1),di (-1),.sl []]) := by
 refine callsTo_of_AW (fn := Tryz.f163) Tryz.func163 rfl (by kernel_rfl) rfl ?_
 conv => whnf
 rfl
theorem kQ (r : Int) : CallsTo EE 129 [i64 r] (· = .own [i64 r,i64 0,i64 1,i64 (-1),i64 (-1),.uq 132 1 []]) := by
 refine callsTo_of_AW (fn := Tryz.f129) Tryz.func129 rfl (by kernel_rfl) rfl ?_
 conv => whnf
 refine .inr (.inr ⟨_,_,vP 4 905,rfl,?_,?_,rfl⟩)
 ·intro v hv
  simp only [List.mem_cons,List.not_mem_nil,or_false] at hv
  rcases hv with rfl | rfl | rfl | rfl | rfl | rfl <;> trivial
 ·exact mY ⟨trivial,trivial,trivial,trivial,trivial,rfl,trivial⟩
end Ai
end
section
set_option maxRecDepth 100000
namespace Ai
open Go Go.Proofs
def StL.small (s : StL) : Prop := s.ths.length ≤ 1048576 ∧ (∀ t ∈ s.ths,t.stack.length ≤ 1048576) ∧ s.cells.length ≤ 1048576 ∧ s.owner.length ≤ 1048576
theorem lY (s : StL) (hs : s.small) : CallsTo EE 165 [agg (encSt s)] (· = .own (kI s)) := by
 obtain ⟨s1,s2,s3,s4⟩ := hs
 refine callsTo_of_AW (fn := Tryz.f165) Tryz.func165 rfl (by kernel_rfl) rfl ?_
 conv => whnf
 refine .inr (.inl ⟨12,[],?_⟩)
 conv => whnf
 refine ⟨⟨by simp [encF],by simp; omega,by simp; omega⟩,?_⟩
 conv => whnf
 refine ⟨_,l1Own_ok s.owner s4,.inr ⟨_,rfl,?_⟩⟩
 conv => whnf
 refine ⟨by kernel_rfl,?_⟩
 conv => whnf
 refine aloopF (fun k : Nat => [(1,.ptr 1 0),(2,.ptr 2 0),(3,.ptr 3 0),(17,sl (s.ths.map zE)),(18,i64 (s.ths.map zE).length),(19,i64 k)])
  (fun k => [(2,.vs 54 [.d .nil,.d .nil,.d .nil,i64 0]),(3,.vs 54 [.dref 900 k,.ref 6 0 (0 + (s.cells.map encF).length),.ref 12 0 (s.owner.map encInt).length,i64 s.fault]),(6,.ds 132 1 (s.cells.map encF)),(12,.ds 3 1 (s.owner.map encInt)),(900,.rs 175 6 (thRows 900 (s.ths.take k)))])
  (fun k => [(900,zV (s.ths.take k))]) (fun k => s.ths.length - k) (fun k => k ≤ s.ths.length) 0 (uZ 3 900 54 175 6 0 _ (by intro n h; cases h) (by intro h; cases h) rfl rfl) ?_ ?_ ?_ (Nat.zero_le _) ?_
 ·exact ⟨rfl,rfl,rfl,rfl,rfl,rfl,trivial⟩
 ·exact ⟨rfl,rfl,rfl,rfl,rfl,trivial⟩
 ·refine ⟨fun j => ?_,trivial⟩
  simp [zV]
  rfl
 rintro k τ H hk
 conv => whnf
 refine kbi (fun h => ?_) (fun h => ?_)
 ·have hlt := xH h
  conv => whnf
  refine ⟨zE s.ths[k],yB zE hlt rfl,?_⟩
  conv => whnf
  refine ⟨⟨by simp [encF],by simp; have := s2 _ (List.getElem_mem hlt); omega,by simp; have := s2 _ (List.getElem_mem hlt); omega⟩,?_⟩
  conv => whnf
  refine .inr ?_
  conv => whnf
  refine ⟨⟨fun c hc => ?_,?_,?_⟩,?_⟩
  ·have hc : c ∈ [[i64 s.ths[k].rt,i64 s.ths[k].pc,i64 s.ths[k].st,i64 s.ths[k].cond,i64 s.ths[k].lock,AV.ref (.n 23) 0 (0 + (List.map encF s.ths[k].stack).length)]] := hc
   simp only [List.mem_singleton] at hc
   subst hc; rfl
  ·show (k + 1) * 64 ≤ _
   omega
  ·show k + 1 ≤ _
   omega
  conv => whnf
  refine ⟨k + 1,_,vK 23 900 k,by omega,by show s.ths.length - (k + 1) < s.ths.length - k; omega,⟨rfl,rfl,rfl,rfl,rfl,next_i64 hlt (by omega),trivial⟩,⟨rfl,rfl,rfl,rfl,?_,trivial⟩,⟨fun j => ?_,trivial⟩⟩
  ·show some (Ob.rs 175 6 ((((((((thRows 900 (s.ths.take k)).map (scrPL (isK (.n 5)))).map (scrPL (isK (.n 23)))).map (scrPL (isK (.n 23)))).map (scrPL (isK (.n 31)))).take k ++ [[i64 s.ths[k].rt,i64 s.ths[k].pc,i64 s.ths[k].st,i64 s.ths[k].cond,i64 s.ths[k].lock,AV.ref (.n 23) 0 (0 + (List.map encF s.ths[k].stack).length)]]).map (scrPL (isK (.n 900)))).map (renL (swp (.n 23) (.s 900 k))))) = _
   rw [qT,qT,qT,qT]
   rw [(j2 s.ths k 23 hlt _ (by simp)).resolve_right (by omega)]
  ·have hl : (s.ths.take k).length = k := by simp; omega
   by_cases hj : j = k
   ·subst hj
    have e : swp (.n 23) (.s 900 j) (.s 900 j) = .n 23 := by simp [swp,Key.beq]
    show (St.H _ (swp (.n 23) (.s 900 j) (.s 900 j))).map _ = _
    rw [e]
    show some (Ob.ds 132 ti132.sz (List.take 0 [] ++ List.map encF s.ths[j].stack)) = _
    rw [zV,bW s.ths j hlt,List.getElem?_append_right (by omega),hl]
    simp [stk]
   ·have e : swp (.n 23) (.s 900 k) (.s 900 j) = .s 900 j := by simp [swp,Key.beq,nbeq_ne hj]
    show (St.H _ (swp (.n 23) (.s 900 k) (.s 900 j))).map _ = _
    rw [e]
    show ((((((zV (s.ths.take k) j).map (scrPO (isK (.n 5)))).map (scrPO (isK (.n 23)))).map (scrPO (isK (.n 23)))).map (scrPO (isK (.n 31)))).map (scrPO (isK (.n 900)))).map (renO _) = _
    rw [yI,yI,yI,yI,yI,thFam_ren]
    exact sJ hj
 ·have hge : s.ths.length ≤ k := by simpa using h
  have hkk : k = s.ths.length := by omega
  subst hkk
  conv => whnf
  refine .inr (.inr ⟨kI s,_,(vP 6 901).trans (vP 12 902),?_,?_,mY ⟨⟨?_,fun j q hq => ?_⟩,rfl,rfl,trivial,trivial⟩,rfl⟩)
  ·show some [AV.agg [.dref 900 s.ths.length,.ref 901 0 (0 + (List.map encF s.cells).length),.ref 902 0 (List.map encInt s.owner).length,i64 s.fault]] = _
   simp [ownR,ownR1,kI,kD]
   exact ⟨rfl,rfl,rfl⟩
  ·intro v hv
   simp only [kI,List.mem_cons,List.not_mem_nil,or_false] at hv
   rcases hv with rfl | rfl | rfl | rfl
   ·show (s.ths.map bM).length = (s.ths.map stk).length
    simp
   ·trivial
   ·trivial
   ·trivial
  ·show some (Ob.rs 175 6 (((thRows 900 (s.ths.take s.ths.length)).map (renL (swp (.n 6) (.n 901)))).map (renL (swp (.n 12) (.n 902))))) = some (Ob.rs 175 6 (thRows 900 s.ths))
   rw [kF,kF,List.take_length]
  ·show ((zV (s.ths.take s.ths.length) j).map (renO _)).map (renO _) = _
   rw [thFam_ren,thFam_ren,List.take_length,zV]
   rw [List.getElem?_map] at hq
   obtain ⟨t,ht,rfl⟩ := Option.map_eq_some_iff.1 hq
   rw [ht]; rfl
end Ai
end
section
set_option maxRecDepth 100000
namespace Ai
open Go Go.Proofs
def oneF : Nat := 4607182418800017408
def yQ (x : Nat) (many : Int) : Option Int :=
 if (1 ≤ many ∧ many ≤ 1000) ∧ fcmp .lss x 0 = false ∧ fcmp .lss x (FloatKind.f64.nearest many) = true then
  (match floatToIntVal .f64 x .i64 with
  |some n => if fcmp .eql (FloatKind.f64.nearest n) x = true then some n else none
  |none => none)
 else none
def zA (c : Int) : Int × Int :=
 if c = 1 ∨ c = 2 ∨ c = 14 then (0,1) else if c = 3 ∨ c = 11 ∨ c = 15 then (1,0) else if 4 ≤ c ∧ c ≤ 9 then (2,1) else (0,0)
theorem tK (c : Int) : CallsTo EE 215 [i64 c] (· = .tup [i64 (zA c).1,i64 (zA c).2]) := by
 refine callsTo_of_AW (fn := Tryz.f215) Tryz.func215 rfl (by kernel_rfl) rfl ?_
 have go1 : (c = 1 ∨ c = 2 ∨ c = 14) → zA c = (0,1) := fun h => by simp [zA,h]
 have go2 : ¬ (c = 1 ∨ c = 2 ∨ c = 14) → (c = 3 ∨ c = 11 ∨ c = 15) → zA c = (1,0) := fun h1 h => by simp [zA,h1,h]
 conv => whnf
 refine kbi (fun h1 => ?_) (fun h1 => ?_)
 ·have : c = 1 := by simpa using h1
  conv => whnf
  rw [go1 (.inl this)]
 conv => whnf
 refine kbi (fun h2 => ?_) (fun h2 => ?_)
 ·have : c = 2 := by simpa using h2
  conv => whnf
  rw [go1 (.inr (.inl this))]
 conv => whnf
 refine kbi (fun h3 => ?_) (fun h3 => ?_)
 ·have : c = 14 := by simpa using h3
  conv => whnf
  rw [go1 (.inr (.inr this))]
 have hn : ¬ (c = 1 ∨ c = 2 ∨ c = 14) := by simp at h1 h2 h3; omega
 conv => whnf
 refine kbi (fun g1 => ?_) (fun g1 => ?_)
 ·have : c = 3 := by simpa using g1
  conv => whnf
  rw [go2 hn (.inl this)]
 conv => whnf
 refine kbi (fun g2 => ?_) (fun g2 => ?_)
 ·have : c = 11 := by simpa using g2
  conv => whnf
  rw [go2 hn (.inr (.inl this))]
 conv => whnf
 refine kbi (fun g3 => ?_) (fun g3 => ?_)
 ·have : c = 15 := by simpa using g3
  conv => whnf
  rw [go2 hn (.inr (.inr this))]
 have hn2 : ¬ (c = 3 ∨ c = 11 ∨ c = 15) := by simp at g1 g2 g3; omega
 conv => whnf
 refine ocase (qP c 4 9) (fun h => ?_) (fun h => ?_)
 ·conv => whnf
  have : zA c = (2,1) := by simp only [zA,if_neg hn,if_neg hn2]; exact if_pos h
  rw [this]
 ·conv => whnf
  have : zA c = (0,0) := by simp only [zA,if_neg hn,if_neg hn2]; exact if_neg h
  rw [this]
def yC (p : ProgL) (t : Th) : Option OpL := (p.rs.getD t.rt.toNat [])[t.pc.toNat]?
def op0 : OpL := ⟨0,0,0,0⟩
def Th.inP (p : ProgL) (t : Th) : Prop := InR t.rt 0 (p.rs.length - 1) ∧ InR t.pc 0 (p.rs.getD t.rt.toNat []).length
theorem nH (p : ProgL) (t : Th) (hp : p.wf) (h : t.inP p) : CallsTo EE 164 [agg (encProg p),agg (zE t)] (· = .tup [agg (encOp ((yC p t).getD op0)),bv (yC p t).isSome]) := by
 refine callsTo_of_AW (fn := Tryz.f164) Tryz.func164 rfl (by kernel_rfl) rfl ?_
 obtain ⟨⟨a1,a2⟩,b1,b2⟩ := h
 have hr : t.rt.toNat < p.rs.length := by omega
 conv => whnf
 refine ⟨zS p.rs[t.rt.toNat],⟨a1,?_,rfl⟩,?_⟩
 ·show (p.rs.map zS)[t.rt.toNat]? = _
  simp [hr]
 conv => whnf
 have hrow : p.rs.getD t.rt.toNat [] = p.rs[t.rt.toNat] := by simp [List.getD_eq_getElem?_getD,hr]
 rw [hrow] at b2
 refine kbi (fun h => ?_) (fun h => ?_)
 ·have h1 : t.pc = (p.rs[t.rt.toNat].length : Int) := by simpa using h
  have h2 : yC p t = none := by unfold yC; rw [hrow,h1]; simp
  conv => whnf
  rw [h2]
  rfl
 ·have h1 : t.pc.toNat < p.rs[t.rt.toNat].length := by simp at h; omega
  have h2 : yC p t = some p.rs[t.rt.toNat][t.pc.toNat] := by unfold yC; rw [hrow]; simp [h1]
  conv => whnf
  refine ⟨encOp p.rs[t.rt.toNat][t.pc.toNat],⟨b1,?_,rfl⟩,?_⟩
  ·simp [h1]
  conv => whnf
  rw [h2]
  rfl
end Ai
end
section
set_option maxRecDepth 100000
namespace Ai
open Go Go.Proofs
def xE : Prop := ∀ (x : Nat) (many : Int),CallsTo EE 261 [.d (.flt x),i64 many] (· = .tup [i64 ((yQ x many).getD 0),bv (yQ x many).isSome])
def zW (s : StL) (t : Th) : Option Int := (t.stack.getLast?).bind fun x => yQ x s.ths.length
theorem hY (hI : xE) (s : StL) (t : Th) (ht : t.stack.length ≤ 1048576) : CallsTo EE 216 [agg (encSt s),agg (zE t)] (· = i64 ((zW s t).getD (-1))) := by
 refine callsTo_of_AW (fn := Tryz.f216) Tryz.func216 rfl (by kernel_rfl) rfl ?_
 conv => whnf
 refine kbi (fun h => ?_) (fun h => ?_)
 ·have h1 : t.stack = [] := by
   have : (t.stack.map encF).length = 0 := by simpa using h
   simpa using this
  conv => whnf
  simp [zW,h1]
 ·have hne : t.stack ≠ [] := fun e => h (by rw [e]; rfl)
  have hpos : 0 < t.stack.length := List.length_pos_iff.2 hne
  conv => whnf
  refine .inr (.inl ⟨17,[],?_⟩)
  conv => whnf
  refine ⟨encF (t.stack.getLast hne),⟨?_,?_,rfl⟩,?_⟩
  ·rw [zH (by simp; omega) (by simp; omega)]; simp; omega
  ·rw [zH (by simp; omega) (by simp; omega)]
   have e : ((((t.stack.map encF).length : Int) - 1).toNat) = t.stack.length - 1 := by simp
   rw [e,List.getElem?_map,← List.getLast?_eq_getElem?,List.getLast?_eq_some_getLast hne]
   rfl
  conv => whnf
  refine ⟨_,hI _ _,?_⟩
  conv => whnf
  have hj : zW s t = yQ (t.stack.getLast hne) (s.ths.map zE).length := by
   unfold zW
   rw [List.getLast?_eq_some_getLast hne]
   simp
  rw [← hj]
  refine ⟨by kernel_rfl,?_⟩
  conv => whnf
  cases h2 : zW s t with
  |none =>
   conv => whnf
   rfl
  |some k =>
   conv => whnf
   rfl
end Ai
end
section
set_option maxRecDepth 100000
namespace Ai
open Go Go.Proofs
def bU (x y : Nat) : Prop := ((zQ x = true ∨ zQ y = true) ∧ zQ x = true ∧ zQ y = true) ∨ (¬ (zQ x = true ∨ zQ y = true) ∧ fcmp .eql x y = true ∧ (kC x ↔ kC y))
theorem oS (x y : Nat) : CallsTo EE 249 [.d (.flt x),.d (.flt y)] (· = bp (bU x y)) := by
 refine callsTo_of_AW (fn := Tryz.f249) Tryz.func249 rfl (by kernel_rfl) rfl ?_
 conv => whnf
 refine ocase (vN x) (fun h => ?_) (fun h => ?_)
 ·conv => whnf
  refine ocase (vN x) (fun h2 => ?_) (fun h2 => ?_)
  ·conv => whnf
   refine ocase (vN y) (fun h3 => ?_) (fun h3 => ?_)
   ·conv => whnf
    exact bpt (.inl ⟨.inl h,h,h3⟩)
   ·conv => whnf
    exact bpf fun e => e.elim (fun a => h3 a.2.2) fun a => a.1 (.inl h)
  ·exact absurd h h2
 ·conv => whnf
  refine ocase (vN y) (fun h3 => ?_) (fun h3 => ?_)
  ·conv => whnf
   refine ocase (vN x) (fun h2 => ?_) (fun h2 => ?_)
   ·exact absurd h2 h
   ·conv => whnf
    exact bpf fun e => e.elim (fun a => h a.2.1) fun a => a.1 (.inr h3)
  ·conv => whnf
   have hn : ¬ (zQ x = true ∨ zQ y = true) := fun e => e.elim h h3
   refine kbi (fun h4 => ?_) (fun h4 => ?_)
   ·conv => whnf
    refine ocase (qJ x) (fun h5 => ?_) (fun h5 => ?_)
    ·conv => whnf
     refine ocase (qJ y) (fun h6 => ?_) (fun h6 => ?_)
     ·conv => whnf
      refine kbi (fun h7 => ?_) (fun h7 => ?_)
      ·conv => whnf
       exact bpt (.inr ⟨hn,h4,fun _ => h6,fun _ => h5⟩)
      ·exact absurd (by decide) h7
     ·conv => whnf
      refine kbi (fun h7 => ?_) (fun h7 => ?_)
      ·exact absurd h7 (by decide)
      ·conv => whnf
       exact bpf fun e => e.elim (fun a => hn a.1) fun a => h6 (a.2.2.1 h5)
    ·conv => whnf
     refine ocase (qJ y) (fun h6 => ?_) (fun h6 => ?_)
     ·conv => whnf
      refine kbi (fun h7 => ?_) (fun h7 => ?_)
      ·exact absurd h7 (by decide)
      ·conv => whnf
       exact bpf fun e => e.elim (fun a => hn a.1) fun a => h5 (a.2.2.2 h6)
     ·conv => whnf
      refine kbi (fun h7 => ?_) (fun h7 => ?_)
      ·conv => whnf
       exact bpt (.inr ⟨hn,h4,fun a => absurd a h5,fun a => absurd a h6⟩)
      ·exact absurd (by decide) h7
   ·conv => whnf
    exact bpf fun e => e.elim (fun a => hn a.1) fun a => h4 a.2.1
open Classical in
noncomputable def yN (c : Int) (x y : Nat) : Nat :=
 if c = 4 then fop .add x y else if c = 5 then fop .sub x y else if c = 6 then fop .mul x y else if c = 7 then fop .quo x y
 else if c = 8 then (if fcmp .lss x y = true then oneF else 0) else if bU x y then oneF else 0
theorem m6 (c : Int) (x y : Nat) : CallsTo EE 218 [i64 c,.d (.flt x),.d (.flt y)] (· = .d (.flt (yN c x y))) := by
 refine callsTo_of_AW (fn := Tryz.f218) Tryz.func218 rfl (by kernel_rfl) rfl ?_
 conv => whnf
 refine kbi (fun h1 => ?_) (fun h1 => ?_)
 ·have : c = 4 := by simpa using h1
  conv => whnf
  subst this; rfl
 have h1 : ¬ c = 4 := by simpa using h1
 conv => whnf
 refine kbi (fun h2 => ?_) (fun h2 => ?_)
 ·have : c = 5 := by simpa using h2
  conv => whnf
  subst this; rfl
 have h2 : ¬ c = 5 := by simpa using h2
 conv => whnf
 refine kbi (fun h3 => ?_) (fun h3 => ?_)
 ·have : c = 6 := by simpa using h3
  conv => whnf
  subst this; rfl
 have h3 : ¬ c = 6 := by simpa using h3
 conv => whnf
 refine kbi (fun h4 => ?_) (fun h4 => ?_)
 ·have : c = 7 := by simpa using h4
  conv => whnf
  subst this; rfl
 have h4 : ¬ c = 7 := by simpa using h4
 conv => whnf
 refine kbi (fun h5 => ?_) (fun h5 => ?_)
 ·have : c = 8 := by simpa using h5
  conv => whnf
  refine kbi (fun h6 => ?_) (fun h6 => ?_)
  ·conv => whnf
   simp [yN,this,h6]; rfl
  ·conv => whnf
   simp [yN,this,h6]; rfl
 have h5 : ¬ c = 8 := by simpa using h5
 conv => whnf
 refine ocase (oS x y) (fun h => ?_) (fun h => ?_)
 ·conv => whnf
  simp [yN,h1,h2,h3,h4,h5,h]; rfl
 ·conv => whnf
  simp [yN,h1,h2,h3,h4,h5,h]; rfl
def th0 : Th := ⟨0,0,0,0,0,[]⟩
def zX (s : StL) (k : Nat) (o : OpL) : Int :=
 let t := s.ths.getD k th0
 if (t.stack.length : Int) < (zA o.code).1 ∨ 8 < (t.stack.length : Int) - (zA o.code).1 + (zA o.code).2 then 1
 else if (o.code = 13 ∧ s.owner.getD o.a.toNat 0 ≠ k) ∨ (o.code = 16 ∧ s.owner.getD o.b.toNat 0 ≠ k) then 2
 else if o.code = 15 ∧ (zW s t).getD (-1) < 0 then 3
 else if o.code = 14 ∧ s.ths.length = 5 then 4 else 0
def OpL.inS (o : OpL) (s : StL) : Prop := (o.code = 13 → 0 ≤ o.a ∧ o.a < s.owner.length) ∧ (o.code = 16 → 0 ≤ o.b ∧ o.b < s.owner.length)
theorem l3Code_ok (hI : xE) (s : StL) (k : Nat) (o : OpL) (hk : k < s.ths.length) (hs : s.small) (ho : o.inS s) : CallsTo EE 166 [agg (encSt s),i64 k,agg (encOp o)] (· = i64 (zX s k o)) := by
 refine callsTo_of_AW (fn := Tryz.f166) Tryz.func166 rfl (by kernel_rfl) rfl ?_
 have hg : s.ths.getD k th0 = s.ths[k] := by simp [List.getD_eq_getElem?_getD,hk]
 have hst := hs.2.1 _ (List.getElem_mem hk)
 conv => whnf
 refine ⟨zE s.ths[k],yB zE hk rfl,?_⟩
 conv => whnf
 refine ⟨_,tK o.code,?_⟩
 rintro r rfl
 conv => whnf
 have ht : 0 ≤ (zA o.code).1 ∧ (zA o.code).1 ≤ 2 ∧ 0 ≤ (zA o.code).2 ∧ (zA o.code).2 ≤ 1 := by
  unfold zA; split
  ·decide
  ·split
   ·decide
   ·split <;> decide
 have e1 : (IntKind.i64.wrap ((s.ths[k].stack.length : Int) - (zA o.code).1)) = (s.ths[k].stack.length : Int) - (zA o.code).1 := zH (by omega) (by omega)
 refine kbi (fun h1 => ?_) (fun h1 => ?_)
 ·conv => whnf
  have h1 : (s.ths[k].stack.length : Int) < (zA o.code).1 := by simpa using h1
  simp only [zX,hg]
  rw [if_pos (.inl h1)]
 have h1 : ¬ (s.ths[k].stack.length : Int) < (zA o.code).1 := by simpa using h1
 conv => whnf
 rw [show (List.map encF s.ths[k].stack).length = s.ths[k].stack.length by simp,e1,zH (by omega) (by omega)]
 refine kbi (fun h2 => ?_) (fun h2 => ?_)
 ·have h2 : 8 < (s.ths[k].stack.length : Int) - (zA o.code).1 + (zA o.code).2 := by simpa using h2
  conv => whnf
  simp only [zX,hg]
  rw [if_pos (.inr h2)]
 have h2 : ¬ 8 < (s.ths[k].stack.length : Int) - (zA o.code).1 + (zA o.code).2 := by simpa using h2
 have hn1 : ¬ ((s.ths[k].stack.length : Int) < (zA o.code).1 ∨ 8 < (s.ths[k].stack.length : Int) - (zA o.code).1 + (zA o.code).2) := fun e => e.elim h1 h2
 conv => whnf
 have fin : ∀ n : Int,(if (o.code = 13 ∧ s.owner.getD o.a.toNat 0 ≠ k) ∨ (o.code = 16 ∧ s.owner.getD o.b.toNat 0 ≠ k) then 2
   else if o.code = 15 ∧ (zW s s.ths[k]).getD (-1) < 0 then 3
   else if o.code = 14 ∧ s.ths.length = 5 then 4 else 0) = n → AV.d (.int .i64 n) = i64 (zX s k o) := by
  intro n hn
  rw [← hn]
  simp only [zX,hg]
  rw [if_neg hn1]
 have own_get : ∀ (a : Int),0 ≤ a ∧ a < s.owner.length → 0 ≤ a ∧ (s.owner.map encInt)[a.toNat]? = some (encInt (s.owner.getD a.toNat 0)) ∧ (encInt (s.owner.getD a.toNat 0)).length = 1 := by
  intro a ha
  refine ⟨ha.1,?_,rfl⟩
  have : a.toNat < s.owner.length := by omega
  simp [this,List.getD_eq_getElem?_getD]
 -- what comes behind,the code being neither
 have tail0 : ∀ (c : Int),c ≠ 15 → c ≠ 14 → True := fun _ _ _ => trivial
 refine kbi (fun h3 => ?_) (fun h3 => ?_)
 ·have h3 : o.code = 13 := by simpa using h3
  conv => whnf
  refine ⟨_,own_get o.a (ho.1 h3),?_⟩
  conv => whnf
  refine kbi (fun h4 => ?_) (fun h4 => ?_)
  ·have h4 : s.owner.getD o.a.toNat 0 ≠ k := by simpa using h4
   conv => whnf
   exact fin 2 (by rw [if_pos (.inl ⟨h3,h4⟩)])
  have h4 : ¬ s.owner.getD o.a.toNat 0 ≠ k := by simpa using h4
  conv => whnf
  refine kbi (fun h5 => ?_) (fun h5 => ?_)
  ·exact absurd h5 (by simp [h3])
  conv => whnf
  refine kbi (fun h6 => ?_) (fun h6 => ?_)
  ·exact absurd h6 (by simp [h3])
  conv => whnf
  refine kbi (fun h7 => ?_) (fun h7 => ?_)
  ·exact absurd h7 (by simp [h3])
  conv => whnf
  exact fin 0 (by rw [if_neg (by rintro (⟨_,e⟩ | ⟨e,_⟩); exact h4 e; omega),if_neg (by omega),if_neg (by omega)])
 have h3 : ¬ o.code = 13 := by simpa using h3
 conv => whnf
 refine kbi (fun h4 => ?_) (fun h4 => ?_)
 ·have h4 : o.code = 16 := by simpa using h4
  conv => whnf
  refine ⟨_,own_get o.b (ho.2 h4),?_⟩
  conv => whnf
  refine kbi (fun h5 => ?_) (fun h5 => ?_)
  ·have h5 : s.owner.getD o.b.toNat 0 ≠ k := by simpa using h5
   conv => whnf
   exact fin 2 (by rw [if_pos (.inr ⟨h4,h5⟩)])
  have h5 : ¬ s.owner.getD o.b.toNat 0 ≠ k := by simpa using h5
  conv => whnf
  refine kbi (fun h6 => ?_) (fun h6 => ?_)
  ·exact absurd h6 (by simp [h4])
  conv => whnf
  refine kbi (fun h7 => ?_) (fun h7 => ?_)
  ·exact absurd h7 (by simp [h4])
  conv => whnf
  exact fin 0 (by rw [if_neg (by rintro (⟨e,_⟩ | ⟨_,e⟩); exact h3 e; exact h5 e),if_neg (by omega),if_neg (by omega)])
 have h4 : ¬ o.code = 16 := by simpa using h4
 have hn2 : ¬ ((o.code = 13 ∧ s.owner.getD o.a.toNat 0 ≠ k) ∨ (o.code = 16 ∧ s.owner.getD o.b.toNat 0 ≠ k)) := by
  rintro (⟨e,_⟩ | ⟨e,_⟩)
  ·exact h3 e
  ·exact h4 e
 conv => whnf
 refine kbi (fun h5 => ?_) (fun h5 => ?_)
 ·have h5 : o.code = 15 := by simpa using h5
  conv => whnf
  refine ⟨_,hY hI s s.ths[k] hst,?_⟩
  rintro r rfl
  conv => whnf
  refine kbi (fun h6 => ?_) (fun h6 => ?_)
  ·have h6 : (zW s s.ths[k]).getD (-1) < 0 := by simpa using h6
   conv => whnf
   exact fin 3 (by rw [if_neg hn2,if_pos ⟨h5,h6⟩])
  have h6 : ¬ (zW s s.ths[k]).getD (-1) < 0 := fun e => h6 (by simpa using e)
  conv => whnf
  refine kbi (fun h7 => ?_) (fun h7 => ?_)
  ·exact absurd h7 (by simp [h5])
  conv => whnf
  exact fin 0 (by rw [if_neg hn2,if_neg (fun e => h6 e.2),if_neg (by omega)])
 have h5 : ¬ o.code = 15 := by simpa using h5
 conv => whnf
 refine kbi (fun h6 => ?_) (fun h6 => ?_)
 ·have h6 : o.code = 14 := by simpa using h6
  conv => whnf
  refine kbi (fun h7 => ?_) (fun h7 => ?_)
  ·have h7 : s.ths.length = 5 := by
    have : ((s.ths.map zE).length : Int) = 5 := by simpa using h7
    simp at this; omega
   conv => whnf
   exact fin 4 (by rw [if_neg hn2,if_neg (fun e => h5 e.1),if_pos ⟨h6,h7⟩])
  have h7 : ¬ s.ths.length = 5 := fun e => h7 (by simp [e])
  conv => whnf
  exact fin 0 (by rw [if_neg hn2,if_neg (fun e => h5 e.1),if_neg (fun e => h7 e.2)])
 have h6 : ¬ o.code = 14 := by simpa using h6
 conv => whnf
 exact fin 0 (by rw [if_neg hn2,if_neg (fun e => h5 e.1),if_neg (fun e => h6 e.1)])
end Ai
end
section
set_option maxRecDepth 100000
namespace Ai
open Go Go.Proofs
def StAt (o : Nat) (s : StL) (S : St) : Prop :=
 S.H (.n o) = some (.rs 175 6 (thRows o s.ths)) ∧ (∀ j,(h : j < s.ths.length) → S.H (.s o j) = some (.ds 132 1 (stk s.ths[j]))) ∧
 S.H (.n (o + 1)) = some (.ds 132 1 (s.cells.map encF)) ∧ S.H (.n (o + 2)) = some (.ds 3 1 (s.owner.map encInt))
theorem fz_row {o j : Nat} {t : Th} {S : St} (h : S.H (.s o j) = some (.ds 132 1 (stk t))) : fz1s S (thRow o j t) = some (zE t) := by
 simp [thRow,fz1s,fz1,h,i64,zE,stk,List.take_of_length_le]
theorem fz_st {o : Nat} {s : StL} {S : St} {n m l : Nat} (h : StAt o s S) (hn : n = s.ths.length) (hm : m = s.cells.length) (hl : l = s.owner.length) :
  FzC S [.dref (.n o) n,.ref (.n (o + 1)) 0 m,.ref (.n (o + 2)) 0 l,i64 s.fault] (encSt s) := by
 obtain ⟨h1,h2,h3,h4⟩ := h
 subst hn hm hl
 refine ⟨.sl (s.ths.map zE),_,rfl,⟨_,rfl,?_⟩,.sl (s.cells.map encF),_,rfl,?_,.sl (s.owner.map encInt),_,rfl,?_,di s.fault,[],rfl,rfl,rfl⟩
 ·unfold jI
  rw [h1]
  refine ⟨by simp,fun j row hj hr => ?_⟩
  rw [xJ hj] at hr
  simp only [Option.some.injEq] at hr
  subst hr
  exact ⟨zE s.ths[j],by simp [hj],fz_row (h2 j hj)⟩
 ·simp [FzD,fz1,h3,List.take_of_length_le]
 ·simp [FzD,fz1,h4,List.take_of_length_le]
theorem qD {s : StL} {j : Nat} (h : j < s.ths.length) : ownH (kI s) (.s 900 j) = some (.ds 132 1 (stk s.ths[j])) := by
 show ((s.ths.map stk)[j]?).map (Ob.ds 132 1) = _
 simp [h]
theorem p5 {S : St} (a b c d e : Int) : FzC S [i64 a,i64 b,i64 c,i64 d,i64 e] [di a,di b,di c,di d,di e] :=
 ⟨_,_,rfl,rfl,_,_,rfl,rfl,_,_,rfl,rfl,_,_,rfl,rfl,_,_,rfl,rfl,rfl⟩
theorem yK {x X : Ob} {p : Key → Bool} (h : x = X) (hp : scrPO p X = X) : scrPO p x = X := by rw [h]; exact hp
theorem n7 {x : Option Ob} {X : Ob} {p : Key → Bool} (h : x = some X) (hp : scrPO p X = X) : x.map (scrPO p) = some X := by rw [h]; exact congrArg some hp
theorem l3Fault_ok (s : StL) (e : Ev) (n : Int) (hs : s.small) : CallsTo EE 167 [agg (encSt s),agg (encEv e),i64 n] (· = .tup [agg (encSt { s with fault := n }),agg (encEv { e with kind := 12,obj := n })]) := by
 refine callsTo_of_AW (fn := Tryz.f167) Tryz.func167 rfl (by kernel_rfl) rfl ?_
 conv => whnf
 refine ⟨_,lY s hs,?_⟩
 rintro r rfl
 conv => whnf
 refine .inr (.inl ⟨4,[],?_⟩)
 conv => whnf
 refine ⟨by kernel_rfl,?_⟩
 conv => whnf
 refine .inl ?_
 conv => whnf
 refine ⟨[agg (encSt { s with fault := n }),agg (encEv { e with kind := 12,obj := n })],⟨_,_,rfl,⟨_,rfl,fz_st (o := 900) (s := { s with fault := n }) ⟨?_,?_,?_,?_⟩ ?_ ?_ ?_⟩,_,_,rfl,⟨_,rfl,?_⟩,rfl⟩,rfl⟩
 ·conv => lhs; whnf
  refine congrArg some ?_
  repeat (first | rfl | refine yK ?_ (by exact congrArg _ (yG fun _ _ => rfl)))
 ·intro j hj
  conv => lhs; whnf
  repeat (refine n7 ?_ rfl; conv => lhs; whnf)
  rw [qD (s := s) hj]
 ·conv => lhs; whnf
  rfl
 ·conv => lhs; whnf
  rfl
 ·simp
 ·simp
 ·simp
 ·exact p5 e.th 12 n e.lock e.pc
end Ai
end
section
set_option maxRecDepth 100000
namespace Ai
open Go Go.Proofs
def StH (s : StL) (H : Key → Option Ob) : Prop :=
 H (.n 900) = some (.rs 175 6 (thRows 900 s.ths)) ∧ (∀ j,H (.s 900 j) = zV s.ths j) ∧ H (.n 901) = some (.ds 132 1 (s.cells.map encF)) ∧ H (.n 902) = some (.ds 3 1 (s.owner.map encInt))
def stRef (s : StL) : List AV := [.dref (.n 900) s.ths.length,.ref (.n 901) 0 s.cells.length,.ref (.n 902) 0 s.owner.length,i64 s.fault]
def kR (l : List Th) (k : Nat) (els : List (List D)) (j : Nat) : Option Ob := bif Nat.beq j k then some (.ds 132 1 els) else zV l j
def xK (o : OpL) : Nat := (zA o.code).1.toNat
def zT (t : Th) (o : OpL) : Nat := t.stack.length - xK o
def doL1 (s : StL) (k : Nat) (o : OpL) (t : Th) : List (Nat × AV) := [(1,i64 k),(4,.ptr (.n 4) 0),(6,.ptr (.n 6) 0),(7,.ptr (.n 7) 0),(8,.ptr (.n 8) 0),(9,.ptr (.n 9) 0),(10,.ptr (.n 10) 0),(11,i64 (zA o.code).1),
  (13,.ref (.n 28) 0 (xK o)),(14,i64 ((zW s t).getD (-1)))]
def doO1 (s : StL) (k : Nat) (o : OpL) (e : Ev) (t : Th) : List (Key × Ob) := [(.n 4,.vs 54 (stRef s)),(.n 6,.vs 183 ((encOp o).map .d)),(.n 7,.vs 128 ((encEv { e with kind := 1 }).map .d)),
  (.n 8,.vs 54 [.d .nil,.d .nil,.d .nil,i64 0]),(.n 9,.vs 128 [i64 0,i64 0,i64 0,i64 0,i64 0]),(.n 10,.vs 175 [i64 t.rt,i64 (t.pc + 1),i64 t.st,i64 t.cond,i64 t.lock,.ref (.s 900 k) 0 (zT t o)]),
  (.n 28,.ds 132 1 ((t.stack.drop (zT t o)).map encF)),(.n 900,.rs 175 6 (thRows 900 s.ths)),(.n 901,.ds 132 1 (s.cells.map encF)),(.n 902,.ds 3 1 (s.owner.map encInt))]
theorem yY {rows : List (List AV)} {p : Key → Bool} {c : List AV} {j : Nat} (h : rows[j]? = some c) (hp : scrPL p c = c) : (rows.map (scrPL p))[j]? = some c := by
 rw [List.getElem?_map,h]; exact congrArg some hp
theorem pE {o : Nat} {l : List Th} {k : Nat} {t : Th} (h : k < l.length) (ht : l[k] = t) : (thRows o l)[((k : Nat) : Int).toNat]? = some (thRow o k t) := by rw [← ht]; exact xJ h
theorem famK_get {l : List Th} {k j : Nat} {t : Th} (hk : k < l.length) (ht : l[k] = t) (h : j < l.length) : kR l k (stk t) j = some (.ds 132 1 (stk l[j])) := by
 subst ht
 unfold kR
 by_cases hj : j = k
 ·subst hj; rw [show Nat.beq j j = true from Nat.beq_refl j]; rfl
 ·rw [nbeq_ne hj]; simp [zV,h]
theorem fz_th {S : St} {o j n : Nat} {t : Th} {els : List (List D)} (h : S.H (.s o j) = some (.ds 132 1 els)) (he : els.take n = stk t) : FzC S [i64 t.rt,i64 t.pc,i64 t.st,i64 t.cond,i64 t.lock,.ref (.s o j) 0 n] (zE t) := by
 refine ⟨_,_,rfl,rfl,_,_,rfl,rfl,_,_,rfl,rfl,_,_,rfl,rfl,_,_,rfl,rfl,.sl (stk t),_,rfl,?_,rfl⟩
 simp [FzD,fz1,h,he]
theorem hscrO {x X : Option Ob} {p : Key → Bool} (h : x = X) (hp : X.map (scrPO p) = X) : x.map (scrPO p) = X := by rw [h]; exact hp
theorem famK_scr (p : Key → Bool) (l : List Th) (k : Nat) (els : List (List D)) (j : Nat) : (kR l k els j).map (scrPO p) = kR l k els j := by
 unfold kR
 cases Nat.beq j k
 ·exact yI p l j
 ·rfl
theorem l3Do_pre (hI : xE) (s : StL) (k : Nat) (o : OpL) (e : Ev) (hk : k < s.ths.length) (h5 : s.ths.length ≤ 5) (hs : s.small) (htk : (zA o.code).1 ≤ s.ths[k].stack.length) (hpc : InR s.ths[k].pc 0 1048576)
  (τ : Nat → AV) (H : Key → Option Ob) (Q : AX → St → Prop) (K : St → Prop) (hK : ∀ s',At (doL1 s k o s.ths[k]) (doO1 s k o e s.ths[k]) [(900,kR s.ths k (stk s.ths[k]))] s' → K s') :
  sU EE Tryz.f168.ntmps K Q 8 (Tryz.f168.body.getD .skip) (rJ [(0,.agg (stRef s)),(1,i64 k),(2,agg (encOp o)),(3,agg (encEv e))] (rH [(.n 900,.rs 175 6 (thRows 900 s.ths)),(.n 901,.ds 132 1 (s.cells.map encF)),(.n 902,.ds 3 1 (s.owner.map encInt))] (fZ [(900,kR s.ths k (stk s.ths[k]))] ⟨τ,H⟩))) := by
 have hst := hs.2.1 _ (List.getElem_mem hk)
 have ht : 0 ≤ (zA o.code).1 ∧ (zA o.code).1 ≤ 2 ∧ 0 ≤ (zA o.code).2 ∧ (zA o.code).2 ≤ 1 := by
  unfold zA; split
  ·decide
  ·split
   ·decide
   ·split <;> decide
 have e1 : (IntKind.i64.wrap ((s.ths[k].stack.length : Int) - (zA o.code).1)) = (s.ths[k].stack.length : Int) - (zA o.code).1 := zH (by omega) (by omega)
 generalize ht0 : s.ths[k] = t at *
 have e2 : ((t.stack.length : Int) - (zA o.code).1).toNat = zT t o := by unfold zT xK; omega
 have allLen : ∀ a b : Nat,(((stk t).drop a).take b).all (fun c => c.length == 1) = true := by
  intro a b
  simp only [List.all_eq_true]
  intro x hx
  have hx := List.mem_of_mem_drop (List.mem_of_mem_take hx)
  obtain ⟨y,_,rfl⟩ := List.mem_map.1 hx
  rfl
 obtain rfl | rfl | rfl | rfl | rfl : k = 0 ∨ k = 1 ∨ k = 2 ∨ k = 3 ∨ k = 4 := by omega
 all_goals
  conv => whnf
  refine ⟨⟨by omega,by omega⟩,?_⟩
  conv => whnf
  refine ⟨thRow 900 _ _,⟨by repeat (first | exact pE hk ht0 | refine yY ?_ rfl),by simp [thRow]⟩,?_⟩
  conv => whnf
  refine ⟨_,tK o.code,?_⟩
  rintro r rfl
  conv => whnf
  rw [e1]
  rcases Int.lt_or_eq_of_le ht.1 with h0 | h0
  refine .inl ⟨⟨by omega,by omega,by omega,.inr (by omega)⟩,?_⟩
  conv => whnf
  refine ⟨⟨allLen _ _,by simp; omega,by simp; omega⟩,?_⟩
  conv => whnf
  rotate_left 1
  refine .inr ⟨⟨by omega,by omega,by omega⟩,?_⟩
  conv => whnf
  refine ⟨⟨rfl,by simp,by simp⟩,?_⟩
  conv => whnf
  all_goals
   refine .inl ⟨[agg (encSt s),agg (zE t)],[],_,⟨_,_,rfl,⟨_,rfl,fz_st (o := 900) (s := s) ⟨?_,?_,?_,?_⟩ ?_ ?_ ?_⟩,⟨_,_,rfl,⟨_,rfl,fz_th (t := t) (els := stk t) ?_ ?_⟩,rfl⟩⟩,rfl,hY hI s _ hst,?_⟩
   ·((conv => lhs; whnf); refine congrArg some ?_; repeat (first | rfl | refine yK ?_ (by exact congrArg _ (yG fun _ _ => rfl))))
   ·intro j hj
    ((conv => lhs; whnf); (repeat (refine n7 ?_ rfl; conv => lhs; whnf)); exact (famK_get hk ht0 hj))
   ·conv => lhs; whnf
    rfl
   ·conv => lhs; whnf
    rfl
   ·rfl
   ·rfl
   ·rfl
   ·conv => lhs; whnf
    rfl
   ·simp [stk,List.take_of_length_le]
   rintro r rfl
   refine ⟨rfl,?_⟩
   conv => whnf
   rw [e1]
   refine .inl ⟨⟨by omega,by omega,by omega,.inl rfl⟩,?_⟩
   conv => whnf
   refine hK _ ⟨?_,?_,?_⟩
   ·refine ⟨rfl,rfl,rfl,rfl,rfl,rfl,rfl,rfl,?_,rfl,trivial⟩
    conv => lhs; whnf
    refine congrArg (AV.ref (.n 28) 0) ?_
    first
     |simp only [Nat.zero_add,List.length_take,List.length_drop,stk,List.length_map,e2]
      unfold zT xK
      omega
     |simp [xK,← h0]
   ·refine ⟨rfl,rfl,rfl,rfl,rfl,?_,?_,?_,rfl,rfl,trivial⟩
    ·show some (Ob.vs 175 [_,AV.d (.int .i64 (IntKind.i64.wrap (t.pc + 1))),_,_,_,AV.ref _ 0 (((t.stack.length : Int) - (zA o.code).1).toNat - 0)]) = _
     rw [zH (by have := hpc.1; omega) (by have := hpc.2; omega),e2]
     rfl
    ·first
      |show some (Ob.ds 132 1 (List.take ((t.stack.length : Int).toNat - ((t.stack.length : Int) - (zA o.code).1).toNat) (List.drop (0 + ((t.stack.length : Int) - (zA o.code).1).toNat) (stk t)))) = _
       rw [e2,Nat.zero_add,List.take_of_length_le (by simp [stk])]
       simp [stk]
      |show some (Ob.ds 132 1 []) = _
       simp [zT,xK,← h0]
    ·((conv => lhs; whnf); refine congrArg some ?_; repeat (first | rfl | refine yK ?_ (by exact congrArg _ (yG fun _ _ => rfl))))
   ·refine ⟨fun j => ?_,trivial⟩
    ((conv => lhs; whnf); (repeat (refine hscrO ?_ (famK_scr _ _ _ _ _); conv => lhs; whnf)); rfl)
end Ai
end
section
set_option maxRecDepth 100000
namespace Ai
open Go Go.Proofs
def oM (t : Th) : List AV := [i64 t.rt,i64 t.pc,i64 t.st,i64 t.cond,i64 t.lock,.d (.sl [])]
def Rowish (l : List Th) (j : Nat) (t : Th) (row : List AV) : Prop := (∃ t0,l[j]? = some t0 ∧ t0.stack = t.stack ∧ row = thRow 900 j t) ∨ (t.stack = [] ∧ row = oM t)
def Do2 (l : List Th) (s' : StL) (k : Nat) (e' : Ev) (S : St) : Prop :=
 ∃ (t : Th) (rows : List (List AV)) (els : List (List D)),s'.ths[k]? = some t ∧ (∀ j t',j ≠ k → s'.ths[j]? = some t' → ∃ row,rows[j]? = some row ∧ Rowish l j t' row) ∧ els.take t.stack.length = stk t ∧
  At [(1,i64 k),(4,.ptr (.n 4) 0),(7,.ptr (.n 7) 0),(8,.ptr (.n 8) 0),(9,.ptr (.n 9) 0),(10,.ptr (.n 10) 0)]
   [(.n 4,.vs 54 (stRef s')),(.n 7,.vs 128 ((encEv e').map .d)),(.n 8,.vs 54 [.d .nil,.d .nil,.d .nil,i64 0]),(.n 9,.vs 128 [i64 0,i64 0,i64 0,i64 0,i64 0]),(.n 10,.vs 175 (thRow 900 k t)),
    (.n 900,.rs 175 6 rows),(.n 901,.ds 132 1 (s'.cells.map encF)),(.n 902,.ds 3 1 (s'.owner.map encInt))] [(900,kR l k els)] S
def lendK : Key → Bool
 | .n k => Nat.beq k 900 || Nat.beq k 901 || Nat.beq k 902
 | .s o _ => Nat.beq o 900
 | .l _ => false
def doPost (s' : StL) (e' : Ev) (r : AV) (H1 : Key → Option Ob) : Prop :=
 r = .tup [.agg (stRef s'),agg (encEv e')] ∧ FzC ⟨fun _ => .junk,H1⟩ (stRef s') (encSt s') ∧ ∀ κ,lendK κ = false → H1 κ = none
theorem peel {rows : List (List AV)} {p : Key → Bool} {j : Nat} {row : List AV} (h : (rows.map (scrPL p))[j]? = some row) : ∃ r0,rows[j]? = some r0 ∧ row = scrPL p r0 := by
 rw [List.getElem?_map] at h
 obtain ⟨r0,h1,h2⟩ := Option.map_eq_some_iff.1 h
 exact ⟨r0,h1,h2.symm⟩
theorem fz_st2 {s : StL} {S : St} {rows : List (List AV)} (h1 : S.H (.n 900) = some (.rs 175 6 rows)) (hv : ∀ (j : Nat) (row : List AV) (t : Th),s.ths[j]? = some t → rows[j]? = some row → fz1s S row = some (zE t))
  (h3 : S.H (.n 901) = some (.ds 132 1 (s.cells.map encF))) (h4 : S.H (.n 902) = some (.ds 3 1 (s.owner.map encInt))) : FzC S (stRef s) (encSt s) := by
 refine ⟨.sl (s.ths.map zE),_,rfl,⟨_,rfl,?_⟩,.sl (s.cells.map encF),_,rfl,?_,.sl (s.owner.map encInt),_,rfl,?_,di s.fault,[],rfl,rfl,rfl⟩
 ·unfold jI
  rw [h1]
  refine ⟨by simp,fun j row hj hr => ?_⟩
  exact ⟨zE s.ths[j],by simp [hj],hv j row _ (List.getElem?_eq_getElem hj) hr⟩
 ·simp [FzD,fz1,h3,List.take_of_length_le]
 ·simp [FzD,fz1,h4,List.take_of_length_le]
theorem fz_rowT {o j : Nat} {t : Th} {S : St} {els : List (List D)} (h : S.H (.s o j) = some (.ds 132 1 els)) (he : els.take t.stack.length = stk t) : fz1s S (thRow o j t) = some (zE t) := by
 simp [thRow,fz1s,fz1,h,i64,zE,he]
 simp [stk]
theorem fz_nil {t : Th} {S : St} (h : t.stack = []) : fz1s S (oM t) = some (zE t) := by
 simp [oM,fz1s,fz1,i64,zE,h]
theorem fz_ish {l : List Th} {k j : Nat} {t : Th} {els : List (List D)} {S : St} {row : List AV} (hj : j ≠ k) (h : S.H (.s 900 j) = kR l k els j) (hr : Rowish l j t row) : fz1s S row = some (zE t) := by
 rcases hr with ⟨t0,h1,h2,rfl⟩ | ⟨h1,rfl⟩
 ·unfold kR at h
  rw [nbeq_ne hj] at h
  simp only [cond_false,zV,h1,Option.map_some] at h
  exact fz_rowT h (by simp [stk,h2,List.take_of_length_le])
 ·exact fz_nil h1
theorem scr_ish {l : List Th} {j : Nat} {t : Th} {row : List AV} {p : Key → Bool} (hp : p (.s 900 j) = false) (hr : Rowish l j t row) : scrPL p row = row := by
 rcases hr with ⟨t0,h1,h2,rfl⟩ | ⟨h1,rfl⟩
 ·exact zZ hp
 ·rfl
theorem l3Do_fin (l : List Th) (s' : StL) (k : Nat) (e' : Ev) (h5 : k < 5) (S : St) (h : Do2 l s' k e' S) :
    AW EE Tryz.f168.ntmps (dropC 9 (Tryz.f168.body.getD .skip)) (retIO EE Tryz.f168 (doPost s' e')) S := by
  obtain ⟨t, rows, els, hk, hrow, hels, hat⟩ := h
  obtain ⟨τ, H, rfl⟩ := hat.form
  obtain rfl | rfl | rfl | rfl | rfl : k = 0 ∨ k = 1 ∨ k = 2 ∨ k = 3 ∨ k = 4 := by omega
  all_goals
    conv => whnf
    refine ⟨⟨by omega, by have := (List.getElem?_eq_some_iff.1 hk).1; omega⟩, ?_⟩
    conv => whnf
    refine .inr (.inl ⟨4, [], ?_⟩)
    conv => whnf
    refine ⟨by kernel_rfl, ?_⟩
    conv => whnf
    refine ⟨_, Weak.refl, ?_⟩
    conv => whnf
    refine ⟨lendK, ?_, ?_, ?_⟩
    · rfl
    · refine @fz_st2 s' _ ?_ ?_ ?_ ?_ ?_
      rotate_left 1
      · conv => lhs; whnf
        rfl
      · intro j row t' ht hrr
        obtain ⟨r1, g1, q1⟩ := peel hrr
        obtain ⟨r2, g2, q2⟩ := peel g1
        subst q1 q2
        have g3 : (rows.set _ (thRow 900 _ t))[j]? = some r2 := g2
        rw [List.getElem?_set] at g3
        split at g3
        · rename_i hj
          subst hj
          split at g3
          · simp only [Option.some.injEq] at g3
            subst g3
            have hk2 : s'.ths[_]? = some t := hk
            have e : t' = t := by
              have := ht.symm.trans hk
              exact Option.some.inj this
            subst e
            show fz1s _ (thRow 900 _ t') = _
            exact fz_rowT (els := els) (by conv => lhs; whnf
                                           rfl) hels
          · cases g3
        · rename_i hj
          obtain ⟨row, hr1, hr2⟩ := hrow j t' (fun e => hj e.symm) ht
          have e : row = r2 := Option.some.inj (hr1.symm.trans g3)
          subst e
          rw [scr_ish (p := fun κ => memN _ _) ?_ hr2, scr_ish (p := fun o => !lendK o) rfl hr2]
          · refine fz_ish (els := els) (fun e => hj e.symm) ?_ hr2
            ((conv => lhs; whnf); (repeat (refine hscrO ?_ (famK_scr _ _ _ _ _); conv => lhs; whnf)); rfl)
          · rfl
      · conv => lhs; whnf
        rfl
      · conv => lhs; whnf
        rfl
    · intro κ hκ
      show (bif lendK κ then _ else none) = none
      rw [hκ]; rfl
end Ai
end
section
set_option maxRecDepth 100000
namespace Ai
open Go Go.Proofs
def zC (t : Th) (o : OpL) : Th := { t with pc := t.pc + 1,stack := t.stack.take (zT t o) }
def yM (t : Th) (o : OpL) (i : Nat) : Nat := (t.stack.drop (zT t o)).getD i 0
def zN (t : Th) (x : Nat) : Th := { t with stack := t.stack ++ [x] }
def jF (r : Int) : Th := ⟨r,0,1,-1,-1,[]⟩
def wK (l : List Th) (a : Int) : Option Nat := l.findIdx? fun t => t.st == 3 && t.cond == a
def StL.put (s : StL) (k : Nat) (t : Th) : StL := { s with ths := s.ths.set k t }
noncomputable def doL (s : StL) (k : Nat) (o : OpL) (e : Ev) : StL × Ev :=
 let t0 := s.ths.getD k th0
 let t := zC t0 o
 let e := { e with kind := 1 }
 if o.code = 1 then (s.put k (zN t o.v),e)
 else if o.code = 2 then (s.put k (zN t (s.cells.getD o.a.toNat 0)),{ e with kind := 2,obj := o.a })
 else if o.code = 3 then ({ s with cells := s.cells.set o.a.toNat (yM t0 o 0) }.put k t,{ e with kind := 3,obj := o.a })
 else if o.code = 10 then (s.put k { t with pc := o.a },e)
 else if o.code = 11 then (s.put k (if zQ (yM t0 o 0) = true ∨ fcmp .eql (yM t0 o 0) 0 = true then { t with pc := o.a } else t),e)
 else if o.code = 12 then ({ s with owner := s.owner.set o.a.toNat k }.put k t,{ e with kind := 4,obj := o.a })
 else if o.code = 13 then ({ s with owner := s.owner.set o.a.toNat (-1) }.put k t,{ e with kind := 5,obj := o.a })
 else if o.code = 14 then ({ s with ths := s.ths ++ [jF o.a] }.put k (zN t (FloatKind.f64.nearest (s.ths.length : Int))),{ e with kind := 6,obj := s.ths.length })
 else if o.code = 15 then (s.put k t,{ e with kind := 7,obj := (zW s t0).getD (-1) })
 else if o.code = 16 then ({ s with owner := s.owner.set o.b.toNat (-1) }.put k { t with st := 3,cond := o.a,lock := o.b,pc := t.pc - 1 },{ e with kind := 8,obj := o.a,lock := o.b })
 else if o.code = 17 then
  (match wK s.ths o.a with
  |some j => ({ s with ths := s.ths.modify j fun u => { u with st := 4 } }.put k t,{ e with kind := 10,obj := o.a,lock := j })
  |none => (s.put k t,{ e with kind := 10,obj := o.a }))
 else (s.put k (zN t (yN o.code (yM t0 o 0) (yM t0 o 1))),e)
theorem qG {s' : StL} {l : List Th} {k : Nat} {t : Th} {e' : Ev} {els : List (List D)} {R c10 : List AV} {rows : List (List AV)} {S : St}
  (hat : At [(1,i64 k),(4,.ptr (.n 4) 0),(7,.ptr (.n 7) 0),(8,.ptr (.n 8) 0),(9,.ptr (.n 9) 0),(10,.ptr (.n 10) 0)]
   [(.n 4,.vs 54 R),(.n 7,.vs 128 ((encEv e').map .d)),(.n 8,.vs 54 [.d .nil,.d .nil,.d .nil,i64 0]),(.n 9,.vs 128 [i64 0,i64 0,i64 0,i64 0,i64 0]),(.n 10,.vs 175 c10),
    (.n 900,.rs 175 6 rows),(.n 901,.ds 132 1 (s'.cells.map encF)),(.n 902,.ds 3 1 (s'.owner.map encInt))] [(900,kR l k els)] S)
  (hR : R = stRef s') (h10 : c10 = thRow 900 k t) (hk : k < l.length) (hths : s'.ths = l.set k t) (hels : els.take t.stack.length = stk t)
  (hrow : ∀ j t0,j ≠ k → l[j]? = some t0 → rows[j]? = some (thRow 900 j t0)) : Do2 l s' k e' S := by
 subst hR h10
 refine ⟨t,rows,els,?_,fun j t' hj hj' => ?_,hels,hat⟩
 ·rw [hths]; simp [hk]
 ·rw [hths,List.getElem?_set_ne (Ne.symm hj)] at hj'
  exact ⟨_,hrow j t' hj hj',.inl ⟨t',hj',rfl,rfl⟩⟩
theorem rows_app {X N : List (List AV)} {n j : Nat} {c : List AV} (h : X[j]? = some c) (hj : j < n) : (X.take n ++ N)[j]? = some c := by
 have h1 := (List.getElem?_eq_some_iff.1 h).1
 rw [List.getElem?_append_left (by simp; omega),List.getElem?_take,if_pos hj]; exact h
theorem rows_new {X N : List (List AV)} {n : Nat} {c : List AV} (h : X.length = n) (hN : N = [c]) : (X.take n ++ N)[n]? = some c := by
 subst hN h; simp
theorem do2_fork {s' : StL} {l : List Th} {k : Nat} {t nt : Th} {e' : Ev} {els : List (List D)} {R c10 : List AV} {rows : List (List AV)} {S : St}
  (hat : At [(1,i64 k),(4,.ptr (.n 4) 0),(7,.ptr (.n 7) 0),(8,.ptr (.n 8) 0),(9,.ptr (.n 9) 0),(10,.ptr (.n 10) 0)]
   [(.n 4,.vs 54 R),(.n 7,.vs 128 ((encEv e').map .d)),(.n 8,.vs 54 [.d .nil,.d .nil,.d .nil,i64 0]),(.n 9,.vs 128 [i64 0,i64 0,i64 0,i64 0,i64 0]),(.n 10,.vs 175 c10),
    (.n 900,.rs 175 6 rows),(.n 901,.ds 132 1 (s'.cells.map encF)),(.n 902,.ds 3 1 (s'.owner.map encInt))] [(900,kR l k els)] S)
  (hR : R = stRef s') (h10 : c10 = thRow 900 k t) (hk : k < l.length) (hths : s'.ths = (l ++ [nt]).set k t) (hnt : nt.stack = []) (hels : els.take t.stack.length = stk t)
  (hrow : ∀ j t0,j ≠ k → l[j]? = some t0 → rows[j]? = some (thRow 900 j t0)) (hnew : rows[l.length]? = some (oM nt)) : Do2 l s' k e' S := by
 subst hR h10
 refine ⟨t,rows,els,?_,fun j t' hj hj' => ?_,hels,hat⟩
 ·rw [hths]; simp [show k < l.length + 1 by omega]
 ·rw [hths,List.getElem?_set_ne (Ne.symm hj)] at hj'
  by_cases h1 : j < l.length
  ·rw [List.getElem?_append_left h1] at hj'
   exact ⟨_,hrow j t' hj hj',.inl ⟨t',hj',rfl,rfl⟩⟩
  ·rw [List.getElem?_append_right (by omega)] at hj'
   have h2 : j - l.length = 0 := by
    have := (List.getElem?_eq_some_iff.1 hj').1
    simp at this; omega
   rw [h2] at hj'
   simp only [List.getElem?_cons_zero,Option.some.injEq] at hj'
   subst hj'
   have h3 : j = l.length := by omega
   subst h3
   exact ⟨_,hnew,.inr ⟨hnt,rfl⟩⟩
theorem rows_mod {X : List (List AV)} {i j : Nat} {t : Th} (h : X[j]? = some (thRow 900 j t)) : (X.modify i fun c => yA c 2 [i64 4])[j]? = some (thRow 900 j (if i = j then { t with st := 4 } else t)) := by
 rw [List.getElem?_modify,h]
 by_cases hij : i = j
 ·simp only [if_pos hij]; rfl
 ·simp only [if_neg hij]; rfl
theorem do2_wake {s' : StL} {l : List Th} {k i : Nat} {t : Th} {e' : Ev} {els : List (List D)} {R c10 : List AV} {rows : List (List AV)} {S : St}
  (hat : At [(1,i64 k),(4,.ptr (.n 4) 0),(7,.ptr (.n 7) 0),(8,.ptr (.n 8) 0),(9,.ptr (.n 9) 0),(10,.ptr (.n 10) 0)]
   [(.n 4,.vs 54 R),(.n 7,.vs 128 ((encEv e').map .d)),(.n 8,.vs 54 [.d .nil,.d .nil,.d .nil,i64 0]),(.n 9,.vs 128 [i64 0,i64 0,i64 0,i64 0,i64 0]),(.n 10,.vs 175 c10),
    (.n 900,.rs 175 6 rows),(.n 901,.ds 132 1 (s'.cells.map encF)),(.n 902,.ds 3 1 (s'.owner.map encInt))] [(900,kR l k els)] S)
  (hR : R = stRef s') (h10 : c10 = thRow 900 k t) (hk : k < l.length) (hths : s'.ths = (l.modify i fun u => { u with st := 4 }).set k t) (hels : els.take t.stack.length = stk t)
  (hrow : ∀ j t0,j ≠ k → l[j]? = some t0 → rows[j]? = some (thRow 900 j (if i = j then { t0 with st := 4 } else t0))) : Do2 l s' k e' S := by
 subst hR h10
 refine ⟨t,rows,els,?_,fun j t' hj hj' => ?_,hels,hat⟩
 ·rw [hths]; simp [hk]
 ·rw [hths,List.getElem?_set_ne (Ne.symm hj),List.getElem?_modify] at hj'
  obtain ⟨t0,h1,h2⟩ := Option.map_eq_some_iff.1 hj'
  refine ⟨_,hrow j t0 hj h1,.inl ⟨t0,h1,?_,?_⟩⟩
  ·by_cases hij : i = j
   ·simp only [if_pos hij] at h2; subst h2; rfl
   ·simp only [if_neg hij] at h2; subst h2; rfl
  ·by_cases hij : i = j
   ·simp only [if_pos hij] at h2 ⊢; subst h2; rfl
   ·simp only [if_neg hij] at h2 ⊢; subst h2; rfl
def OpL.fits (o : OpL) (s : StL) (t : Th) : Prop := InR o.code 1 17 ∧ ((o.code = 2 ∨ o.code = 3) → 0 ≤ o.a ∧ o.a < s.cells.length) ∧ ((o.code = 12 ∨ o.code = 13) → 0 ≤ o.a ∧ o.a < s.owner.length) ∧ (o.code = 16 → 0 ≤ o.b ∧ o.b < s.owner.length) ∧
 (zA o.code).1 ≤ t.stack.length
theorem xB {o j : Nat} {l : List Th} {t : Th} (h : l[j]? = some t) : (thRows o l)[j]? = some (thRow o j t) := by
 obtain ⟨h1,rfl⟩ := List.getElem?_eq_some_iff.1 h
 exact xJ h1
theorem isK_s0 {j k : Nat} (h : j ≠ k) : Key.beq (.s 900 j) (.s 900 k) = false := by
 show (Nat.beq 900 900 && Nat.beq j k) = false
 rw [nbeq_ne h]; rfl
theorem kb_ne {j k : Nat} (h : j ≠ k) : Key.beq (.s 900 j) (.s 900 k) = false := isK_s0 h
theorem kL {l : List Th} {k j : Nat} {els : List (List D)} (h : j ≠ k) : kR l k els j = zV l j := by
 unfold kR; rw [nbeq_ne h]; rfl
theorem jG {j k : Nat} (h : j ≠ k) : isK (.s 900 k) (.s 900 j) = false := by
 show (Nat.beq 900 900 && Nat.beq j k) = false
 rw [nbeq_ne h]; rfl
theorem wO {t : Th} {o : OpL} {i : Nat} (h : (zA o.code).1 ≤ t.stack.length) (hi : i < xK o) : ((t.stack.drop (zT t o)).map encF)[i]? = some (encF (yM t o i)) := by
 have h1 : zT t o + i < t.stack.length := by unfold zT; unfold xK at *; omega
 simp [yM,List.getD_eq_getElem?_getD,h1]
theorem cE {l : List Nat} {a : Int} (h : 0 ≤ a ∧ a < l.length) : (l.map encF)[a.toNat]? = some (encF (l.getD a.toNat 0)) := by
 have : a.toNat < l.length := by omega
 simp [this,List.getD_eq_getElem?_getD]
theorem l3Do_sw (s : StL) (k : Nat) (o : OpL) (e : Ev) (hk : k < s.ths.length) (h5 : s.ths.length ≤ 5) (hs : s.small) (ho : o.fits s s.ths[k]) (hpc : InR s.ths[k].pc 0 1048576)
  (Q : AX → St → Prop) (K : St → Prop) (S : St) (hS : At (doL1 s k o s.ths[k]) (doO1 s k o e s.ths[k]) [(900,kR s.ths k (stk s.ths[k]))] S) (hK : ∀ S',Do2 s.ths (doL s k o e).1 k (doL s k o e).2 S' → K S') :
  sU EE Tryz.f168.ntmps K Q 1 (dropC 8 (Tryz.f168.body.getD .skip)) S := by
 have hst := hs.2.1 _ (List.getElem_mem hk)
 have hg : s.ths.getD k th0 = s.ths[k] := by simp [List.getD_eq_getElem?_getD,hk]
 generalize ht0 : s.ths[k] = t at *
 obtain ⟨τ,H,rfl⟩ := hS.form
 clear hS
 obtain ⟨o1,o2,o3,o4,o5⟩ := ho
 have hkn : zT t o ≤ t.stack.length := Nat.sub_le _ _
 obtain ⟨K0,hK0⟩ : ∃ K0,K0 = k := ⟨k,rfl⟩
 obtain ⟨K1,hK1⟩ : ∃ K1,K1 = k := ⟨k,rfl⟩
 obtain rfl | rfl | rfl | rfl | rfl : k = 0 ∨ k = 1 ∨ k = 2 ∨ k = 3 ∨ k = 4 := by omega
 all_goals
  conv => whnf
  refine kbi (fun hc => ?_) (fun hc => ?_)
  ·have hc : o.code = 1 := by simpa using hc
   conv => whnf
   refine ⟨⟨rfl,by simp; omega,by simp; omega⟩,?_⟩
   conv => whnf
   have hd : doL s K0 o e = (s.put K0 (zN (zC t o) o.v),{ e with kind := 1 }) := by rw [hK0]; unfold doL; rw [hg]; simp [hc]
   rw [hK0] at hd
   rw [hd] at hK
   refine hK _ (qG (t := zN (zC t o) o.v) (els := stk (zN (zC t o) o.v)) ⟨⟨rfl,rfl,rfl,rfl,rfl,rfl,trivial⟩,⟨rfl,rfl,rfl,rfl,rfl,rfl,rfl,rfl,trivial⟩,⟨fun j => ?_,trivial⟩⟩ ?_ ?_ hk rfl ?_ ?_)
   ·by_cases hj : j = K0 <;> rw [hK0] at hj
    ·subst hj
     conv => lhs; whnf
     show some (Ob.ds 132 1 _) = some (Ob.ds 132 1 _)
     simp [stk,zN,zC,encF]
    ·rw [kL hj]
     conv => lhs; whnf
     repeat (first | (rw [kb_ne hj]; conv => lhs; whnf) | (refine hscrO ?_ (yI _ _ _); conv => lhs; whnf))
     exact kL hj
   ·show stRef s = _
    simp [stRef,StL.put]
   ·have en : (zN (zC t o) o.v).stack.length = zT t o + 1 := by simp [zN,zC]; omega
    show _ = [_,_,_,_,_,AV.ref _ 0 (zN (zC t o) o.v).stack.length]
    rw [en]
    rfl
   ·simp [stk,List.take_of_length_le,zC,zN]
   ·intro j t0 hj h
    repeat (first | exact xB h | refine yY ?_ (zZ (by first | rfl | exact jG hj)))
  have n1 : ¬ o.code = 1 := by simpa using hc
  clear hc
  conv => whnf
  refine kbi (fun hc => ?_) (fun hc => ?_)
  ·have hc : o.code = 2 := by simpa using hc
   conv => whnf
   have hr := o2 (.inl hc)
   refine .inr (.inl ⟨9,[],?_⟩)
   conv => whnf
   refine ⟨⟨by omega,by omega⟩,?_⟩
   conv => whnf
   refine ⟨encF (s.cells.getD o.a.toNat 0),⟨by rw [Nat.zero_add]; exact cE hr,by simp [encF]⟩,?_⟩
   conv => whnf
   refine ⟨by kernel_rfl,?_⟩
   conv => whnf
   refine ⟨⟨rfl,by simp; omega,by simp; omega⟩,?_⟩
   conv => whnf
   have hd : doL s K0 o e = (s.put K0 (zN (zC t o) (s.cells.getD o.a.toNat 0)),{ e with kind := 2,obj := o.a }) := by rw [hK0]; unfold doL; rw [hg]; simp [hc]
   rw [hK0] at hd
   rw [hd] at hK
   refine hK _ (qG (t := zN (zC t o) (s.cells.getD o.a.toNat 0)) (els := stk (zN (zC t o) (s.cells.getD o.a.toNat 0))) ⟨⟨rfl,rfl,rfl,rfl,rfl,rfl,trivial⟩,⟨rfl,rfl,rfl,rfl,rfl,rfl,rfl,rfl,trivial⟩,⟨fun j => ?_,trivial⟩⟩ ?_ ?_ hk rfl ?_ ?_)
   ·by_cases hj : j = K0 <;> rw [hK0] at hj
    ·subst hj
     conv => lhs; whnf
     show some (Ob.ds 132 1 _) = some (Ob.ds 132 1 _)
     simp [stk,zN,zC,encF]
    ·rw [kL hj]
     conv => lhs; whnf
     repeat (first | (rw [kb_ne hj]; conv => lhs; whnf) | (refine hscrO ?_ (yI _ _ _); conv => lhs; whnf))
     exact kL hj
   ·show stRef s = _
    simp [stRef,StL.put]
   ·have en : (zN (zC t o) (s.cells.getD o.a.toNat 0)).stack.length = zT t o + 1 := by simp [zN,zC]; omega
    show _ = [_,_,_,_,_,AV.ref _ 0 (zN (zC t o) (s.cells.getD o.a.toNat 0)).stack.length]
    rw [en]
    rfl
   ·simp [stk,List.take_of_length_le,zC,zN]
   ·intro j t0 hj h
    repeat (first | exact xB h | refine yY ?_ (zZ (by first | rfl | exact jG hj)))
  have n2 : ¬ o.code = 2 := by simpa using hc
  clear hc
  conv => whnf
  refine kbi (fun hc => ?_) (fun hc => ?_)
  ·have hc : o.code = 3 := by simpa using hc
   conv => whnf
   have hr := o2 (.inr hc)
   have htk : xK o = 1 := by simp [xK,zA,hc]
   refine .inr (.inl ⟨7,[],?_⟩)
   conv => whnf
   refine ⟨⟨by omega,by omega⟩,?_⟩
   conv => whnf
   refine ⟨encF (yM t o 0),⟨wO o5 (by omega),by simp [encF]⟩,?_⟩
   conv => whnf
   refine ⟨by kernel_rfl,?_⟩
   conv => whnf
   refine ⟨⟨by omega,by omega⟩,?_⟩
   conv => whnf
   have hd : doL s K0 o e = ({ s with cells := s.cells.set o.a.toNat (yM t o 0) }.put K0 (zC t o),{ e with kind := 3,obj := o.a }) := by rw [hK0]; unfold doL; rw [hg]; simp [hc]
   rw [hK0] at hd
   rw [hd] at hK
   refine hK _ (qG (t := zC t o) (els := stk t) ⟨⟨rfl,rfl,rfl,rfl,rfl,rfl,trivial⟩,⟨rfl,rfl,rfl,rfl,rfl,rfl,?_,rfl,trivial⟩,⟨fun j => ?_,trivial⟩⟩ ?_ ?_ hk rfl ?_ ?_)
   ·conv => lhs; whnf
    show some (Ob.ds 132 1 ((s.cells.map encF).set (0 + o.a.toNat) (encF (yM t o 0)))) = some (Ob.ds 132 1 ((s.cells.set o.a.toNat (yM t o 0)).map encF))
    rw [Nat.zero_add,List.map_set]
   ·((conv => lhs; whnf); (repeat (refine hscrO ?_ (famK_scr _ _ _ _ _); conv => lhs; whnf)); rfl)
   ·show stRef s = _
    simp [stRef,StL.put]
   ·have en : (zC t o).stack.length = zT t o := by simp [zN,zC]; omega
    show _ = [_,_,_,_,_,AV.ref _ 0 (zC t o).stack.length]
    rw [en]
    rfl
   ·simp [stk,List.take_of_length_le,zC,zN]
   ·intro j t0 hj h
    repeat (first | exact xB h | refine yY ?_ (zZ (by first | rfl | exact jG hj)))
  have n3 : ¬ o.code = 3 := by simpa using hc
  clear hc
  conv => whnf
  refine kbi (fun hc => ?_) (fun hc => ?_)
  ·have hc : o.code = 10 := by simpa using hc
   conv => whnf
   have hd : doL s K0 o e = (s.put K0 { zC t o with pc := o.a },{ e with kind := 1 }) := by rw [hK0]; unfold doL; rw [hg]; simp [hc]
   rw [hK0] at hd
   rw [hd] at hK
   refine hK _ (qG (t := { zC t o with pc := o.a }) (els := stk t) ⟨⟨rfl,rfl,rfl,rfl,rfl,rfl,trivial⟩,⟨rfl,rfl,rfl,rfl,rfl,rfl,rfl,rfl,trivial⟩,⟨fun j => ?_,trivial⟩⟩ ?_ ?_ hk rfl ?_ ?_)
   ·((conv => lhs; whnf); (repeat (refine hscrO ?_ (famK_scr _ _ _ _ _); conv => lhs; whnf)); rfl)
   ·show stRef s = _
    simp [stRef,StL.put]
   ·have en : ({ zC t o with pc := o.a }).stack.length = zT t o := by simp [zN,zC]; omega
    show _ = [_,_,_,_,_,AV.ref _ 0 ({ zC t o with pc := o.a }).stack.length]
    rw [en]
    rfl
   ·simp [stk,List.take_of_length_le,zC,zN]
   ·intro j t0 hj h
    repeat (first | exact xB h | refine yY ?_ (zZ (by first | rfl | exact jG hj)))
  have n10 : ¬ o.code = 10 := by simpa using hc
  clear hc
  conv => whnf
  refine kbi (fun hc => ?_) (fun hc => ?_)
  ·have hc : o.code = 11 := by simpa using hc
   conv => whnf
   have htk : xK o = 1 := by simp [xK,zA,hc]
   refine ⟨⟨by omega,by omega⟩,?_⟩
   conv => whnf
   refine ⟨encF (yM t o 0),⟨wO o5 (by omega),by simp [encF]⟩,?_⟩
   conv => whnf
   refine ocase (vN _) (fun hn => ?_) (fun hn => ?_)
   ·conv => whnf
    have hn' : zQ (yM t o 0) = true := hn
    have hd : doL s K0 o e = (s.put K0 { zC t o with pc := o.a },{ e with kind := 1 }) := by rw [hK0]; unfold doL; rw [hg]; simp [hc,hn']
    rw [hK0] at hd
    rw [hd] at hK
    refine hK _ (qG (t := { zC t o with pc := o.a }) (els := stk t) ⟨⟨rfl,rfl,rfl,rfl,rfl,rfl,trivial⟩,⟨rfl,rfl,rfl,rfl,rfl,rfl,rfl,rfl,trivial⟩,⟨fun j => ?_,trivial⟩⟩ ?_ ?_ hk rfl ?_ ?_)
    ·((conv => lhs; whnf); (repeat (refine hscrO ?_ (famK_scr _ _ _ _ _); conv => lhs; whnf)); rfl)
    ·show stRef s = _
     simp [stRef,StL.put]
    ·have en : ({ zC t o with pc := o.a }).stack.length = zT t o := by simp [zN,zC]; omega
     show _ = [_,_,_,_,_,AV.ref _ 0 ({ zC t o with pc := o.a }).stack.length]
     rw [en]
     rfl
    ·simp [stk,List.take_of_length_le,zC,zN]
    ·intro j t0 hj h
     repeat (first | exact xB h | refine yY ?_ (zZ (by first | rfl | exact jG hj)))
   conv => whnf
   refine ⟨⟨by omega,by omega⟩,?_⟩
   conv => whnf
   refine ⟨encF (yM t o 0),⟨wO o5 (by omega),by simp [encF]⟩,?_⟩
   conv => whnf
   refine kbi (fun hz => ?_) (fun hz => ?_)
   ·conv => whnf
    have hz' : fcmp .eql (yM t o 0) 0 = true := hz
    have hd : doL s K0 o e = (s.put K0 { zC t o with pc := o.a },{ e with kind := 1 }) := by rw [hK0]; unfold doL; rw [hg]; simp [hc,hz']
    rw [hK0] at hd
    rw [hd] at hK
    refine hK _ (qG (t := { zC t o with pc := o.a }) (els := stk t) ⟨⟨rfl,rfl,rfl,rfl,rfl,rfl,trivial⟩,⟨rfl,rfl,rfl,rfl,rfl,rfl,rfl,rfl,trivial⟩,⟨fun j => ?_,trivial⟩⟩ ?_ ?_ hk rfl ?_ ?_)
    ·((conv => lhs; whnf); (repeat (refine hscrO ?_ (famK_scr _ _ _ _ _); conv => lhs; whnf)); rfl)
    ·show stRef s = _
     simp [stRef,StL.put]
    ·have en : ({ zC t o with pc := o.a }).stack.length = zT t o := by simp [zN,zC]; omega
     show _ = [_,_,_,_,_,AV.ref _ 0 ({ zC t o with pc := o.a }).stack.length]
     rw [en]
     rfl
    ·simp [stk,List.take_of_length_le,zC,zN]
    ·intro j t0 hj h
     repeat (first | exact xB h | refine yY ?_ (zZ (by first | rfl | exact jG hj)))
   conv => whnf
   have hz' : ¬ (zQ (yM t o 0) = true ∨ fcmp .eql (yM t o 0) 0 = true) := fun e => e.elim hn hz
   have hd : doL s K0 o e = (s.put K0 (zC t o),{ e with kind := 1 }) := by rw [hK0]; unfold doL; rw [hg]; simp [hc]; rw [if_neg hz']
   rw [hK0] at hd
   rw [hd] at hK
   refine hK _ (qG (t := zC t o) (els := stk t) ⟨⟨rfl,rfl,rfl,rfl,rfl,rfl,trivial⟩,⟨rfl,rfl,rfl,rfl,rfl,rfl,rfl,rfl,trivial⟩,⟨fun j => ?_,trivial⟩⟩ ?_ ?_ hk rfl ?_ ?_)
   ·((conv => lhs; whnf); (repeat (refine hscrO ?_ (famK_scr _ _ _ _ _); conv => lhs; whnf)); rfl)
   ·show stRef s = _
    simp [stRef,StL.put]
   ·have en : (zC t o).stack.length = zT t o := by simp [zN,zC]; omega
    show _ = [_,_,_,_,_,AV.ref _ 0 (zC t o).stack.length]
    rw [en]
    rfl
   ·simp [stk,List.take_of_length_le,zC,zN]
   ·intro j t0 hj h
    repeat (first | exact xB h | refine yY ?_ (zZ (by first | rfl | exact jG hj)))
  have n11 : ¬ o.code = 11 := by simpa using hc
  clear hc
  conv => whnf
  refine kbi (fun hc => ?_) (fun hc => ?_)
  ·have hc : o.code = 12 := by simpa using hc
   conv => whnf
   have hr := o3 (.inl hc)
   refine ⟨⟨by omega,by omega⟩,?_⟩
   conv => whnf
   have hd : doL s K0 o e = ({ s with owner := s.owner.set o.a.toNat ((K0 : Nat) : Int) }.put K0 (zC t o),{ e with kind := 4,obj := o.a }) := by rw [hK0]; unfold doL; rw [hg]; simp [hc]
   rw [hK0] at hd
   rw [hd] at hK
   refine hK _ (qG (t := zC t o) (els := stk t) ⟨⟨rfl,rfl,rfl,rfl,rfl,rfl,trivial⟩,⟨rfl,rfl,rfl,rfl,rfl,rfl,rfl,?_,trivial⟩,⟨fun j => ?_,trivial⟩⟩ ?_ ?_ hk rfl ?_ ?_)
   ·conv => lhs; whnf
    show some (Ob.ds 3 1 ((s.owner.map encInt).set (0 + o.a.toNat) (encInt _))) = some (Ob.ds 3 1 ((s.owner.set o.a.toNat _).map encInt))
    rw [Nat.zero_add,List.map_set]
   ·((conv => lhs; whnf); (repeat (refine hscrO ?_ (famK_scr _ _ _ _ _); conv => lhs; whnf)); rfl)
   ·show stRef s = _
    simp [stRef,StL.put]
   ·have en : (zC t o).stack.length = zT t o := by simp [zN,zC]; omega
    show _ = [_,_,_,_,_,AV.ref _ 0 (zC t o).stack.length]
    rw [en]
    rfl
   ·simp [stk,List.take_of_length_le,zC,zN]
   ·intro j t0 hj h
    repeat (first | exact xB h | refine yY ?_ (zZ (by first | rfl | exact jG hj)))
  have n12 : ¬ o.code = 12 := by simpa using hc
  clear hc
  conv => whnf
  refine kbi (fun hc => ?_) (fun hc => ?_)
  ·have hc : o.code = 13 := by simpa using hc
   conv => whnf
   have hr := o3 (.inr hc)
   refine ⟨⟨by omega,by omega⟩,?_⟩
   conv => whnf
   have hd : doL s K0 o e = ({ s with owner := s.owner.set o.a.toNat (-1) }.put K0 (zC t o),{ e with kind := 5,obj := o.a }) := by rw [hK0]; unfold doL; rw [hg]; simp [hc]
   rw [hK0] at hd
   rw [hd] at hK
   refine hK _ (qG (t := zC t o) (els := stk t) ⟨⟨rfl,rfl,rfl,rfl,rfl,rfl,trivial⟩,⟨rfl,rfl,rfl,rfl,rfl,rfl,rfl,?_,trivial⟩,⟨fun j => ?_,trivial⟩⟩ ?_ ?_ hk rfl ?_ ?_)
   ·conv => lhs; whnf
    show some (Ob.ds 3 1 ((s.owner.map encInt).set (0 + o.a.toNat) (encInt (-1)))) = some (Ob.ds 3 1 ((s.owner.set o.a.toNat (-1)).map encInt))
    rw [Nat.zero_add,List.map_set]
   ·((conv => lhs; whnf); (repeat (refine hscrO ?_ (famK_scr _ _ _ _ _); conv => lhs; whnf)); rfl)
   ·show stRef s = _
    simp [stRef,StL.put]
   ·have en : (zC t o).stack.length = zT t o := by simp [zN,zC]; omega
    show _ = [_,_,_,_,_,AV.ref _ 0 (zC t o).stack.length]
    rw [en]
    rfl
   ·simp [stk,List.take_of_length_le,zC,zN]
   ·intro j t0 hj h
    repeat (first | exact xB h | refine yY ?_ (zZ (by first | rfl | exact jG hj)))
  have n13 : ¬ o.code = 13 := by simpa using hc
  clear hc
  conv => whnf
  refine kbi (fun hc => ?_) (fun hc => ?_)
  ·have hc : o.code = 14 := by simpa using hc
   conv => whnf
   refine ⟨⟨rfl,by simp; omega,by simp; omega⟩,?_⟩
   conv => whnf
   refine .inr (.inl ⟨6,[],?_⟩)
   conv => whnf
   refine ⟨_,dN o.a,?_⟩
   conv => whnf
   refine ⟨by kernel_rfl,?_⟩
   conv => whnf
   refine ⟨⟨fun c hc' => ?_,?_,?_⟩,?_⟩
   ·have hc' : c ∈ [[i64 o.a,i64 0,i64 1,i64 (-1),i64 (-1),AV.d (.sl [])]] := hc'
    simp only [List.mem_singleton] at hc'
    subst hc'; rfl
   ·show (s.ths.length + 1) * 64 ≤ _
    omega
   ·show s.ths.length + 1 ≤ _
    omega
   conv => whnf
   have hd : doL s K0 o e = ({ s with ths := s.ths ++ [jF o.a] }.put K0 (zN (zC t o) (FloatKind.f64.nearest (s.ths.length : Int))),{ e with kind := 6,obj := s.ths.length }) := by rw [hK0]; unfold doL; rw [hg]; simp [hc]
   rw [hK0] at hd
   rw [hd] at hK
   refine hK _ (do2_fork (t := zN (zC t o) (FloatKind.f64.nearest (s.ths.length : Int))) (nt := jF o.a) (els := stk (zN (zC t o) (FloatKind.f64.nearest (s.ths.length : Int)))) ⟨⟨rfl,rfl,rfl,rfl,rfl,rfl,trivial⟩,⟨rfl,rfl,rfl,rfl,rfl,rfl,rfl,rfl,trivial⟩,⟨fun j => ?_,trivial⟩⟩ ?_ ?_ hk rfl rfl ?_ ?_ ?_)
   ·by_cases hj : j = K0 <;> rw [hK0] at hj
    ·subst hj
     conv => lhs; whnf
     show some (Ob.ds 132 1 _) = some (Ob.ds 132 1 _)
     simp [stk,zN,zC,encF]
    ·rw [kL hj]
     conv => lhs; whnf
     repeat (first | (rw [kb_ne hj]; conv => lhs; whnf) | (refine hscrO ?_ (yI _ _ _); conv => lhs; whnf))
     exact kL hj
   ·show [AV.dref (.n 900) (s.ths.length + 1),AV.ref (.n 901) 0 s.cells.length,AV.ref (.n 902) 0 s.owner.length,i64 s.fault] = _
    simp [stRef,StL.put]
   ·have en : (zN (zC t o) (FloatKind.f64.nearest (s.ths.length : Int))).stack.length = zT t o + 1 := by simp [zN,zC]; omega
    show _ = [_,_,_,_,_,AV.ref _ 0 (zN (zC t o) (FloatKind.f64.nearest (s.ths.length : Int))).stack.length]
    rw [en]
    rfl
   ·simp [stk,List.take_of_length_le,zC,zN]
   ·intro j t0 hj h
    have hjl := (List.getElem?_eq_some_iff.1 h).1
    refine yY ?_ (zZ (by first | rfl | exact jG hj))
    refine rows_app ?_ hjl
    repeat (first | exact xB h | refine yY ?_ (zZ (by first | rfl | exact jG hj)))
   ·refine yY ?_ rfl
    refine rows_new (by simp [zU]) ?_
    rfl
  have n14 : ¬ o.code = 14 := by simpa using hc
  clear hc
  conv => whnf
  refine kbi (fun hc => ?_) (fun hc => ?_)
  ·have hc : o.code = 15 := by simpa using hc
   conv => whnf
   have hd : doL s K0 o e = (s.put K0 (zC t o),{ e with kind := 7,obj := (zW s t).getD (-1) }) := by rw [hK0]; unfold doL; rw [hg]; simp [hc]
   rw [hK0] at hd
   rw [hd] at hK
   refine hK _ (qG (t := zC t o) (els := stk t) ⟨⟨rfl,rfl,rfl,rfl,rfl,rfl,trivial⟩,⟨rfl,rfl,rfl,rfl,rfl,rfl,rfl,rfl,trivial⟩,⟨fun j => ?_,trivial⟩⟩ ?_ ?_ hk rfl ?_ ?_)
   ·((conv => lhs; whnf); (repeat (refine hscrO ?_ (famK_scr _ _ _ _ _); conv => lhs; whnf)); rfl)
   ·show stRef s = _
    simp [stRef,StL.put]
   ·have en : (zC t o).stack.length = zT t o := by simp [zN,zC]; omega
    show _ = [_,_,_,_,_,AV.ref _ 0 (zC t o).stack.length]
    rw [en]
    rfl
   ·simp [stk,List.take_of_length_le,zC,zN]
   ·intro j t0 hj h
    repeat (first | exact xB h | refine yY ?_ (zZ (by first | rfl | exact jG hj)))
  have n15 : ¬ o.code = 15 := by simpa using hc
  clear hc
  conv => whnf
  refine kbi (fun hc => ?_) (fun hc => ?_)
  ·have hc : o.code = 16 := by simpa using hc
   conv => whnf
   have hr := o4 hc
   refine ⟨⟨by omega,by omega⟩,?_⟩
   conv => whnf
   have hd : doL s K0 o e = ({ s with owner := s.owner.set o.b.toNat (-1) }.put K0 { zC t o with st := 3,cond := o.a,lock := o.b,pc := (zC t o).pc - 1 },{ e with kind := 8,obj := o.a,lock := o.b }) := by rw [hK0]; unfold doL; rw [hg]; simp [hc]
   rw [hK0] at hd
   rw [hd] at hK
   refine hK _ (qG (t := { zC t o with st := 3,cond := o.a,lock := o.b,pc := (zC t o).pc - 1 }) (els := stk t) ⟨⟨rfl,rfl,rfl,rfl,rfl,rfl,trivial⟩,⟨rfl,rfl,rfl,rfl,rfl,rfl,rfl,?_,trivial⟩,⟨fun j => ?_,trivial⟩⟩ ?_ ?_ hk rfl ?_ ?_)
   ·conv => lhs; whnf
    show some (Ob.ds 3 1 ((s.owner.map encInt).set (0 + o.b.toNat) (encInt (-1)))) = some (Ob.ds 3 1 ((s.owner.set o.b.toNat (-1)).map encInt))
    rw [Nat.zero_add,List.map_set]
   ·((conv => lhs; whnf); (repeat (refine hscrO ?_ (famK_scr _ _ _ _ _); conv => lhs; whnf)); rfl)
   ·show stRef s = _
    simp [stRef,StL.put]
   ·have en : ({ zC t o with st := 3,cond := o.a,lock := o.b,pc := (zC t o).pc - 1 }).stack.length = zT t o := by simp [zN,zC]; omega
    have ew : IntKind.i64.wrap (t.pc + 1 - 1) = t.pc + 1 - 1 := zH (by have := hpc.1; omega) (by have := hpc.2; omega)
    show [_,AV.d (.int .i64 (IntKind.i64.wrap (t.pc + 1 - 1))),_,_,_,_] = [_,_,_,_,_,AV.ref _ 0 ({ zC t o with st := 3,cond := o.a,lock := o.b,pc := (zC t o).pc - 1 }).stack.length]
    rw [en,ew]
    rfl
   ·simp [stk,List.take_of_length_le,zC,zN]
   ·intro j t0 hj h
    repeat (first | exact xB h | refine yY ?_ (zZ (by first | rfl | exact jG hj)))
  have n16 : ¬ o.code = 16 := by simpa using hc
  clear hc
  conv => whnf
  refine kbi (fun hc => ?_) (fun hc => ?_)
  ·have hc : o.code = 17 := by simpa using hc
   conv => whnf
   have hen : (zC t o).stack.length = zT t o := by simp [zC]; omega
   refine aloopF (fun i : Nat => [(1,i64 ((K0 : Nat) : Int)),(4,.ptr (.n 4) 0),(6,.ptr (.n 6) 0),(7,.ptr (.n 7) 0),(8,.ptr (.n 8) 0),(9,.ptr (.n 9) 0),(10,.ptr (.n 10) 0),(215,.dref (.n 900) s.ths.length),(216,i64 s.ths.length),(217,i64 i)])
    (fun i => [(.n 4,.vs 54 (stRef s)),(.n 6,.vs 183 ((encOp o).map .d)),(.n 7,.vs 128 ((encEv { e with kind := 10,obj := o.a }).map .d)),(.n 8,.vs 54 [.d .nil,.d .nil,.d .nil,i64 0]),(.n 9,.vs 128 [i64 0,i64 0,i64 0,i64 0,i64 0]),
     (.n 10,.vs 175 (thRow 900 K0 (zC t o))),(.n 900,.rs 175 6 (thRows 900 s.ths)),(.n 901,.ds 132 1 (s.cells.map encF)),(.n 902,.ds 3 1 (s.owner.map encInt))])
    (fun i => [(900,kR s.ths K0 (stk t))]) (fun i => s.ths.length - i) (fun i => i ≤ s.ths.length ∧ ∀ j u,j < i → s.ths[j]? = some u → ¬ (u.st = 3 ∧ u.cond = o.a)) 0 Weak.refl ?_ ?_ ?_ ⟨Nat.zero_le _,fun j u hj => by omega⟩ ?_
   all_goals subst hK0
   ·exact ⟨rfl,rfl,rfl,rfl,rfl,rfl,rfl,rfl,rfl,rfl,trivial⟩
   ·refine ⟨rfl,rfl,rfl,rfl,rfl,?_,?_,rfl,rfl,trivial⟩
    ·show _ = some (Ob.vs 175 [_,_,_,_,_,AV.ref _ 0 (zC t o).stack.length])
     rw [hen]
     rfl
    ·first | ((conv => lhs; whnf); refine congrArg some ?_; repeat (first | rfl | refine yK ?_ (by exact congrArg _ (yG fun _ _ => rfl)))) | rfl
   ·refine ⟨fun j => ?_,trivial⟩
    ((conv => lhs; whnf); (repeat (refine hscrO ?_ (famK_scr _ _ _ _ _); conv => lhs; whnf)); rfl)
   rintro i τ H ⟨hi,hno⟩
   conv => whnf
   refine kbi (fun hl => ?_) (fun hl => ?_)
   ·have hlt : i < s.ths.length := by simpa using hl
    conv => whnf
    refine ⟨⟨by omega,by omega⟩,?_⟩
    conv => whnf
    refine ⟨thRow 900 i s.ths[i],⟨by repeat (first | exact pE hlt rfl | refine yY ?_ rfl),by simp [thRow]⟩,?_⟩
    conv => whnf
    have nxt : ¬ (s.ths[i].st = 3 ∧ s.ths[i].cond = o.a) → ∀ j u,j < i + 1 → s.ths[j]? = some u → ¬ (u.st = 3 ∧ u.cond = o.a) := by
     intro hx j u hj hu
     by_cases hji : j = i
     ·subst hji
      rw [List.getElem?_eq_getElem hlt] at hu
      simp only [Option.some.injEq] at hu
      subst hu; exact hx
     ·exact hno j u (by omega) hu
    refine kbi (fun h3 => ?_) (fun h3 => ?_)
    ·have h3 : s.ths[i].st = 3 := by simpa using h3
     conv => whnf
     refine kbi (fun h4 => ?_) (fun h4 => ?_)
     ·have h4 : s.ths[i].cond = o.a := by simpa using h4
      conv => whnf
      refine ⟨⟨by omega,by omega⟩,?_⟩
      conv => whnf
      have hw : wK s.ths o.a = some i := by
       unfold wK
       rw [List.findIdx?_eq_some_iff_getElem]
       refine ⟨hlt,by simp [h3,h4],fun j hj => ?_⟩
       have := hno j _ hj (List.getElem?_eq_getElem (by omega))
       simpa using this
      have hd : doL s K1 o e = ({ s with ths := s.ths.modify i fun u => { u with st := 4 } }.put K1 (zC t o),{ e with kind := 10,obj := o.a,lock := i }) := by rw [hK1]; unfold doL; rw [hg]; simp [hc,hw]
      rw [hK1] at hd
      rw [hd] at hK
      refine hK _ (do2_wake (i := i) (t := zC t o) (els := stk t) ⟨⟨rfl,rfl,rfl,rfl,rfl,rfl,trivial⟩,⟨rfl,rfl,rfl,rfl,rfl,rfl,rfl,rfl,trivial⟩,⟨fun j => ?_,trivial⟩⟩ ?_ rfl hk rfl ?_ ?_)
      ·((conv => lhs; whnf); (repeat (refine hscrO ?_ (famK_scr _ _ _ _ _); conv => lhs; whnf)); rfl)
      ·show stRef s = _
       simp [stRef,StL.put]
      ·simp [stk,List.take_of_length_le,zC]
      ·intro j t0 hj h
       refine rows_mod (X := (thRows 900 s.ths).map (scrPL (isK (.n 16)))) (i := i) ?_
       repeat (first | exact xB h | refine yY ?_ (zZ (by first | rfl | exact jG hj)))
     ·have h4 : ¬ s.ths[i].cond = o.a := by simpa using h4
      conv => whnf
      refine ⟨i + 1,_,Weak.refl,⟨by omega,nxt (fun hx => h4 hx.2)⟩,by show s.ths.length - (i + 1) < s.ths.length - i; omega,⟨rfl,rfl,rfl,rfl,rfl,rfl,rfl,rfl,rfl,next_i64 hlt (by omega),trivial⟩,⟨rfl,rfl,rfl,rfl,rfl,rfl,?_,rfl,rfl,trivial⟩,⟨fun j => ?_,trivial⟩⟩
      ·((conv => lhs; whnf); refine congrArg some ?_; repeat (first | rfl | refine yK ?_ (by exact congrArg _ (yG fun _ _ => rfl))))
      ·((conv => lhs; whnf); (repeat (refine hscrO ?_ (famK_scr _ _ _ _ _); conv => lhs; whnf)); rfl)
    ·have h3 : ¬ s.ths[i].st = 3 := by simpa using h3
     conv => whnf
     refine ⟨i + 1,_,Weak.refl,⟨by omega,nxt (fun hx => h3 hx.1)⟩,by show s.ths.length - (i + 1) < s.ths.length - i; omega,⟨rfl,rfl,rfl,rfl,rfl,rfl,rfl,rfl,rfl,next_i64 hlt (by omega),trivial⟩,⟨rfl,rfl,rfl,rfl,rfl,rfl,?_,rfl,rfl,trivial⟩,⟨fun j => ?_,trivial⟩⟩
     ·((conv => lhs; whnf); refine congrArg some ?_; repeat (first | rfl | refine yK ?_ (by exact congrArg _ (yG fun _ _ => rfl))))
     ·((conv => lhs; whnf); (repeat (refine hscrO ?_ (famK_scr _ _ _ _ _); conv => lhs; whnf)); rfl)
   ·have hge : s.ths.length ≤ i := by simpa using hl
    conv => whnf
    have hw : wK s.ths o.a = none := by
     unfold wK
     rw [List.findIdx?_eq_none_iff]
     intro u hu
     obtain ⟨j,hj,rfl⟩ := List.mem_iff_getElem.1 hu
     have := hno j _ (by omega) (List.getElem?_eq_getElem hj)
     simp only [Bool.and_eq_false_iff,beq_eq_false_iff_ne]
     by_cases h3 : s.ths[j].st = 3
     ·exact .inr fun h4 => this ⟨h3,h4⟩
     ·exact .inl h3
    have hd : doL s K1 o e = (s.put K1 (zC t o),{ e with kind := 10,obj := o.a }) := by rw [hK1]; unfold doL; rw [hg]; simp [hc,hw]
    rw [hK1] at hd
    rw [hd] at hK
    refine hK _ (qG (t := zC t o) (els := stk t) ⟨⟨rfl,rfl,rfl,rfl,rfl,rfl,trivial⟩,⟨rfl,rfl,rfl,rfl,rfl,rfl,rfl,rfl,trivial⟩,⟨fun j => ?_,trivial⟩⟩ ?_ rfl hk rfl ?_ ?_)
    ·((conv => lhs; whnf); (repeat (refine hscrO ?_ (famK_scr _ _ _ _ _); conv => lhs; whnf)); rfl)
    ·show stRef s = _
     simp [stRef,StL.put]
    ·simp [stk,List.take_of_length_le,zC]
    ·intro j t0 hj h
     repeat (first | exact xB h | refine yY ?_ (zZ (by first | rfl | exact jG hj)))
  have n17 : ¬ o.code = 17 := by simpa using hc
  clear hc
  conv => whnf
  have hcode : 4 ≤ o.code ∧ o.code ≤ 9 := by have := o1.1; have := o1.2; omega
  have htk : xK o = 2 := by simp only [xK,zA]; rw [if_neg (by omega),if_neg (by omega),if_pos hcode]; rfl
  refine .inr (.inl ⟨12,[],?_⟩)
  conv => whnf
  refine ⟨⟨by omega,by omega⟩,?_⟩
  conv => whnf
  refine ⟨encF (yM t o 0),⟨wO o5 (by omega),by simp [encF]⟩,?_⟩
  conv => whnf
  refine ⟨⟨by omega,by omega⟩,?_⟩
  conv => whnf
  refine ⟨encF (yM t o 1),⟨wO o5 (by omega),by simp [encF]⟩,?_⟩
  conv => whnf
  refine ⟨_,m6 _ _ _,?_⟩
  conv => whnf
  refine ⟨by kernel_rfl,?_⟩
  conv => whnf
  refine ⟨⟨rfl,by simp; omega,by simp; omega⟩,?_⟩
  conv => whnf
  have hd : doL s K0 o e = (s.put K0 (zN (zC t o) (yN o.code (yM t o 0) (yM t o 1))),{ e with kind := 1 }) := by rw [hK0]; unfold doL; rw [hg]; simp [n1,n2,n3,n10,n11,n12,n13,n14,n15,n16,n17]
  rw [hK0] at hd
  rw [hd] at hK
  refine hK _ (qG (t := zN (zC t o) (yN o.code (yM t o 0) (yM t o 1))) (els := stk (zN (zC t o) (yN o.code (yM t o 0) (yM t o 1)))) ⟨⟨rfl,rfl,rfl,rfl,rfl,rfl,trivial⟩,⟨rfl,rfl,rfl,rfl,rfl,rfl,rfl,rfl,trivial⟩,⟨fun j => ?_,trivial⟩⟩ ?_ ?_ hk rfl ?_ ?_)
  ·by_cases hj : j = K0 <;> rw [hK0] at hj
   ·subst hj
    conv => lhs; whnf
    show some (Ob.ds 132 1 _) = some (Ob.ds 132 1 _)
    simp [stk,zN,zC,encF]
   ·rw [kL hj]
    conv => lhs; whnf
    repeat (first | (rw [kb_ne hj]; conv => lhs; whnf) | (refine hscrO ?_ (yI _ _ _); conv => lhs; whnf))
    exact kL hj
  ·show stRef s = _
   simp [stRef,StL.put]
  ·have en : (zN (zC t o) (yN o.code (yM t o 0) (yM t o 1))).stack.length = zT t o + 1 := by simp [zN,zC]; omega
   show _ = [_,_,_,_,_,AV.ref _ 0 (zN (zC t o) (yN o.code (yM t o 0) (yM t o 1))).stack.length]
   rw [en]
   rfl
  ·simp [stk,List.take_of_length_le,zC,zN]
  ·intro j t0 hj h
   repeat (first | exact xB h | refine yY ?_ (zZ (by first | rfl | exact jG hj)))
end Ai
end
section
set_option maxRecDepth 100000
namespace Ai
open Go Go.Proofs
theorem famK_self {l : List Th} {k j : Nat} (hk : k < l.length) : kR l k (stk l[k]) j = zV l j := by
 unfold kR
 by_cases hj : j = k
 ·subst hj
  rw [show Nat.beq j j = true from Nat.beq_refl j]
  simp [zV,hk]
 ·rw [nbeq_ne hj]; rfl
theorem l3Do_ok (hI : xE) (s : StL) (k : Nat) (o : OpL) (e : Ev) (hk : k < s.ths.length) (h5 : s.ths.length ≤ 5) (hs : s.small) (ho : o.fits s s.ths[k]) (hpc : InR s.ths[k].pc 0 1048576) (H0 : Key → Option Ob) (hH : StH s H0) :
  IOCall EE 168 [.agg (stRef s),i64 k,agg (encOp o),agg (encEv e)] H0 (doPost (doL s k o e).1 (doL s k o e).2) := by
 obtain ⟨g1,g2,g3,g4⟩ := hH
 refine io_of_AW (fn := Tryz.f168) (c := Tryz.f168.body.getD .skip) Tryz.func168 rfl (by kernel_rfl) rfl ?_
 have hat : At [(0,.agg (stRef s)),(1,i64 k),(2,agg (encOp o)),(3,agg (encEv e))] [(.n 900,.rs 175 6 (thRows 900 s.ths)),(.n 901,.ds 132 1 (s.cells.map encF)),(.n 902,.ds 3 1 (s.owner.map encInt))] [(900,kR s.ths k (stk s.ths[k]))]
   ⟨fun i => [AV.agg (stRef s),i64 k,agg (encOp o),agg (encEv e)].getD i .junk,H0⟩ :=
  ⟨⟨rfl,rfl,rfl,rfl,trivial⟩,⟨g1,g3,g4,trivial⟩,⟨fun j => by rw [famK_self hk]; exact g2 j,trivial⟩⟩
 obtain ⟨τ,H,hf⟩ := hat.form
 rw [hf]
 refine uU 8 (At (doL1 s k o s.ths[k]) (doO1 s k o e s.ths[k]) [(900,kR s.ths k (stk s.ths[k]))]) (fun K hK => l3Do_pre hI s k o e hk h5 hs ho.2.2.2.2 hpc τ H _ K hK) (fun S hS => ?_)
 refine uU 1 (Do2 s.ths (doL s k o e).1 k (doL s k o e).2) (fun K hK => l3Do_sw s k o e hk h5 hs ho hpc _ K S hS hK) (fun S' hS' => ?_)
 exact l3Do_fin s.ths _ k _ (by omega) S' hS'
end Ai
end
section
set_option maxRecDepth 100000
namespace Ai
open Go Go.Proofs
def ev0 (k : Nat) (t : Th) : Ev := ⟨k,0,-1,-1,t.pc⟩
noncomputable def stepL (p : ProgL) (s : StL) (k : Nat) : StL × Ev :=
 let t := s.ths.getD k th0
 if t.st = 4 then
  ({ s with owner := s.owner.set t.lock.toNat k }.put k { t with st := 1,cond := -1,lock := -1,pc := if (yC p t).isSome then t.pc + 1 else t.pc },{ ev0 k t with kind := 9,obj := t.cond,lock := t.lock })
 else match yC p t with
  |none => (s.put k { t with st := 2 },{ ev0 k t with kind := 11 })
  |some o => if zX s k o = 0 then doL s k o (ev0 k t) else ({ s with fault := zX s k o },{ ev0 k t with kind := 12,obj := zX s k o })
structure Th.ready (t : Th) (p : ProgL) (s : StL) (k : Nat) : Prop where
 inP : t.inP p
 pc : InR t.pc 0 1048576
 lock : t.st = 4 → 0 ≤ t.lock ∧ t.lock < s.owner.length
 op : ∀ o,yC p t = some o → o.inS s ∧ (zX s k o = 0 → o.fits s t)
theorem rP {X : List (List AV)} {sz k off j : Nat} {xs c : List AV} (hj : j ≠ k) (h : X[j]? = some c) : (xG X sz k off xs)[j]? = some c := by
 unfold xG
 cases (Nat.beq off 0 && Nat.beq xs.length sz) with
 |true => simp only [cond_true]; rw [List.getElem?_set_ne (Ne.symm hj)]; exact h
 |false => simp only [cond_false]; rw [List.getElem?_modify,h]; simp [Ne.symm hj]
theorem wY {X : List (List AV)} {sz k off : Nat} {xs c c' : List AV} (h : X[k]? = some c) (e : (bif Nat.beq off 0 && Nat.beq xs.length sz then xs else yA c off xs) = c') : (xG X sz k off xs)[k]? = some c' := by
 unfold xG
 subst e
 have hk := (List.getElem?_eq_some_iff.1 h).1
 cases (Nat.beq off 0 && Nat.beq xs.length sz) with
 |true => simp only [cond_true]; rw [List.getElem?_set_self hk]
 |false => simp only [cond_false]; rw [List.getElem?_modify,h]; simp
theorem fz_st3 {s : StL} {S : St} {rows : List (List AV)} {n m l : Nat} (h1 : S.H (.n 900) = some (.rs 175 6 rows)) (hv : ∀ (j : Nat) (row : List AV) (t : Th),s.ths[j]? = some t → rows[j]? = some row → fz1s S row = some (zE t))
  (h3 : S.H (.n 901) = some (.ds 132 1 (s.cells.map encF))) (h4 : S.H (.n 902) = some (.ds 3 1 (s.owner.map encInt))) (hn : n = s.ths.length) (hm : m = s.cells.length) (hl : l = s.owner.length) :
  FzC S [.dref (.n 900) n,.ref (.n 901) 0 m,.ref (.n 902) 0 l,i64 s.fault] (encSt s) := by
 subst hn hm hl; exact fz_st2 h1 hv h3 h4
theorem l3Step_4 (hI : xE) (p : ProgL) (s : StL) (k : Nat) (hp : p.wf) (hk : k < s.ths.length) (h5 : s.ths.length ≤ 5) (hs : s.small) (hr : s.ths[k].ready p s k) (h40 : s.ths[k].st = 4) :
  CallsTo EE 90 [agg (encProg p),agg (encSt s),i64 k] (· = .tup [agg (encSt (stepL p s k).1),agg (encEv (stepL p s k).2)]) := by
 refine callsTo_of_AW (fn := Tryz.f90) Tryz.func90 rfl (by kernel_rfl) rfl ?_
 have hg : s.ths.getD k th0 = s.ths[k] := by simp [List.getD_eq_getElem?_getD,hk]
 conv => whnf
 refine ⟨zE s.ths[k],yB zE hk rfl,?_⟩
 conv => whnf
 refine ⟨_,nH p s.ths[k] hp hr.inP,?_⟩
 rintro r rfl
 conv => whnf
 refine kbi (fun h4 => ?_) (fun h4 => ?_)
 ·have h4 : s.ths[k].st = 4 := by simpa using h4
  conv => whnf
  refine ⟨_,lY s hs,?_⟩
  rintro r rfl
  conv => whnf
  have hl := hr.lock h4
  refine ⟨⟨hl.1,by simp; omega⟩,?_⟩
  conv => whnf
  refine ⟨⟨by omega,by simp; omega⟩,?_⟩
  conv => whnf
  refine ⟨⟨by omega,by simp; omega⟩,?_⟩
  conv => whnf
  refine ⟨⟨by omega,by simp; omega⟩,?_⟩
  conv => whnf
  cases hn : yC p s.ths[k] with
  |none =>
   conv => whnf
   refine .inr (.inl ⟨4,[],?_⟩)
   conv => whnf
   refine ⟨by kernel_rfl,?_⟩
   conv => whnf
   have hd : stepL p s k = ({ s with owner := s.owner.set s.ths[k].lock.toNat k }.put k { s.ths[k] with st := 1,cond := -1,lock := -1 },{ ev0 k s.ths[k] with kind := 9,obj := s.ths[k].cond,lock := s.ths[k].lock }) := by
    unfold stepL; rw [hg]; simp [h4,hn]
   rw [hd]
   refine .inl ?_
   conv => whnf
   refine ⟨[agg (encSt _),agg (encEv _)],⟨_,_,rfl,⟨_,rfl,?_⟩,_,_,rfl,⟨_,rfl,?_⟩,rfl⟩,rfl⟩
   ·refine @fz_st3 _ _ ?_ _ _ _ ?_ ?_ ?_ ?_ ?_ ?_ ?_
    rotate_left 1
    ·conv => lhs; whnf
     rfl
    ·intro j row t' ht hrr
     have hjl : j < s.ths.length := by have := (List.getElem?_eq_some_iff.1 ht).1; simpa [StL.put] using this
     have r0 := xB (o := 900) (List.getElem?_eq_getElem hjl)
     by_cases hj : j = k
     ·subst hj
      have e : t' = { s.ths[j] with st := 1,cond := -1,lock := -1 } := by simpa [StL.put,hjl] using ht.symm
      subst e
      have e2 : row = thRow 900 j { s.ths[j] with st := 1,cond := -1,lock := -1 } := by
       refine Option.some.inj (hrr.symm.trans ?_)
       refine yY ?_ (zZ rfl)
       refine wY (c := [i64 s.ths[j].rt,i64 s.ths[j].pc,i64 1,i64 (-1),i64 s.ths[j].lock,.ref (.s 900 j) 0 s.ths[j].stack.length]) ?_ rfl
       refine wY (c := [i64 s.ths[j].rt,i64 s.ths[j].pc,i64 1,i64 s.ths[j].cond,i64 s.ths[j].lock,.ref (.s 900 j) 0 s.ths[j].stack.length]) ?_ rfl
       refine wY (c := thRow 900 j s.ths[j]) ?_ rfl
       repeat (first | exact r0 | refine yY ?_ (zZ rfl))
      subst e2
      refine fz_rowT (els := stk s.ths[j]) ?_ (by simp [stk,List.take_of_length_le])
      conv => lhs; whnf
      repeat (refine n7 ?_ rfl; conv => lhs; whnf)
      rw [qD hjl]
     ·have e : t' = s.ths[j] := by
       have : (s.ths.set k _)[j]? = some t' := ht
       rw [List.getElem?_set_ne (Ne.symm hj),List.getElem?_eq_getElem hjl] at this
       exact (Option.some.inj this).symm
      subst e
      have e2 : row = thRow 900 j s.ths[j] := by
       refine Option.some.inj (hrr.symm.trans ?_)
       repeat (first | exact r0 | refine yY ?_ (zZ rfl) | refine rP hj ?_)
      subst e2
      refine fz_rowT (els := stk s.ths[j]) ?_ (by simp [stk,List.take_of_length_le])
      conv => lhs; whnf
      repeat (refine n7 ?_ rfl; conv => lhs; whnf)
      rw [qD hjl]
    ·conv => lhs; whnf
     rfl
    ·conv => lhs; whnf
     show some (Ob.ds 3 1 ((s.owner.map encInt).set (0 + s.ths[k].lock.toNat) (encInt k))) = some (Ob.ds 3 1 ((s.owner.set s.ths[k].lock.toNat k).map encInt))
     rw [Nat.zero_add,List.map_set]
    ·simp [StL.put]
    ·simp [StL.put]
    ·simp [StL.put]
   ·exact p5 k 9 s.ths[k].cond s.ths[k].lock s.ths[k].pc
  |some o =>
   conv => whnf
   refine ⟨⟨by omega,by simp; omega⟩,?_⟩
   conv => whnf
   have r0 := xB (o := 900) (List.getElem?_eq_getElem hk)
   refine ⟨[i64 s.ths[k].rt,i64 s.ths[k].pc,i64 1,i64 (-1),i64 (-1),.ref (.s 900 k) 0 s.ths[k].stack.length],⟨?_,by simp⟩,?_⟩
   ·refine wY (c := [i64 s.ths[k].rt,i64 s.ths[k].pc,i64 1,i64 (-1),i64 s.ths[k].lock,.ref (.s 900 k) 0 s.ths[k].stack.length]) ?_ rfl
    refine wY (c := [i64 s.ths[k].rt,i64 s.ths[k].pc,i64 1,i64 s.ths[k].cond,i64 s.ths[k].lock,.ref (.s 900 k) 0 s.ths[k].stack.length]) ?_ rfl
    refine wY (c := thRow 900 k s.ths[k]) ?_ rfl
    repeat (first | exact r0 | refine yY ?_ (zZ rfl))
   conv => whnf
   rw [zH (by have := hr.pc.1; omega) (by have := hr.pc.2; omega)]
   refine ⟨⟨by omega,by simp; omega⟩,?_⟩
   conv => whnf
   refine .inr (.inl ⟨4,[],?_⟩)
   conv => whnf
   refine ⟨by kernel_rfl,?_⟩
   conv => whnf
   have hd : stepL p s k = ({ s with owner := s.owner.set s.ths[k].lock.toNat k }.put k { s.ths[k] with st := 1,cond := -1,lock := -1,pc := s.ths[k].pc + 1 },{ ev0 k s.ths[k] with kind := 9,obj := s.ths[k].cond,lock := s.ths[k].lock }) := by
    unfold stepL; rw [hg]; simp [h4,hn]
   rw [hd]
   refine .inl ?_
   conv => whnf
   refine ⟨[agg (encSt _),agg (encEv _)],⟨_,_,rfl,⟨_,rfl,?_⟩,_,_,rfl,⟨_,rfl,?_⟩,rfl⟩,rfl⟩
   ·refine @fz_st3 _ _ ?_ _ _ _ ?_ ?_ ?_ ?_ ?_ ?_ ?_
    rotate_left 1
    ·conv => lhs; whnf
     rfl
    ·intro j row t' ht hrr
     have hjl : j < s.ths.length := by have := (List.getElem?_eq_some_iff.1 ht).1; simpa [StL.put] using this
     have r0 := xB (o := 900) (List.getElem?_eq_getElem hjl)
     by_cases hj : j = k
     ·subst hj
      have e : t' = { s.ths[j] with st := 1,cond := -1,lock := -1,pc := s.ths[j].pc + 1 } := by simpa [StL.put,hjl] using ht.symm
      subst e
      have e2 : row = thRow 900 j { s.ths[j] with st := 1,cond := -1,lock := -1,pc := s.ths[j].pc + 1 } := by
       refine Option.some.inj (hrr.symm.trans ?_)
       refine yY ?_ (zZ rfl)
       refine wY (c := [i64 s.ths[j].rt,i64 s.ths[j].pc,i64 1,i64 (-1),i64 (-1),.ref (.s 900 j) 0 s.ths[j].stack.length]) ?_ rfl
       refine wY (c := [i64 s.ths[j].rt,i64 s.ths[j].pc,i64 1,i64 (-1),i64 s.ths[j].lock,.ref (.s 900 j) 0 s.ths[j].stack.length]) ?_ rfl
       refine wY (c := [i64 s.ths[j].rt,i64 s.ths[j].pc,i64 1,i64 s.ths[j].cond,i64 s.ths[j].lock,.ref (.s 900 j) 0 s.ths[j].stack.length]) ?_ rfl
       refine wY (c := thRow 900 j s.ths[j]) ?_ rfl
       repeat (first | exact r0 | refine yY ?_ (zZ rfl))
      subst e2
      refine fz_rowT (els := stk s.ths[j]) ?_ (by simp [stk,List.take_of_length_le])
      conv => lhs; whnf
      repeat (refine n7 ?_ rfl; conv => lhs; whnf)
      rw [qD hjl]
     ·have e : t' = s.ths[j] := by
       have : (s.ths.set k _)[j]? = some t' := ht
       rw [List.getElem?_set_ne (Ne.symm hj),List.getElem?_eq_getElem hjl] at this
       exact (Option.some.inj this).symm
      subst e
      have e2 : row = thRow 900 j s.ths[j] := by
       refine Option.some.inj (hrr.symm.trans ?_)
       repeat (first | exact r0 | refine yY ?_ (zZ rfl) | refine rP hj ?_)
      subst e2
      refine fz_rowT (els := stk s.ths[j]) ?_ (by simp [stk,List.take_of_length_le])
      conv => lhs; whnf
      repeat (refine n7 ?_ rfl; conv => lhs; whnf)
      rw [qD hjl]
    ·conv => lhs; whnf
     rfl
    ·conv => lhs; whnf
     show some (Ob.ds 3 1 ((s.owner.map encInt).set (0 + s.ths[k].lock.toNat) (encInt k))) = some (Ob.ds 3 1 ((s.owner.set s.ths[k].lock.toNat k).map encInt))
     rw [Nat.zero_add,List.map_set]
    ·simp [StL.put]
    ·simp [StL.put]
    ·simp [StL.put]
   ·exact p5 k 9 s.ths[k].cond s.ths[k].lock s.ths[k].pc
 ·exact absurd (by simpa using h40) h4
end Ai
end
section
namespace Ai
open Go Go.Proofs
section
variable {S : St} {H1 : Key → Option Ob} {L : Key → Bool} {f : Key → Key}
theorem mC (hS : ∀ κ,L κ = true → S.H κ = (H1 κ).map (renO f)) (hf : ∀ κ,L κ = true → f κ = κ) (h0 : ∀ κ,L κ = false → H1 κ = none) {v : AV} {d : D} (h : fz1 ⟨fun _ => .junk,H1⟩ v = some d) : fz1 S (ren f v) = some d := by
 cases v with
 |d x => cases x <;> exact h
 |ref o off n =>
  have ho : L o = true := by
   cases hl : L o with
   |true => rfl
   |false =>
    have := h0 o hl
    simp [fz1,this] at h
  simp only [ren,hf o ho,fz1,hS o ho]
  simp only [fz1] at h
  cases hH : H1 o with
  |none => rw [hH] at h; cases h
  |some ob =>
   rw [hH] at h
   cases ob with
   |ds e sz els => exact h
   |vs e cs => cases h
   |rs e sz rows => cases h
   |mp ag ps => cases h
 | _ => cases h
theorem iB (hS : ∀ κ,L κ = true → S.H κ = (H1 κ).map (renO f)) (hf : ∀ κ,L κ = true → f κ = κ) (h0 : ∀ κ,L κ = false → H1 κ = none) : ∀ {vs : List AV} {ds : List D},fz1s ⟨fun _ => .junk,H1⟩ vs = some ds → fz1s S (renL f vs) = some ds
 | [],ds,h => h
 |v :: vs,ds,h => by
  simp only [fz1s] at h
  split at h
  ·rename_i x hx
   split at h
   ·rename_i xs hxs
    simp only [renL,fz1s,mC hS hf h0 hx,iB hS hf h0 hxs]
    exact h
   ·cases h
  ·cases h
theorem FzC_back (hS : ∀ κ,L κ = true → S.H κ = (H1 κ).map (renO f)) (hf : ∀ κ,L κ = true → f κ = κ) (h0 : ∀ κ,L κ = false → H1 κ = none) : ∀ {vs : List AV} {ds : List D},FzC ⟨fun _ => .junk,H1⟩ vs ds → FzC S (renL f vs) ds
 | [],ds,h => h
 |v :: vs,ds,h => by
  obtain ⟨x,xs,rfl,hx,hxs⟩ := h
  refine ⟨x,xs,rfl,?_,FzC_back hS hf h0 hxs⟩
  cases v with
  |dref o n =>
   obtain ⟨els,rfl,hv⟩ := hx
   refine ⟨els,rfl,?_⟩
   unfold jI at hv ⊢
   simp only at hv
   have ho : L o = true := by
    cases hl : L o with
    |true => rfl
    |false => rw [h0 o hl] at hv; exact hv.elim
   rw [hf o ho,hS o ho]
   cases hH : H1 o with
   |none => rw [hH] at hv; exact hv.elim
   |some ob =>
    rw [hH] at hv
    cases ob with
    |ds e sz els => exact hv.elim
    |vs e cs => exact hv.elim
    |mp ag ps => exact hv.elim
    |rs e sz rows =>
     refine ⟨hv.1,fun j row hj hr => ?_⟩
     have hr : (rows.map (renL f))[j]? = some row := hr
     rw [List.getElem?_map] at hr
     obtain ⟨r0,g1,rfl⟩ := Option.map_eq_some_iff.1 hr
     obtain ⟨d,g2,g3⟩ := hv.2 j r0 hj g1
     exact ⟨d,g2,iB hS hf h0 g3⟩
  |d x => exact mC hS hf h0 hx
  |ref o off n => exact mC hS hf h0 hx
  | _ => exact mC hS hf h0 hx
end
end Ai
end
section
set_option maxRecDepth 100000
namespace Ai
open Go Go.Proofs
theorem qU (a b o : Nat) (l : List Th) : (thRows o l).map (renL (swp (.n a) (.l b))) = thRows o l := by
 apply List.ext_getElem?
 intro i
 rw [List.getElem?_map]
 by_cases hj : i < l.length
 ·rw [xJ hj]
  rfl
 ·rw [List.getElem?_eq_none (by rw [zU]; omega)]
  rfl
theorem eZ {x X : Option Ob} {f : Key → Key} (h : x = X) (hp : X.map (renO f) = X) : x.map (renO f) = X := by rw [h]; exact hp
theorem rR (s : StL) (j : Nat) : (match ownH (kI s) (.s 900 j) with | some ob => some ob | none => (none : Option Ob)) = zV s.ths j := by
 show (match ((s.ths.map stk)[j]?).map (Ob.ds 132 1) with | some ob => some ob | none => (none : Option Ob)) = (s.ths[j]?).map fun t => .ds 132 1 (stk t)
 rw [List.getElem?_map]
 cases s.ths[j]? <;> rfl
theorem l3Step_n (hI : xE) (p : ProgL) (s : StL) (k : Nat) (hp : p.wf) (hk : k < s.ths.length) (h5 : s.ths.length ≤ 5) (hs : s.small) (hr : s.ths[k].ready p s k) (h40 : ¬ s.ths[k].st = 4) :
  CallsTo EE 90 [agg (encProg p),agg (encSt s),i64 k] (· = .tup [agg (encSt (stepL p s k).1),agg (encEv (stepL p s k).2)]) := by
 refine callsTo_of_AW (fn := Tryz.f90) Tryz.func90 rfl (by kernel_rfl) rfl ?_
 have hg : s.ths.getD k th0 = s.ths[k] := by simp [List.getD_eq_getElem?_getD,hk]
 conv => whnf
 refine ⟨zE s.ths[k],yB zE hk rfl,?_⟩
 conv => whnf
 refine ⟨_,nH p s.ths[k] hp hr.inP,?_⟩
 rintro r rfl
 conv => whnf
 refine kbi (fun h4 => ?_) (fun h4 => ?_)
 ·exact absurd (by simpa using h4) h40
 ·conv => whnf
  cases hn : yC p s.ths[k] with
  |none =>
   conv => whnf
   refine ⟨_,lY s hs,?_⟩
   rintro r rfl
   conv => whnf
   refine ⟨⟨by omega,by simp; omega⟩,?_⟩
   conv => whnf
   refine .inr (.inl ⟨4,[],?_⟩)
   conv => whnf
   refine ⟨by kernel_rfl,?_⟩
   conv => whnf
   have hd : stepL p s k = (s.put k { s.ths[k] with st := 2 },{ ev0 k s.ths[k] with kind := 11 }) := by
    unfold stepL; rw [hg]; simp [h40,hn]
   rw [hd]
   refine .inl ?_
   conv => whnf
   refine ⟨[agg (encSt _),agg (encEv _)],⟨_,_,rfl,⟨_,rfl,?_⟩,_,_,rfl,⟨_,rfl,?_⟩,rfl⟩,rfl⟩
   ·refine @fz_st3 _ _ ?_ _ _ _ ?_ ?_ ?_ ?_ ?_ ?_ ?_
    rotate_left 1
    ·conv => lhs; whnf
     rfl
    ·intro j row t' ht hrr
     have hjl : j < s.ths.length := by have := (List.getElem?_eq_some_iff.1 ht).1; simpa [StL.put] using this
     have r0 := xB (o := 900) (List.getElem?_eq_getElem hjl)
     by_cases hj : j = k
     ·subst hj
      have e : t' = { s.ths[j] with st := 2 } := by simpa [StL.put,hjl] using ht.symm
      subst e
      have e2 : row = thRow 900 j { s.ths[j] with st := 2 } := by
       refine Option.some.inj (hrr.symm.trans ?_)
       refine yY ?_ (zZ rfl)
       refine wY (c := thRow 900 j s.ths[j]) ?_ rfl
       repeat (first | exact r0 | refine yY ?_ (zZ rfl))
      subst e2
      refine fz_rowT (els := stk s.ths[j]) ?_ (by simp [stk,List.take_of_length_le])
      conv => lhs; whnf
      repeat (refine n7 ?_ rfl; conv => lhs; whnf)
      rw [qD hjl]
     ·have e : t' = s.ths[j] := by
       have : (s.ths.set k _)[j]? = some t' := ht
       rw [List.getElem?_set_ne (Ne.symm hj),List.getElem?_eq_getElem hjl] at this
       exact (Option.some.inj this).symm
      subst e
      have e2 : row = thRow 900 j s.ths[j] := by
       refine Option.some.inj (hrr.symm.trans ?_)
       repeat (first | exact r0 | refine yY ?_ (zZ rfl) | refine rP hj ?_)
      subst e2
      refine fz_rowT (els := stk s.ths[j]) ?_ (by simp [stk,List.take_of_length_le])
      conv => lhs; whnf
      repeat (refine n7 ?_ rfl; conv => lhs; whnf)
      rw [qD hjl]
    ·conv => lhs; whnf
     rfl
    ·conv => lhs; whnf
     rfl
    ·simp [StL.put]
    ·simp [StL.put]
    ·simp [StL.put]
   ·exact p5 k 11 (-1) (-1) s.ths[k].pc
  |some o =>
   conv => whnf
   refine ⟨_,l3Code_ok hI s k o hk hs (hr.op o hn).1,?_⟩
   rintro r rfl
   conv => whnf
   refine kbi (fun h6 => ?_) (fun h6 => ?_)
   ·have h6 : ¬ zX s k o = 0 := by simpa using h6
    conv => whnf
    refine ⟨_,l3Fault_ok s (ev0 k s.ths[k]) _ hs,?_⟩
    rintro r rfl
    conv => whnf
    have hd : stepL p s k = ({ s with fault := zX s k o },{ ev0 k s.ths[k] with kind := 12,obj := zX s k o }) := by
     unfold stepL; rw [hg]; simp [h40,hn,h6]
    rw [hd]
    rfl
   ·have h6 : zX s k o = 0 := by simpa using h6
    conv => whnf
    have hd : stepL p s k = doL s k o (ev0 k s.ths[k]) := by
     unfold stepL; rw [hg]; simp [h40,hn,h6]
    rw [hd]
    refine .inr (.inl ⟨5,[2700,2701,2703,2706],?_⟩)
    conv => whnf
    refine ⟨_,lY s hs,?_⟩
    conv => whnf
    refine ⟨by kernel_rfl,?_⟩
    conv => whnf
    refine .inr (.inl ⟨999,0,lendK,doPost (doL s k o (ev0 k s.ths[k])).1 (doL s k o (ev0 k s.ths[k])).2,?_,rfl,?_⟩)
    ·show IOCall EE 168 [.agg [.dref (.n 900) (s.ths.map bM).length,.ref (.n 901) 0 (s.cells.map encF).length,.ref (.n 902) 0 (s.owner.map encInt).length,i64 s.fault],i64 k,agg (encOp o),agg (encEv (ev0 k s.ths[k]))] _ _
     rw [List.length_map,List.length_map,List.length_map]
     refine l3Do_ok hI s k o (ev0 k s.ths[k]) hk h5 hs ((hr.op o hn).2 h6) hr.pc _ ⟨?_,fun j => ?_,?_,?_⟩
     ·conv => lhs; whnf
      refine congrArg some ?_
      refine yK ?_ (by exact congrArg _ (yG fun _ _ => rfl))
      exact congrArg (Ob.rs 175 6) (qU 999 0 900 s.ths)
     ·conv => lhs; whnf
      repeat (first | (refine hscrO ?_ (yI _ _ _); conv => lhs; whnf) | (refine eZ ?_ (thFam_ren _ _ _); conv => lhs; whnf))
      exact rR s j
     ·conv => lhs; whnf
      rfl
     ·conv => lhs; whnf
      rfl
    ·rintro r H1 ⟨rfl,q1,q2⟩
     refine ⟨q2,(fun n hn => by cases hn),?_⟩
     conv => whnf
     refine .inl ?_
     conv => whnf
     refine ⟨[agg (encSt (doL s k o (ev0 k s.ths[k])).1),agg (encEv (doL s k o (ev0 k s.ths[k])).2)],⟨_,_,rfl,⟨_,rfl,?_⟩,_,_,rfl,⟨_,rfl,?_⟩,rfl⟩,rfl⟩
     ·refine FzC_back (f := swp (.n 999) (.l 0)) (vs := stRef (doL s k o (ev0 k s.ths[k])).1) (L := lendK) (fun κ hκ => ?_) (fun κ hκ => ?_) q2 q1
      ·cases κ with
       |n i =>
        have : i = 900 ∨ i = 901 ∨ i = 902 := by
         simp only [lendK,Bool.or_eq_true,Nat.beq_eq] at hκ
         omega
        rcases this with rfl | rfl | rfl
        ·rfl
        ·rfl
        ·rfl
       |s i j =>
        have : i = 900 := by simpa only [lendK,Nat.beq_eq] using hκ
        subst this
        rfl
       |l i => cases hκ
      ·cases κ with
       |n i =>
        have : i = 900 ∨ i = 901 ∨ i = 902 := by
         simp only [lendK,Bool.or_eq_true,Nat.beq_eq] at hκ
         omega
        rcases this with rfl | rfl | rfl <;> rfl
       |s i j => rfl
       |l i => cases hκ
     ·exact p5 _ _ _ _ _
end Ai
end
section
set_option maxRecDepth 100000
namespace Ai
open Go Go.Proofs
def gP : Prop := ∀ (x : Nat) (many n : Int),yQ x many = some n → 0 ≤ n ∧ n < many
theorem kK (hR : gP) {s : StL} {t : Th} {n : Int} (h : zW s t = some n) : 0 ≤ n ∧ n < s.ths.length := by
 unfold zW at h
 cases hl : t.stack.getLast? with
 |none => rw [hl] at h; cases h
 |some x => rw [hl] at h; exact hR x _ n h
def zK (p : ProgL) (s : StL) (t : Th) : Int :=
 if t.st = 4 then s.owner.getD t.lock.toNat 0
 else match yC p t with
  |none => -1
  |some o => if t.st = 1 then
    (if o.code = 12 then s.owner.getD o.a.toNat 0
    else if o.code = 15 then (match zW s t with | some k => if (s.ths.getD k.toNat th0).st = 2 then -1 else k | none => -1)
    else -1)
   else -1
structure Th.seen (t : Th) (p : ProgL) (s : StL) : Prop where
 inP : t.inP p
 lock : t.st = 4 → 0 ≤ t.lock ∧ t.lock < s.owner.length
 op : ∀ o,yC p t = some o → o.code = 12 → 0 ≤ o.a ∧ o.a < s.owner.length
theorem bF (hI : xE) (hR : gP) (p : ProgL) (s : StL) (t : Th) (hp : p.wf) (ht : t.stack.length ≤ 1048576) (hv : t.seen p s) :
  CallsTo EE 197 [agg (encProg p),agg (encSt s),agg (zE t)] (· = i64 (zK p s t)) := by
 refine callsTo_of_AW (fn := Tryz.f197) Tryz.func197 rfl (by kernel_rfl) rfl ?_
 have own_get : ∀ (a : Int),0 ≤ a ∧ a < s.owner.length → 0 ≤ a ∧ (s.owner.map encInt)[a.toNat]? = some (encInt (s.owner.getD a.toNat 0)) ∧ (encInt (s.owner.getD a.toNat 0)).length = 1 := by
  intro a ha
  refine ⟨ha.1,?_,rfl⟩
  have : a.toNat < s.owner.length := by omega
  simp [this,List.getD_eq_getElem?_getD]
 conv => whnf
 refine kbi (fun h4 => ?_) (fun h4 => ?_)
 ·have h4 : t.st = 4 := by simpa using h4
  conv => whnf
  refine ⟨_,own_get t.lock (hv.lock h4),?_⟩
  conv => whnf
  simp only [zK,if_pos h4]
 have h4 : ¬ t.st = 4 := by simpa using h4
 conv => whnf
 refine ⟨_,nH p t hp hv.inP,?_⟩
 rintro r rfl
 conv => whnf
 refine kbi (fun h1 => ?_) (fun h1 => ?_)
 ·have h1 : ¬ t.st = 1 := by simpa using h1
  conv => whnf
  have : zK p s t = -1 := by
   unfold zK; rw [if_neg h4]
   cases yC p t with
   |none => rfl
   |some o => simp [h1]
  rw [this]
 have h1 : t.st = 1 := by simpa using h1
 cases hn : yC p t with
 |none =>
  conv => whnf
  have : zK p s t = -1 := by
   unfold zK; rw [if_neg h4,hn]
  rw [this]
 |some o =>
  conv => whnf
  refine kbi (fun h2 => ?_) (fun h2 => ?_)
  ·have h2 : o.code = 12 := by simpa using h2
   conv => whnf
   refine ⟨_,own_get o.a (hv.op o hn h2),?_⟩
   conv => whnf
   simp [zK,h4,hn,h1,h2]
  have h2 : ¬ o.code = 12 := by simpa using h2
  conv => whnf
  refine kbi (fun h3 => ?_) (fun h3 => ?_)
  ·have h3 : o.code = 15 := by simpa using h3
   conv => whnf
   refine ⟨_,hY hI s t ht,?_⟩
   rintro r rfl
   conv => whnf
   cases hj : zW s t with
   |none =>
    conv => whnf
    refine kbi (fun h5 => absurd h5 (by decide)) (fun h5 => ?_)
    conv => whnf
    simp [zK,h4,hn,h1,h2,h3,hj]
   |some k =>
    obtain ⟨k1,k2⟩ := kK hR hj
    have hk : k.toNat < s.ths.length := by omega
    conv => whnf
    refine kbi (fun h5 => ?_) (fun h5 => ?_)
    ·conv => whnf
     refine ⟨zE s.ths[k.toNat],⟨k1,by simp [hk],rfl⟩,?_⟩
     conv => whnf
     refine kbi (fun h6 => ?_) (fun h6 => ?_)
     ·have h6 : ¬ s.ths[k.toNat].st = 2 := by simpa using h6
      conv => whnf
      simp [zK,h4,hn,h1,h2,h3,hj,List.getD_eq_getElem?_getD,hk,h6]
     ·have h6 : s.ths[k.toNat].st = 2 := by simpa using h6
      conv => whnf
      simp [zK,h4,hn,h1,h2,h3,hj,List.getD_eq_getElem?_getD,hk,h6]
    ·exact absurd (by simpa using k1) h5
  have h3 : ¬ o.code = 15 := by simpa using h3
  conv => whnf
  simp [zK,h4,hn,h1,h2,h3]
end Ai
end
section
set_option maxRecDepth 100000
namespace Ai
open Go Go.Proofs
open Classical in
/-- may this thread go? -/
noncomputable def qE (p : ProgL) (s : StL) (k : Nat) : Bool := decide (s.fault = 0 ∧ ((s.ths.getD k th0).st = 1 ∨ (s.ths.getD k th0).st = 4) ∧ zK p s (s.ths.getD k th0) < 0)
noncomputable def zG (p : ProgL) (s : StL) (n : Nat) : List Nat := (List.range n).filter (qE p s)
noncomputable def enabledL (p : ProgL) (s : StL) : List Nat := zG p s s.ths.length
def encN (k : Nat) : List D := [di k]
theorem yR {p : ProgL} {s : StL} {n : Nat} : zG p s (n + 1) = zG p s n ++ (if qE p s n = true then [n] else []) := by
 unfold zG
 rw [List.range_succ,List.filter_append]
 congr 1
 cases h : qE p s n <;> simp [h]
theorem enabledTo_le {p : ProgL} {s : StL} {n : Nat} : (zG p s n).length ≤ n := by
 unfold zG
 have := List.length_filter_le (qE p s) (List.range n)
 simpa using this
theorem l3Enabled_ok (hI : xE) (hR : gP) (p : ProgL) (s : StL) (hp : p.wf) (hs : s.small) (hv : ∀ t ∈ s.ths,t.seen p s) :
  CallsTo EE 131 [agg (encProg p),agg (encSt s)] (· = .uq 3 1 ((enabledL p s).map encN)) := by
 refine callsTo_of_AW (fn := Tryz.f131) Tryz.func131 rfl (by kernel_rfl) rfl ?_
 conv => whnf
 refine xA (fun k : Nat => [(2,.ptr (.n 2) 0),(3,.ptr (.n 3) 0),(5,.ref (.n 5) 0 (zG p s k).length),(9,sl (s.ths.map zE)),(10,i64 (s.ths.map zE).length),(11,i64 k)])
  (fun k => [(.n 2,.vs 31 ((encProg p).map .d)),(.n 3,.vs 54 ((encSt s).map .d)),(.n 5,.ds 3 1 ((zG p s k).map encN))]) (fun k => s.ths.length - k) (fun k => k ≤ s.ths.length) 0
  (weak_nil 5 (.n 5) 3 1 rfl) ?_ ?_ (Nat.zero_le _) ?_
 ·exact ⟨rfl,rfl,rfl,rfl,rfl,rfl,trivial⟩
 ·exact ⟨rfl,rfl,rfl,trivial⟩
 rintro k τ H hk
 conv => whnf
 refine kbi (fun h => ?_) (fun h => ?_)
 ·have hlt := xH h
  conv => whnf
  refine ⟨zE s.ths[k],yB zE hlt rfl,?_⟩
  conv => whnf
  have hg : s.ths.getD k th0 = s.ths[k] := by simp [List.getD_eq_getElem?_getD,hlt]
  have hle : (zG p s k).length ≤ k := enabledTo_le
  have hn := hs.1
  refine kbi (fun hf => ?_) (fun hf => ?_)
  ·have hf : s.fault = 0 := by simpa using hf
   conv => whnf
   refine kbi (fun h1 => ?_) (fun h1 => ?_)
   ·have h1 : s.ths[k].st = 1 := by simpa using h1
    conv => whnf
    refine ⟨_,bF hI hR p s s.ths[k] hp (hs.2.1 _ (List.getElem_mem hlt)) (hv _ (List.getElem_mem hlt)),?_⟩
    rintro r rfl
    conv => whnf
    refine kbi (fun hb => ?_) (fun hb => ?_)
    ·have hb : zK p s s.ths[k] < 0 := by simpa using hb
     conv => whnf
     refine ⟨⟨rfl,by simp; omega,by simp; omega⟩,?_⟩
     conv => whnf
     have hgo : qE p s k = true := by unfold qE; rw [hg]; exact decide_eq_true ⟨hf,.inl h1,hb⟩
     have hsk : zG p s (k + 1) = zG p s k ++ [k] := by rw [yR,hgo]; simp
     refine ⟨k + 1,by omega,by show s.ths.length - (k + 1) < s.ths.length - k; omega,⟨rfl,rfl,?_,rfl,rfl,next_i64 hlt (by omega),trivial⟩,⟨rfl,rfl,?_,trivial⟩⟩
     ·rw [hsk]
      show AV.ref (.n 5) 0 ((zG p s k).length + 1) = _
      simp
     ·rw [hsk]
      show some (Ob.ds 3 1 (((zG p s k).map encN).take (zG p s k).length ++ [[di k]])) = _
      rw [List.take_of_length_le (by simp)]
      simp [encN]
    ·have hb : ¬ zK p s s.ths[k] < 0 := by simpa using hb
     conv => whnf
     have hgo : qE p s k = false := by unfold qE; rw [hg]; exact decide_eq_false fun e => hb e.2.2
     have hsk : zG p s (k + 1) = zG p s k := by rw [yR,hgo]; simp
     refine ⟨k + 1,by omega,by show s.ths.length - (k + 1) < s.ths.length - k; omega,⟨rfl,rfl,?_,rfl,rfl,next_i64 hlt (by omega),trivial⟩,⟨rfl,rfl,?_,trivial⟩⟩
     ·rw [hsk]; rfl
     ·rw [hsk]; rfl
   ·have h1 : ¬ s.ths[k].st = 1 := by simpa using h1
    conv => whnf
    refine kbi (fun h4 => ?_) (fun h4 => ?_)
    ·have h4 : s.ths[k].st = 4 := by simpa using h4
     conv => whnf
     refine ⟨_,bF hI hR p s s.ths[k] hp (hs.2.1 _ (List.getElem_mem hlt)) (hv _ (List.getElem_mem hlt)),?_⟩
     rintro r rfl
     conv => whnf
     refine kbi (fun hb => ?_) (fun hb => ?_)
     ·have hb : zK p s s.ths[k] < 0 := by simpa using hb
      conv => whnf
      refine ⟨⟨rfl,by simp; omega,by simp; omega⟩,?_⟩
      conv => whnf
      have hgo : qE p s k = true := by unfold qE; rw [hg]; exact decide_eq_true ⟨hf,.inr h4,hb⟩
      have hsk : zG p s (k + 1) = zG p s k ++ [k] := by rw [yR,hgo]; simp
      refine ⟨k + 1,by omega,by show s.ths.length - (k + 1) < s.ths.length - k; omega,⟨rfl,rfl,?_,rfl,rfl,next_i64 hlt (by omega),trivial⟩,⟨rfl,rfl,?_,trivial⟩⟩
      ·rw [hsk]
       show AV.ref (.n 5) 0 ((zG p s k).length + 1) = _
       simp
      ·rw [hsk]
       show some (Ob.ds 3 1 (((zG p s k).map encN).take (zG p s k).length ++ [[di k]])) = _
       rw [List.take_of_length_le (by simp)]
       simp [encN]
     ·have hb : ¬ zK p s s.ths[k] < 0 := by simpa using hb
      conv => whnf
      have hgo : qE p s k = false := by unfold qE; rw [hg]; exact decide_eq_false fun e => hb e.2.2
      have hsk : zG p s (k + 1) = zG p s k := by rw [yR,hgo]; simp
      refine ⟨k + 1,by omega,by show s.ths.length - (k + 1) < s.ths.length - k; omega,⟨rfl,rfl,?_,rfl,rfl,next_i64 hlt (by omega),trivial⟩,⟨rfl,rfl,?_,trivial⟩⟩
      ·rw [hsk]; rfl
      ·rw [hsk]; rfl
    ·have h4 : ¬ s.ths[k].st = 4 := by simpa using h4
     conv => whnf
     have hgo : qE p s k = false := by unfold qE; rw [hg]; exact decide_eq_false fun e => e.2.1.elim h1 h4
     have hsk : zG p s (k + 1) = zG p s k := by rw [yR,hgo]; simp
     refine ⟨k + 1,by omega,by show s.ths.length - (k + 1) < s.ths.length - k; omega,⟨rfl,rfl,?_,rfl,rfl,next_i64 hlt (by omega),trivial⟩,⟨rfl,rfl,?_,trivial⟩⟩
     ·rw [hsk]; rfl
     ·rw [hsk]; rfl
  ·have hf : ¬ s.fault = 0 := by simpa using hf
   conv => whnf
   have hgo : qE p s k = false := by unfold qE; exact decide_eq_false fun e => hf e.1
   have hsk : zG p s (k + 1) = zG p s k := by rw [yR,hgo]; simp
   refine ⟨k + 1,by omega,by show s.ths.length - (k + 1) < s.ths.length - k; omega,⟨rfl,rfl,?_,rfl,rfl,next_i64 hlt (by omega),trivial⟩,⟨rfl,rfl,?_,trivial⟩⟩
   ·rw [hsk]; rfl
   ·rw [hsk]; rfl
 ·have hge : s.ths.length ≤ k := by simpa using h
  have hkk : k = s.ths.length := by omega
  subst hkk
  conv => whnf
  refine congrArg (AV.uq 3 1) ?_
  rw [List.take_of_length_le (by simp)]
  rfl
end Ai
end
section
set_option maxRecDepth 100000
namespace Ai
open Go Go.Proofs
open Classical in
/-- how a run stands -/
noncomputable def codeL (p : ProgL) (s : StL) (steps budget : Int) : Int :=
 if s.fault ≠ 0 then 2 else if enabledL p s = [] then (if ∃ t ∈ s.ths,t.st ≠ 2 then 3 else 1) else if steps = budget then 4 else 0
theorem l4Code_ok (hI : xE) (hR : gP) (p : ProgL) (s : StL) (steps budget : Int) (hp : p.wf) (hs : s.small) (hv : ∀ t ∈ s.ths,t.seen p s) :
  CallsTo EE 132 [agg (encProg p),agg (encSt s),i64 steps,i64 budget] (· = i64 (codeL p s steps budget)) := by
 refine callsTo_of_AW (fn := Tryz.f132) Tryz.func132 rfl (by kernel_rfl) rfl ?_
 have hn := hs.1
 conv => whnf
 refine kbi (fun hf => ?_) (fun hf => ?_)
 ·have hf : s.fault ≠ 0 := by simpa using hf
  conv => whnf
  unfold codeL
  rw [if_pos hf]
 have hf : ¬ s.fault ≠ 0 := by simpa using hf
 conv => whnf
 refine ⟨_,l3Enabled_ok hI hR p s hp hs hv,?_⟩
 rintro r rfl
 refine .inl ?_
 conv => whnf
 refine kbi (fun h0 => ?_) (fun h0 => ?_)
 ·have h0 : enabledL p s = [] := by
   have : (((enabledL p s).map encN).length : Int) = 0 := by simpa using h0
   simp at this
   exact this
  conv => whnf
  refine xA (fun k : Nat => [(8,i64 0),(20,sl (s.ths.map zE)),(21,i64 (s.ths.map zE).length),(22,i64 k)]) (fun k => []) (fun k => s.ths.length - k) (fun k => k ≤ s.ths.length ∧ ∀ j u,j < k → s.ths[j]? = some u → u.st = 2) 0
   Weak.refl ⟨rfl,rfl,rfl,rfl,trivial⟩ trivial ⟨Nat.zero_le _,fun j u hj => by omega⟩ ?_
  rintro k τ H ⟨hk,hall⟩
  conv => whnf
  refine kbi (fun h => ?_) (fun h => ?_)
  ·have hlt := xH h
   conv => whnf
   refine ⟨zE s.ths[k],yB zE hlt rfl,?_⟩
   conv => whnf
   refine kbi (fun h2 => ?_) (fun h2 => ?_)
   ·have h2 : s.ths[k].st ≠ 2 := by simpa using h2
    conv => whnf
    unfold codeL
    rw [if_neg hf,if_pos h0,if_pos ⟨_,List.getElem_mem hlt,h2⟩]
   ·have h2 : s.ths[k].st = 2 := by simpa using h2
    conv => whnf
    refine ⟨k + 1,⟨by omega,fun j u hj hu => ?_⟩,by show s.ths.length - (k + 1) < s.ths.length - k; omega,⟨rfl,rfl,rfl,next_i64 hlt (by omega),trivial⟩,trivial⟩
    by_cases hjk : j = k
    ·subst hjk
     rw [List.getElem?_eq_getElem hlt] at hu
     simp only [Option.some.injEq] at hu
     subst hu; exact h2
    ·exact hall j u (by omega) hu
  ·have hge : s.ths.length ≤ k := by simpa using h
   conv => whnf
   unfold codeL
   rw [if_neg hf,if_pos h0,if_neg]
   rintro ⟨t,ht,h2⟩
   obtain ⟨j,hj,rfl⟩ := List.mem_iff_getElem.1 ht
   exact h2 (hall j _ (by omega) (List.getElem?_eq_getElem hj))
 have h0 : ¬ enabledL p s = [] := fun e => h0 (by rw [e]; rfl)
 conv => whnf
 refine kbi (fun h1 => ?_) (fun h1 => ?_)
 ·have h1 : steps = budget := by simpa using h1
  conv => whnf
  unfold codeL
  rw [if_neg hf,if_neg h0,if_pos h1]
 ·have h1 : ¬ steps = budget := by simpa using h1
  conv => whnf
  unfold codeL
  rw [if_neg hf,if_neg h0,if_neg h1]
end Ai
end
section
set_option maxRecDepth 100000
namespace Ai
open Go Go.Proofs
theorem l3Step_ok (hI : xE) (p : ProgL) (s : StL) (k : Nat) (hp : p.wf) (hk : k < s.ths.length) (h5 : s.ths.length ≤ 5) (hs : s.small) (hr : s.ths[k].ready p s k) :
  CallsTo EE 90 [agg (encProg p),agg (encSt s),i64 k] (· = .tup [agg (encSt (stepL p s k).1),agg (encEv (stepL p s k).2)]) := by
 by_cases h : s.ths[k].st = 4
 ·exact l3Step_4 hI p s k hp hk h5 hs hr h
 ·exact l3Step_n hI p s k hp hk h5 hs hr h
end Ai
end
section
set_option maxRecDepth 100000
namespace Ai
open Go Go.Proofs
def vA (p : ProgL) : StL := ⟨[jF 0],List.replicate p.cells.toNat 0,List.replicate p.locks.toNat (-1),0⟩
theorem jO (p : Key → Bool) (k : Nat) (x : D) : (List.replicate k [AV.d x]).map (scrPL p) = List.replicate k [AV.d x] := by simp [scrPL,scrP]
def oN (p : ProgL) (k : Nat) (c2 : AV) : List (Key × Ob) := [(.n 1,.vs 31 ((encProg p).map .d)),(.n 2,.vs 54 [.d .nil,.d .nil,.d .nil,i64 0]),(.n 3,.vs 54 [.ref (.n 7) 0 1,.dref (.n 50) k,c2,i64 0]),(.n 7,.ds 175 6 [zE (jF 0)]),(.n 50,.rs 132 1 (List.replicate k [.d (.flt 0)]))]
def oN2 (p : ProgL) (k j : Nat) : List (Key × Ob) := [(.n 1,.vs 31 ((encProg p).map .d)),(.n 2,.vs 54 [.d .nil,.d .nil,.d .nil,i64 0]),(.n 3,.vs 54 [.ref (.n 7) 0 1,.dref (.n 50) k,.dref (.n 51) j,i64 0]),(.n 7,.ds 175 6 [zE (jF 0)]),(.n 50,.rs 132 1 (List.replicate k [.d (.flt 0)])),
 (.n 51,.rs 3 1 (List.replicate j [i64 (-1)]))]
theorem viewR {S : St} {o : Key} {n : Nat} {e : TypeId} {sz : Nat} {els : List (List D)} {rows : List (List AV)} (h : S.H o = some (.rs e sz rows)) (hl : els.length = n) (hr : rows.length = n) (hv : ∀ (j : Nat) (row : List AV) (d : List D),rows[j]? = some row → els[j]? = some d → fz1s S row = some d) : jI S o n els := by
 unfold jI
 rw [h]
 refine ⟨hl,fun j row hj hrow => ?_⟩
 have : j < els.length := by omega
 exact ⟨els[j],List.getElem?_eq_getElem this,hv j row _ hrow (List.getElem?_eq_getElem this)⟩
theorem l3New_ok (p : ProgL) (h1 : InR p.cells 0 1048576) (h2 : InR p.locks 0 1048576) : CallsTo EE 89 [agg (encProg p)] (· = agg (encSt (vA p))) := by
 refine callsTo_of_AW (fn := Tryz.f89) Tryz.func89 rfl (by kernel_rfl) rfl ?_
 conv => whnf
 refine ⟨_,dN 0,?_⟩
 rintro r rfl
 conv => whnf
 refine xA (fun k : Nat => [(1,.ptr (.n 1) 0),(2,.ptr (.n 2) 0),(3,.ptr (.n 3) 0),(4,i64 k)]) (fun k => oN p k (.d .nil)) (fun k => p.cells.toNat - k) (fun k => (k : Int) ≤ p.cells) 0
  (uZ (.n 3) (.n 50) 54 132 1 1 _ (by intro n h; cases h) (by intro h; cases h) rfl rfl) ⟨rfl,rfl,rfl,rfl,trivial⟩ ⟨rfl,rfl,rfl,rfl,rfl,trivial⟩ h1.1 ?_
 rintro k τ H hk
 conv => whnf
 refine kbi (fun h => ?_) (fun h => ?_)
 ·have hlt : (k : Int) < p.cells := by simpa using h
  have := h1.2
  conv => whnf
  refine ⟨⟨fun c hc => ?_,by show (k + 1) * 8 ≤ _; omega,by show k + 1 ≤ _; omega⟩,?_⟩
  ·have hc : c ∈ [[AV.d (.flt (canon 0))]] := hc
   simp only [List.mem_singleton] at hc
   subst hc; rfl
  conv => whnf
  refine ⟨k + 1,by omega,by show p.cells.toNat - (k + 1) < p.cells.toNat - k; omega,⟨rfl,rfl,rfl,oW (by rw [zH (by omega) (by omega)]; rfl),trivial⟩,⟨rfl,rfl,rfl,rfl,?_,trivial⟩⟩
  show some (Ob.rs 132 1 (((((List.replicate k [AV.d (.flt 0)]).map (scrPL (isK (.n 17)))).take k ++ [[AV.d (.flt (canon 0))]]).map (scrPL (isK (.n 50)))))) = _
  rw [jO,List.take_of_length_le (by simp),List.map_append,jO,List.replicate_succ']
  rfl
 ·have hge : ¬ (k : Int) < p.cells := by simpa using h
  have hkc : k = p.cells.toNat := by omega
  conv => whnf
  refine xA (fun j : Nat => [(1,.ptr (.n 1) 0),(2,.ptr (.n 2) 0),(3,.ptr (.n 3) 0),(5,i64 j)]) (fun j => oN2 p k j) (fun j => p.locks.toNat - j) (fun j => (j : Int) ≤ p.locks) 0
   (uZ (.n 3) (.n 51) 54 3 1 2 _ (by intro n h; cases h) (by intro h; cases h) rfl rfl) ⟨rfl,rfl,rfl,rfl,trivial⟩ ⟨rfl,rfl,rfl,rfl,?_,rfl,trivial⟩ h2.1 ?_
  ·show some (Ob.rs 132 1 ((List.replicate k [AV.d (.flt 0)]).map (scrPL (isK (.n 51))))) = _
   rw [jO]
  rintro j τ H hj
  conv => whnf
  refine kbi (fun h => ?_) (fun h => ?_)
  ·have hlt : (j : Int) < p.locks := by simpa using h
   have := h2.2
   conv => whnf
   refine ⟨⟨fun c hc => ?_,by show (j + 1) * 8 ≤ _; omega,by show j + 1 ≤ _; omega⟩,?_⟩
   ·have hc : c ∈ [[i64 (-1)]] := hc
    simp only [List.mem_singleton] at hc
    subst hc; rfl
   conv => whnf
   refine ⟨j + 1,by omega,by show p.locks.toNat - (j + 1) < p.locks.toNat - j; omega,⟨rfl,rfl,rfl,oW (by rw [zH (by omega) (by omega)]; rfl),trivial⟩,⟨rfl,rfl,rfl,rfl,?_,?_,trivial⟩⟩
   ·show some (Ob.rs 132 1 (((List.replicate k [AV.d (.flt 0)]).map (scrPL (isK (.n 28)))).map (scrPL (isK (.n 51))))) = _
    rw [jO,jO]
   ·show some (Ob.rs 3 1 (((((List.replicate j [i64 (-1)]).map (scrPL (isK (.n 28)))).take j ++ [[i64 (-1)]]).map (scrPL (isK (.n 51)))))) = _
    rw [jO,List.take_of_length_le (by simp),List.map_append,jO,List.replicate_succ']
    rfl
  ·have hge : ¬ (j : Int) < p.locks := by simpa using h
   have hjc : j = p.locks.toNat := by omega
   subst hkc hjc
   conv => whnf
   refine .inr (.inl ⟨agg (encSt (vA p)),⟨_,rfl,?_⟩,rfl⟩)
   refine ⟨.sl ([jF 0].map zE),_,rfl,rfl,.sl ((List.replicate p.cells.toNat 0).map encF),_,rfl,⟨_,rfl,?_⟩,.sl ((List.replicate p.locks.toNat (-1)).map encInt),_,rfl,⟨_,rfl,?_⟩,di 0,[],rfl,rfl,rfl⟩
   ·refine viewR (rows := List.replicate p.cells.toNat [.d (.flt 0)]) (by rfl) (by simp) (by simp) ?_
    intro i row d hr hd
    simp only [List.getElem?_map,List.getElem?_replicate] at hr hd
    split at hr
    ·simp only [Option.some.injEq] at hr
     subst hr
     rw [if_pos ‹_›] at hd
     simp only [Option.map_some,Option.some.injEq] at hd
     subst hd; rfl
    ·cases hr
   ·refine viewR (rows := List.replicate p.locks.toNat [i64 (-1)]) (by rfl) (by simp) (by simp) ?_
    intro i row d hr hd
    simp only [List.getElem?_map,List.getElem?_replicate] at hr hd
    split at hr
    ·simp only [Option.some.injEq] at hr
     subst hr
     rw [if_pos ‹_›] at hd
     simp only [Option.map_some,Option.some.injEq] at hd
     subst hd; rfl
    ·cases hr
end Ai
end
section
set_option maxRecDepth 100000
namespace Ai
open Go Go.Proofs
def encRun (c : Int) (tr : List Ev) (tk : List Int) (s : StL) : List D := [di c,.sl (tr.map encEv),.sl (tk.map encInt),.sl (s.ths.map zE),.sl (s.cells.map encF),.sl (s.owner.map encInt),di s.fault]
def pickOf (picks tk : List Int) (n : Nat) : Int := if tk.length < picks.length then (picks.getD tk.length 0).tmod n else 0
structure RunOK (p : ProgL) (Inv : StL → Prop) : Prop where
 small : ∀ s,Inv s → s.small ∧ s.ths.length ≤ 5
 seen : ∀ s,Inv s → ∀ t ∈ s.ths,t.seen p s
 ready : ∀ s,Inv s → ∀ k,k ∈ enabledL p s → (h : k < s.ths.length) → s.ths[k].ready p s k
 step : ∀ s,Inv s → ∀ k ∈ enabledL p s,Inv (stepL p s k).1
theorem en_get {l : List Nat} {k : Nat} (h : k < l.length) : (l.map encN)[k]? = some (encN (l.getD k 0)) := by simp [h,List.getD_eq_getElem?_getD]
theorem codeL_nn (p : ProgL) (s : StL) (a b : Int) : 0 ≤ codeL p s a b := by
 unfold codeL
 split
 ·decide
 ·split
  ·split <;> decide
  ·split <;> decide
end Ai
end
section
set_option maxRecDepth 100000
namespace Ai
open Go Go.Proofs
def v8 : Prop := ∀ (x : Nat) (many : Int),1 ≤ many → many ≤ 1000 → fcmp .lss x 0 = false → fcmp .lss x (FloatKind.f64.nearest many) = true → ∃ n,floatToIntVal .f64 x .i64 = some n ∧ 0 ≤ n ∧ n < many
theorem n5 (h : v8) : gP := by
 intro x many n hi
 unfold yQ at hi
 split at hi
 ·rename_i hc
  obtain ⟨m,h1,h2,h3⟩ := h x many hc.1.1 hc.1.2 hc.2.1 hc.2.2
  rw [h1] at hi
  simp only at hi
  split at hi
  ·simp only [Option.some.injEq] at hi
   subst hi; exact ⟨h2,h3⟩
  ·cases hi
 ·cases hi
theorem sE (hF : v8) : xE := by
 intro x many
 refine callsTo_of_AW (fn := Tryz.f261) Tryz.func261 rfl (by kernel_rfl) rfl ?_
 conv => whnf
 refine ocase (qP _ _ _) (fun h1 => ?_) (fun h1 => ?_)
 ·conv => whnf
  refine kbi (fun h2 => ?_) (fun h2 => ?_)
  ·have h2 : fcmp .lss x 0 = true := h2
   conv => whnf
   have : yQ x many = none := by
    unfold yQ; rw [if_neg]
    rintro ⟨_,e,_⟩
    rw [h2] at e
    cases e
   rw [this]
   rfl
  have h2 : fcmp .lss x 0 = false := by
   have h2 : ¬ fcmp .lss x 0 = true := h2
   simpa using h2
  conv => whnf
  refine kbi (fun h3 => ?_) (fun h3 => ?_)
  ·have h3 : fcmp .lss x (FloatKind.f64.nearest many) = true := h3
   conv => whnf
   obtain ⟨n,g1,g2,g3⟩ := hF x many h1.1 h1.2 h2 h3
   refine ⟨n,g1,?_⟩
   conv => whnf
   refine kbi (fun h4 => ?_) (fun h4 => ?_)
   ·conv => whnf
    have : yQ x many = none := by
     unfold yQ; rw [if_pos ⟨h1,h2,h3⟩,g1]
     simp only
     rw [if_neg]
     intro e
     have h4 : fcmp .neq (FloatKind.f64.nearest n) x = true := h4
     rw [y7,e] at h4
     cases h4
    rw [this]
    rfl
   ·conv => whnf
    refine ⟨n,g1,?_⟩
    conv => whnf
    have : yQ x many = some n := by
     unfold yQ; rw [if_pos ⟨h1,h2,h3⟩,g1]
     simp only
     rw [if_pos]
     have h4 : ¬ fcmp .neq (FloatKind.f64.nearest n) x = true := h4
     rw [y7] at h4
     simpa using h4
    rw [this]
    rfl
  ·have h3 : ¬ fcmp .lss x (FloatKind.f64.nearest many) = true := h3
   conv => whnf
   have : yQ x many = none := by
    unfold yQ; rw [if_neg]
    rintro ⟨_,_,e⟩
    exact h3 e
   rw [this]
   rfl
 ·conv => whnf
  have : yQ x many = none := by
   unfold yQ; rw [if_neg]
   rintro ⟨e,_⟩
   exact h1 e
  rw [this]
  rfl
end Ai
end
section
set_option maxRecDepth 100000
namespace Ai
open Go Go.Proofs Ieee
def nearB (m : Nat) : Bool := double.read (FloatKind.f64.nearest ((m : Nat) : Int)) == .number false (m <<< (52 - m.log2)) (-((52 - m.log2 : Nat) : Int))
theorem near_all : (List.range 1001).all (fun m => m == 0 || nearB m) = true := by decide +kernel
theorem eN {m : Nat} (h1 : 1 ≤ m) (h2 : m ≤ 1000) : ∃ k : Nat,double.read (FloatKind.f64.nearest ((m : Nat) : Int)) = .number false (m <<< k) (-(k : Int)) := by
 have := near_all
 simp only [List.all_eq_true,List.mem_range] at this
 have := this m (by omega)
 simp only [Bool.or_eq_true,beq_iff_eq] at this
 rcases this with h | h
 ·omega
 ·unfold nearB at h
  exact ⟨_,by simpa using h⟩
theorem cC (s : Bool) (n d : Nat) : Toward.cut .zero s n d = n / (1 <<< min d (n.log2 + 2)) := by
 simp [Toward.cut]
theorem cut_lt {m d b : Nat} (hb : 0 < b) (h : m < b * 2 ^ d) : Toward.cut .zero false m d < b := by
 rw [cC,Nat.shiftLeft_eq,Nat.one_mul]
 by_cases hd : d ≤ m.log2 + 2
 ·rw [Nat.min_eq_left hd]
  exact (Nat.div_lt_iff_lt_mul (Nat.pow_pos (by decide))).2 h
 ·rw [Nat.min_eq_right (by omega)]
  have h1 : m < 2 ^ (m.log2 + 2) := Nat.lt_of_lt_of_le Nat.lt_log2_self (Nat.pow_le_pow_right (by decide) (by omega))
  rw [Nat.div_eq_of_lt h1]; exact hb
theorem cmp_lt (a b : Int) : compare a b = .lt ↔ a < b := by
 show compareOfLessAndEq a b = .lt ↔ a < b
 unfold compareOfLessAndEq
 by_cases h : a < b
 ·simp [h]
 ·by_cases h2 : a = b
  ·simp [h2]
  ·simp [h,h2]
theorem mD : v8 := by
 intro x many h1 h2 hx0 hxm
 obtain ⟨b,rfl⟩ : ∃ b : Nat,many = (b : Int) := ⟨many.toNat,by omega⟩
 obtain ⟨k,hk⟩ := eN (m := b) (by omega) (by omega)
 have o1 : double.order x 0 ≠ some .lt := by simpa [fcmp] using hx0
 have o2 : double.order x (FloatKind.f64.nearest (b : Int)) = some .lt := by simpa [fcmp] using hxm
 unfold Format.order at o1 o2
 rw [kY] at o1
 rw [hk] at o2
 have hdec : FloatKind.f64.decode x = double.read x := rfl
 unfold floatToIntVal
 rw [hdec]
 cases hd : double.read x with
 |nan s f => rw [hd] at o2; cases o2
 |infinity s =>
  rw [hd] at o1 o2
  simp only [Datum.order] at o1 o2
  exact absurd o2 o1
 |number s m i =>
  rw [hd] at o1 o2
  simp only [Datum.order,Option.some.injEq,ne_eq] at o1 o2
  rw [cmp_lt] at o1 o2
  have hs : s = false ∨ m = 0 := by
   cases s with
   |false => exact .inl rfl
   |true =>
    right
    simp only [signed,if_true,Nat.shiftLeft_eq] at o1
    by_cases hm : m = 0
    ·exact hm
    ·exfalso
     apply o1
     have : 0 < m * 2 ^ (i - min i double.leastPlace).toNat := Nat.mul_pos (by omega) (Nat.pow_pos (by decide))
     simp
     omega
  rcases hs with rfl | rfl
  ·simp only [signed,Bool.false_eq_true,if_false,Nat.shiftLeft_eq,Int.ofNat_lt] at o2
   have o2 : m * 2 ^ (i - min i (-(k : Int))).toNat < b * 2 ^ k * 2 ^ (-(k : Int) - min i (-(k : Int))).toNat := by exact_mod_cast o2
   have hlt : Toward.cut .zero false (m <<< i.toNat) (-i).toNat < b := by
    refine cut_lt (by omega) ?_
    rw [Nat.shiftLeft_eq]
    by_cases hi : 0 ≤ i
    ·rw [Int.min_eq_right (by omega)] at o2
     have e1 : (i - -(k : Int)).toNat = i.toNat + k := by omega
     have e2 : (-(k : Int) - -(k : Int)).toNat = 0 := by omega
     rw [e1,e2,Nat.pow_add,Nat.pow_zero,Nat.mul_one,← Nat.mul_assoc] at o2
     have e3 : (-i).toNat = 0 := by omega
     rw [e3,Nat.pow_zero,Nat.mul_one]
     exact Nat.lt_of_mul_lt_mul_right o2
    ·have e3 : i.toNat = 0 := by omega
     rw [e3,Nat.pow_zero,Nat.mul_one]
     by_cases hik : i ≤ -(k : Int)
     ·rw [Int.min_eq_left hik] at o2
      have e1 : (i - i).toNat = 0 := by omega
      have e2 : (-i).toNat = k + (-(k : Int) - i).toNat := by omega
      rw [e1,Nat.pow_zero,Nat.mul_one,Nat.mul_assoc,← Nat.pow_add] at o2
      rw [e2]; exact o2
     ·rw [Int.min_eq_right (by omega)] at o2
      have e1 : k = (-i).toNat + (i - -(k : Int)).toNat := by omega
      have e2 : (-(k : Int) - -(k : Int)).toNat = 0 := by omega
      rw [e2,Nat.pow_zero,Nat.mul_one] at o2
      generalize hq : (i - -(k : Int)).toNat = q at *
      rw [e1,Nat.pow_add,← Nat.mul_assoc] at o2
      exact Nat.lt_of_mul_lt_mul_right o2
   simp only [Datum.toInt,Datum.integral,signed,Bool.false_eq_true,if_false,Nat.shiftLeft_zero]
   rw [if_pos]
   ·exact ⟨_,rfl,by omega,by omega⟩
   ·have e4 : IntKind.i64.min = -9223372036854775808 := by decide
    have e5 : IntKind.i64.max = 9223372036854775807 := by decide
    rw [e4,e5]
    omega
  ·have hc : Toward.cut .zero s (0 <<< i.toNat) (-i).toNat = 0 := by rw [cC]; simp
   simp only [Datum.toInt,Datum.integral,hc,signed]
   refine ⟨0,?_,by omega,by omega⟩
   cases s <;> decide
theorem toIndexS : xE := sE mD
theorem idxRange : gP := n5 mD
end Ai
end
section
set_option maxRecDepth 100000
namespace Ai
open Go Go.Proofs
structure TInv (p : ProgL) (t : Th) : Prop where
 rt : 0 ≤ t.rt ∧ t.rt < p.rs.length
 pc : 0 ≤ t.pc ∧ t.pc ≤ (p.rs.getD t.rt.toNat []).length
 st : t.stack.length ≤ 8
 lock : t.st = 3 ∨ t.st = 4 → 0 ≤ t.lock ∧ t.lock < p.locks
structure SInv (p : ProgL) (s : StL) : Prop where
 len : s.ths.length ≤ 5
 cells : (s.cells.length : Int) = p.cells
 owner : (s.owner.length : Int) = p.locks
 ths : ∀ t ∈ s.ths,TInv p t
theorem bB {p : ProgL} (hg : p.goodS) {t : Th} (h : TInv p t) {o : OpL} (hn : yC p t = some o) : o.goodS p (p.rs.getD t.rt.toNat []).length ∧ t.pc < (p.rs.getD t.rt.toNat []).length := by
 have hr : t.rt.toNat < p.rs.length := by have := h.rt; omega
 have e : p.rs.getD t.rt.toNat [] = p.rs[t.rt.toNat] := by simp [List.getD_eq_getElem?_getD,hr]
 unfold yC at hn
 rw [e] at hn ⊢
 obtain ⟨h1,h2⟩ := List.getElem?_eq_some_iff.1 hn
 refine ⟨(hg.2 _ (List.getElem_mem hr)).1 o (h2 ▸ List.getElem_mem h1),?_⟩
 have := h.pc; omega
theorem inv_ready {p : ProgL} (hg : p.goodS) {s : StL} (hi : SInv p s) {k : Nat} (h : k < s.ths.length) : s.ths[k].ready p s k := by
 have ht := hi.ths _ (List.getElem_mem h)
 have hgd : s.ths.getD k th0 = s.ths[k] := by simp [List.getD_eq_getElem?_getD,h]
 have hr : s.ths[k].rt.toNat < p.rs.length := by have := ht.rt; omega
 have e : p.rs.getD s.ths[k].rt.toNat [] = p.rs[s.ths[k].rt.toNat] := by simp [List.getD_eq_getElem?_getD,hr]
 have h24 : (p.rs.getD s.ths[k].rt.toNat []).length ≤ 24 := by rw [e]; exact (hg.2 _ (List.getElem_mem hr)).2
 refine ⟨⟨⟨ht.rt.1,by have := ht.rt.2; omega⟩,ht.pc.1,ht.pc.2⟩,⟨ht.pc.1,by have := ht.pc.2; omega⟩,fun h4 => ?_,fun o ho => ?_⟩
 ·have := ht.lock (.inr h4)
  rw [hi.owner]; exact this
 ·obtain ⟨⟨g1,g2⟩,hlt⟩ := bB hg ht ho
  obtain ⟨c1,c2,c3,_⟩ := g1
  obtain ⟨a1,a2,a3,a4,a5,a6⟩ := g2
  refine ⟨⟨fun hc => ?_,fun hc => ?_⟩,fun hf => ⟨c1,fun hc => ?_,fun hc => ?_,fun hc => ?_,?_⟩⟩
  ·exact ⟨c2.1,by rw [hi.owner]; exact a3 (.inr hc)⟩
  ·exact ⟨c3.1,by rw [hi.owner]; exact (a5 hc).2⟩
  ·exact ⟨c2.1,by rw [hi.cells]; exact a1 hc⟩
  ·exact ⟨c2.1,by rw [hi.owner]; exact a3 hc⟩
  ·exact ⟨c3.1,by rw [hi.owner]; exact (a5 hc).2⟩
  ·unfold zX at hf
   simp only [hgd] at hf
   split at hf
   ·cases hf
   ·omega
end Ai
end
section
set_option maxRecDepth 100000
namespace Ai
open Go Go.Proofs
theorem wQ {p : ProgL} {s : StL} {k : Nat} {t : Th} (hi : SInv p s) (ht : TInv p t) : SInv p (s.put k t) := by
 refine ⟨by simpa [StL.put] using hi.len,hi.cells,hi.owner,fun u hu => ?_⟩
 rcases List.mem_or_eq_of_mem_set hu with h | h
 ·exact hi.ths u h
 ·subst h; exact ht
theorem inv_cells {p : ProgL} {s : StL} (hi : SInv p s) (i : Nat) (x : Nat) : SInv p { s with cells := s.cells.set i x } := ⟨hi.len,by simpa using hi.cells,hi.owner,hi.ths⟩
theorem dG {p : ProgL} {s : StL} (hi : SInv p s) (i : Nat) (x : Int) : SInv p { s with owner := s.owner.set i x } := ⟨hi.len,hi.cells,by simpa using hi.owner,hi.ths⟩
theorem inv_pop {p : ProgL} {t : Th} {o : OpL} (h : TInv p t) (hlt : t.pc < (p.rs.getD t.rt.toNat []).length) : TInv p (zC t o) := by
 refine ⟨h.rt,⟨by have := h.pc; show 0 ≤ t.pc + 1; omega,by show t.pc + 1 ≤ _; exact hlt⟩,?_,h.lock⟩
 show (t.stack.take _).length ≤ 8
 have := h.st
 simp; omega
theorem inv_push {p : ProgL} {t : Th} {o : OpL} {x : Nat} (h : TInv p t) (hlt : t.pc < (p.rs.getD t.rt.toNat []).length) (h1 : (zA o.code).1 ≤ t.stack.length) (h8 : (t.stack.length : Int) - (zA o.code).1 + 1 ≤ 8) (ht : 0 ≤ (zA o.code).1) : TInv p (zN (zC t o) x) := by
 have hp := inv_pop (o := o) h hlt
 refine ⟨hp.rt,hp.pc,?_,hp.lock⟩
 show (t.stack.take (zT t o) ++ [x]).length ≤ 8
 simp [zT,xK]; omega
theorem inv_do {p : ProgL} (hg : p.goodS) {s : StL} (hi : SInv p s) {k : Nat} (h : k < s.ths.length) {o : OpL} (hn : yC p s.ths[k] = some o) (hf : zX s k o = 0) (e : Ev) : SInv p (doL s k o e).1 := by
 have ht := hi.ths _ (List.getElem_mem h)
 have hgd : s.ths.getD k th0 = s.ths[k] := by simp [List.getD_eq_getElem?_getD,h]
 obtain ⟨⟨g1,g2⟩,hlt⟩ := bB hg ht hn
 obtain ⟨c1,c2,c3,_⟩ := g1
 obtain ⟨a1,a2,a3,a4,a5,a6⟩ := g2
 have htk : 0 ≤ (zA o.code).1 := by
  unfold zA; split
  ·decide
  ·split
   ·decide
   ·split <;> decide
 unfold zX at hf
 simp only [hgd] at hf
 generalize s.ths[k] = t at *
 split at hf
 ·cases hf
 rename_i hst
 split at hf
 ·cases hf
 split at hf
 ·cases hf
 split at hf
 ·cases hf
 rename_i h14
 have hp := inv_pop (o := o) ht hlt
 have push : ∀ x,(zA o.code).2 = 1 → TInv p (zN (zC t o) x) := fun x h2 => inv_push ht hlt (by omega) (by omega) htk
 unfold doL
 simp only [hgd]
 have jump : ((o.code = 10 ∨ o.code = 11) → TInv p { zC t o with pc := o.a }) := fun hc => ⟨hp.rt,⟨c2.1,a2 hc⟩,hp.st,hp.lock⟩
 by_cases n1 : o.code = 1
 ·rw [if_pos n1]; exact wQ hi (push _ (by simp [zA,n1]))
 rw [if_neg n1]
 by_cases n2 : o.code = 2
 ·rw [if_pos n2]; exact wQ hi (push _ (by simp [zA,n2]))
 rw [if_neg n2]
 by_cases n3 : o.code = 3
 ·rw [if_pos n3]; exact wQ (inv_cells hi _ _) hp
 rw [if_neg n3]
 by_cases n10 : o.code = 10
 ·rw [if_pos n10]; exact wQ hi (jump (.inl n10))
 rw [if_neg n10]
 by_cases n11 : o.code = 11
 ·rw [if_pos n11]
  refine wQ hi ?_
  split
  ·exact jump (.inr n11)
  ·exact hp
 rw [if_neg n11]
 by_cases n12 : o.code = 12
 ·rw [if_pos n12]; exact wQ (dG hi _ _) hp
 rw [if_neg n12]
 by_cases n13 : o.code = 13
 ·rw [if_pos n13]; exact wQ (dG hi _ _) hp
 rw [if_neg n13]
 by_cases n14 : o.code = 14
 ·rw [if_pos n14]
  have h5 : s.ths.length ≤ 4 := by
   have := hi.len
   have : s.ths.length ≠ 5 := fun e => h14 ⟨n14,e⟩
   omega
  refine wQ ⟨by simp; omega,hi.cells,hi.owner,fun u hu => ?_⟩ (push _ (by simp [zA,n14]))
  rcases List.mem_append.1 hu with h | h
  ·exact hi.ths u h
  ·simp only [List.mem_singleton] at h
   subst h
   exact ⟨⟨c2.1,a4 n14⟩,⟨Int.le_refl _,Int.natCast_nonneg _⟩,Nat.zero_le _,fun e => by rcases e with e | e <;> cases e⟩
 rw [if_neg n14]
 by_cases n15 : o.code = 15
 ·rw [if_pos n15]; exact wQ hi hp
 rw [if_neg n15]
 by_cases n16 : o.code = 16
 ·rw [if_pos n16]
  refine wQ (dG hi _ _) ⟨hp.rt,⟨?_,?_⟩,hp.st,fun _ => ⟨c3.1,(a5 n16).2⟩⟩
  ·show 0 ≤ t.pc + 1 - 1
   have := ht.pc; omega
  ·show t.pc + 1 - 1 ≤ _
   have := ht.pc; show _ ≤ ((p.rs.getD t.rt.toNat []).length : Int); omega
 rw [if_neg n16]
 by_cases n17 : o.code = 17
 ·rw [if_pos n17]
  cases hw : wK s.ths o.a with
  |none => exact wQ hi hp
  |some j =>
   refine wQ ⟨by simpa using hi.len,hi.cells,hi.owner,fun u hu => ?_⟩ hp
   obtain ⟨i,hi2,rfl⟩ := List.mem_iff_getElem.1 hu
   have hil : i < s.ths.length := by simpa using hi2
   have hT := hi.ths _ (List.getElem_mem hil)
   rw [List.getElem_modify]
   split
   ·rename_i hji
    subst hji
    unfold wK at hw
    rw [List.findIdx?_eq_some_iff_getElem] at hw
    obtain ⟨_,hpw,_⟩ := hw
    simp only [Bool.and_eq_true,beq_iff_eq] at hpw
    exact ⟨hT.rt,hT.pc,hT.st,fun _ => hT.lock (.inl hpw.1)⟩
   ·exact hT
 rw [if_neg n17]
 refine wQ hi (push _ ?_)
 have : 4 ≤ o.code ∧ o.code ≤ 9 := by have := c1.1; have := c1.2; omega
 simp only [zA]
 rw [if_neg (by omega),if_neg (by omega),if_pos this]
theorem n4 {p : ProgL} (hg : p.goodS) {s : StL} (hi : SInv p s) {k : Nat} (h : k < s.ths.length) : SInv p (stepL p s k).1 := by
 have ht := hi.ths _ (List.getElem_mem h)
 have hgd : s.ths.getD k th0 = s.ths[k] := by simp [List.getD_eq_getElem?_getD,h]
 unfold stepL
 simp only [hgd]
 split
 ·rename_i h4
  refine wQ (dG hi _ _) ⟨ht.rt,?_,ht.st,fun e => by rcases e with e | e <;> cases e⟩
  cases hn : yC p s.ths[k] with
  |none => exact ht.pc
  |some o =>
   have := (bB hg ht hn).2
   have := ht.pc
   refine ⟨?_,?_⟩
   ·show 0 ≤ s.ths[k].pc + 1
    omega
   ·show s.ths[k].pc + 1 ≤ ((p.rs.getD s.ths[k].rt.toNat []).length : Int)
    omega
 ·split
  ·exact wQ hi ⟨ht.rt,ht.pc,ht.st,fun e => by rcases e with e | e <;> cases e⟩
  ·rename_i o hn
   split
   ·rename_i hf
    exact inv_do hg hi h hn hf _
   ·exact ⟨hi.len,hi.cells,hi.owner,hi.ths⟩
theorem inv_new {p : ProgL} (hg : p.goodS) : SInv p (vA p) := by
 obtain ⟨b1,b2,b3,b4⟩ := hg.1
 refine ⟨by simp [vA],?_,?_,fun t ht => ?_⟩
 ·have := b1.1; simp [vA]; omega
 ·have := b2.1; simp [vA]; omega
 ·have : t = jF 0 := by simpa [vA] using ht
  subst this
  refine ⟨⟨Int.le_refl _,?_⟩,⟨Int.le_refl _,Int.natCast_nonneg _⟩,Nat.zero_le _,fun e => by rcases e with e | e <;> cases e⟩
  have := b4.1
  show (0 : Int) < p.rs.length
  omega
theorem runOK {p : ProgL} (hg : p.goodS) : RunOK p (SInv p) := by
 obtain ⟨b1,b2,b3,b4⟩ := hg.1
 refine ⟨fun s hi => ⟨⟨by have := hi.len; omega,fun t ht => by have := (hi.ths t ht).st; omega,?_,?_⟩,hi.len⟩,fun s hi t ht => ?_,fun s hi k hk h => inv_ready hg hi h,fun s hi k hk => ?_⟩
 ·have := hi.cells; have := b1.2; omega
 ·have := hi.owner; have := b2.2; omega
 ·obtain ⟨j,hj,rfl⟩ := List.mem_iff_getElem.1 ht
  have hr := inv_ready hg hi hj
  refine ⟨hr.inP,hr.lock,fun o ho hc => ?_⟩
  obtain ⟨⟨g1,g2⟩,_⟩ := bB hg (hi.ths _ ht) ho
  have := g1.2.1.1
  have := g2.2.2.1 (.inl hc)
  rw [hi.owner]
  exact ⟨by assumption,by assumption⟩
 ·have : k < s.ths.length := by have := (List.mem_filter.1 hk).1; simpa using this
  exact n4 hg hi this
end Ai
end
section
set_option maxRecDepth 100000
namespace Ai
open Go Go.Proofs
theorem mR (o : OpL) : CallsTo EE 219 [agg (encOp o)] (· = .tup [i64 (zA o.code).1,i64 (zA o.code).2]) := by
 refine callsTo_of_AW (fn := Tryz.f219) Tryz.func219 rfl (by kernel_rfl) rfl ?_
 have go1 : (o.code = 1 ∨ o.code = 2 ∨ o.code = 14) → zA o.code = (0,1) := fun h => by simp [zA,h]
 have go2 : ¬ (o.code = 1 ∨ o.code = 2 ∨ o.code = 14) → (o.code = 3 ∨ o.code = 11 ∨ o.code = 15) → zA o.code = (1,0) := fun h1 h => by simp [zA,h1,h]
 conv => whnf
 refine kbi (fun h1 => ?_) (fun h1 => ?_)
 ·have : o.code = 1 := by simpa using h1
  conv => whnf
  rw [go1 (.inl this)]
 conv => whnf
 refine kbi (fun h2 => ?_) (fun h2 => ?_)
 ·have : o.code = 2 := by simpa using h2
  conv => whnf
  rw [go1 (.inr (.inl this))]
 conv => whnf
 refine kbi (fun h3 => ?_) (fun h3 => ?_)
 ·have : o.code = 14 := by simpa using h3
  conv => whnf
  rw [go1 (.inr (.inr this))]
 have hn : ¬ (o.code = 1 ∨ o.code = 2 ∨ o.code = 14) := by simp at h1 h2 h3; omega
 conv => whnf
 refine kbi (fun g1 => ?_) (fun g1 => ?_)
 ·have : o.code = 3 := by simpa using g1
  conv => whnf
  rw [go2 hn (.inl this)]
 conv => whnf
 refine kbi (fun g2 => ?_) (fun g2 => ?_)
 ·have : o.code = 11 := by simpa using g2
  conv => whnf
  rw [go2 hn (.inr (.inl this))]
 conv => whnf
 refine kbi (fun g3 => ?_) (fun g3 => ?_)
 ·have : o.code = 15 := by simpa using g3
  conv => whnf
  rw [go2 hn (.inr (.inr this))]
 have hn2 : ¬ (o.code = 3 ∨ o.code = 11 ∨ o.code = 15) := by simp at g1 g2 g3; omega
 have go3 : 4 ≤ o.code ∧ o.code ≤ 9 → zA o.code = (2,1) := fun h => by simp only [zA,if_neg hn,if_neg hn2]; exact if_pos h
 have go4 : ¬ (4 ≤ o.code ∧ o.code ≤ 9) → zA o.code = (0,0) := fun h => by simp only [zA,if_neg hn,if_neg hn2]; exact if_neg h
 conv => whnf
 refine kbi (fun k1 => ?_) (fun k1 => ?_)
 ·have : o.code = 4 := by simpa using k1
  conv => whnf
  rw [go3 (by omega)]
 conv => whnf
 refine kbi (fun k2 => ?_) (fun k2 => ?_)
 ·have : o.code = 5 := by simpa using k2
  conv => whnf
  rw [go3 (by omega)]
 conv => whnf
 refine kbi (fun k3 => ?_) (fun k3 => ?_)
 ·have : o.code = 6 := by simpa using k3
  conv => whnf
  rw [go3 (by omega)]
 conv => whnf
 refine kbi (fun k4 => ?_) (fun k4 => ?_)
 ·have : o.code = 7 := by simpa using k4
  conv => whnf
  rw [go3 (by omega)]
 conv => whnf
 refine kbi (fun k5 => ?_) (fun k5 => ?_)
 ·have : o.code = 8 := by simpa using k5
  conv => whnf
  rw [go3 (by omega)]
 conv => whnf
 refine kbi (fun k6 => ?_) (fun k6 => ?_)
 ·have : o.code = 9 := by simpa using k6
  conv => whnf
  rw [go3 (by omega)]
 conv => whnf
 rw [go4 (by simp at k1 k2 k3 k4 k5 k6; omega)]
theorem sZ (p : ProgL) (t : Th) (hp : p.wf) (h : t.inP p) : CallsTo EE 169 [agg (encProg p),agg (zE t)] (· = .tup [agg (encOp ((yC p t).getD op0)),bv (yC p t).isSome]) := by
 refine callsTo_of_AW (fn := Tryz.f169) Tryz.func169 rfl (by kernel_rfl) rfl ?_
 obtain ⟨⟨a1,a2⟩,b1,b2⟩ := h
 have hr : t.rt.toNat < p.rs.length := by omega
 conv => whnf
 refine ⟨zS p.rs[t.rt.toNat],⟨a1,?_,rfl⟩,?_⟩
 ·show (p.rs.map zS)[t.rt.toNat]? = _
  simp [hr]
 conv => whnf
 have hrow : p.rs.getD t.rt.toNat [] = p.rs[t.rt.toNat] := by simp [List.getD_eq_getElem?_getD,hr]
 rw [hrow] at b2
 refine kbi (fun h => ?_) (fun h => ?_)
 ·have h1 : t.pc.toNat < p.rs[t.rt.toNat].length := by simp at h; omega
  have h2 : yC p t = some p.rs[t.rt.toNat][t.pc.toNat] := by unfold yC; rw [hrow]; simp [h1]
  conv => whnf
  refine ⟨encOp p.rs[t.rt.toNat][t.pc.toNat],⟨b1,?_,rfl⟩,?_⟩
  ·simp [h1]
  conv => whnf
  rw [h2]
  rfl
 ·have h1 : t.pc = (p.rs[t.rt.toNat].length : Int) := by simp at h; omega
  have h2 : yC p t = none := by unfold yC; rw [hrow,h1]; simp
  conv => whnf
  rw [h2]
  rfl
end Ai
end
section
set_option maxRecDepth 100000
namespace Ai
open Go Go.Proofs
def yS : Prop := ∀ (x : Nat) (many : Int),CallsTo EE 221 [.d (.flt x),i64 many] (· = .tup [i64 ((yQ x many).getD 0),bv (yQ x many).isSome])
theorem tM (hI : yS) (s : StL) (t : Th) (ht : t.stack.length ≤ 1048576) : CallsTo EE 210 [.fp (encSt s),agg (zE t)] (· = .tup [i64 ((zW s t).getD 0),bv (zW s t).isSome]) := by
 refine callsTo_of_AW (fn := Tryz.f210) Tryz.func210 rfl (by kernel_rfl) rfl ?_
 conv => whnf
 refine kbi (fun h => ?_) (fun h => ?_)
 ·have h1 : t.stack = [] := by
   have : (t.stack.map encF).length = 0 := by simpa using h
   simpa using this
  conv => whnf
  simp [zW,h1]
 ·have hne : t.stack ≠ [] := fun e => h (by rw [e]; rfl)
  have hpos : 0 < t.stack.length := List.length_pos_iff.2 hne
  conv => whnf
  refine .inr (.inl ⟨18,[],?_⟩)
  conv => whnf
  refine ⟨encF (t.stack.getLast hne),⟨?_,?_,rfl⟩,?_⟩
  ·rw [zH (by simp; omega) (by simp; omega)]; simp; omega
  ·rw [zH (by simp; omega) (by simp; omega)]
   have e : ((((t.stack.map encF).length : Int) - 1).toNat) = t.stack.length - 1 := by simp
   rw [e,List.getElem?_map,← List.getLast?_eq_getElem?,List.getLast?_eq_some_getLast hne]
   rfl
  conv => whnf
  refine ⟨_,hI _ _,?_⟩
  conv => whnf
  have hj : zW s t = yQ (t.stack.getLast hne) (s.ths.map zE).length := by
   unfold zW
   rw [List.getLast?_eq_some_getLast hne]
   simp
  rw [← hj]
  refine ⟨by kernel_rfl,?_⟩
  conv => whnf
end Ai
end
section
set_option maxRecDepth 100000
namespace Ai
open Go Go.Proofs
open Classical in
/-- impl.(*State).waits: whether a thread waits -/
theorem waitsI_ok (hI : yS) (p : ProgL) (s : StL) (t : Th) (hp : p.wf) (ht : t.stack.length ≤ 1048576) (hv : t.seen p s) :
  CallsTo EE 148 [.fp (encSt s),agg (encProg p),agg (zE t)] (fun r => ∃ w : Int,r = .tup [i64 w,bp (0 ≤ zK p s t)] ∧ (0 ≤ zK p s t → w = zK p s t)) := by
 refine callsTo_of_AW (fn := Tryz.f148) Tryz.func148 rfl (by kernel_rfl) rfl ?_
 have own_get : ∀ (a : Int),0 ≤ a ∧ a < s.owner.length → 0 ≤ a ∧ (s.owner.map encInt)[a.toNat]? = some (encInt (s.owner.getD a.toNat 0)) ∧ (encInt (s.owner.getD a.toNat 0)).length = 1 := by
  intro a ha
  refine ⟨ha.1,?_,rfl⟩
  have : a.toNat < s.owner.length := by omega
  simp [this,List.getD_eq_getElem?_getD]
 conv => whnf
 refine kbi (fun h4 => ?_) (fun h4 => ?_)
 ·have h4 : t.st = 4 := by simpa using h4
  have hb : zK p s t = s.owner.getD t.lock.toNat 0 := by simp only [zK,if_pos h4]
  conv => whnf
  refine .inr (.inl ⟨19,[],?_⟩)
  conv => whnf
  refine ⟨_,own_get t.lock (hv.lock h4),?_⟩
  conv => whnf
  refine ⟨_,own_get t.lock (hv.lock h4),?_⟩
  conv => whnf
  refine kbi (fun h0 => ?_) (fun h0 => ?_)
  ·have h0 : 0 ≤ s.owner.getD (t.lock).toNat 0 := by simpa using h0
   conv => whnf
   refine ⟨by kernel_rfl,?_⟩
   conv => whnf
   exact ⟨_,by rw [hb]; simp only [bp,aG h0],fun _ => hb.symm⟩
  ·have h0 : ¬ 0 ≤ s.owner.getD (t.lock).toNat 0 := by simpa using h0
   conv => whnf
   refine ⟨by kernel_rfl,?_⟩
   conv => whnf
   exact ⟨_,by rw [hb]; simp only [bp,f7 h0],fun _ => hb.symm⟩
 have h4 : ¬ t.st = 4 := by simpa using h4
 have none_ : zK p s t = -1 → ∃ w : Int,AV.tup [i64 0,bv false] = .tup [i64 w,bp (0 ≤ zK p s t)] ∧ (0 ≤ zK p s t → w = zK p s t) := fun e =>
  ⟨0,by rw [e]; simp only [bp,f7 (show ¬ (0 : Int) ≤ -1 by decide)],fun h => by rw [e] at h; exact absurd h (by decide)⟩
 conv => whnf
 refine kbi (fun h1 => ?_) (fun h1 => ?_)
 ·have h1 : t.st = 1 := by simpa using h1
  conv => whnf
  refine ⟨_,sZ p t hp hv.inP,?_⟩
  rintro r rfl
  conv => whnf
  cases hn : yC p t with
  |none =>
   conv => whnf
   exact none_ (by unfold zK; rw [if_neg h4,hn])
  |some o =>
   conv => whnf
   refine kbi (fun h2 => ?_) (fun h2 => ?_)
   ·have h2 : o.code = 12 := by simpa using h2
    have hb : zK p s t = s.owner.getD o.a.toNat 0 := by simp [zK,h4,hn,h1,h2]
    conv => whnf
    refine .inr (.inl ⟨19,[],?_⟩)
    conv => whnf
    refine ⟨_,own_get o.a (hv.op o hn h2),?_⟩
    conv => whnf
    refine ⟨_,own_get o.a (hv.op o hn h2),?_⟩
    conv => whnf
    refine kbi (fun h0 => ?_) (fun h0 => ?_)
    ·have h0 : 0 ≤ s.owner.getD (o.a).toNat 0 := by simpa using h0
     conv => whnf
     refine ⟨by kernel_rfl,?_⟩
     conv => whnf
     exact ⟨_,by rw [hb]; simp only [bp,aG h0],fun _ => hb.symm⟩
    ·have h0 : ¬ 0 ≤ s.owner.getD (o.a).toNat 0 := by simpa using h0
     conv => whnf
     refine ⟨by kernel_rfl,?_⟩
     conv => whnf
     exact ⟨_,by rw [hb]; simp only [bp,f7 h0],fun _ => hb.symm⟩
   have h2 : ¬ o.code = 12 := by simpa using h2
   conv => whnf
   refine kbi (fun h3 => ?_) (fun h3 => ?_)
   ·have h3 : o.code = 15 := by simpa using h3
    conv => whnf
    refine ⟨_,tM hI s t ht,?_⟩
    rintro r rfl
    conv => whnf
    cases hj : zW s t with
    |none =>
     conv => whnf
     refine .inr (.inl ⟨15,[],?_⟩)
     conv => whnf
     refine ⟨by kernel_rfl,?_⟩
     conv => whnf
     exact none_ (by simp [zK,h4,hn,h1,h2,h3,hj])
    |some k =>
     obtain ⟨k1,k2⟩ := kK idxRange hj
     have hk : k.toNat < s.ths.length := by omega
     conv => whnf
     refine .inr (.inl ⟨15,[],?_⟩)
     conv => whnf
     refine ⟨zE s.ths[k.toNat],⟨k1,by simp [hk],rfl⟩,?_⟩
     conv => whnf
     refine kbi (fun h6 => ?_) (fun h6 => ?_)
     ·have h6 : ¬ s.ths[k.toNat].st = 2 := by simpa using h6
      conv => whnf
      refine ⟨by kernel_rfl,?_⟩
      conv => whnf
      have hb : zK p s t = k := by simp [zK,h4,hn,h1,h2,h3,hj,List.getD_eq_getElem?_getD,hk,h6]
      exact ⟨k,by rw [hb]; simp only [bp,aG k1]; rfl,fun _ => hb.symm⟩
     ·have h6 : s.ths[k.toNat].st = 2 := by simpa using h6
      conv => whnf
      refine ⟨by kernel_rfl,?_⟩
      conv => whnf
      have hb : zK p s t = -1 := by simp [zK,h4,hn,h1,h2,h3,hj,List.getD_eq_getElem?_getD,hk,h6]
      exact ⟨k,by rw [hb]; simp only [bp,f7 (show ¬ (0 : Int) ≤ -1 by decide)]; rfl,fun h => by rw [hb] at h; exact absurd h (by decide)⟩
   ·have h3 : ¬ o.code = 15 := by simpa using h3
    conv => whnf
    exact none_ (by simp [zK,h4,hn,h1,h2,h3])
 ·have h1 : ¬ t.st = 1 := by simpa using h1
  conv => whnf
  exact none_ (by
   unfold zK; rw [if_neg h4]
   cases yC p t with
   |none => rfl
   |some o => simp [h1])
end Ai
end
section
set_option maxRecDepth 100000
namespace Ai
open Go Go.Proofs
theorem r7 (hI : yS) (p : ProgL) (s : StL) (hp : p.wf) (hs : s.small) (hv : ∀ t ∈ s.ths,t.seen p s) :
  CallsTo EE 120 [.fp (encSt s),agg (encProg p)] (· = .uq 3 1 ((enabledL p s).map encN)) := by
 refine callsTo_of_AW (fn := Tryz.f120) Tryz.func120 rfl (by kernel_rfl) rfl ?_
 conv => whnf
 refine xA (fun k : Nat => [(0,.fp (encSt s)),(3,.ptr (.n 3) 0),(5,.ref (.n 10) 0 (zG p s k).length),(14,sl (s.ths.map zE)),(15,i64 (s.ths.map zE).length),(16,i64 k)])
  (fun k => [(.n 3,.vs 31 ((encProg p).map .d)),(.n 10,.ds 3 1 ((zG p s k).map encN))]) (fun k => s.ths.length - k) (fun k => k ≤ s.ths.length) 0
  Weak.refl ⟨rfl,rfl,rfl,rfl,rfl,rfl,trivial⟩ ⟨rfl,rfl,trivial⟩ (Nat.zero_le _) ?_
 rintro k τ H hk
 conv => whnf
 refine kbi (fun h => ?_) (fun h => ?_)
 ·have hlt := xH h
  conv => whnf
  refine ⟨zE s.ths[k],yB zE hlt rfl,?_⟩
  conv => whnf
  have hg : s.ths.getD k th0 = s.ths[k] := by simp [List.getD_eq_getElem?_getD,hlt]
  have hle : (zG p s k).length ≤ k := enabledTo_le
  have hn := hs.1
  refine ⟨_,waitsI_ok hI p s s.ths[k] hp (hs.2.1 _ (List.getElem_mem hlt)) (hv _ (List.getElem_mem hlt)),?_⟩
  rintro r ⟨w,rfl,-⟩
  conv => whnf
  refine kbi (fun hf => ?_) (fun hf => ?_)
  ·have hf : s.fault = 0 := by simpa using hf
   by_cases hb : 0 ≤ zK p s s.ths[k]
   ·simp only [bp,aG hb]
    conv => whnf
    have hgo : qE p s k = false := by unfold qE; rw [hg]; exact decide_eq_false fun e => by have := e.2.2; omega
    have hsk : zG p s (k + 1) = zG p s k := by rw [yR,hgo]; simp
    refine ⟨k + 1,by omega,by show s.ths.length - (k + 1) < s.ths.length - k; omega,⟨rfl,rfl,?_,rfl,rfl,next_i64 hlt (by omega),trivial⟩,⟨rfl,?_,trivial⟩⟩
    ·rw [hsk]; rfl
    ·rw [hsk]; rfl
   ·simp only [bp,f7 hb]
    conv => whnf
    refine kbi (fun h1 => ?_) (fun h1 => ?_)
    ·have h1 : s.ths[k].st = 1 := by simpa using h1
     conv => whnf
     refine ⟨⟨rfl,by simp; omega,by simp; omega⟩,?_⟩
     conv => whnf
     have hgo : qE p s k = true := by unfold qE; rw [hg]; exact decide_eq_true ⟨hf,.inl h1,by omega⟩
     have hsk : zG p s (k + 1) = zG p s k ++ [k] := by rw [yR,hgo]; simp
     refine ⟨k + 1,by omega,by show s.ths.length - (k + 1) < s.ths.length - k; omega,⟨rfl,rfl,?_,rfl,rfl,next_i64 hlt (by omega),trivial⟩,⟨rfl,?_,trivial⟩⟩
     ·rw [hsk]
      show AV.ref (.n 10) 0 ((zG p s k).length + 1) = _
      simp
     ·rw [hsk]
      show some (Ob.ds 3 1 (((zG p s k).map encN).take (zG p s k).length ++ [[di k]])) = _
      rw [List.take_of_length_le (by simp)]
      simp [encN]
    ·have h1 : ¬ s.ths[k].st = 1 := by simpa using h1
     conv => whnf
     refine kbi (fun h4 => ?_) (fun h4 => ?_)
     ·have h4 : s.ths[k].st = 4 := by simpa using h4
      conv => whnf
      refine ⟨⟨rfl,by simp; omega,by simp; omega⟩,?_⟩
      conv => whnf
      have hgo : qE p s k = true := by unfold qE; rw [hg]; exact decide_eq_true ⟨hf,.inr h4,by omega⟩
      have hsk : zG p s (k + 1) = zG p s k ++ [k] := by rw [yR,hgo]; simp
      refine ⟨k + 1,by omega,by show s.ths.length - (k + 1) < s.ths.length - k; omega,⟨rfl,rfl,?_,rfl,rfl,next_i64 hlt (by omega),trivial⟩,⟨rfl,?_,trivial⟩⟩
      ·rw [hsk]
       show AV.ref (.n 10) 0 ((zG p s k).length + 1) = _
       simp
      ·rw [hsk]
       show some (Ob.ds 3 1 (((zG p s k).map encN).take (zG p s k).length ++ [[di k]])) = _
       rw [List.take_of_length_le (by simp)]
       simp [encN]
     ·have h4 : ¬ s.ths[k].st = 4 := by simpa using h4
      conv => whnf
      have hgo : qE p s k = false := by unfold qE; rw [hg]; exact decide_eq_false fun e => e.2.1.elim h1 h4
      have hsk : zG p s (k + 1) = zG p s k := by rw [yR,hgo]; simp
      refine ⟨k + 1,by omega,by show s.ths.length - (k + 1) < s.ths.length - k; omega,⟨rfl,rfl,?_,rfl,rfl,next_i64 hlt (by omega),trivial⟩,⟨rfl,?_,trivial⟩⟩
      ·rw [hsk]; rfl
      ·rw [hsk]; rfl
  ·have hf : ¬ s.fault = 0 := by simpa using hf
   conv => whnf
   have hgo : qE p s k = false := by unfold qE; exact decide_eq_false fun e => hf e.1
   have hsk : zG p s (k + 1) = zG p s k := by rw [yR,hgo]; simp
   refine ⟨k + 1,by omega,by show s.ths.length - (k + 1) < s.ths.length - k; omega,⟨rfl,rfl,?_,rfl,rfl,next_i64 hlt (by omega),trivial⟩,⟨rfl,?_,trivial⟩⟩
   ·rw [hsk]; rfl
   ·rw [hsk]; rfl
 ·have hge : s.ths.length ≤ k := by simpa using h
  have hkk : k = s.ths.length := by omega
  subst hkk
  conv => whnf
  refine congrArg (AV.uq 3 1) ?_
  rw [List.take_of_length_le (by simp)]
  rfl
end Ai
end
section
set_option maxRecDepth 100000
namespace Ai
open Go Go.Proofs
theorem iH (hI : yS) (s : StL) (k : Nat) (o : OpL) (hk : k < s.ths.length) (hs : s.small) (ho : o.inS s) : CallsTo EE 171 [.fp (encSt s),i64 k,agg (encOp o)] (· = i64 (zX s k o)) := by
 refine callsTo_of_AW (fn := Tryz.f171) Tryz.func171 rfl (by kernel_rfl) rfl ?_
 have hg : s.ths.getD k th0 = s.ths[k] := by simp [List.getD_eq_getElem?_getD,hk]
 have hst := hs.2.1 _ (List.getElem_mem hk)
 conv => whnf
 refine ⟨zE s.ths[k],yB zE hk rfl,?_⟩
 conv => whnf
 refine ⟨_,mR o,?_⟩
 rintro r rfl
 conv => whnf
 have ht : 0 ≤ (zA o.code).1 ∧ (zA o.code).1 ≤ 2 ∧ 0 ≤ (zA o.code).2 ∧ (zA o.code).2 ≤ 1 := by
  unfold zA; split
  ·decide
  ·split
   ·decide
   ·split <;> decide
 have e1 : (IntKind.i64.wrap ((s.ths[k].stack.length : Int) - (zA o.code).1)) = (s.ths[k].stack.length : Int) - (zA o.code).1 := zH (by omega) (by omega)
 refine kbi (fun h1 => ?_) (fun h1 => ?_)
 ·conv => whnf
  have h1 : (s.ths[k].stack.length : Int) < (zA o.code).1 := by simpa using h1
  simp only [zX,hg]
  rw [if_pos (.inl h1)]
 have h1 : ¬ (s.ths[k].stack.length : Int) < (zA o.code).1 := by simpa using h1
 conv => whnf
 rw [show (List.map encF s.ths[k].stack).length = s.ths[k].stack.length by simp,e1,zH (by omega) (by omega)]
 refine kbi (fun h2 => ?_) (fun h2 => ?_)
 ·have h2 : 8 < (s.ths[k].stack.length : Int) - (zA o.code).1 + (zA o.code).2 := by simpa using h2
  conv => whnf
  simp only [zX,hg]
  rw [if_pos (.inr h2)]
 have h2 : ¬ 8 < (s.ths[k].stack.length : Int) - (zA o.code).1 + (zA o.code).2 := by simpa using h2
 have hn1 : ¬ ((s.ths[k].stack.length : Int) < (zA o.code).1 ∨ 8 < (s.ths[k].stack.length : Int) - (zA o.code).1 + (zA o.code).2) := fun e => e.elim h1 h2
 conv => whnf
 have fin : ∀ n : Int,(if (o.code = 13 ∧ s.owner.getD o.a.toNat 0 ≠ k) ∨ (o.code = 16 ∧ s.owner.getD o.b.toNat 0 ≠ k) then 2
   else if o.code = 15 ∧ (zW s s.ths[k]).getD (-1) < 0 then 3
   else if o.code = 14 ∧ s.ths.length = 5 then 4 else 0) = n → AV.d (.int .i64 n) = i64 (zX s k o) := by
  intro n hn
  rw [← hn]
  simp only [zX,hg]
  rw [if_neg hn1]
 have own_get : ∀ (a : Int),0 ≤ a ∧ a < s.owner.length → 0 ≤ a ∧ (s.owner.map encInt)[a.toNat]? = some (encInt (s.owner.getD a.toNat 0)) ∧ (encInt (s.owner.getD a.toNat 0)).length = 1 := by
  intro a ha
  refine ⟨ha.1,?_,rfl⟩
  have : a.toNat < s.owner.length := by omega
  simp [this,List.getD_eq_getElem?_getD]
 refine kbi (fun h3 => ?_) (fun h3 => ?_)
 ·have h3 : o.code = 13 := by simpa using h3
  conv => whnf
  refine .inr (.inl ⟨10,[],?_⟩)
  conv => whnf
  refine ⟨_,own_get o.a (ho.1 h3),?_⟩
  conv => whnf
  refine kbi (fun h4 => ?_) (fun h4 => ?_)
  ·have h4 : s.owner.getD o.a.toNat 0 ≠ k := by simpa using h4
   conv => whnf
   refine ⟨by kernel_rfl,?_⟩
   conv => whnf
   exact fin 2 (by rw [if_pos (.inl ⟨h3,h4⟩)])
  have h4 : ¬ s.owner.getD o.a.toNat 0 ≠ k := by simpa using h4
  conv => whnf
  refine ⟨by kernel_rfl,?_⟩
  conv => whnf
  exact fin 0 (by rw [if_neg (by rintro (⟨_,e⟩ | ⟨e,_⟩); exact h4 e; omega),if_neg (by omega),if_neg (by omega)])
 have h3 : ¬ o.code = 13 := by simpa using h3
 conv => whnf
 refine kbi (fun h4 => ?_) (fun h4 => ?_)
 ·have h4 : o.code = 16 := by simpa using h4
  conv => whnf
  refine .inr (.inl ⟨10,[],?_⟩)
  conv => whnf
  refine ⟨_,own_get o.b (ho.2 h4),?_⟩
  conv => whnf
  refine kbi (fun h5 => ?_) (fun h5 => ?_)
  ·have h5 : s.owner.getD o.b.toNat 0 ≠ k := by simpa using h5
   conv => whnf
   refine ⟨by kernel_rfl,?_⟩
   conv => whnf
   exact fin 2 (by rw [if_pos (.inr ⟨h4,h5⟩)])
  have h5 : ¬ s.owner.getD o.b.toNat 0 ≠ k := by simpa using h5
  conv => whnf
  refine ⟨by kernel_rfl,?_⟩
  conv => whnf
  exact fin 0 (by rw [if_neg (by rintro (⟨e,_⟩ | ⟨_,e⟩); exact h3 e; exact h5 e),if_neg (by omega),if_neg (by omega)])
 have h4 : ¬ o.code = 16 := by simpa using h4
 have hn2 : ¬ ((o.code = 13 ∧ s.owner.getD o.a.toNat 0 ≠ k) ∨ (o.code = 16 ∧ s.owner.getD o.b.toNat 0 ≠ k)) := by
  rintro (⟨e,_⟩ | ⟨e,_⟩)
  ·exact h3 e
  ·exact h4 e
 conv => whnf
 refine kbi (fun h5 => ?_) (fun h5 => ?_)
 ·have h5 : o.code = 15 := by simpa using h5
  conv => whnf
  refine ⟨_,tM hI s s.ths[k] hst,?_⟩
  rintro r rfl
  conv => whnf
  cases hj : zW s s.ths[k] with
  |none =>
   conv => whnf
   exact fin 3 (by rw [if_neg hn2,if_pos ⟨h5,by rw [hj]; decide⟩])
  |some n =>
   conv => whnf
   have := kK idxRange hj
   exact fin 0 (by rw [if_neg hn2,if_neg (fun e => by have e2 := e.2; rw [hj] at e2; simp only [Option.getD_some] at e2; omega),if_neg (by omega)])
 have h5 : ¬ o.code = 15 := by simpa using h5
 conv => whnf
 refine kbi (fun h6 => ?_) (fun h6 => ?_)
 ·have h6 : o.code = 14 := by simpa using h6
  conv => whnf
  refine kbi (fun h7 => ?_) (fun h7 => ?_)
  ·have h7 : s.ths.length = 5 := by
    have : ((s.ths.map zE).length : Int) = 5 := by simpa using h7
    simp at this; omega
   conv => whnf
   exact fin 4 (by rw [if_neg hn2,if_neg (fun e => h5 e.1),if_pos ⟨h6,h7⟩])
  have h7 : ¬ s.ths.length = 5 := fun e => h7 (by simp [e])
  conv => whnf
  exact fin 0 (by rw [if_neg hn2,if_neg (fun e => h5 e.1),if_neg (fun e => h7 e.2)])
 have h6 : ¬ o.code = 14 := by simpa using h6
 conv => whnf
 exact fin 0 (by rw [if_neg hn2,if_neg (fun e => h5 e.1),if_neg (fun e => h6 e.1)])
end Ai
end
section
set_option maxRecDepth 100000
namespace Ai
open Go Go.Proofs
def onP (p : ProgL) (k : Nat) : List (Key × Ob) := [(.n 2,.vs 54 [.d .nil,.d .nil,.d .nil,i64 0]),(.n 3,.vs 54 [.dref (.n 6) 1,.ref (.n 9) 0 p.cells.toNat,.ref (.n 12) 0 p.locks.toNat,i64 0]),
 (.n 6,.rs 175 6 [[i64 0,i64 0,i64 1,i64 (-1),i64 (-1),.ref (.n 905) 0 0]]),(.n 905,.ds 132 1 []),(.n 9,.ds 132 1 (List.replicate p.cells.toNat [.flt 0])),(.n 12,.ds 3 1 (List.replicate k [di (-1)] ++ List.replicate (p.locks.toNat - k) [di 0]))]
theorem repl_step {n k : Nat} {d : D} {b : List D} (h : k < n) : wL (List.replicate k [d] ++ List.replicate (n - k) b) 1 (0 + ((k : Nat) : Int).toNat) 0 [d] = List.replicate (k + 1) [d] ++ List.replicate (n - (k + 1)) b := by
 have e1 : 0 + ((k : Nat) : Int).toNat = k := by omega
 have e2 : n - k = (n - (k + 1)) + 1 := by omega
 rw [e1]
 unfold wL
 rw [show (Nat.beq 0 0 && Nat.beq [d].length 1) = true from rfl,cond_true,List.set_append,List.length_replicate,if_neg (by omega),Nat.sub_self,e2,List.replicate_succ,List.set_cons_zero,List.replicate_succ']
 simp
theorem start_ok (p : ProgL) (h1 : InR p.cells 0 1048576) (h2 : InR p.locks 0 1048576) : CallsTo EE 64 [agg (encProg p)] (· = .own (kI (vA p))) := by
 refine callsTo_of_AW (fn := Tryz.f64) Tryz.func64 rfl (by kernel_rfl) rfl ?_
 have a1 := h1.1
 have a2 := h1.2
 have b1 := h2.1
 have b2 := h2.2
 conv => whnf
 refine .inr (.inl ⟨10,[2715],?_⟩)
 conv => whnf
 refine ⟨_,kQ 0,?_⟩
 conv => whnf
 refine ⟨⟨by omega,by omega,by show 8 * p.cells ≤ _; omega,by omega⟩,?_⟩
 conv => whnf
 refine ⟨⟨by omega,by omega,by show 8 * p.locks ≤ _; omega,by omega⟩,?_⟩
 conv => whnf
 refine ⟨by kernel_rfl,?_⟩
 conv => whnf
 refine xA (fun k : Nat => [(2,.ptr (.n 2) 0),(3,.ptr (.n 3) 0),(16,i64 p.locks.toNat),(17,i64 k)]) (fun k => onP p k) (fun k => p.locks.toNat - k) (fun k => k ≤ p.locks.toNat) 0
  Weak.refl ⟨rfl,rfl,rfl,rfl,trivial⟩ ⟨rfl,rfl,rfl,rfl,rfl,rfl,trivial⟩ (Nat.zero_le _) ?_
 rintro k τ H hk
 conv => whnf
 refine kbi (fun h => ?_) (fun h => ?_)
 ·have hlt : k < p.locks.toNat := lt_of_dec h
  conv => whnf
  refine ⟨⟨by omega,by omega⟩,?_⟩
  conv => whnf
  refine ⟨k + 1,by omega,by show p.locks.toNat - (k + 1) < p.locks.toNat - k; omega,⟨rfl,rfl,rfl,next_i64 hlt (by omega),trivial⟩,⟨rfl,rfl,rfl,rfl,rfl,?_,trivial⟩⟩
  exact congrArg (fun x => some (Ob.ds 3 1 x)) (repl_step hlt)
 ·have hge : p.locks.toNat ≤ k := ge_of_dec (by simpa using h)
  have hkc : k = p.locks.toNat := by omega
  subst hkc
  conv => whnf
  refine .inr (.inr ⟨kI (vA p),_,(vP 6 900).trans ((vK 905 900 0).trans ((vP 9 901).trans (vP 12 902))),?_,?_,mY ⟨⟨rfl,fun j q hq => ?_⟩,?_,?_,trivial,trivial⟩,rfl⟩)
  ·show some [AV.agg [.dref 900 1,.ref 901 0 p.cells.toNat,.ref 902 0 p.locks.toNat,i64 0]] = _
   simp [ownR,ownR1,kI,kD,vA]
   exact ⟨rfl,rfl,rfl⟩
  ·intro v hv
   simp only [kI,List.mem_cons,List.not_mem_nil,or_false] at hv
   rcases hv with rfl | rfl | rfl | rfl
   ·rfl
   ·trivial
   ·trivial
   ·trivial
  ·match j,hq with
   | 0,hq => injection hq with hq; subst hq; rfl
   |j + 1,hq => cases hq
  ·show some (Ob.ds 132 1 (List.replicate p.cells.toNat [.flt 0])) = some (Ob.ds 132 1 ((List.replicate p.cells.toNat 0).map encF))
   rw [List.map_replicate]; rfl
  ·show some (Ob.ds 3 1 (List.replicate p.locks.toNat [di (-1)] ++ List.replicate (p.locks.toNat - p.locks.toNat) [di 0])) = some (Ob.ds 3 1 ((List.replicate p.locks.toNat (-1)).map encInt))
   rw [List.map_replicate,Nat.sub_self]
   exact congrArg (fun x => some (Ob.ds 3 1 x)) (List.append_nil _)
end Ai
end
section
set_option maxRecDepth 100000
namespace Ai
open Go Go.Proofs
def lA (o : Option Nat) : Int := match o with | some k => k | none => -1
theorem gZ {α : Type} {f : α → Bool} {l : List α} {k : Nat} (hk : k < l.length) (h : ∀ x ∈ l.take k,f x = false) (hf : f l[k] = true) : l.findIdx? f = some k := by
 rw [List.findIdx?_eq_some_iff_getElem]
 refine ⟨hk,hf,fun j hj => ?_⟩
 have := h l[j] (List.mem_take_iff_getElem.2 ⟨j,by omega,rfl⟩)
 simp [this]
theorem fA {α : Type} {f : α → Bool} {l : List α} (h : ∀ x ∈ l,f x = false) : l.findIdx? f = none := by
 rw [List.findIdx?_eq_none_iff]; exact h
theorem kS (l : List Th) (hl : l.length ≤ 1048576) (g : FuncId) (caps : List AV) (hc : caps = [] ∨ ∃ c,caps = [.fp c]) (f : Th → Bool) (hg : ∀ t ∈ l,CallsTo EE g (agg (zE t) :: caps) (· = bv (f t))) :
  CallsTo EE 222 [sl (l.map zE),.fn g caps] (· = i64 (lA (l.findIdx? f))) := by
 refine callsTo_of_AW (fn := Tryz.f222) Tryz.func222 rfl (by kernel_rfl) rfl ?_
 rcases hc with rfl | ⟨c,rfl⟩
 ·conv => whnf
  refine xA (fun k : Nat => [(0,sl (l.map zE)),(1,.fn g []),(7,i64 (l.map zE).length),(8,i64 k)]) (fun k => []) (fun k => l.length - k) (fun k => k ≤ l.length ∧ ∀ x ∈ l.take k,f x = false) 0
   Weak.refl ⟨rfl,rfl,rfl,rfl,trivial⟩ trivial ⟨Nat.zero_le _,by simp⟩ ?_
  rintro k τ H ⟨hk,hall⟩
  conv => whnf
  refine kbi (fun h => ?_) (fun h => ?_)
  ·have hlt := xH h
   conv => whnf
   refine ⟨zE l[k],yB zE hlt rfl,?_⟩
   conv => whnf
   refine ⟨_,hg _ (List.getElem_mem hlt),?_⟩
   rintro r rfl
   cases hf : f l[k] with
   |true =>
    conv => whnf
    rw [gZ hlt hall hf]; rfl
   |false =>
    conv => whnf
    exact ⟨k + 1,⟨by omega,qM hall hlt hf⟩,by show l.length - (k + 1) < l.length - k; omega,⟨rfl,rfl,rfl,next_i64 hlt (by omega),trivial⟩,trivial⟩
  ·have hge : l.length ≤ k := by simpa using h
   conv => whnf
   rw [fA (kP hall hge)]; rfl
 ·conv => whnf
  refine xA (fun k : Nat => [(0,sl (l.map zE)),(1,.fn g [.fp c]),(7,i64 (l.map zE).length),(8,i64 k)]) (fun k => []) (fun k => l.length - k) (fun k => k ≤ l.length ∧ ∀ x ∈ l.take k,f x = false) 0
   Weak.refl ⟨rfl,rfl,rfl,rfl,trivial⟩ trivial ⟨Nat.zero_le _,by simp⟩ ?_
  rintro k τ H ⟨hk,hall⟩
  conv => whnf
  refine kbi (fun h => ?_) (fun h => ?_)
  ·have hlt := xH h
   conv => whnf
   refine ⟨zE l[k],yB zE hlt rfl,?_⟩
   conv => whnf
   refine ⟨_,hg _ (List.getElem_mem hlt),?_⟩
   rintro r rfl
   cases hf : f l[k] with
   |true =>
    conv => whnf
    rw [gZ hlt hall hf]; rfl
   |false =>
    conv => whnf
    exact ⟨k + 1,⟨by omega,qM hall hlt hf⟩,by show l.length - (k + 1) < l.length - k; omega,⟨rfl,rfl,rfl,next_i64 hlt (by omega),trivial⟩,trivial⟩
  ·have hge : l.length ≤ k := by simpa using h
   conv => whnf
   rw [fA (kP hall hge)]; rfl
theorem fixI_nn {α : Type} {f : α → Bool} {l : List α} : decide (lA (l.findIdx? f) ≥ 0) = l.any f := by
 cases h : l.findIdx? f with
 |none =>
  rw [List.findIdx?_eq_none_iff] at h
  have : l.any f = false := by
   rw [List.any_eq_false]; intro x hx; simp [h x hx]
  rw [this]; rfl
 |some k =>
  rw [List.findIdx?_eq_some_iff_getElem] at h
  obtain ⟨hk,hf,_⟩ := h
  have : l.any f = true := List.any_eq_true.2 ⟨_,List.getElem_mem hk,hf⟩
  rw [this]
  simp [lA]
theorem pA (l : List Th) (hl : l.length ≤ 1048576) (g : FuncId) (f : Th → Bool) (hg : ∀ t ∈ l,CallsTo EE g [agg (zE t)] (· = bv (f t))) :
  CallsTo EE 190 [sl (l.map zE),.fn g []] (· = bv (l.any f)) := by
 refine callsTo_of_AW (fn := Tryz.f190) Tryz.func190 rfl (by kernel_rfl) rfl ?_
 conv => whnf
 refine ⟨_,kS l hl g [] (.inl rfl) f hg,?_⟩
 rintro r rfl
 conv => whnf
 rw [← fixI_nn]
 refine kbi (fun h => ?_) (fun h => ?_)
 ·conv => whnf
  rw [h]
 ·conv => whnf
  rw [show decide (lA (l.findIdx? f) ≥ 0) = false by simpa using h]
theorem codeOf1_ok (t : Th) : CallsTo EE 191 [agg (zE t)] (· = bv (t.st != 2)) := by
 refine callsTo_of_AW (fn := Tryz.f191) Tryz.func191 rfl (by kernel_rfl) rfl ?_
 conv => whnf
 refine kbi (fun h => ?_) (fun h => ?_)
 ·conv => whnf
  have : t.st ≠ 2 := by simpa using h
  simp [this]
 ·conv => whnf
  have : t.st = 2 := by simpa using h
  simp [this]
theorem codeOf_ok (p : ProgL) (s : StL) (steps budget : Int) (hs : s.small) :
  CallsTo EE 121 [agg (encProg p),.fp (encSt s),sl ((enabledL p s).map encN),i64 steps,i64 budget] (· = i64 (codeL p s steps budget)) := by
 refine callsTo_of_AW (fn := Tryz.f121) Tryz.func121 rfl (by kernel_rfl) rfl ?_
 have hn := hs.1
 conv => whnf
 refine kbi (fun hf => ?_) (fun hf => ?_)
 ·have hf : s.fault ≠ 0 := by simpa using hf
  conv => whnf
  unfold codeL
  rw [if_pos hf]
 have hf : ¬ s.fault ≠ 0 := by simpa using hf
 conv => whnf
 refine kbi (fun h0 => ?_) (fun h0 => ?_)
 ·have h0 : enabledL p s = [] := by
   have : (((enabledL p s).map encN).length : Int) = 0 := by simpa using h0
   simp at this
   exact this
  conv => whnf
  refine ⟨_,pA s.ths hn 191 _ (fun t _ => codeOf1_ok t),?_⟩
  rintro r rfl
  cases hany : s.ths.any (fun t => t.st != 2) with
  |true =>
   conv => whnf
   obtain ⟨t,ht,h2⟩ := List.any_eq_true.1 hany
   unfold codeL
   rw [if_neg hf,if_pos h0,if_pos ⟨t,ht,by simpa using h2⟩]
  |false =>
   conv => whnf
   rw [List.any_eq_false] at hany
   unfold codeL
   rw [if_neg hf,if_pos h0,if_neg]
   rintro ⟨t,ht,h2⟩
   exact hany t ht (by simpa using h2)
 have h0 : ¬ enabledL p s = [] := fun e => h0 (by rw [e]; rfl)
 conv => whnf
 refine kbi (fun h1 => ?_) (fun h1 => ?_)
 ·have h1 : steps = budget := by simpa using h1
  conv => whnf
  unfold codeL
  rw [if_neg hf,if_neg h0,if_pos h1]
 ·have h1 : ¬ steps = budget := by simpa using h1
  conv => whnf
  unfold codeL
  rw [if_neg hf,if_neg h0,if_neg h1]
end Ai
end
section
set_option maxRecDepth 100000
namespace Ai
open Go Go.Proofs
def kV (l : List Th) (k : Nat) : List (List AV) := thRows 900 (l.take k) ++ (l.drop k).map fun t => (zE t).map .d
theorem renL_d (f : Key → Key) : ∀ xs : List D,renL f (xs.map .d) = xs.map .d
 | [] => rfl
 |x :: xs => by simp only [List.map_cons,renL,ren,renL_d f xs]
theorem scrL_d (p : Key → Bool) : ∀ xs : List D,scrPL p (xs.map .d) = xs.map .d
 | [] => rfl
 |x :: xs => by simp only [List.map_cons,scrPL,scrP,scrL_d p xs]
theorem iL {α : Type} (f : Key → Key) (enc : α → List D) (l : List α) : (l.map fun t => (enc t).map AV.d).map (renL f) = l.map fun t => (enc t).map AV.d := by
 rw [List.map_map]; exact List.map_congr_left fun t _ => renL_d f _
theorem dRows_scr {α : Type} (p : Key → Bool) (enc : α → List D) (l : List α) : (l.map fun t => (enc t).map AV.d).map (scrPL p) = l.map fun t => (enc t).map AV.d := by
 rw [List.map_map]; exact List.map_congr_left fun t _ => scrL_d p _
theorem rowsK_scr {p : Key → Bool} (l : List Th) (k : Nat) (h : ∀ j,p (.s 900 j) = false) : (kV l k).map (scrPL p) = kV l k := by
 unfold kV
 rw [List.map_append,yG fun j _ => h j,dRows_scr]
theorem rowsK_get {l : List Th} {k : Nat} (h : k < l.length) : (kV l k)[k]? = some ((zE l[k]).map .d) := by
 unfold kV
 have hl : (thRows 900 (l.take k)).length = k := by rw [zU]; simp; omega
 rw [List.getElem?_append_right (by omega),hl,Nat.sub_self,List.getElem?_map,List.getElem?_drop,Nat.add_zero,List.getElem?_eq_getElem h]
 rfl
theorem j7 {l : List Th} {k a : Nat} {X : List (List AV)} {v : AV} (h : k < l.length) (hX : X = kV l k) (hv : v = .ref (.n a) 0 l[k].stack.length) :
  (xG X 6 ((k : Nat) : Int).toNat (0 + 5) [v]).map (renL (swp (.n a) (.s 900 k))) = kV l (k + 1) := by
 subst hX hv
 have hl : (l.take k).length = k := by simp; omega
 have hd : l.drop k = l[k] :: l.drop (k + 1) := List.drop_eq_getElem_cons h
 have e2 : swp (.n a) (.s 900 k) (.n a) = .s 900 k := by simp [swp,zD]
 unfold xG kV
 rw [show (Nat.beq (0 + 5) 0 && Nat.beq [AV.ref (.n a) 0 l[k].stack.length].length 6) = false from rfl,cond_false,show ((k : Nat) : Int).toNat = k from rfl,hd,List.map_cons]
 have hm : ∀ (A : List (List AV)) (x : List AV) (B : List (List AV)) (f : List AV → List AV),A.length = k → (A ++ x :: B).modify k f = A ++ f x :: B := by
  intro A x B f hA
  apply List.ext_getElem?
  intro j
  rw [List.getElem?_modify]
  rcases Nat.lt_trichotomy j k with hj | hj | hj
  ·rw [List.getElem?_append_left (by omega),List.getElem?_append_left (by omega)]
   simp only [if_neg (show ¬ k = j by omega)]; simp
  ·subst hj
   rw [List.getElem?_append_right (by omega),List.getElem?_append_right (by omega),hA]; simp
  ·rw [List.getElem?_append_right (by omega),List.getElem?_append_right (by omega)]
   simp only [if_neg (show ¬ k = j by omega)]
   rw [show j - A.length = (j - k - 1) + 1 by omega]; simp
 rw [hm _ _ _ _ (by rw [zU]; exact hl),List.map_append,dU (by omega),List.map_cons,iL,bW l k h,pD,hl,List.append_assoc,List.singleton_append]
 congr 2
 simp [zE,yA,renL,ren,thRow,e2]
theorem iM (s : StL) (hs : s.small) : CallsTo EE 124 [agg (encSt s)] (· = .own (kI s)) := by
 obtain ⟨s1,s2,s3,s4⟩ := hs
 refine callsTo_of_AW (fn := Tryz.f124) Tryz.func124 rfl (by kernel_rfl) rfl ?_
 conv => whnf
 refine .inr (.inl ⟨13,[],?_⟩)
 conv => whnf
 refine ⟨_,gQ s.cells s3,.inr ⟨_,rfl,?_⟩⟩
 conv => whnf
 refine ⟨_,CloneI_ok s.owner s4,.inr ⟨_,rfl,?_⟩⟩
 conv => whnf
 refine ⟨_,CloneT_ok s.ths s1,.inr ⟨_,rfl,?_⟩⟩
 conv => whnf
 refine ⟨by kernel_rfl,?_⟩
 conv => whnf
 refine aloopF (fun k : Nat => [(2,.ptr 2 0),(3,.ptr 3 0),(19,i64 s.ths.length),(20,i64 k)])
  (fun k => [(2,.vs 54 [.d .nil,.d .nil,.d .nil,i64 0]),(3,.vs 54 [.dref 900 s.ths.length,.ref 7 0 s.cells.length,.ref 10 0 s.owner.length,i64 s.fault]),(7,.ds 132 1 (s.cells.map encF)),(10,.ds 3 1 (s.owner.map encInt)),(900,.rs 175 6 (kV s.ths k))])
  (fun k => [(900,zV (s.ths.take k))]) (fun k => s.ths.length - k) (fun k => k ≤ s.ths.length) 0 ((rZ (.n 15) (els := s.ths.map zE) rfl).trans (vP 15 900)) ?_ ?_ ?_ (Nat.zero_le _) ?_
 ·refine ⟨rfl,rfl,?_,rfl,trivial⟩
  show i64 (s.ths.map zE).length = _
  rw [List.length_map]
 ·refine ⟨rfl,?_,rfl,rfl,?_,trivial⟩
  ·show some (Ob.vs 54 [.dref 900 (s.ths.map zE).length,.ref 7 0 (s.cells.map encF).length,.ref 10 0 (s.owner.map encInt).length,i64 s.fault]) = _
   simp
  ·show some (Ob.rs 175 6 (((s.ths.map zE).map (List.map .d)).map (renL (swp (.n 15) (.n 900))))) = _
   rw [List.map_map (f := zE),show (List.map AV.d ∘ zE) = fun t => (zE t).map AV.d from rfl,iL]
   simp [kV,thRows,ownRows]
 ·refine ⟨fun j => ?_,trivial⟩
  simp [zV]
  rfl
 rintro k τ H hk
 conv => whnf
 refine kbi (fun h => ?_) (fun h => ?_)
 ·have hlt : k < s.ths.length := by simpa using h
  have ht := s2 _ (List.getElem_mem hlt)
  conv => whnf
  refine .inr (.inl ⟨11,[],?_⟩)
  conv => whnf
  refine ⟨⟨by omega,by omega,by decide,by omega⟩,?_⟩
  conv => whnf
  refine ⟨⟨by omega,by omega⟩,?_⟩
  conv => whnf
  refine ⟨(zE s.ths[k]).map .d,⟨?_,by simp [zE]⟩,?_⟩
  ·repeat (first | exact rowsK_get hlt | refine yY ?_ (scrL_d _ _))
  conv => whnf
  refine ⟨⟨by simp [encF],by simp; omega,by simp; omega⟩,?_⟩
  conv => whnf
  refine ⟨by kernel_rfl,?_⟩
  conv => whnf
  refine ⟨⟨by omega,by omega⟩,?_⟩
  conv => whnf
  refine ⟨k + 1,_,vK 26 900 k,by omega,by show s.ths.length - (k + 1) < s.ths.length - k; omega,⟨rfl,rfl,rfl,next_i64 hlt (by omega),trivial⟩,⟨rfl,rfl,rfl,rfl,?_,trivial⟩,⟨fun j => ?_,trivial⟩⟩
  ·conv => lhs; whnf
   refine congrArg some ?_
   refine congrArg (Ob.rs 175 6) (j7 hlt ?_ ?_)
   ·exact rowsK_scr _ _ fun j => rfl
   ·conv => lhs; whnf
    show AV.ref (.n 26) 0 (0 + (s.ths[k].stack.map encF).length) = _
    rw [List.length_map,Nat.zero_add]
  ·have hl : (s.ths.take k).length = k := by simp; omega
   by_cases hj : j = k
   ·subst hj
    have e : swp (.n 26) (.s 900 j) (.s 900 j) = .n 26 := by simp [swp,Key.beq]
    show (St.H _ (swp (.n 26) (.s 900 j) (.s 900 j))).map _ = _
    rw [e]
    show some (Ob.ds 132 ti132.sz (List.take 0 [] ++ List.map encF s.ths[j].stack)) = _
    rw [zV,bW s.ths j hlt,List.getElem?_append_right (by omega),hl]
    simp [stk]
   ·have e : swp (.n 26) (.s 900 k) (.s 900 j) = .s 900 j := by simp [swp,Key.beq,nbeq_ne hj]
    show (St.H _ (swp (.n 26) (.s 900 k) (.s 900 j))).map _ = _
    rw [e]
    refine Eq.trans (eZ (X := zV (s.ths.take k) j) ?_ (thFam_ren _ _ _)) (sJ hj)
    conv => lhs; whnf
    repeat (refine hscrO ?_ (yI _ _ _); conv => lhs; whnf)
    rfl
 ·have hge : s.ths.length ≤ k := by simpa using h
  have hkk : k = s.ths.length := by omega
  subst hkk
  conv => whnf
  refine .inr (.inr ⟨kI s,_,(vP 7 901).trans (vP 10 902),?_,?_,mY ⟨⟨?_,fun j q hq => ?_⟩,rfl,rfl,trivial,trivial⟩,rfl⟩)
  ·show some [AV.agg [.dref 900 s.ths.length,.ref 901 0 s.cells.length,.ref 902 0 s.owner.length,i64 s.fault]] = _
   simp [ownR,ownR1,kI,kD]
   exact ⟨rfl,rfl,rfl⟩
  ·intro v hv
   simp only [kI,List.mem_cons,List.not_mem_nil,or_false] at hv
   rcases hv with rfl | rfl | rfl | rfl
   ·show (s.ths.map bM).length = (s.ths.map stk).length
    simp
   ·trivial
   ·trivial
   ·trivial
  ·show some (Ob.rs 175 6 (((kV s.ths s.ths.length).map (renL (swp (.n 7) (.n 901)))).map (renL (swp (.n 10) (.n 902))))) = some (Ob.rs 175 6 (thRows 900 s.ths))
   have e : kV s.ths s.ths.length = thRows 900 s.ths := by simp [kV]
   rw [e,kF,kF]
  ·show ((zV (s.ths.take s.ths.length) j).map (renO _)).map (renO _) = _
   rw [thFam_ren,thFam_ren,List.take_length,zV]
   rw [List.getElem?_map] at hq
   obtain ⟨t,ht,rfl⟩ := Option.map_eq_some_iff.1 hq
   rw [ht]; rfl
end Ai
end
section
set_option maxRecDepth 100000
namespace Ai
open Go Go.Proofs
structure Inert (x : AV) : Prop where
 scr : ∀ p,scrP p x = x
 ren : ∀ f,ren f x = x
 cut : ∀ κ q,cut κ q x = x
def yE (t : Th) : List AV := [i64 t.rt,i64 t.pc,i64 t.st,i64 t.cond,i64 t.lock,.ref (.n 899) 0 t.stack.length]
def rowsA (l : List Th) (k : Nat) (t : Th) : List (List AV) := (thRows 900 l).set k (yE t)
theorem rowsA_len (l : List Th) (k : Nat) (t : Th) : (rowsA l k t).length = l.length := by simp [rowsA,zU]
theorem zR {l : List Th} {k : Nat} {t : Th} (h : k < l.length) : (rowsA l k t)[((k : Nat) : Int).toNat]? = some (yE t) := by
 show (rowsA l k t)[k]? = _
 unfold rowsA
 rw [List.getElem?_set_self (by rw [zU]; exact h)]
theorem rowsA_ne {l : List Th} {k j : Nat} {t : Th} (h : j ≠ k) : (rowsA l k t)[j]? = (thRows 900 l)[j]? := by
 unfold rowsA
 rw [List.getElem?_set_ne (Ne.symm h)]
theorem zY {p : Key → Bool} (h : p (.n 899) = false) (t : Th) : scrPL p (yE t) = yE t := by simp [yE,scrPL,scrP,h]
theorem uA {p : Key → Bool} (h1 : p (.n 899) = false) (h2 : ∀ j,p (.s 900 j) = false) (l : List Th) (k : Nat) (t : Th) : (rowsA l k t).map (scrPL p) = rowsA l k t := by
 unfold rowsA
 rw [List.map_set,yG fun j _ => h2 j,zY h1]
theorem dB {l : List Th} {k off : Nat} {t t' : Th} {v : AV} {X : List (List AV)} (hk : k < l.length) (hX : X = rowsA l k t) (h : yA (yE t) off [v] = yE t') : xG X 6 ((k : Nat) : Int).toNat off [v] = rowsA l k t' := by
 subst hX
 have hf : xG (rowsA l k t) 6 ((k : Nat) : Int).toNat off [v] = (rowsA l k t).modify k fun c => yA c off [v] := by
  unfold xG
  rw [show (Nat.beq off 0 && Nat.beq [v].length 6) = false from Bool.and_false _]
  rfl
 rw [hf]
 unfold rowsA
 apply List.ext_getElem?
 intro j
 rw [List.getElem?_modify]
 by_cases hj : k = j
 ·subst hj
  rw [List.getElem?_set_self (by rw [zU]; exact hk),List.getElem?_set_self (by rw [zU]; exact hk)]; simp [h]
 ·rw [List.getElem?_set_ne hj,List.getElem?_set_ne hj]; simp [hj]
theorem xL {E : TypeId} {x0 x1 x2 : AV} (i0 : Inert x0) (i1 : Inert x1) (i2 : Inert x2) (s : StL) {p : Key → Bool} (h : (p (.n 900) || p (.n 901) || p (.n 902)) = false) : scrPO p (.vs E ([x0,x1,x2] ++ stRef s)) = .vs E ([x0,x1,x2] ++ stRef s) := by
 simp only [Bool.or_eq_false_iff] at h
 simp [scrPO,scrPL,scrP,stRef,i0.scr,i1.scr,i2.scr,h.1.1,h.1.2,h.2]
theorem xM {E : TypeId} (s : StL) {p : Key → Bool} (h : (p (.n 900) || p (.n 901) || p (.n 902)) = false) : scrPO p (.vs E ([] ++ stRef s)) = .vs E ([] ++ stRef s) := by
 simp only [Bool.or_eq_false_iff] at h
 simp [scrPO,scrPL,scrP,stRef,h.1.1,h.1.2,h.2]
def doI1 (OFF : Nat) (k : Nat) (o : OpL) (t : Th) : List (Nat × AV) := [(0,.ptr (.l 0) OFF),(1,i64 k),(6,.ptr (.n 6) 0),(7,.ptr (.n 7) 0),(8,.ptr (.n 8) 0),(9,.dptr (.n 900) k 0),(13,sl ((t.stack.drop (zT t o)).map encF))]
def doIO (E : TypeId) (pre : List AV) (s : StL) (k : Nat) (o : OpL) (e : Ev) (t t' : Th) : List (Key × Ob) := [(.l 0,.vs E (pre ++ stRef s)),(.n 6,.vs 183 ((encOp o).map .d)),(.n 7,.vs 128 ((encEv e).map .d)),
 (.n 8,.vs 128 [i64 0,i64 0,i64 0,i64 0,i64 0]),(.n 899,.ds 132 1 (stk t)),(.n 900,.rs 175 6 (rowsA s.ths k t')),(.n 901,.ds 132 1 (s.cells.map encF)),(.n 902,.ds 3 1 (s.owner.map encInt))]
theorem doI_preB (E : TypeId) (x0 x1 x2 : AV) (i0 : Inert x0) (i1 : Inert x1) (i2 : Inert x2) (g : Nat → Option Ob) (hg : ∀ p j,(g j).map (scrPO p) = g j) (s : StL) (k : Nat) (o : OpL) (e : Ev) (hk : k < s.ths.length) (t : Th) (htk : (zA o.code).1 ≤ t.stack.length) (ht8 : t.stack.length ≤ 1048576) (hpc : InR t.pc 0 1048576)
  (τ : Nat → AV) (H : Key → Option Ob) (Q : AX → St → Prop) (K : St → Prop) (hK : ∀ s',At (doI1 3 k o t) (doIO E [x0,x1,x2] s k o e t (zC t o)) [(900,g)] s' → K s') :
  sU EE Tryz.f172.ntmps K Q 7 (Tryz.f172.body.getD .skip) (rJ [(0,.ptr (.l 0) 3),(1,i64 k),(2,agg (encOp o)),(3,agg (encEv e))] (rH [(.l 0,.vs E ([x0,x1,x2] ++ stRef s)),(.n 899,.ds 132 1 (stk t)),(.n 900,.rs 175 6 (rowsA s.ths k t)),(.n 901,.ds 132 1 (s.cells.map encF)),(.n 902,.ds 3 1 (s.owner.map encInt))] (fZ [(900,g)] ⟨τ,H⟩))) := by
 have ht : 0 ≤ (zA o.code).1 ∧ (zA o.code).1 ≤ 2 ∧ 0 ≤ (zA o.code).2 ∧ (zA o.code).2 ≤ 1 := by
  unfold zA; split
  ·decide
  ·split
   ·decide
   ·split <;> decide
 have e1 : (IntKind.i64.wrap ((t.stack.length : Int) - (zA o.code).1)) = (t.stack.length : Int) - (zA o.code).1 := zH (by omega) (by omega)
 have e2 : ((t.stack.length : Int) - (zA o.code).1).toNat = zT t o := by unfold zT xK; omega
 have allLen : ∀ a b : Nat,(((stk t).drop a).take b).all (fun c => c.length == 1) = true := by
  intro a b
  simp only [List.all_eq_true]
  intro x hx
  have hx := List.mem_of_mem_drop (List.mem_of_mem_take hx)
  obtain ⟨y,_,rfl⟩ := List.mem_map.1 hx
  rfl
 conv => whnf
 refine ⟨⟨by omega,by omega⟩,?_⟩
 conv => whnf
 refine ⟨_,mR o,?_⟩
 rintro r rfl
 conv => whnf
 refine ⟨yE t,⟨?_,by simp [yE]⟩,?_⟩
 ·repeat (first | exact zR hk | refine yY ?_ (zY rfl t))
 conv => whnf
 refine ⟨yE t,⟨?_,by simp [yE]⟩,?_⟩
 ·repeat (first | exact zR hk | refine yY ?_ (zY rfl t))
 conv => whnf
 rw [e1]
 have e3 : ((stk t).drop (0 + ((t.stack.length : Int) - (zA o.code).1).toNat)).take ((t.stack.length : Int).toNat - ((t.stack.length : Int) - (zA o.code).1).toNat) = (t.stack.drop (zT t o)).map encF := by
  rw [e2,Nat.zero_add,List.take_of_length_le (by simp [stk]),stk,List.map_drop]
 have hlen : (t.stack.drop (zT t o)).length ≤ 1048576 := by simp; omega
 rcases Int.lt_or_eq_of_le ht.1 with h0 | h0
 refine .inl ⟨⟨by omega,by omega,by omega,.inr (by omega)⟩,?_⟩
 conv => whnf
 refine .inl ⟨(· = .uq 132 1 ((t.stack.drop (zT t o)).map encF)),Eq.mp (congrArg (fun x => CallsTo EE 193 [sl x] _) e3.symm) (gQ (t.stack.drop (zT t o)) hlen),?_⟩
 rintro r rfl
 refine ⟨fun c hc => ?_,.inl ?_⟩
 ·obtain ⟨y,_,rfl⟩ := List.mem_map.1 hc
  rfl
 conv => whnf
 rotate_left 1
 refine .inr ⟨⟨by omega,by omega,by omega⟩,?_⟩
 conv => whnf
 refine ⟨(· = .uq 132 1 ((t.stack.drop (zT t o)).map encF)),Eq.mp (congrArg (fun x => CallsTo EE 193 [sl x] _) (by simp [zT,xK,← h0])) (gQ (t.stack.drop (zT t o)) hlen),?_⟩
 rintro r rfl
 refine .inl ?_
 conv => whnf
 all_goals
  refine ⟨yE t,⟨by repeat (first | exact zR hk | refine yY ?_ (zY rfl t)),by simp [yE]⟩,?_⟩
  conv => whnf
  refine .inl ⟨⟨by omega,by omega,by omega,.inl rfl⟩,?_⟩
  conv => whnf
  have e5 : ((t.stack.length : Int) - (zA o.code).1).toNat - (0 : Int).toNat = zT t o := by rw [e2]; rfl
  refine ⟨[i64 t.rt,i64 t.pc,i64 t.st,i64 t.cond,i64 t.lock,.ref (.n 899) 0 (zT t o)],⟨?_,by simp⟩,?_⟩
  ·refine wY (c := yE t) (by repeat (first | exact zR hk | refine yY ?_ (zY rfl t))) ?_
   conv => lhs; whnf
   rw [← e5]
   rfl
  conv => whnf
  refine hK _ ⟨?_,?_,?_⟩
  ·exact ⟨rfl,rfl,rfl,rfl,rfl,rfl,rfl,trivial⟩
  ·refine ⟨?_,rfl,rfl,rfl,rfl,?_,rfl,rfl,trivial⟩
   ·conv => lhs; whnf
    refine congrArg some ?_
    repeat (refine yK ?_ (xL i0 i1 i2 s rfl))
    rfl
   ·conv => lhs; whnf
    refine congrArg (fun x => some (Ob.rs 175 6 x)) ?_
    have hkl : (t.stack.take (zT t o)).length = zT t o := by simp [zT]
    refine dB hk (dB hk (t := t) (t' := { t with stack := t.stack.take (zT t o) }) (by repeat (first | rfl | refine Eq.trans (congrArg (List.map (scrPL _)) ?_) (uA rfl (fun _ => rfl) _ _ _))) ?_) ?_
    ·show [_,_,_,_,_,AV.ref (.n 899) 0 (((t.stack.length : Int) - (zA o.code).1).toNat - (0 : Int).toNat)] = [_,_,_,_,_,AV.ref (.n 899) 0 (t.stack.take (zT t o)).length]
     rw [e5,hkl]
    ·show [_,AV.d (.int .i64 (IntKind.i64.wrap (t.pc + 1))),_,_,_,AV.ref (.n 899) 0 (t.stack.take (zT t o)).length] = [_,i64 (t.pc + 1),_,_,_,AV.ref (.n 899) 0 (t.stack.take (zT t o)).length]
     rw [zH (by have := hpc.1; omega) (by have := hpc.2; omega)]
     rfl
  ·refine ⟨fun j => ?_,trivial⟩
   repeat (first | exact rfl | refine hscrO ?_ (hg _ _) | conv => lhs; whnf)
end Ai
end
section
set_option maxRecDepth 100000
namespace Ai
open Go Go.Proofs Ieee
theorem gtr_max {c : Nat} : fcmp .gtr c 9218868437227405311 = (match double.read c with | .infinity false => true | _ => false) := by
 unfold fcmp Format.order
 rw [show double.read 9218868437227405311 = .number false 9007199254740991 971 by decide]
 have bound : ∀ s m e,double.read c = .number s m e → m < 9007199254740992 ∧ -1074 ≤ e ∧ e ≤ 971 := by
  intro s m e h
  unfold Format.read at h
  rw [show double.signWeight = 9223372036854775808 by decide,show double.binade = 4503599627370496 by decide,show double.infRung = 9218868437227405312 by decide,show double.leastPlace = -1074 by decide] at h
  simp only at h
  split at h
  ·simp only [Datum.number.injEq] at h
   obtain ⟨_,h1,h2⟩ := h
   omega
  ·split at h
   ·simp only [Datum.number.injEq] at h
    obtain ⟨_,h1,h2⟩ := h
    omega
   ·split at h <;> cases h
 cases h : double.read c with
 |nan s f => rfl
 |infinity s => cases s <;> rfl
 |number s m e =>
  obtain ⟨b1,b2,b3⟩ := bound s m e h
  simp only [Datum.order]
  have hm : Min.min e 971 = e := by omega
  rw [hm]
  have h2 : 9007199254740991 ≤ 9007199254740991 <<< (971 - e).toNat := by
   rw [Nat.shiftLeft_eq]; exact Nat.le_mul_of_pos_right _ (Nat.pow_pos (by decide))
  have h3 : signed s m (e - e).toNat ≤ 9007199254740991 := by
   rw [Int.sub_self]
   show signed s m 0 ≤ _
   unfold signed
   rw [Nat.shiftLeft_zero]
   split <;> omega
  have h4 : signed false 9007199254740991 (971 - e).toNat = ((9007199254740991 <<< (971 - e).toNat : Nat) : Int) := rfl
  have hle : signed s m (e - e).toNat ≤ signed false 9007199254740991 (971 - e).toNat := by
   rw [h4]; omega
  generalize signed s m (e - e).toNat = u at hle
  generalize signed false 9007199254740991 (971 - e).toNat = v at hle
  show (some (compare u v) == some .gt) = false
  have : compare u v ≠ .gt := by
   rw [Int.compare_eq_ite_lt]
   split
   ·decide
   ·split
    ·omega
    ·decide
  cases hc : compare u v with
  |gt => exact absurd hc this
  |lt => rfl
  |eq => rfl
theorem lL {c : Nat} {s : Bool} {m : Nat} {e : Int} (hc : c < 18446744073709551616) (h : double.read c = .number s m e) :
  (c % 9223372036854775808 = m ∧ m < 4503599627370496 ∧ e = -1074 ∧ (s = true ↔ 9223372036854775808 ≤ c)) ∨
  (4503599627370496 ≤ m ∧ m < 9007199254740992 ∧ -1074 ≤ e ∧ c % 9223372036854775808 = (e + 1075).toNat * 4503599627370496 + (m - 4503599627370496) ∧ (s = true ↔ 9223372036854775808 ≤ c)) := by
 unfold Format.read at h
 rw [show double.signWeight = 9223372036854775808 by decide,show double.binade = 4503599627370496 by decide,show double.infRung = 9218868437227405312 by decide,show double.leastPlace = -1074 by decide] at h
 simp only at h
 have hs : (c / 9223372036854775808 % 2 == 1) = true ↔ 9223372036854775808 ≤ c := by
  simp only [beq_iff_eq]; omega
 split at h
 ·simp only [Datum.number.injEq] at h
  obtain ⟨h0,h1,h2⟩ := h
  subst h0
  exact .inl ⟨h1,by omega,by omega,hs⟩
 ·split at h
  ·simp only [Datum.number.injEq] at h
   obtain ⟨h0,h1,h2⟩ := h
   subst h0
   exact .inr ⟨by omega,by omega,by omega,by omega,hs⟩
  ·split at h <;> cases h
theorem num_eq {c d : Nat} {s t : Bool} {m n : Nat} {e i : Int} (hc : c < 18446744073709551616) (hd : d < 18446744073709551616) (h1 : double.read c = .number s m e) (h2 : double.read d = .number t n i)
  (h : double.order c d = some .eq) (h0 : ¬ (m = 0 ∧ n = 0)) : c = d := by
 unfold Format.order at h
 rw [h1,h2] at h
 simp only [Datum.order,Option.some.injEq] at h
 have h := Std.LawfulEqCmp.eq_of_compare h
 simp only [signed,Nat.shiftLeft_eq] at h
 have p1 : 0 < 2 ^ (e - Min.min e i).toNat := Nat.pow_pos (by decide)
 have p2 : 0 < 2 ^ (i - Min.min e i).toNat := Nat.pow_pos (by decide)
 have key : m * 2 ^ (e - Min.min e i).toNat = n * 2 ^ (i - Min.min e i).toNat ∧ s = t := by
  have q1 : m = 0 ∨ 0 < m * 2 ^ (e - Min.min e i).toNat := by
   rcases Nat.eq_zero_or_pos m with a | a
   ·exact .inl a
   ·exact .inr (Nat.mul_pos a p1)
  have q2 : n = 0 ∨ 0 < n * 2 ^ (i - Min.min e i).toNat := by
   rcases Nat.eq_zero_or_pos n with a | a
   ·exact .inl a
   ·exact .inr (Nat.mul_pos a p2)
  have z1 : m = 0 → m * 2 ^ (e - Min.min e i).toNat = 0 := fun a => by rw [a,Nat.zero_mul]
  have z2 : n = 0 → n * 2 ^ (i - Min.min e i).toNat = 0 := fun a => by rw [a,Nat.zero_mul]
  generalize m * 2 ^ (e - Min.min e i).toNat = u at *
  generalize n * 2 ^ (i - Min.min e i).toNat = v at *
  cases s <;> cases t <;> simp at h ⊢ <;> omega
 obtain ⟨k1,rfl⟩ := key
 have hei : ∀ (a b : Nat) (j : Nat),4503599627370496 ≤ b → a < 9007199254740992 → a = b * 2 ^ (j + 1) → False := by
  intro a b j hb ha he
  rw [Nat.pow_succ] at he
  have : 0 < 2 ^ j := Nat.pow_pos (by decide)
  have : b * 1 ≤ b * 2 ^ j := Nat.mul_le_mul_left _ this
  have : a = b * 2 ^ j * 2 := by rw [he,Nat.mul_assoc]
  omega
 have r1 := lL hc h1
 have r2 := lL hd h2
 have ee : e = i := by
  rcases Int.lt_trichotomy e i with hlt | heq | hgt
  ·exfalso
   rcases r2 with r2 | r2
   ·rcases r1 with r1 | r1 <;> omega
   obtain ⟨j,hj⟩ : ∃ j : Nat,(i - Min.min e i).toNat = j + 1 := ⟨(i - Min.min e i).toNat - 1,by omega⟩
   have hz : (e - Min.min e i).toNat = 0 := by omega
   rw [hz,hj,Nat.pow_zero,Nat.mul_one] at k1
   exact hei m n j r2.1 (by rcases r1 with r1 | r1 <;> omega) k1
  ·exact heq
  ·exfalso
   rcases r1 with r1 | r1
   ·rcases r2 with r2 | r2 <;> omega
   obtain ⟨j,hj⟩ : ∃ j : Nat,(e - Min.min e i).toNat = j + 1 := ⟨(e - Min.min e i).toNat - 1,by omega⟩
   have hz : (i - Min.min e i).toNat = 0 := by omega
   rw [hz,hj,Nat.pow_zero,Nat.mul_one] at k1
   exact hei n m j r1.1 (by rcases r2 with r2 | r2 <;> omega) k1.symm
 subst ee
 have : m = n := by
  have hz : (e - Min.min e e).toNat = 0 := by omega
  rw [hz,Nat.pow_zero,Nat.mul_one,Nat.mul_one] at k1
  exact k1
 subst this
 have hsg : (9223372036854775808 ≤ c ↔ 9223372036854775808 ≤ d) := by
  have a1 : s = true ↔ 9223372036854775808 ≤ c := r1.elim (fun r => r.2.2.2) fun r => r.2.2.2.2
  have a2 : s = true ↔ 9223372036854775808 ≤ d := r2.elim (fun r => r.2.2.2) fun r => r.2.2.2.2
  rw [← a1,← a2]
 have hmd : c % 9223372036854775808 = d % 9223372036854775808 := by
  rcases r1 with r1 | r1 <;> rcases r2 with r2 | r2 <;> omega
 by_cases hh : 9223372036854775808 ≤ c
 ·have := hsg.1 hh
  omega
 ·have : ¬ 9223372036854775808 ≤ d := fun e => hh (hsg.2 e)
  omega
theorem f4 {c : Nat} {s : Bool} (hc : c < 18446744073709551616) (h : double.read c = .infinity s) : c = if s = true then 18442240474082181120 else 9218868437227405312 := by
 unfold Format.read at h
 rw [show double.signWeight = 9223372036854775808 by decide,show double.binade = 4503599627370496 by decide,show double.infRung = 9218868437227405312 by decide,show double.leastPlace = -1074 by decide] at h
 simp only at h
 split at h
 ·cases h
 ·split at h
  ·cases h
  ·split at h
   ·simp only [Datum.infinity.injEq] at h
    subst h
    by_cases hh : 9223372036854775808 ≤ c
    ·have h1 : c / 9223372036854775808 = 1 := by omega
     rw [h1]
     simp
     omega
    ·have h1 : c / 9223372036854775808 = 0 := by omega
     rw [h1]
     simp
     omega
   ·cases h
theorem eql_refl {x : Nat} (h : zQ x = false) : fcmp .eql x x = true := by
 have := dZ x
 rw [h] at this
 simpa [fcmp] using this
theorem j5 {x y : Nat} (hx : x < 18446744073709551616) (hy : y < 18446744073709551616) (nx : zQ x = false) (ny : zQ y = false) : (fcmp .eql x y = true ∧ (kC x ↔ kC y)) ↔ x = y := by
 refine ⟨fun ⟨h1,h2⟩ => ?_,fun e => by subst e; exact ⟨eql_refl nx,Iff.rfl⟩⟩
 have h3 : double.order x y = some .eq := by simpa [fcmp] using h1
 have m1 : kC 9223372036854775808 := .inr ⟨by decide,by decide⟩
 have m0 : ¬ kC 0 := by unfold kC; decide
 cases rx : double.read x with
 |nan s f => unfold zQ at nx; rw [rx] at nx; cases nx
 |infinity s =>
  cases ry : double.read y with
  |nan s f => unfold zQ at ny; rw [ry] at ny; cases ny
  |number t n i => unfold Format.order at h3; rw [rx,ry] at h3; cases s <;> cases h3
  |infinity t =>
   unfold Format.order at h3
   rw [rx,ry] at h3
   have e1 := f4 hx rx
   have e2 := f4 hy ry
   cases s <;> cases t <;> first | exact e1.trans e2.symm | cases h3
 |number s m e =>
  cases ry : double.read y with
  |nan s f => unfold zQ at ny; rw [ry] at ny; cases ny
  |infinity t => unfold Format.order at h3; rw [rx,ry] at h3; cases t <;> cases h3
  |number t n i =>
   by_cases h0 : m = 0 ∧ n = 0
   ·obtain ⟨rfl,rfl⟩ := h0
    have r1 := lL hx rx
    have r2 := lL hy ry
    have c1 : x = 0 ∨ x = 9223372036854775808 := by rcases r1 with r1 | r1 <;> omega
    have c2 : y = 0 ∨ y = 9223372036854775808 := by rcases r2 with r2 | r2 <;> omega
    rcases c1 with rfl | rfl <;> rcases c2 with rfl | rfl
    ·rfl
    ·exact absurd (h2.2 m1) m0
    ·exact absurd (h2.1 m1) m0
    ·rfl
   ·exact num_eq hx hy rx ry h3 h0
end Ai
end
section
set_option maxRecDepth 100000
namespace Ai
open Go Go.Proofs Ieee
theorem nZ (x : Nat) : CallsTo EE 276 [.d (.flt x)] (· = bp (zQ x = true)) := by
 refine callsTo_of_AW (fn := Tryz.f276) Tryz.func276 rfl (by kernel_rfl) rfl ?_
 conv => whnf
 refine kbi (fun h => ?_) (fun h => ?_)
 ·conv => whnf
  exact bpt (by rw [← dZ]; exact h)
 ·conv => whnf
  exact bpf (by rw [← dZ]; exact h)
theorem bitsI_run (b : Nat) (w : World) : (callFunc 277 #[.float .f64 b]).run Tryz.prog w = .ok (.value (.int .u64 b)) w := by
 kernel_rfl
theorem lC {b : Nat} (h : zQ (canon b) = false) : canon b = b := by
 unfold canon at *
 cases hn : zQ b with
 |true => rw [hn] at h; exact absurd (show zQ nanC = false from h) (by decide)
 |false => rfl
theorem wW (x : Nat) : CallsTo EE 277 [.d (.flt x)] (fun r => ∃ b : Nat,r = .d (.int .u64 b) ∧ canon b = x) := by
 intro w A vs hI hA
 obtain ⟨hl,hr⟩ := hA
 have h1 : vs.size = 1 := hl.symm
 obtain ⟨v,hv⟩ : ∃ v,vs = #[v] := ⟨vs[0],by apply Array.ext (by simp [h1]); intro i h2 h3; simp at h3; subst h3; rfl⟩
 subst hv
 have := hr 0 _ v rfl rfl
 cases this with
 |d _ _ hd => cases hd with
  |flt b =>
   unfold Invokes
   rw [show Sem.run EE.P (callFunc 277 #[Value.float .f64 b]) w = _ from bitsI_run b w]
   exact ⟨_,⟨b,rfl,rfl⟩,RowKit.Below.refl _ _,.d _ _ (.int _ _)⟩
theorem y6 (n : Int) (w : World) : (callFunc 308 #[.int .u64 n]).run Tryz.prog w = .ok (.value (.float .f64 n.toNat)) w := by
 kernel_rfl
theorem p6 (n : Int) : CallsTo EE 308 [.d (.int .u64 n)] (· = .d (.flt (canon n.toNat))) := by
 intro w A vs hI hA
 obtain ⟨hl,hr⟩ := hA
 have h1 : vs.size = 1 := hl.symm
 obtain ⟨v,hv⟩ : ∃ v,vs = #[v] := ⟨vs[0],by apply Array.ext (by simp [h1]); intro i h2 h3; simp at h3; subst h3; rfl⟩
 subst hv
 have := hr 0 _ v rfl rfl
 cases this with
 |d _ _ hd => cases hd with
  |int =>
   unfold Invokes
   rw [show Sem.run EE.P (callFunc 308 #[Value.int .u64 n]) w = _ from y6 n w]
   exact ⟨_,rfl,RowKit.Below.refl _ _,.d _ _ (.flt _)⟩
theorem trunc_next : Extern.findNext Tryz.f302 = none := by kernel_rfl
theorem trunc_find : Extern.find Tryz.f302 = some (Extern.MathFloor.toIntegral "math.archTrunc" .zero) := by kernel_rfl
theorem trunc_ng : (Tryz.f302.name == "runtime.NumGoroutine") = false := by kernel_rfl
theorem trunc_nb : Tryz.f302.body.isNone = true := by kernel_rfl
theorem trunc_run (b : Nat) (w : World) : (callFunc 302 #[.float .f64 b]).run Tryz.prog w = (((Extern.MathFloor.toIntegral "math.archTrunc" .zero #[.float .f64 b]).run Tryz.prog w).andThen fun v w => .ok (.value v) w) := by
 unfold callFunc
 simp only [Sem.run_bind,run_program,Result.andThen_ok,Tryz.func302,trunc_ng,trunc_nb,trunc_next,trunc_find,Bool.false_eq_true,if_false,if_true,run_mark,Sem.run_pure]
def dS (x : Nat) : Nat := canon (double.write ((double.read x).integral .zero))
theorem x3 (x : Nat) (hx : zQ x = false) : CallsTo EE 302 [.d (.flt x)] (· = .d (.flt (dS x))) := by
 intro w A vs hI hA
 obtain ⟨hl,hr⟩ := hA
 have h1 : vs.size = 1 := hl.symm
 obtain ⟨v,hv⟩ : ∃ v,vs = #[v] := ⟨vs[0],by apply Array.ext (by simp [h1]); intro i h2 h3; simp at h3; subst h3; rfl⟩
 subst hv
 have := hr 0 _ v rfl rfl
 cases this with
 |d _ _ hd =>
  cases hd with
  |flt b =>
   have hb : canon b = b := lC hx
   unfold Invokes
   have hrun : Sem.run EE.P (callFunc 302 #[Value.float .f64 b]) w = .ok (.value (.float .f64 (double.write ((double.read b).integral .zero)))) w := by
    rw [show Sem.run EE.P (callFunc 302 #[Value.float .f64 b]) w = _ from trunc_run b w]
    have hdec : FloatKind.f64.decode b = double.read b := rfl
    have hn : zQ b = false := by rw [hb] at hx; exact hx
    unfold zQ at hn
    have ht : Extern.MathFloor.toIntegral "math.archTrunc" .zero #[Value.float .f64 b] = pure (.float .f64 (double.write ((double.read b).integral .zero))) := by
     show (match FloatKind.f64.decode b with
      | .nan s t => _
      |d => _) = _
     rw [hdec]
     cases hd : double.read b with
     |nan s f => rw [hd] at hn; cases hn
     |infinity s => rfl
     |number s m i => rfl
    rw [ht]
    rfl
   rw [hrun]
   refine ⟨_,rfl,RowKit.Below.refl _ _,?_⟩
   rw [hb]
   exact .d _ _ (.flt _)
theorem Trunc_ok (x : Nat) (hx : zQ x = false) : CallsTo EE 288 [.d (.flt x)] (· = .d (.flt (dS x))) := by
 refine callsTo_of_AW (fn := Tryz.f288) Tryz.func288 rfl (by kernel_rfl) rfl ?_
 conv => whnf
 refine ⟨_,x3 x hx,?_⟩
 rintro r rfl
 conv => whnf
def rL (b : Nat) : Nat := (IntKind.u64.wrap (BitVec.ofInt 64 b &&& ~~~BitVec.ofInt 64 9223372036854775808).toNat).toNat
theorem Abs_ok (x : Nat) : CallsTo EE 301 [.d (.flt x)] (fun r => ∃ b,canon b = x ∧ r = .d (.flt (canon (rL b)))) := by
 refine callsTo_of_AW (fn := Tryz.f301) Tryz.func301 rfl (by kernel_rfl) rfl ?_
 conv => whnf
 refine ⟨_,wW x,?_⟩
 rintro r ⟨b,rfl,hb⟩
 conv => whnf
 refine ⟨_,p6 _,?_⟩
 rintro r rfl
 conv => whnf
 exact ⟨b,hb,rfl⟩
theorem IsInf_ok (x : Nat) : CallsTo EE 287 [.d (.flt x),i64 0] (fun r => ∃ b,canon b = x ∧ r = bv (fcmp .gtr (canon (rL b)) 9218868437227405311)) := by
 refine callsTo_of_AW (fn := Tryz.f287) Tryz.func287 rfl (by kernel_rfl) rfl ?_
 conv => whnf
 refine kbi (fun _ => ?_) (fun h => absurd rfl h)
 conv => whnf
 refine ⟨_,Abs_ok x,?_⟩
 rintro r ⟨b,hb,rfl⟩
 conv => whnf
 refine kbi (fun h => ?_) (fun h => ?_)
 ·conv => whnf
  exact ⟨b,hb,congrArg bv (show true = _ from (show fcmp .gtr (canon (rL b)) 9218868437227405311 = true from h).symm)⟩
 ·conv => whnf
  exact ⟨b,hb,congrArg bv (show false = _ from (Bool.not_eq_true _ ▸ (show ¬ fcmp .gtr (canon (rL b)) 9218868437227405311 = true from h) : fcmp .gtr (canon (rL b)) 9218868437227405311 = false).symm)⟩
def wF (x : Nat) : Int := if zQ x = true then 0 else (match double.read x with | .infinity _ => 1 | _ => if fcmp .eql x 0 = true then 2 else if fcmp .eql x (dS x) = true then 3 else 4)
theorem absB_mod (b : Nat) : rL b = b % 9223372036854775808 := by
 unfold rL
 have h1 : (BitVec.ofInt 64 (b : Int) &&& ~~~BitVec.ofInt 64 9223372036854775808).toNat = b % 9223372036854775808 := by
  rw [BitVec.toNat_and,show (~~~BitVec.ofInt 64 9223372036854775808).toNat = 2 ^ 63 - 1 by decide,Nat.and_two_pow_sub_one_eq_mod,BitVec.toNat_ofInt]
  omega
 rw [h1]
 have : IntKind.u64.wrap (((b % 9223372036854775808 : Nat)) : Int) = ((b % 9223372036854775808 : Nat) : Int) := by
  unfold IntKind.wrap
  simp [IntKind.bits,IntKind.signed]
  omega
 rw [this]
 rfl
theorem iR {b : Nat} : double.read (rL b) = (match double.read b with | .number _ m i => .number false m i | .infinity _ => .infinity false | .nan _ f => .nan false f) := by
 rw [absB_mod]
 unfold Format.read
 rw [show double.signWeight = 9223372036854775808 by decide]
 have h1 : b % 9223372036854775808 / 9223372036854775808 % 2 = 0 := by omega
 simp only [h1,Nat.mod_mod]
 split
 ·rfl
 ·split
  ·rfl
  ·split <;> rfl
theorem iT (x : Nat) : CallsTo EE 262 [.d (.flt x)] (· = i64 (wF x)) := by
 refine callsTo_of_AW (fn := Tryz.f262) Tryz.func262 rfl (by kernel_rfl) rfl ?_
 conv => whnf
 refine ocase (nZ x) (fun h => ?_) (fun h => ?_)
 ·conv => whnf
  unfold wF
  rw [if_pos h]
 have h' : zQ x = false := by simpa using h
 conv => whnf
 refine ⟨_,IsInf_ok x,?_⟩
 rintro r ⟨b,hb,rfl⟩
 have hbb : canon b = b := lC (by rw [hb]; exact h')
 have hxb : b = x := by rw [← hb,hbb]
 subst hxb
 have hinf : fcmp .gtr (canon (rL b)) 9218868437227405311 = (match double.read b with | .infinity _ => true | _ => false) := by
  have hnb : zQ (rL b) = false := by
   have := h'
   unfold zQ at this ⊢
   rw [iR]
   cases hd : double.read b <;> rw [hd] at this <;> first | rfl | cases this
  have hcn : canon (rL b) = rL b := by unfold canon; rw [hnb]; rfl
  rw [hcn,gtr_max,iR]
  cases double.read b <;> rfl
 rw [hinf]
 cases hd : double.read b with
 |nan s f => unfold zQ at h'; rw [hd] at h'; cases h'
 |infinity s =>
  conv => whnf
  unfold wF
  rw [if_neg h,hd]
 |number s m i =>
  conv => whnf
  refine kbi (fun h0 => ?_) (fun h0 => ?_)
  ·have h0 : fcmp .eql b 0 = true := h0
   conv => whnf
   unfold wF
   rw [if_neg h,hd]
   simp only
   rw [if_pos h0]
  have h0 : ¬ fcmp .eql b 0 = true := h0
  conv => whnf
  refine ⟨_,Trunc_ok b h',?_⟩
  rintro r rfl
  conv => whnf
  refine kbi (fun h1 => ?_) (fun h1 => ?_)
  ·have h1 : fcmp .eql b (dS b) = true := h1
   conv => whnf
   unfold wF
   rw [if_neg h,hd]
   simp only
   rw [if_neg h0,if_pos h1]
  ·have h1 : ¬ fcmp .eql b (dS b) = true := h1
   conv => whnf
   unfold wF
   rw [if_neg h,hd]
   simp only
   rw [if_neg h0,if_neg h1]
end Ai
end
section
set_option maxRecDepth 100000
namespace Ai
open Go Go.Proofs Ieee
theorem inf_eql0 {x : Nat} {s : Bool} (h : double.read x = .infinity s) : fcmp .eql x 0 = false := by
 unfold fcmp Format.order
 rw [h,kY]
 cases s <;> rfl
theorem isNo_ok (x : Nat) : CallsTo EE 220 [.d (.flt x)] (· = bp (zQ x = true ∨ fcmp .eql x 0 = true)) := by
 refine callsTo_of_AW (fn := Tryz.f220) Tryz.func220 rfl (by kernel_rfl) rfl ?_
 conv => whnf
 refine ⟨_,iT x,?_⟩
 rintro r rfl
 conv => whnf
 refine kbi (fun h1 => ?_) (fun h1 => ?_)
 ·have h1 : wF x = 0 := by simpa using h1
  conv => whnf
  refine bpt (.inl ?_)
  unfold wF at h1
  split at h1
  ·assumption
  ·split at h1
   ·cases h1
   ·split at h1
    ·cases h1
    ·split at h1 <;> cases h1
 have h1 : ¬ wF x = 0 := by simpa using h1
 have hn : ¬ zQ x = true := fun e => h1 (by unfold wF; rw [if_pos e])
 conv => whnf
 refine kbi (fun h2 => ?_) (fun h2 => ?_)
 ·have h2 : wF x = 2 := by simpa using h2
  conv => whnf
  refine bpt (.inr ?_)
  unfold wF at h2
  rw [if_neg hn] at h2
  split at h2
  ·cases h2
  ·split at h2
   ·assumption
   ·split at h2 <;> cases h2
 ·have h2 : ¬ wF x = 2 := by simpa using h2
  conv => whnf
  refine bpf fun e => e.elim hn fun e => h2 ?_
  unfold wF
  rw [if_neg hn]
  split
  ·rename_i s hs
   rw [inf_eql0 hs] at e; cases e
  ·rw [if_pos e]
theorem qH (b : Bool) : CallsTo EE 170 [bv b] (· = i64 (if b = true then 1 else 0)) := by
 refine callsTo_of_AW (fn := Tryz.f170) Tryz.func170 rfl (by kernel_rfl) rfl ?_
 cases b
 ·conv => whnf
  rfl
 ·conv => whnf
  rfl
theorem SameNumI_ok (x y : Nat) (hx : x < 18446744073709551616) (hy : y < 18446744073709551616) : CallsTo EE 259 [.d (.flt x),.d (.flt y)] (· = bp (bU x y)) := by
 refine callsTo_of_AW (fn := Tryz.f259) Tryz.func259 rfl (by kernel_rfl) rfl ?_
 have bits : ∀ {z b : Nat},zQ z = false → canon b = z → b = z := fun {z b} h e => by
  have := lC (b := b) (by rw [e]; exact h)
  rw [← e,this]
 have rest : ∀ (hn : ¬ (zQ x = true ∧ zQ y = true)) (b c : Nat),canon b = x → canon c = y → ((b : Int) = (c : Int) ↔ bU x y) := by
  intro hn b c hb hc
  have key : (b = c) ↔ bU x y := by
   by_cases h : zQ x = true ∨ zQ y = true
   ·constructor
    ·rintro rfl
     exfalso
     have : x = y := hb.symm.trans hc
     subst this
     exact hn ⟨h.elim id id,h.elim id id⟩
    ·rintro (e | e)
     ·exact absurd e.2 hn
     ·exact absurd h e.1
   ·have nx : zQ x = false := by simpa using fun e => h (.inl e)
    have ny : zQ y = false := by simpa using fun e => h (.inr e)
    rw [bits nx hb,bits ny hc]
    constructor
    ·intro e
     exact .inr ⟨h,(j5 hx hy nx ny).2 e⟩
    ·rintro (e | e)
     ·exact absurd e.1 h
     ·exact (j5 hx hy nx ny).1 e.2
  rw [← key]
  omega
 conv => whnf
 refine ocase (nZ x) (fun h => ?_) (fun h => ?_)
 ·conv => whnf
  refine ocase (nZ y) (fun h2 => ?_) (fun h2 => ?_)
  ·conv => whnf
   exact bpt (.inl ⟨.inl h,h,h2⟩)
  ·conv => whnf
   refine ⟨_,wW x,?_⟩
   rintro r ⟨b,rfl,hb⟩
   conv => whnf
   refine ⟨_,wW y,?_⟩
   rintro r ⟨c,rfl,hc⟩
   conv => whnf
   have := rest (fun e => h2 e.2) b c hb hc
   refine kbi (fun h3 => ?_) (fun h3 => ?_)
   ·conv => whnf
    exact bpt (this.1 (by simpa using h3))
   ·conv => whnf
    exact bpf (fun e => absurd (this.2 e) (by simpa using h3))
 ·conv => whnf
  refine ⟨_,wW x,?_⟩
  rintro r ⟨b,rfl,hb⟩
  conv => whnf
  refine ⟨_,wW y,?_⟩
  rintro r ⟨c,rfl,hc⟩
  conv => whnf
  have := rest (fun e => h e.1) b c hb hc
  refine kbi (fun h3 => ?_) (fun h3 => ?_)
  ·conv => whnf
   exact bpt (this.1 (by simpa using h3))
  ·conv => whnf
   exact bpf (fun e => absurd (this.2 e) (by simpa using h3))
theorem aQ (c : Int) (x y : Nat) (hc : 4 ≤ c ∧ c ≤ 9) (hx : x < 18446744073709551616) (hy : y < 18446744073709551616) : CallsTo EE 224 [i64 c,.d (.flt x),.d (.flt y)] (· = .d (.flt (yN c x y))) := by
 refine callsTo_of_AW (fn := Tryz.f224) Tryz.func224 rfl (by kernel_rfl) rfl ?_
 conv => whnf
 refine kbi (fun h1 => ?_) (fun h1 => ?_)
 ·have : c = 4 := by simpa using h1
  conv => whnf
  subst this; rfl
 have h1 : ¬ c = 4 := by simpa using h1
 conv => whnf
 refine kbi (fun h2 => ?_) (fun h2 => ?_)
 ·have : c = 5 := by simpa using h2
  conv => whnf
  subst this; rfl
 have h2 : ¬ c = 5 := by simpa using h2
 conv => whnf
 refine kbi (fun h3 => ?_) (fun h3 => ?_)
 ·have : c = 6 := by simpa using h3
  conv => whnf
  subst this; rfl
 have h3 : ¬ c = 6 := by simpa using h3
 conv => whnf
 refine kbi (fun h4 => ?_) (fun h4 => ?_)
 ·have : c = 7 := by simpa using h4
  conv => whnf
  subst this; rfl
 have h4 : ¬ c = 7 := by simpa using h4
 conv => whnf
 refine kbi (fun h5 => ?_) (fun h5 => ?_)
 ·have : c = 8 := by simpa using h5
  conv => whnf
  refine kbi (fun hl => ?_) (fun hl => ?_)
  ·conv => whnf
   refine ⟨_,qH true,?_⟩
   rintro r rfl
   conv => whnf
   simp [yN,this,hl]; rfl
  ·conv => whnf
   refine ⟨_,qH false,?_⟩
   rintro r rfl
   conv => whnf
   simp [yN,this,hl]; rfl
 have h5 : ¬ c = 8 := by simpa using h5
 conv => whnf
 refine ocase (SameNumI_ok x y hx hy) (fun h => ?_) (fun h => ?_)
 ·conv => whnf
  refine ⟨_,qH true,?_⟩
  rintro r rfl
  conv => whnf
  simp [yN,h1,h2,h3,h4,h5,h]; rfl
 ·conv => whnf
  refine ⟨_,qH false,?_⟩
  rintro r rfl
  conv => whnf
  simp [yN,h1,h2,h3,h4,h5,h]; rfl
end Ai
end
