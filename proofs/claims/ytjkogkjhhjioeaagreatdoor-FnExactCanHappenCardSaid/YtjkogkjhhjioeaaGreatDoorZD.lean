import Derived.Test.YtjkogkjhhjioeaaGreatDoorZC
set_option maxHeartbeats 8000000
set_option linter.unusedVariables false
set_option linter.unusedSimpArgs false
section
set_option maxRecDepth 100000
namespace Ai
open Go Go.Proofs
def StH (s : StL) (H : Key → Option Ob) : Prop :=
 H (.n 900) = some (.rs 123 6 (thRows 900 s.ths)) ∧ (∀ j,H (.s 900 j) = zR s.ths j) ∧ H (.n 901) = some (.ds 105 1 (s.cells.map encF)) ∧ H (.n 902) = some (.ds 3 1 (s.owner.map encInt))
def stRef (s : StL) : List AV := [.dref (.n 900) s.ths.length,.ref (.n 901) 0 s.cells.length,.ref (.n 902) 0 s.owner.length,i64 s.fault]
def kH (l : List Th) (k : Nat) (els : List (List D)) (j : Nat) : Option Ob := bif Nat.beq j k then some (.ds 105 1 els) else zR l j
def xG (o : OpL) : Nat := (zA o.code).1.toNat
def zP (t : Th) (o : OpL) : Nat := t.stack.length - xG o
def doL1 (s : StL) (k : Nat) (o : OpL) (t : Th) : List (Nat × AV) := [(1,i64 k),(4,.ptr (.n 4) 0),(6,.ptr (.n 6) 0),(7,.ptr (.n 7) 0),(8,.ptr (.n 8) 0),(9,.ptr (.n 9) 0),(10,.ptr (.n 10) 0),(11,i64 (zA o.code).1),
  (13,.ref (.n 28) 0 (xG o)),(14,i64 ((zS s t).getD (-1)))]
def doO1 (s : StL) (k : Nat) (o : OpL) (e : Ev) (t : Th) : List (Key × Ob) := [(.n 4,.vs 76 (stRef s)),(.n 6,.vs 107 ((encOp o).map .d)),(.n 7,.vs 120 ((encEv { e with kind := 1 }).map .d)),
  (.n 8,.vs 76 [.d .nil,.d .nil,.d .nil,i64 0]),(.n 9,.vs 120 [i64 0,i64 0,i64 0,i64 0,i64 0]),(.n 10,.vs 123 [i64 t.rt,i64 (t.pc + 1),i64 t.st,i64 t.cond,i64 t.lock,.ref (.s 900 k) 0 (zP t o)]),
  (.n 28,.ds 105 1 ((t.stack.drop (zP t o)).map encF)),(.n 900,.rs 123 6 (thRows 900 s.ths)),(.n 901,.ds 105 1 (s.cells.map encF)),(.n 902,.ds 3 1 (s.owner.map encInt))]
theorem yX {rows : List (List AV)} {p : Key → Bool} {c : List AV} {j : Nat} (h : rows[j]? = some c) (hp : scrPL p c = c) : (rows.map (scrPL p))[j]? = some c := by
 rw [List.getElem?_map,h]; exact congrArg some hp
theorem nY {o : Nat} {l : List Th} {k : Nat} {t : Th} (h : k < l.length) (ht : l[k] = t) : (thRows o l)[((k : Nat) : Int).toNat]? = some (thRow o k t) := by rw [← ht]; exact xF h
theorem famK_get {l : List Th} {k j : Nat} {t : Th} (hk : k < l.length) (ht : l[k] = t) (h : j < l.length) : kH l k (stk t) j = some (.ds 105 1 (stk l[j])) := by
 subst ht
 unfold kH
 by_cases hj : j = k
 ·subst hj; rw [show Nat.beq j j = true from Nat.beq_refl j]; rfl
 ·rw [nbeq_ne hj]; simp [zR,h]
theorem fz_th {S : St} {o j n : Nat} {t : Th} {els : List (List D)} (h : S.H (.s o j) = some (.ds 105 1 els)) (he : els.take n = stk t) : FzC S [i64 t.rt,i64 t.pc,i64 t.st,i64 t.cond,i64 t.lock,.ref (.s o j) 0 n] (zF t) := by
 refine ⟨_,_,rfl,rfl,_,_,rfl,rfl,_,_,rfl,rfl,_,_,rfl,rfl,_,_,rfl,rfl,.sl (stk t),_,rfl,?_,rfl⟩
 simp [FzD,fz1,h,he]
theorem hscrO {x X : Option Ob} {p : Key → Bool} (h : x = X) (hp : X.map (scrPO p) = X) : x.map (scrPO p) = X := by rw [h]; exact hp
theorem famK_scr (p : Key → Bool) (l : List Th) (k : Nat) (els : List (List D)) (j : Nat) : (kH l k els j).map (scrPO p) = kH l k els j := by
 unfold kH
 cases Nat.beq j k
 ·exact yG p l j
 ·rfl
theorem l3Do_pre (hI : xB) (s : StL) (k : Nat) (o : OpL) (e : Ev) (hk : k < s.ths.length) (h5 : s.ths.length ≤ 5) (hs : s.small) (htk : (zA o.code).1 ≤ s.ths[k].stack.length) (hpc : InR s.ths[k].pc 0 1048576)
  (τ : Nat → AV) (H : Key → Option Ob) (Q : AX → St → Prop) (K : St → Prop) (hK : ∀ s',At (doL1 s k o s.ths[k]) (doO1 s k o e s.ths[k]) [(900,kH s.ths k (stk s.ths[k]))] s' → K s') :
  sH EE Tryz.f136.ntmps K Q 8 (Tryz.f136.body.getD .skip) (rA [(0,.agg (stRef s)),(1,i64 k),(2,agg (encOp o)),(3,agg (encEv e))] (pY [(.n 900,.rs 123 6 (thRows 900 s.ths)),(.n 901,.ds 105 1 (s.cells.map encF)),(.n 902,.ds 3 1 (s.owner.map encInt))] (fN [(900,kH s.ths k (stk s.ths[k]))] ⟨τ,H⟩))) := by
 have hst := hs.2.1 _ (List.getElem_mem hk)
 have ht : 0 ≤ (zA o.code).1 ∧ (zA o.code).1 ≤ 2 ∧ 0 ≤ (zA o.code).2 ∧ (zA o.code).2 ≤ 1 := by
  unfold zA; split
  ·decide
  ·split
   ·decide
   ·split <;> decide
 have e1 : (IntKind.i64.wrap ((s.ths[k].stack.length : Int) - (zA o.code).1)) = (s.ths[k].stack.length : Int) - (zA o.code).1 := zE (by omega) (by omega)
 generalize ht0 : s.ths[k] = t at *
 have e2 : ((t.stack.length : Int) - (zA o.code).1).toNat = zP t o := by unfold zP xG; omega
 have allLen : ∀ a b : Nat,(((stk t).drop a).take b).all (fun c => c.length == 1) = true := by
  intro a b
  simp only [List.all_eq_true]
  intro x hx
  have hx := List.mem_of_mem_drop (List.mem_of_mem_take hx)
  obtain ⟨y,_,rfl⟩ := List.mem_map.1 hx
  rfl
 obtain rfl | rfl | rfl | rfl | rfl : k = 0 ∨ k = 1 ∨ k = 2 ∨ k = 3 ∨ k = 4 := by omega
 all_goals
  conv => whnf
  refine ⟨⟨by omega,by omega⟩,?_⟩
  conv => whnf
  refine ⟨thRow 900 _ _,⟨by repeat (first | exact nY hk ht0 | refine yX ?_ rfl),by simp [thRow]⟩,?_⟩
  conv => whnf
  refine ⟨_,sV o.code,?_⟩
  rintro r rfl
  conv => whnf
  rw [e1]
  rcases Int.lt_or_eq_of_le ht.1 with h0 | h0
  refine .inl ⟨⟨by omega,by omega,by omega,.inr (by omega)⟩,?_⟩
  conv => whnf
  refine ⟨⟨allLen _ _,by simp; omega,by simp; omega⟩,?_⟩
  conv => whnf
  rotate_left 1
  refine .inr ⟨⟨by omega,by omega,by omega⟩,?_⟩
  conv => whnf
  refine ⟨⟨rfl,by simp,by simp⟩,?_⟩
  conv => whnf
  all_goals
   refine .inl ⟨[agg (encSt s),agg (zF t)],[],_,⟨_,_,rfl,⟨_,rfl,fz_st (o := 900) (s := s) ⟨?_,?_,?_,?_⟩ ?_ ?_ ?_⟩,⟨_,_,rfl,⟨_,rfl,fz_th (t := t) (els := stk t) ?_ ?_⟩,rfl⟩⟩,rfl,dV hI s _ hst,?_⟩
   ·((conv => lhs; whnf); refine congrArg some ?_; repeat (first | rfl | refine yH ?_ (by exact congrArg _ (yE fun _ _ => rfl))))
   ·intro j hj
    ((conv => lhs; whnf); (repeat (refine n4 ?_ rfl; conv => lhs; whnf)); exact (famK_get hk ht0 hj))
   ·conv => lhs; whnf
    rfl
   ·conv => lhs; whnf
    rfl
   ·rfl
   ·rfl
   ·rfl
   ·conv => lhs; whnf
    rfl
   ·simp [stk,List.take_of_length_le]
   rintro r rfl
   refine ⟨rfl,?_⟩
   conv => whnf
   rw [e1]
   refine .inl ⟨⟨by omega,by omega,by omega,.inl rfl⟩,?_⟩
   conv => whnf
   refine hK _ ⟨?_,?_,?_⟩
   ·refine ⟨rfl,rfl,rfl,rfl,rfl,rfl,rfl,rfl,?_,rfl,trivial⟩
    conv => lhs; whnf
    refine congrArg (AV.ref (.n 28) 0) ?_
    first
     |simp only [Nat.zero_add,List.length_take,List.length_drop,stk,List.length_map,e2]
      unfold zP xG
      omega
     |simp [xG,← h0]
   ·refine ⟨rfl,rfl,rfl,rfl,rfl,?_,?_,?_,rfl,rfl,trivial⟩
    ·show some (Ob.vs 123 [_,AV.d (.int .i64 (IntKind.i64.wrap (t.pc + 1))),_,_,_,AV.ref _ 0 (((t.stack.length : Int) - (zA o.code).1).toNat - 0)]) = _
     rw [zE (by have := hpc.1; omega) (by have := hpc.2; omega),e2]
     rfl
    ·first
      |show some (Ob.ds 105 1 (List.take ((t.stack.length : Int).toNat - ((t.stack.length : Int) - (zA o.code).1).toNat) (List.drop (0 + ((t.stack.length : Int) - (zA o.code).1).toNat) (stk t)))) = _
       rw [e2,Nat.zero_add,List.take_of_length_le (by simp [stk])]
       simp [stk]
      |show some (Ob.ds 105 1 []) = _
       simp [zP,xG,← h0]
    ·((conv => lhs; whnf); refine congrArg some ?_; repeat (first | rfl | refine yH ?_ (by exact congrArg _ (yE fun _ _ => rfl))))
   ·refine ⟨fun j => ?_,trivial⟩
    ((conv => lhs; whnf); (repeat (refine hscrO ?_ (famK_scr _ _ _ _ _); conv => lhs; whnf)); rfl)
end Ai
end
section
set_option maxRecDepth 100000
namespace Ai
open Go Go.Proofs
def oD (t : Th) : List AV := [i64 t.rt,i64 t.pc,i64 t.st,i64 t.cond,i64 t.lock,.d (.sl [])]
def Rowish (l : List Th) (j : Nat) (t : Th) (row : List AV) : Prop := (∃ t0,l[j]? = some t0 ∧ t0.stack = t.stack ∧ row = thRow 900 j t) ∨ (t.stack = [] ∧ row = oD t)
def Do2 (l : List Th) (s' : StL) (k : Nat) (e' : Ev) (S : St) : Prop :=
 ∃ (t : Th) (rows : List (List AV)) (els : List (List D)),s'.ths[k]? = some t ∧ (∀ j t',j ≠ k → s'.ths[j]? = some t' → ∃ row,rows[j]? = some row ∧ Rowish l j t' row) ∧ els.take t.stack.length = stk t ∧
  At [(1,i64 k),(4,.ptr (.n 4) 0),(7,.ptr (.n 7) 0),(8,.ptr (.n 8) 0),(9,.ptr (.n 9) 0),(10,.ptr (.n 10) 0)]
   [(.n 4,.vs 76 (stRef s')),(.n 7,.vs 120 ((encEv e').map .d)),(.n 8,.vs 76 [.d .nil,.d .nil,.d .nil,i64 0]),(.n 9,.vs 120 [i64 0,i64 0,i64 0,i64 0,i64 0]),(.n 10,.vs 123 (thRow 900 k t)),
    (.n 900,.rs 123 6 rows),(.n 901,.ds 105 1 (s'.cells.map encF)),(.n 902,.ds 3 1 (s'.owner.map encInt))] [(900,kH l k els)] S
def lendK : Key → Bool
 | .n k => Nat.beq k 900 || Nat.beq k 901 || Nat.beq k 902
 | .s o _ => Nat.beq o 900
 | .l _ => false
def doPost (s' : StL) (e' : Ev) (r : AV) (H1 : Key → Option Ob) : Prop :=
 r = .tup [.agg (stRef s'),agg (encEv e')] ∧ FzC ⟨fun _ => .junk,H1⟩ (stRef s') (encSt s') ∧ ∀ κ,lendK κ = false → H1 κ = none
theorem peel {rows : List (List AV)} {p : Key → Bool} {j : Nat} {row : List AV} (h : (rows.map (scrPL p))[j]? = some row) : ∃ r0,rows[j]? = some r0 ∧ row = scrPL p r0 := by
 rw [List.getElem?_map] at h
 obtain ⟨r0,h1,h2⟩ := Option.map_eq_some_iff.1 h
 exact ⟨r0,h1,h2.symm⟩
theorem fz_st2 {s : StL} {S : St} {rows : List (List AV)} (h1 : S.H (.n 900) = some (.rs 123 6 rows)) (hv : ∀ (j : Nat) (row : List AV) (t : Th),s.ths[j]? = some t → rows[j]? = some row → fz1s S row = some (zF t))
  (h3 : S.H (.n 901) = some (.ds 105 1 (s.cells.map encF))) (h4 : S.H (.n 902) = some (.ds 3 1 (s.owner.map encInt))) : FzC S (stRef s) (encSt s) := by
 refine ⟨.sl (s.ths.map zF),_,rfl,⟨_,rfl,?_⟩,.sl (s.cells.map encF),_,rfl,?_,.sl (s.owner.map encInt),_,rfl,?_,di s.fault,[],rfl,rfl,rfl⟩
 ·unfold kE
  rw [h1]
  refine ⟨by simp,fun j row hj hr => ?_⟩
  exact ⟨zF s.ths[j],by simp [hj],hv j row _ (List.getElem?_eq_getElem hj) hr⟩
 ·simp [FzD,fz1,h3,List.take_of_length_le]
 ·simp [FzD,fz1,h4,List.take_of_length_le]
theorem fz_rowT {o j : Nat} {t : Th} {S : St} {els : List (List D)} (h : S.H (.s o j) = some (.ds 105 1 els)) (he : els.take t.stack.length = stk t) : fz1s S (thRow o j t) = some (zF t) := by
 simp [thRow,fz1s,fz1,h,i64,zF,he]
 simp [stk]
theorem fz_nil {t : Th} {S : St} (h : t.stack = []) : fz1s S (oD t) = some (zF t) := by
 simp [oD,fz1s,fz1,i64,zF,h]
theorem fz_ish {l : List Th} {k j : Nat} {t : Th} {els : List (List D)} {S : St} {row : List AV} (hj : j ≠ k) (h : S.H (.s 900 j) = kH l k els j) (hr : Rowish l j t row) : fz1s S row = some (zF t) := by
 rcases hr with ⟨t0,h1,h2,rfl⟩ | ⟨h1,rfl⟩
 ·unfold kH at h
  rw [nbeq_ne hj] at h
  simp only [cond_false,zR,h1,Option.map_some] at h
  exact fz_rowT h (by simp [stk,h2,List.take_of_length_le])
 ·exact fz_nil h1
theorem scr_ish {l : List Th} {j : Nat} {t : Th} {row : List AV} {p : Key → Bool} (hp : p (.s 900 j) = false) (hr : Rowish l j t row) : scrPL p row = row := by
 rcases hr with ⟨t0,h1,h2,rfl⟩ | ⟨h1,rfl⟩
 ·exact zW hp
 ·rfl
theorem l3Do_fin (l : List Th) (s' : StL) (k : Nat) (e' : Ev) (h5 : k < 5) (S : St) (h : Do2 l s' k e' S) :
    AW EE Tryz.f136.ntmps (dropC 9 (Tryz.f136.body.getD .skip)) (retIO EE Tryz.f136 (doPost s' e')) S := by
  obtain ⟨t, rows, els, hk, hrow, hels, hat⟩ := h
  obtain ⟨τ, H, rfl⟩ := hat.form
  obtain rfl | rfl | rfl | rfl | rfl : k = 0 ∨ k = 1 ∨ k = 2 ∨ k = 3 ∨ k = 4 := by omega
  all_goals
    conv => whnf
    refine ⟨⟨by omega, by have := (List.getElem?_eq_some_iff.1 hk).1; omega⟩, ?_⟩
    conv => whnf
    refine .inr (.inl ⟨4, [], ?_⟩)
    conv => whnf
    refine ⟨by kernel_rfl, ?_⟩
    conv => whnf
    refine ⟨_, Weak.refl, ?_⟩
    conv => whnf
    refine ⟨lendK, ?_, ?_, ?_⟩
    · rfl
    · refine @fz_st2 s' _ ?_ ?_ ?_ ?_ ?_
      rotate_left 1
      · conv => lhs; whnf
        rfl
      · intro j row t' ht hrr
        obtain ⟨r1, g1, q1⟩ := peel hrr
        obtain ⟨r2, g2, q2⟩ := peel g1
        subst q1 q2
        have g3 : (rows.set _ (thRow 900 _ t))[j]? = some r2 := g2
        rw [List.getElem?_set] at g3
        split at g3
        · rename_i hj
          subst hj
          split at g3
          · simp only [Option.some.injEq] at g3
            subst g3
            have hk2 : s'.ths[_]? = some t := hk
            have e : t' = t := by
              have := ht.symm.trans hk
              exact Option.some.inj this
            subst e
            show fz1s _ (thRow 900 _ t') = _
            exact fz_rowT (els := els) (by conv => lhs; whnf
                                           rfl) hels
          · cases g3
        · rename_i hj
          obtain ⟨row, hr1, hr2⟩ := hrow j t' (fun e => hj e.symm) ht
          have e : row = r2 := Option.some.inj (hr1.symm.trans g3)
          subst e
          rw [scr_ish (p := fun κ => memN _ _) ?_ hr2, scr_ish (p := fun o => !lendK o) rfl hr2]
          · refine fz_ish (els := els) (fun e => hj e.symm) ?_ hr2
            ((conv => lhs; whnf); (repeat (refine hscrO ?_ (famK_scr _ _ _ _ _); conv => lhs; whnf)); rfl)
          · rfl
      · conv => lhs; whnf
        rfl
      · conv => lhs; whnf
        rfl
    · intro κ hκ
      show (bif lendK κ then _ else none) = none
      rw [hκ]; rfl
end Ai
end
section
set_option maxRecDepth 100000
namespace Ai
open Go Go.Proofs
def zC (t : Th) (o : OpL) : Th := { t with pc := t.pc + 1,stack := t.stack.take (zP t o) }
def yK (t : Th) (o : OpL) (i : Nat) : Nat := (t.stack.drop (zP t o)).getD i 0
def zL (t : Th) (x : Nat) : Th := { t with stack := t.stack ++ [x] }
def qS (r : Int) : Th := ⟨r,0,1,-1,-1,[]⟩
def wH (l : List Th) (a : Int) : Option Nat := l.findIdx? fun t => t.st == 3 && t.cond == a
def StL.put (s : StL) (k : Nat) (t : Th) : StL := { s with ths := s.ths.set k t }
noncomputable def doL (s : StL) (k : Nat) (o : OpL) (e : Ev) : StL × Ev :=
 let t0 := s.ths.getD k th0
 let t := zC t0 o
 let e := { e with kind := 1 }
 if o.code = 1 then (s.put k (zL t o.v),e)
 else if o.code = 2 then (s.put k (zL t (s.cells.getD o.a.toNat 0)),{ e with kind := 2,obj := o.a })
 else if o.code = 3 then ({ s with cells := s.cells.set o.a.toNat (yK t0 o 0) }.put k t,{ e with kind := 3,obj := o.a })
 else if o.code = 10 then (s.put k { t with pc := o.a },e)
 else if o.code = 11 then (s.put k (if zM (yK t0 o 0) = true ∨ fcmp .eql (yK t0 o 0) 0 = true then { t with pc := o.a } else t),e)
 else if o.code = 12 then ({ s with owner := s.owner.set o.a.toNat k }.put k t,{ e with kind := 4,obj := o.a })
 else if o.code = 13 then ({ s with owner := s.owner.set o.a.toNat (-1) }.put k t,{ e with kind := 5,obj := o.a })
 else if o.code = 14 then ({ s with ths := s.ths ++ [qS o.a] }.put k (zL t (FloatKind.f64.nearest (s.ths.length : Int))),{ e with kind := 6,obj := s.ths.length })
 else if o.code = 15 then (s.put k t,{ e with kind := 7,obj := (zS s t0).getD (-1) })
 else if o.code = 16 then ({ s with owner := s.owner.set o.b.toNat (-1) }.put k { t with st := 3,cond := o.a,lock := o.b,pc := t.pc - 1 },{ e with kind := 8,obj := o.a,lock := o.b })
 else if o.code = 17 then
  (match wH s.ths o.a with
  |some j => ({ s with ths := s.ths.modify j fun u => { u with st := 4 } }.put k t,{ e with kind := 10,obj := o.a,lock := j })
  |none => (s.put k t,{ e with kind := 10,obj := o.a }))
 else (s.put k (zL t (yL o.code (yK t0 o 0) (yK t0 o 1))),e)
theorem uX {s' : StL} {l : List Th} {k : Nat} {t : Th} {e' : Ev} {els : List (List D)} {R c10 : List AV} {rows : List (List AV)} {S : St}
  (hat : At [(1,i64 k),(4,.ptr (.n 4) 0),(7,.ptr (.n 7) 0),(8,.ptr (.n 8) 0),(9,.ptr (.n 9) 0),(10,.ptr (.n 10) 0)]
   [(.n 4,.vs 76 R),(.n 7,.vs 120 ((encEv e').map .d)),(.n 8,.vs 76 [.d .nil,.d .nil,.d .nil,i64 0]),(.n 9,.vs 120 [i64 0,i64 0,i64 0,i64 0,i64 0]),(.n 10,.vs 123 c10),
    (.n 900,.rs 123 6 rows),(.n 901,.ds 105 1 (s'.cells.map encF)),(.n 902,.ds 3 1 (s'.owner.map encInt))] [(900,kH l k els)] S)
  (hR : R = stRef s') (h10 : c10 = thRow 900 k t) (hk : k < l.length) (hths : s'.ths = l.set k t) (hels : els.take t.stack.length = stk t)
  (hrow : ∀ j t0,j ≠ k → l[j]? = some t0 → rows[j]? = some (thRow 900 j t0)) : Do2 l s' k e' S := by
 subst hR h10
 refine ⟨t,rows,els,?_,fun j t' hj hj' => ?_,hels,hat⟩
 ·rw [hths]; simp [hk]
 ·rw [hths,List.getElem?_set_ne (Ne.symm hj)] at hj'
  exact ⟨_,hrow j t' hj hj',.inl ⟨t',hj',rfl,rfl⟩⟩
theorem rows_app {X N : List (List AV)} {n j : Nat} {c : List AV} (h : X[j]? = some c) (hj : j < n) : (X.take n ++ N)[j]? = some c := by
 have h1 := (List.getElem?_eq_some_iff.1 h).1
 rw [List.getElem?_append_left (by simp; omega),List.getElem?_take,if_pos hj]; exact h
theorem rows_new {X N : List (List AV)} {n : Nat} {c : List AV} (h : X.length = n) (hN : N = [c]) : (X.take n ++ N)[n]? = some c := by
 subst hN h; simp
theorem do2_fork {s' : StL} {l : List Th} {k : Nat} {t nt : Th} {e' : Ev} {els : List (List D)} {R c10 : List AV} {rows : List (List AV)} {S : St}
  (hat : At [(1,i64 k),(4,.ptr (.n 4) 0),(7,.ptr (.n 7) 0),(8,.ptr (.n 8) 0),(9,.ptr (.n 9) 0),(10,.ptr (.n 10) 0)]
   [(.n 4,.vs 76 R),(.n 7,.vs 120 ((encEv e').map .d)),(.n 8,.vs 76 [.d .nil,.d .nil,.d .nil,i64 0]),(.n 9,.vs 120 [i64 0,i64 0,i64 0,i64 0,i64 0]),(.n 10,.vs 123 c10),
    (.n 900,.rs 123 6 rows),(.n 901,.ds 105 1 (s'.cells.map encF)),(.n 902,.ds 3 1 (s'.owner.map encInt))] [(900,kH l k els)] S)
  (hR : R = stRef s') (h10 : c10 = thRow 900 k t) (hk : k < l.length) (hths : s'.ths = (l ++ [nt]).set k t) (hnt : nt.stack = []) (hels : els.take t.stack.length = stk t)
  (hrow : ∀ j t0,j ≠ k → l[j]? = some t0 → rows[j]? = some (thRow 900 j t0)) (hnew : rows[l.length]? = some (oD nt)) : Do2 l s' k e' S := by
 subst hR h10
 refine ⟨t,rows,els,?_,fun j t' hj hj' => ?_,hels,hat⟩
 ·rw [hths]; simp [show k < l.length + 1 by omega]
 ·rw [hths,List.getElem?_set_ne (Ne.symm hj)] at hj'
  by_cases h1 : j < l.length
  ·rw [List.getElem?_append_left h1] at hj'
   exact ⟨_,hrow j t' hj hj',.inl ⟨t',hj',rfl,rfl⟩⟩
  ·rw [List.getElem?_append_right (by omega)] at hj'
   have h2 : j - l.length = 0 := by
    have := (List.getElem?_eq_some_iff.1 hj').1
    simp at this; omega
   rw [h2] at hj'
   simp only [List.getElem?_cons_zero,Option.some.injEq] at hj'
   subst hj'
   have h3 : j = l.length := by omega
   subst h3
   exact ⟨_,hnew,.inr ⟨hnt,rfl⟩⟩
theorem rows_mod {X : List (List AV)} {i j : Nat} {t : Th} (h : X[j]? = some (thRow 900 j t)) : (X.modify i fun c => zU c 2 [i64 4])[j]? = some (thRow 900 j (if i = j then { t with st := 4 } else t)) := by
 rw [List.getElem?_modify,h]
 by_cases hij : i = j
 ·simp only [if_pos hij]; rfl
 ·simp only [if_neg hij]; rfl
theorem do2_wake {s' : StL} {l : List Th} {k i : Nat} {t : Th} {e' : Ev} {els : List (List D)} {R c10 : List AV} {rows : List (List AV)} {S : St}
  (hat : At [(1,i64 k),(4,.ptr (.n 4) 0),(7,.ptr (.n 7) 0),(8,.ptr (.n 8) 0),(9,.ptr (.n 9) 0),(10,.ptr (.n 10) 0)]
   [(.n 4,.vs 76 R),(.n 7,.vs 120 ((encEv e').map .d)),(.n 8,.vs 76 [.d .nil,.d .nil,.d .nil,i64 0]),(.n 9,.vs 120 [i64 0,i64 0,i64 0,i64 0,i64 0]),(.n 10,.vs 123 c10),
    (.n 900,.rs 123 6 rows),(.n 901,.ds 105 1 (s'.cells.map encF)),(.n 902,.ds 3 1 (s'.owner.map encInt))] [(900,kH l k els)] S)
  (hR : R = stRef s') (h10 : c10 = thRow 900 k t) (hk : k < l.length) (hths : s'.ths = (l.modify i fun u => { u with st := 4 }).set k t) (hels : els.take t.stack.length = stk t)
  (hrow : ∀ j t0,j ≠ k → l[j]? = some t0 → rows[j]? = some (thRow 900 j (if i = j then { t0 with st := 4 } else t0))) : Do2 l s' k e' S := by
 subst hR h10
 refine ⟨t,rows,els,?_,fun j t' hj hj' => ?_,hels,hat⟩
 ·rw [hths]; simp [hk]
 ·rw [hths,List.getElem?_set_ne (Ne.symm hj),List.getElem?_modify] at hj'
  obtain ⟨t0,h1,h2⟩ := Option.map_eq_some_iff.1 hj'
  refine ⟨_,hrow j t0 hj h1,.inl ⟨t0,h1,?_,?_⟩⟩
  ·by_cases hij : i = j
   ·simp only [if_pos hij] at h2; subst h2; rfl
   ·simp only [if_neg hij] at h2; subst h2; rfl
  ·by_cases hij : i = j
   ·simp only [if_pos hij] at h2 ⊢; subst h2; rfl
   ·simp only [if_neg hij] at h2 ⊢; subst h2; rfl
def OpL.fits (o : OpL) (s : StL) (t : Th) : Prop := InR o.code 1 17 ∧ ((o.code = 2 ∨ o.code = 3) → 0 ≤ o.a ∧ o.a < s.cells.length) ∧ ((o.code = 12 ∨ o.code = 13) → 0 ≤ o.a ∧ o.a < s.owner.length) ∧ (o.code = 16 → 0 ≤ o.b ∧ o.b < s.owner.length) ∧
 (zA o.code).1 ≤ t.stack.length
theorem yZ {o j : Nat} {l : List Th} {t : Th} (h : l[j]? = some t) : (thRows o l)[j]? = some (thRow o j t) := by
 obtain ⟨h1,rfl⟩ := List.getElem?_eq_some_iff.1 h
 exact xF h1
theorem isK_s0 {j k : Nat} (h : j ≠ k) : Key.beq (.s 900 j) (.s 900 k) = false := by
 show (Nat.beq 900 900 && Nat.beq j k) = false
 rw [nbeq_ne h]; rfl
theorem kb_ne {j k : Nat} (h : j ≠ k) : Key.beq (.s 900 j) (.s 900 k) = false := isK_s0 h
theorem kB {l : List Th} {k j : Nat} {els : List (List D)} (h : j ≠ k) : kH l k els j = zR l j := by
 unfold kH; rw [nbeq_ne h]; rfl
theorem qT {j k : Nat} (h : j ≠ k) : isK (.s 900 k) (.s 900 j) = false := by
 show (Nat.beq 900 900 && Nat.beq j k) = false
 rw [nbeq_ne h]; rfl
theorem wL {t : Th} {o : OpL} {i : Nat} (h : (zA o.code).1 ≤ t.stack.length) (hi : i < xG o) : ((t.stack.drop (zP t o)).map encF)[i]? = some (encF (yK t o i)) := by
 have h1 : zP t o + i < t.stack.length := by unfold zP; unfold xG at *; omega
 simp [yK,List.getD_eq_getElem?_getD,h1]
theorem tT {l : List Nat} {a : Int} (h : 0 ≤ a ∧ a < l.length) : (l.map encF)[a.toNat]? = some (encF (l.getD a.toNat 0)) := by
 have : a.toNat < l.length := by omega
 simp [this,List.getD_eq_getElem?_getD]
theorem l3Do_sw (s : StL) (k : Nat) (o : OpL) (e : Ev) (hk : k < s.ths.length) (h5 : s.ths.length ≤ 5) (hs : s.small) (ho : o.fits s s.ths[k]) (hpc : InR s.ths[k].pc 0 1048576)
  (Q : AX → St → Prop) (K : St → Prop) (S : St) (hS : At (doL1 s k o s.ths[k]) (doO1 s k o e s.ths[k]) [(900,kH s.ths k (stk s.ths[k]))] S) (hK : ∀ S',Do2 s.ths (doL s k o e).1 k (doL s k o e).2 S' → K S') :
  sH EE Tryz.f136.ntmps K Q 1 (dropC 8 (Tryz.f136.body.getD .skip)) S := by
 have hst := hs.2.1 _ (List.getElem_mem hk)
 have hg : s.ths.getD k th0 = s.ths[k] := by simp [List.getD_eq_getElem?_getD,hk]
 generalize ht0 : s.ths[k] = t at *
 obtain ⟨τ,H,rfl⟩ := hS.form
 clear hS
 obtain ⟨o1,o2,o3,o4,o5⟩ := ho
 have hkn : zP t o ≤ t.stack.length := Nat.sub_le _ _
 obtain ⟨K0,hK0⟩ : ∃ K0,K0 = k := ⟨k,rfl⟩
 obtain ⟨K1,hK1⟩ : ∃ K1,K1 = k := ⟨k,rfl⟩
 obtain rfl | rfl | rfl | rfl | rfl : k = 0 ∨ k = 1 ∨ k = 2 ∨ k = 3 ∨ k = 4 := by omega
 all_goals
  conv => whnf
  refine kbi (fun hc => ?_) (fun hc => ?_)
  ·have hc : o.code = 1 := by simpa using hc
   conv => whnf
   refine ⟨⟨rfl,by simp; omega,by simp; omega⟩,?_⟩
   conv => whnf
   have hd : doL s K0 o e = (s.put K0 (zL (zC t o) o.v),{ e with kind := 1 }) := by rw [hK0]; unfold doL; rw [hg]; simp [hc]
   rw [hK0] at hd
   rw [hd] at hK
   refine hK _ (uX (t := zL (zC t o) o.v) (els := stk (zL (zC t o) o.v)) ⟨⟨rfl,rfl,rfl,rfl,rfl,rfl,trivial⟩,⟨rfl,rfl,rfl,rfl,rfl,rfl,rfl,rfl,trivial⟩,⟨fun j => ?_,trivial⟩⟩ ?_ ?_ hk rfl ?_ ?_)
   ·by_cases hj : j = K0 <;> rw [hK0] at hj
    ·subst hj
     conv => lhs; whnf
     show some (Ob.ds 105 1 _) = some (Ob.ds 105 1 _)
     simp [stk,zL,zC,encF]
    ·rw [kB hj]
     conv => lhs; whnf
     repeat (first | (rw [kb_ne hj]; conv => lhs; whnf) | (refine hscrO ?_ (yG _ _ _); conv => lhs; whnf))
     exact kB hj
   ·show stRef s = _
    simp [stRef,StL.put]
   ·have en : (zL (zC t o) o.v).stack.length = zP t o + 1 := by simp [zL,zC]; omega
    show _ = [_,_,_,_,_,AV.ref _ 0 (zL (zC t o) o.v).stack.length]
    rw [en]
    rfl
   ·simp [stk,List.take_of_length_le,zC,zL]
   ·intro j t0 hj h
    repeat (first | exact yZ h | refine yX ?_ (zW (by first | rfl | exact qT hj)))
  have n1 : ¬ o.code = 1 := by simpa using hc
  clear hc
  conv => whnf
  refine kbi (fun hc => ?_) (fun hc => ?_)
  ·have hc : o.code = 2 := by simpa using hc
   conv => whnf
   have hr := o2 (.inl hc)
   refine .inr (.inl ⟨9,[],?_⟩)
   conv => whnf
   refine ⟨⟨by omega,by omega⟩,?_⟩
   conv => whnf
   refine ⟨encF (s.cells.getD o.a.toNat 0),⟨by rw [Nat.zero_add]; exact tT hr,by simp [encF]⟩,?_⟩
   conv => whnf
   refine ⟨by kernel_rfl,?_⟩
   conv => whnf
   refine ⟨⟨rfl,by simp; omega,by simp; omega⟩,?_⟩
   conv => whnf
   have hd : doL s K0 o e = (s.put K0 (zL (zC t o) (s.cells.getD o.a.toNat 0)),{ e with kind := 2,obj := o.a }) := by rw [hK0]; unfold doL; rw [hg]; simp [hc]
   rw [hK0] at hd
   rw [hd] at hK
   refine hK _ (uX (t := zL (zC t o) (s.cells.getD o.a.toNat 0)) (els := stk (zL (zC t o) (s.cells.getD o.a.toNat 0))) ⟨⟨rfl,rfl,rfl,rfl,rfl,rfl,trivial⟩,⟨rfl,rfl,rfl,rfl,rfl,rfl,rfl,rfl,trivial⟩,⟨fun j => ?_,trivial⟩⟩ ?_ ?_ hk rfl ?_ ?_)
   ·by_cases hj : j = K0 <;> rw [hK0] at hj
    ·subst hj
     conv => lhs; whnf
     show some (Ob.ds 105 1 _) = some (Ob.ds 105 1 _)
     simp [stk,zL,zC,encF]
    ·rw [kB hj]
     conv => lhs; whnf
     repeat (first | (rw [kb_ne hj]; conv => lhs; whnf) | (refine hscrO ?_ (yG _ _ _); conv => lhs; whnf))
     exact kB hj
   ·show stRef s = _
    simp [stRef,StL.put]
   ·have en : (zL (zC t o) (s.cells.getD o.a.toNat 0)).stack.length = zP t o + 1 := by simp [zL,zC]; omega
    show _ = [_,_,_,_,_,AV.ref _ 0 (zL (zC t o) (s.cells.getD o.a.toNat 0)).stack.length]
    rw [en]
    rfl
   ·simp [stk,List.take_of_length_le,zC,zL]
   ·intro j t0 hj h
    repeat (first | exact yZ h | refine yX ?_ (zW (by first | rfl | exact qT hj)))
  have n2 : ¬ o.code = 2 := by simpa using hc
  clear hc
  conv => whnf
  refine kbi (fun hc => ?_) (fun hc => ?_)
  ·have hc : o.code = 3 := by simpa using hc
   conv => whnf
   have hr := o2 (.inr hc)
   have htk : xG o = 1 := by simp [xG,zA,hc]
   refine .inr (.inl ⟨7,[],?_⟩)
   conv => whnf
   refine ⟨⟨by omega,by omega⟩,?_⟩
   conv => whnf
   refine ⟨encF (yK t o 0),⟨wL o5 (by omega),by simp [encF]⟩,?_⟩
   conv => whnf
   refine ⟨by kernel_rfl,?_⟩
   conv => whnf
   refine ⟨⟨by omega,by omega⟩,?_⟩
   conv => whnf
   have hd : doL s K0 o e = ({ s with cells := s.cells.set o.a.toNat (yK t o 0) }.put K0 (zC t o),{ e with kind := 3,obj := o.a }) := by rw [hK0]; unfold doL; rw [hg]; simp [hc]
   rw [hK0] at hd
   rw [hd] at hK
   refine hK _ (uX (t := zC t o) (els := stk t) ⟨⟨rfl,rfl,rfl,rfl,rfl,rfl,trivial⟩,⟨rfl,rfl,rfl,rfl,rfl,rfl,?_,rfl,trivial⟩,⟨fun j => ?_,trivial⟩⟩ ?_ ?_ hk rfl ?_ ?_)
   ·conv => lhs; whnf
    show some (Ob.ds 105 1 ((s.cells.map encF).set (0 + o.a.toNat) (encF (yK t o 0)))) = some (Ob.ds 105 1 ((s.cells.set o.a.toNat (yK t o 0)).map encF))
    rw [Nat.zero_add,List.map_set]
   ·((conv => lhs; whnf); (repeat (refine hscrO ?_ (famK_scr _ _ _ _ _); conv => lhs; whnf)); rfl)
   ·show stRef s = _
    simp [stRef,StL.put]
   ·have en : (zC t o).stack.length = zP t o := by simp [zL,zC]; omega
    show _ = [_,_,_,_,_,AV.ref _ 0 (zC t o).stack.length]
    rw [en]
    rfl
   ·simp [stk,List.take_of_length_le,zC,zL]
   ·intro j t0 hj h
    repeat (first | exact yZ h | refine yX ?_ (zW (by first | rfl | exact qT hj)))
  have n3 : ¬ o.code = 3 := by simpa using hc
  clear hc
  conv => whnf
  refine kbi (fun hc => ?_) (fun hc => ?_)
  ·have hc : o.code = 10 := by simpa using hc
   conv => whnf
   have hd : doL s K0 o e = (s.put K0 { zC t o with pc := o.a },{ e with kind := 1 }) := by rw [hK0]; unfold doL; rw [hg]; simp [hc]
   rw [hK0] at hd
   rw [hd] at hK
   refine hK _ (uX (t := { zC t o with pc := o.a }) (els := stk t) ⟨⟨rfl,rfl,rfl,rfl,rfl,rfl,trivial⟩,⟨rfl,rfl,rfl,rfl,rfl,rfl,rfl,rfl,trivial⟩,⟨fun j => ?_,trivial⟩⟩ ?_ ?_ hk rfl ?_ ?_)
   ·((conv => lhs; whnf); (repeat (refine hscrO ?_ (famK_scr _ _ _ _ _); conv => lhs; whnf)); rfl)
   ·show stRef s = _
    simp [stRef,StL.put]
   ·have en : ({ zC t o with pc := o.a }).stack.length = zP t o := by simp [zL,zC]; omega
    show _ = [_,_,_,_,_,AV.ref _ 0 ({ zC t o with pc := o.a }).stack.length]
    rw [en]
    rfl
   ·simp [stk,List.take_of_length_le,zC,zL]
   ·intro j t0 hj h
    repeat (first | exact yZ h | refine yX ?_ (zW (by first | rfl | exact qT hj)))
  have n10 : ¬ o.code = 10 := by simpa using hc
  clear hc
  conv => whnf
  refine kbi (fun hc => ?_) (fun hc => ?_)
  ·have hc : o.code = 11 := by simpa using hc
   conv => whnf
   have htk : xG o = 1 := by simp [xG,zA,hc]
   refine ⟨⟨by omega,by omega⟩,?_⟩
   conv => whnf
   refine ⟨encF (yK t o 0),⟨wL o5 (by omega),by simp [encF]⟩,?_⟩
   conv => whnf
   refine ocase (vN _) (fun hn => ?_) (fun hn => ?_)
   ·conv => whnf
    have hn' : zM (yK t o 0) = true := hn
    have hd : doL s K0 o e = (s.put K0 { zC t o with pc := o.a },{ e with kind := 1 }) := by rw [hK0]; unfold doL; rw [hg]; simp [hc,hn']
    rw [hK0] at hd
    rw [hd] at hK
    refine hK _ (uX (t := { zC t o with pc := o.a }) (els := stk t) ⟨⟨rfl,rfl,rfl,rfl,rfl,rfl,trivial⟩,⟨rfl,rfl,rfl,rfl,rfl,rfl,rfl,rfl,trivial⟩,⟨fun j => ?_,trivial⟩⟩ ?_ ?_ hk rfl ?_ ?_)
    ·((conv => lhs; whnf); (repeat (refine hscrO ?_ (famK_scr _ _ _ _ _); conv => lhs; whnf)); rfl)
    ·show stRef s = _
     simp [stRef,StL.put]
    ·have en : ({ zC t o with pc := o.a }).stack.length = zP t o := by simp [zL,zC]; omega
     show _ = [_,_,_,_,_,AV.ref _ 0 ({ zC t o with pc := o.a }).stack.length]
     rw [en]
     rfl
    ·simp [stk,List.take_of_length_le,zC,zL]
    ·intro j t0 hj h
     repeat (first | exact yZ h | refine yX ?_ (zW (by first | rfl | exact qT hj)))
   conv => whnf
   refine ⟨⟨by omega,by omega⟩,?_⟩
   conv => whnf
   refine ⟨encF (yK t o 0),⟨wL o5 (by omega),by simp [encF]⟩,?_⟩
   conv => whnf
   refine kbi (fun hz => ?_) (fun hz => ?_)
   ·conv => whnf
    have hz' : fcmp .eql (yK t o 0) 0 = true := hz
    have hd : doL s K0 o e = (s.put K0 { zC t o with pc := o.a },{ e with kind := 1 }) := by rw [hK0]; unfold doL; rw [hg]; simp [hc,hz']
    rw [hK0] at hd
    rw [hd] at hK
    refine hK _ (uX (t := { zC t o with pc := o.a }) (els := stk t) ⟨⟨rfl,rfl,rfl,rfl,rfl,rfl,trivial⟩,⟨rfl,rfl,rfl,rfl,rfl,rfl,rfl,rfl,trivial⟩,⟨fun j => ?_,trivial⟩⟩ ?_ ?_ hk rfl ?_ ?_)
    ·((conv => lhs; whnf); (repeat (refine hscrO ?_ (famK_scr _ _ _ _ _); conv => lhs; whnf)); rfl)
    ·show stRef s = _
     simp [stRef,StL.put]
    ·have en : ({ zC t o with pc := o.a }).stack.length = zP t o := by simp [zL,zC]; omega
     show _ = [_,_,_,_,_,AV.ref _ 0 ({ zC t o with pc := o.a }).stack.length]
     rw [en]
     rfl
    ·simp [stk,List.take_of_length_le,zC,zL]
    ·intro j t0 hj h
     repeat (first | exact yZ h | refine yX ?_ (zW (by first | rfl | exact qT hj)))
   conv => whnf
   have hz' : ¬ (zM (yK t o 0) = true ∨ fcmp .eql (yK t o 0) 0 = true) := fun e => e.elim hn hz
   have hd : doL s K0 o e = (s.put K0 (zC t o),{ e with kind := 1 }) := by rw [hK0]; unfold doL; rw [hg]; simp [hc]; rw [if_neg hz']
   rw [hK0] at hd
   rw [hd] at hK
   refine hK _ (uX (t := zC t o) (els := stk t) ⟨⟨rfl,rfl,rfl,rfl,rfl,rfl,trivial⟩,⟨rfl,rfl,rfl,rfl,rfl,rfl,rfl,rfl,trivial⟩,⟨fun j => ?_,trivial⟩⟩ ?_ ?_ hk rfl ?_ ?_)
   ·((conv => lhs; whnf); (repeat (refine hscrO ?_ (famK_scr _ _ _ _ _); conv => lhs; whnf)); rfl)
   ·show stRef s = _
    simp [stRef,StL.put]
   ·have en : (zC t o).stack.length = zP t o := by simp [zL,zC]; omega
    show _ = [_,_,_,_,_,AV.ref _ 0 (zC t o).stack.length]
    rw [en]
    rfl
   ·simp [stk,List.take_of_length_le,zC,zL]
   ·intro j t0 hj h
    repeat (first | exact yZ h | refine yX ?_ (zW (by first | rfl | exact qT hj)))
  have n11 : ¬ o.code = 11 := by simpa using hc
  clear hc
  conv => whnf
  refine kbi (fun hc => ?_) (fun hc => ?_)
  ·have hc : o.code = 12 := by simpa using hc
   conv => whnf
   have hr := o3 (.inl hc)
   refine ⟨⟨by omega,by omega⟩,?_⟩
   conv => whnf
   have hd : doL s K0 o e = ({ s with owner := s.owner.set o.a.toNat ((K0 : Nat) : Int) }.put K0 (zC t o),{ e with kind := 4,obj := o.a }) := by rw [hK0]; unfold doL; rw [hg]; simp [hc]
   rw [hK0] at hd
   rw [hd] at hK
   refine hK _ (uX (t := zC t o) (els := stk t) ⟨⟨rfl,rfl,rfl,rfl,rfl,rfl,trivial⟩,⟨rfl,rfl,rfl,rfl,rfl,rfl,rfl,?_,trivial⟩,⟨fun j => ?_,trivial⟩⟩ ?_ ?_ hk rfl ?_ ?_)
   ·conv => lhs; whnf
    show some (Ob.ds 3 1 ((s.owner.map encInt).set (0 + o.a.toNat) (encInt _))) = some (Ob.ds 3 1 ((s.owner.set o.a.toNat _).map encInt))
    rw [Nat.zero_add,List.map_set]
   ·((conv => lhs; whnf); (repeat (refine hscrO ?_ (famK_scr _ _ _ _ _); conv => lhs; whnf)); rfl)
   ·show stRef s = _
    simp [stRef,StL.put]
   ·have en : (zC t o).stack.length = zP t o := by simp [zL,zC]; omega
    show _ = [_,_,_,_,_,AV.ref _ 0 (zC t o).stack.length]
    rw [en]
    rfl
   ·simp [stk,List.take_of_length_le,zC,zL]
   ·intro j t0 hj h
    repeat (first | exact yZ h | refine yX ?_ (zW (by first | rfl | exact qT hj)))
  have n12 : ¬ o.code = 12 := by simpa using hc
  clear hc
  conv => whnf
  refine kbi (fun hc => ?_) (fun hc => ?_)
  ·have hc : o.code = 13 := by simpa using hc
   conv => whnf
   have hr := o3 (.inr hc)
   refine ⟨⟨by omega,by omega⟩,?_⟩
   conv => whnf
   have hd : doL s K0 o e = ({ s with owner := s.owner.set o.a.toNat (-1) }.put K0 (zC t o),{ e with kind := 5,obj := o.a }) := by rw [hK0]; unfold doL; rw [hg]; simp [hc]
   rw [hK0] at hd
   rw [hd] at hK
   refine hK _ (uX (t := zC t o) (els := stk t) ⟨⟨rfl,rfl,rfl,rfl,rfl,rfl,trivial⟩,⟨rfl,rfl,rfl,rfl,rfl,rfl,rfl,?_,trivial⟩,⟨fun j => ?_,trivial⟩⟩ ?_ ?_ hk rfl ?_ ?_)
   ·conv => lhs; whnf
    show some (Ob.ds 3 1 ((s.owner.map encInt).set (0 + o.a.toNat) (encInt (-1)))) = some (Ob.ds 3 1 ((s.owner.set o.a.toNat (-1)).map encInt))
    rw [Nat.zero_add,List.map_set]
   ·((conv => lhs; whnf); (repeat (refine hscrO ?_ (famK_scr _ _ _ _ _); conv => lhs; whnf)); rfl)
   ·show stRef s = _
    simp [stRef,StL.put]
   ·have en : (zC t o).stack.length = zP t o := by simp [zL,zC]; omega
    show _ = [_,_,_,_,_,AV.ref _ 0 (zC t o).stack.length]
    rw [en]
    rfl
   ·simp [stk,List.take_of_length_le,zC,zL]
   ·intro j t0 hj h
    repeat (first | exact yZ h | refine yX ?_ (zW (by first | rfl | exact qT hj)))
  have n13 : ¬ o.code = 13 := by simpa using hc
  clear hc
  conv => whnf
  refine kbi (fun hc => ?_) (fun hc => ?_)
  ·have hc : o.code = 14 := by simpa using hc
   conv => whnf
   refine ⟨⟨rfl,by simp; omega,by simp; omega⟩,?_⟩
   conv => whnf
   refine .inr (.inl ⟨6,[],?_⟩)
   conv => whnf
   refine ⟨_,dD o.a,?_⟩
   conv => whnf
   refine ⟨by kernel_rfl,?_⟩
   conv => whnf
   refine ⟨⟨fun c hc' => ?_,?_,?_⟩,?_⟩
   ·have hc' : c ∈ [[i64 o.a,i64 0,i64 1,i64 (-1),i64 (-1),AV.d (.sl [])]] := hc'
    simp only [List.mem_singleton] at hc'
    subst hc'; rfl
   ·show (s.ths.length + 1) * 64 ≤ _
    omega
   ·show s.ths.length + 1 ≤ _
    omega
   conv => whnf
   have hd : doL s K0 o e = ({ s with ths := s.ths ++ [qS o.a] }.put K0 (zL (zC t o) (FloatKind.f64.nearest (s.ths.length : Int))),{ e with kind := 6,obj := s.ths.length }) := by rw [hK0]; unfold doL; rw [hg]; simp [hc]
   rw [hK0] at hd
   rw [hd] at hK
   refine hK _ (do2_fork (t := zL (zC t o) (FloatKind.f64.nearest (s.ths.length : Int))) (nt := qS o.a) (els := stk (zL (zC t o) (FloatKind.f64.nearest (s.ths.length : Int)))) ⟨⟨rfl,rfl,rfl,rfl,rfl,rfl,trivial⟩,⟨rfl,rfl,rfl,rfl,rfl,rfl,rfl,rfl,trivial⟩,⟨fun j => ?_,trivial⟩⟩ ?_ ?_ hk rfl rfl ?_ ?_ ?_)
   ·by_cases hj : j = K0 <;> rw [hK0] at hj
    ·subst hj
     conv => lhs; whnf
     show some (Ob.ds 105 1 _) = some (Ob.ds 105 1 _)
     simp [stk,zL,zC,encF]
    ·rw [kB hj]
     conv => lhs; whnf
     repeat (first | (rw [kb_ne hj]; conv => lhs; whnf) | (refine hscrO ?_ (yG _ _ _); conv => lhs; whnf))
     exact kB hj
   ·show [AV.dref (.n 900) (s.ths.length + 1),AV.ref (.n 901) 0 s.cells.length,AV.ref (.n 902) 0 s.owner.length,i64 s.fault] = _
    simp [stRef,StL.put]
   ·have en : (zL (zC t o) (FloatKind.f64.nearest (s.ths.length : Int))).stack.length = zP t o + 1 := by simp [zL,zC]; omega
    show _ = [_,_,_,_,_,AV.ref _ 0 (zL (zC t o) (FloatKind.f64.nearest (s.ths.length : Int))).stack.length]
    rw [en]
    rfl
   ·simp [stk,List.take_of_length_le,zC,zL]
   ·intro j t0 hj h
    have hjl := (List.getElem?_eq_some_iff.1 h).1
    refine yX ?_ (zW (by first | rfl | exact qT hj))
    refine rows_app ?_ hjl
    repeat (first | exact yZ h | refine yX ?_ (zW (by first | rfl | exact qT hj)))
   ·refine yX ?_ rfl
    refine rows_new (by simp [zQ]) ?_
    rfl
  have n14 : ¬ o.code = 14 := by simpa using hc
  clear hc
  conv => whnf
  refine kbi (fun hc => ?_) (fun hc => ?_)
  ·have hc : o.code = 15 := by simpa using hc
   conv => whnf
   have hd : doL s K0 o e = (s.put K0 (zC t o),{ e with kind := 7,obj := (zS s t).getD (-1) }) := by rw [hK0]; unfold doL; rw [hg]; simp [hc]
   rw [hK0] at hd
   rw [hd] at hK
   refine hK _ (uX (t := zC t o) (els := stk t) ⟨⟨rfl,rfl,rfl,rfl,rfl,rfl,trivial⟩,⟨rfl,rfl,rfl,rfl,rfl,rfl,rfl,rfl,trivial⟩,⟨fun j => ?_,trivial⟩⟩ ?_ ?_ hk rfl ?_ ?_)
   ·((conv => lhs; whnf); (repeat (refine hscrO ?_ (famK_scr _ _ _ _ _); conv => lhs; whnf)); rfl)
   ·show stRef s = _
    simp [stRef,StL.put]
   ·have en : (zC t o).stack.length = zP t o := by simp [zL,zC]; omega
    show _ = [_,_,_,_,_,AV.ref _ 0 (zC t o).stack.length]
    rw [en]
    rfl
   ·simp [stk,List.take_of_length_le,zC,zL]
   ·intro j t0 hj h
    repeat (first | exact yZ h | refine yX ?_ (zW (by first | rfl | exact qT hj)))
  have n15 : ¬ o.code = 15 := by simpa using hc
  clear hc
  conv => whnf
  refine kbi (fun hc => ?_) (fun hc => ?_)
  ·have hc : o.code = 16 := by simpa using hc
   conv => whnf
   have hr := o4 hc
   refine ⟨⟨by omega,by omega⟩,?_⟩
   conv => whnf
   have hd : doL s K0 o e = ({ s with owner := s.owner.set o.b.toNat (-1) }.put K0 { zC t o with st := 3,cond := o.a,lock := o.b,pc := (zC t o).pc - 1 },{ e with kind := 8,obj := o.a,lock := o.b }) := by rw [hK0]; unfold doL; rw [hg]; simp [hc]
   rw [hK0] at hd
   rw [hd] at hK
   refine hK _ (uX (t := { zC t o with st := 3,cond := o.a,lock := o.b,pc := (zC t o).pc - 1 }) (els := stk t) ⟨⟨rfl,rfl,rfl,rfl,rfl,rfl,trivial⟩,⟨rfl,rfl,rfl,rfl,rfl,rfl,rfl,?_,trivial⟩,⟨fun j => ?_,trivial⟩⟩ ?_ ?_ hk rfl ?_ ?_)
   ·conv => lhs; whnf
    show some (Ob.ds 3 1 ((s.owner.map encInt).set (0 + o.b.toNat) (encInt (-1)))) = some (Ob.ds 3 1 ((s.owner.set o.b.toNat (-1)).map encInt))
    rw [Nat.zero_add,List.map_set]
   ·((conv => lhs; whnf); (repeat (refine hscrO ?_ (famK_scr _ _ _ _ _); conv => lhs; whnf)); rfl)
   ·show stRef s = _
    simp [stRef,StL.put]
   ·have en : ({ zC t o with st := 3,cond := o.a,lock := o.b,pc := (zC t o).pc - 1 }).stack.length = zP t o := by simp [zL,zC]; omega
    have ew : IntKind.i64.wrap (t.pc + 1 - 1) = t.pc + 1 - 1 := zE (by have := hpc.1; omega) (by have := hpc.2; omega)
    show [_,AV.d (.int .i64 (IntKind.i64.wrap (t.pc + 1 - 1))),_,_,_,_] = [_,_,_,_,_,AV.ref _ 0 ({ zC t o with st := 3,cond := o.a,lock := o.b,pc := (zC t o).pc - 1 }).stack.length]
    rw [en,ew]
    rfl
   ·simp [stk,List.take_of_length_le,zC,zL]
   ·intro j t0 hj h
    repeat (first | exact yZ h | refine yX ?_ (zW (by first | rfl | exact qT hj)))
  have n16 : ¬ o.code = 16 := by simpa using hc
  clear hc
  conv => whnf
  refine kbi (fun hc => ?_) (fun hc => ?_)
  ·have hc : o.code = 17 := by simpa using hc
   conv => whnf
   have hen : (zC t o).stack.length = zP t o := by simp [zC]; omega
   refine aloopF (fun i : Nat => [(1,i64 ((K0 : Nat) : Int)),(4,.ptr (.n 4) 0),(6,.ptr (.n 6) 0),(7,.ptr (.n 7) 0),(8,.ptr (.n 8) 0),(9,.ptr (.n 9) 0),(10,.ptr (.n 10) 0),(215,.dref (.n 900) s.ths.length),(216,i64 s.ths.length),(217,i64 i)])
    (fun i => [(.n 4,.vs 76 (stRef s)),(.n 6,.vs 107 ((encOp o).map .d)),(.n 7,.vs 120 ((encEv { e with kind := 10,obj := o.a }).map .d)),(.n 8,.vs 76 [.d .nil,.d .nil,.d .nil,i64 0]),(.n 9,.vs 120 [i64 0,i64 0,i64 0,i64 0,i64 0]),
     (.n 10,.vs 123 (thRow 900 K0 (zC t o))),(.n 900,.rs 123 6 (thRows 900 s.ths)),(.n 901,.ds 105 1 (s.cells.map encF)),(.n 902,.ds 3 1 (s.owner.map encInt))])
    (fun i => [(900,kH s.ths K0 (stk t))]) (fun i => s.ths.length - i) (fun i => i ≤ s.ths.length ∧ ∀ j u,j < i → s.ths[j]? = some u → ¬ (u.st = 3 ∧ u.cond = o.a)) 0 Weak.refl ?_ ?_ ?_ ⟨Nat.zero_le _,fun j u hj => by omega⟩ ?_
   all_goals subst hK0
   ·exact ⟨rfl,rfl,rfl,rfl,rfl,rfl,rfl,rfl,rfl,rfl,trivial⟩
   ·refine ⟨rfl,rfl,rfl,rfl,rfl,?_,?_,rfl,rfl,trivial⟩
    ·show _ = some (Ob.vs 123 [_,_,_,_,_,AV.ref _ 0 (zC t o).stack.length])
     rw [hen]
     rfl
    ·first | ((conv => lhs; whnf); refine congrArg some ?_; repeat (first | rfl | refine yH ?_ (by exact congrArg _ (yE fun _ _ => rfl)))) | rfl
   ·refine ⟨fun j => ?_,trivial⟩
    ((conv => lhs; whnf); (repeat (refine hscrO ?_ (famK_scr _ _ _ _ _); conv => lhs; whnf)); rfl)
   rintro i τ H ⟨hi,hno⟩
   conv => whnf
   refine kbi (fun hl => ?_) (fun hl => ?_)
   ·have hlt : i < s.ths.length := by simpa using hl
    conv => whnf
    refine ⟨⟨by omega,by omega⟩,?_⟩
    conv => whnf
    refine ⟨thRow 900 i s.ths[i],⟨by repeat (first | exact nY hlt rfl | refine yX ?_ rfl),by simp [thRow]⟩,?_⟩
    conv => whnf
    have nxt : ¬ (s.ths[i].st = 3 ∧ s.ths[i].cond = o.a) → ∀ j u,j < i + 1 → s.ths[j]? = some u → ¬ (u.st = 3 ∧ u.cond = o.a) := by
     intro hx j u hj hu
     by_cases hji : j = i
     ·subst hji
      rw [List.getElem?_eq_getElem hlt] at hu
      simp only [Option.some.injEq] at hu
      subst hu; exact hx
     ·exact hno j u (by omega) hu
    refine kbi (fun h3 => ?_) (fun h3 => ?_)
    ·have h3 : s.ths[i].st = 3 := by simpa using h3
     conv => whnf
     refine kbi (fun h4 => ?_) (fun h4 => ?_)
     ·have h4 : s.ths[i].cond = o.a := by simpa using h4
      conv => whnf
      refine ⟨⟨by omega,by omega⟩,?_⟩
      conv => whnf
      have hw : wH s.ths o.a = some i := by
       unfold wH
       rw [List.findIdx?_eq_some_iff_getElem]
       refine ⟨hlt,by simp [h3,h4],fun j hj => ?_⟩
       have := hno j _ hj (List.getElem?_eq_getElem (by omega))
       simpa using this
      have hd : doL s K1 o e = ({ s with ths := s.ths.modify i fun u => { u with st := 4 } }.put K1 (zC t o),{ e with kind := 10,obj := o.a,lock := i }) := by rw [hK1]; unfold doL; rw [hg]; simp [hc,hw]
      rw [hK1] at hd
      rw [hd] at hK
      refine hK _ (do2_wake (i := i) (t := zC t o) (els := stk t) ⟨⟨rfl,rfl,rfl,rfl,rfl,rfl,trivial⟩,⟨rfl,rfl,rfl,rfl,rfl,rfl,rfl,rfl,trivial⟩,⟨fun j => ?_,trivial⟩⟩ ?_ rfl hk rfl ?_ ?_)
      ·((conv => lhs; whnf); (repeat (refine hscrO ?_ (famK_scr _ _ _ _ _); conv => lhs; whnf)); rfl)
      ·show stRef s = _
       simp [stRef,StL.put]
      ·simp [stk,List.take_of_length_le,zC]
      ·intro j t0 hj h
       refine rows_mod (X := (thRows 900 s.ths).map (scrPL (isK (.n 16)))) (i := i) ?_
       repeat (first | exact yZ h | refine yX ?_ (zW (by first | rfl | exact qT hj)))
     ·have h4 : ¬ s.ths[i].cond = o.a := by simpa using h4
      conv => whnf
      refine ⟨i + 1,_,Weak.refl,⟨by omega,nxt (fun hx => h4 hx.2)⟩,by show s.ths.length - (i + 1) < s.ths.length - i; omega,⟨rfl,rfl,rfl,rfl,rfl,rfl,rfl,rfl,rfl,next_i64 hlt (by omega),trivial⟩,⟨rfl,rfl,rfl,rfl,rfl,rfl,?_,rfl,rfl,trivial⟩,⟨fun j => ?_,trivial⟩⟩
      ·((conv => lhs; whnf); refine congrArg some ?_; repeat (first | rfl | refine yH ?_ (by exact congrArg _ (yE fun _ _ => rfl))))
      ·((conv => lhs; whnf); (repeat (refine hscrO ?_ (famK_scr _ _ _ _ _); conv => lhs; whnf)); rfl)
    ·have h3 : ¬ s.ths[i].st = 3 := by simpa using h3
     conv => whnf
     refine ⟨i + 1,_,Weak.refl,⟨by omega,nxt (fun hx => h3 hx.1)⟩,by show s.ths.length - (i + 1) < s.ths.length - i; omega,⟨rfl,rfl,rfl,rfl,rfl,rfl,rfl,rfl,rfl,next_i64 hlt (by omega),trivial⟩,⟨rfl,rfl,rfl,rfl,rfl,rfl,?_,rfl,rfl,trivial⟩,⟨fun j => ?_,trivial⟩⟩
     ·((conv => lhs; whnf); refine congrArg some ?_; repeat (first | rfl | refine yH ?_ (by exact congrArg _ (yE fun _ _ => rfl))))
     ·((conv => lhs; whnf); (repeat (refine hscrO ?_ (famK_scr _ _ _ _ _); conv => lhs; whnf)); rfl)
   ·have hge : s.ths.length ≤ i := by simpa using hl
    conv => whnf
    have hw : wH s.ths o.a = none := by
     unfold wH
     rw [List.findIdx?_eq_none_iff]
     intro u hu
     obtain ⟨j,hj,rfl⟩ := List.mem_iff_getElem.1 hu
     have := hno j _ (by omega) (List.getElem?_eq_getElem hj)
     simp only [Bool.and_eq_false_iff,beq_eq_false_iff_ne]
     by_cases h3 : s.ths[j].st = 3
     ·exact .inr fun h4 => this ⟨h3,h4⟩
     ·exact .inl h3
    have hd : doL s K1 o e = (s.put K1 (zC t o),{ e with kind := 10,obj := o.a }) := by rw [hK1]; unfold doL; rw [hg]; simp [hc,hw]
    rw [hK1] at hd
    rw [hd] at hK
    refine hK _ (uX (t := zC t o) (els := stk t) ⟨⟨rfl,rfl,rfl,rfl,rfl,rfl,trivial⟩,⟨rfl,rfl,rfl,rfl,rfl,rfl,rfl,rfl,trivial⟩,⟨fun j => ?_,trivial⟩⟩ ?_ rfl hk rfl ?_ ?_)
    ·((conv => lhs; whnf); (repeat (refine hscrO ?_ (famK_scr _ _ _ _ _); conv => lhs; whnf)); rfl)
    ·show stRef s = _
     simp [stRef,StL.put]
    ·simp [stk,List.take_of_length_le,zC]
    ·intro j t0 hj h
     repeat (first | exact yZ h | refine yX ?_ (zW (by first | rfl | exact qT hj)))
  have n17 : ¬ o.code = 17 := by simpa using hc
  clear hc
  conv => whnf
  have hcode : 4 ≤ o.code ∧ o.code ≤ 9 := by have := o1.1; have := o1.2; omega
  have htk : xG o = 2 := by simp only [xG,zA]; rw [if_neg (by omega),if_neg (by omega),if_pos hcode]; rfl
  refine .inr (.inl ⟨12,[],?_⟩)
  conv => whnf
  refine ⟨⟨by omega,by omega⟩,?_⟩
  conv => whnf
  refine ⟨encF (yK t o 0),⟨wL o5 (by omega),by simp [encF]⟩,?_⟩
  conv => whnf
  refine ⟨⟨by omega,by omega⟩,?_⟩
  conv => whnf
  refine ⟨encF (yK t o 1),⟨wL o5 (by omega),by simp [encF]⟩,?_⟩
  conv => whnf
  refine ⟨_,l7 _ _ _,?_⟩
  conv => whnf
  refine ⟨by kernel_rfl,?_⟩
  conv => whnf
  refine ⟨⟨rfl,by simp; omega,by simp; omega⟩,?_⟩
  conv => whnf
  have hd : doL s K0 o e = (s.put K0 (zL (zC t o) (yL o.code (yK t o 0) (yK t o 1))),{ e with kind := 1 }) := by rw [hK0]; unfold doL; rw [hg]; simp [n1,n2,n3,n10,n11,n12,n13,n14,n15,n16,n17]
  rw [hK0] at hd
  rw [hd] at hK
  refine hK _ (uX (t := zL (zC t o) (yL o.code (yK t o 0) (yK t o 1))) (els := stk (zL (zC t o) (yL o.code (yK t o 0) (yK t o 1)))) ⟨⟨rfl,rfl,rfl,rfl,rfl,rfl,trivial⟩,⟨rfl,rfl,rfl,rfl,rfl,rfl,rfl,rfl,trivial⟩,⟨fun j => ?_,trivial⟩⟩ ?_ ?_ hk rfl ?_ ?_)
  ·by_cases hj : j = K0 <;> rw [hK0] at hj
   ·subst hj
    conv => lhs; whnf
    show some (Ob.ds 105 1 _) = some (Ob.ds 105 1 _)
    simp [stk,zL,zC,encF]
   ·rw [kB hj]
    conv => lhs; whnf
    repeat (first | (rw [kb_ne hj]; conv => lhs; whnf) | (refine hscrO ?_ (yG _ _ _); conv => lhs; whnf))
    exact kB hj
  ·show stRef s = _
   simp [stRef,StL.put]
  ·have en : (zL (zC t o) (yL o.code (yK t o 0) (yK t o 1))).stack.length = zP t o + 1 := by simp [zL,zC]; omega
   show _ = [_,_,_,_,_,AV.ref _ 0 (zL (zC t o) (yL o.code (yK t o 0) (yK t o 1))).stack.length]
   rw [en]
   rfl
  ·simp [stk,List.take_of_length_le,zC,zL]
  ·intro j t0 hj h
   repeat (first | exact yZ h | refine yX ?_ (zW (by first | rfl | exact qT hj)))
end Ai
end
section
set_option maxRecDepth 100000
namespace Ai
open Go Go.Proofs
theorem famK_self {l : List Th} {k j : Nat} (hk : k < l.length) : kH l k (stk l[k]) j = zR l j := by
 unfold kH
 by_cases hj : j = k
 ·subst hj
  rw [show Nat.beq j j = true from Nat.beq_refl j]
  simp [zR,hk]
 ·rw [nbeq_ne hj]; rfl
theorem l3Do_ok (hI : xB) (s : StL) (k : Nat) (o : OpL) (e : Ev) (hk : k < s.ths.length) (h5 : s.ths.length ≤ 5) (hs : s.small) (ho : o.fits s s.ths[k]) (hpc : InR s.ths[k].pc 0 1048576) (H0 : Key → Option Ob) (hH : StH s H0) :
  IOCall EE 136 [.agg (stRef s),i64 k,agg (encOp o),agg (encEv e)] H0 (doPost (doL s k o e).1 (doL s k o e).2) := by
 obtain ⟨g1,g2,g3,g4⟩ := hH
 refine io_of_AW (fn := Tryz.f136) (c := Tryz.f136.body.getD .skip) Tryz.func136 rfl (by kernel_rfl) rfl ?_
 have hat : At [(0,.agg (stRef s)),(1,i64 k),(2,agg (encOp o)),(3,agg (encEv e))] [(.n 900,.rs 123 6 (thRows 900 s.ths)),(.n 901,.ds 105 1 (s.cells.map encF)),(.n 902,.ds 3 1 (s.owner.map encInt))] [(900,kH s.ths k (stk s.ths[k]))]
   ⟨fun i => [AV.agg (stRef s),i64 k,agg (encOp o),agg (encEv e)].getD i .junk,H0⟩ :=
  ⟨⟨rfl,rfl,rfl,rfl,trivial⟩,⟨g1,g3,g4,trivial⟩,⟨fun j => by rw [famK_self hk]; exact g2 j,trivial⟩⟩
 obtain ⟨τ,H,hf⟩ := hat.form
 rw [hf]
 refine kJ 8 (At (doL1 s k o s.ths[k]) (doO1 s k o e s.ths[k]) [(900,kH s.ths k (stk s.ths[k]))]) (fun K hK => l3Do_pre hI s k o e hk h5 hs ho.2.2.2.2 hpc τ H _ K hK) (fun S hS => ?_)
 refine kJ 1 (Do2 s.ths (doL s k o e).1 k (doL s k o e).2) (fun K hK => l3Do_sw s k o e hk h5 hs ho hpc _ K S hS hK) (fun S' hS' => ?_)
 exact l3Do_fin s.ths _ k _ (by omega) S' hS'
end Ai
end
section
set_option maxRecDepth 100000
namespace Ai
open Go Go.Proofs
def ev0 (k : Nat) (t : Th) : Ev := ⟨k,0,-1,-1,t.pc⟩
noncomputable def stepL (p : ProgL) (s : StL) (k : Nat) : StL × Ev :=
 let t := s.ths.getD k th0
 if t.st = 4 then
  ({ s with owner := s.owner.set t.lock.toNat k }.put k { t with st := 1,cond := -1,lock := -1,pc := if (zZ p t).isSome then t.pc + 1 else t.pc },{ ev0 k t with kind := 9,obj := t.cond,lock := t.lock })
 else match zZ p t with
  |none => (s.put k { t with st := 2 },{ ev0 k t with kind := 11 })
  |some o => if zT s k o = 0 then doL s k o (ev0 k t) else ({ s with fault := zT s k o },{ ev0 k t with kind := 12,obj := zT s k o })
structure Th.ready (t : Th) (p : ProgL) (s : StL) (k : Nat) : Prop where
 inP : t.inP p
 pc : InR t.pc 0 1048576
 lock : t.st = 4 → 0 ≤ t.lock ∧ t.lock < s.owner.length
 op : ∀ o,zZ p t = some o → o.inS s ∧ (zT s k o = 0 → o.fits s t)
theorem rF {X : List (List AV)} {sz k off j : Nat} {xs c : List AV} (hj : j ≠ k) (h : X[j]? = some c) : (xC X sz k off xs)[j]? = some c := by
 unfold xC
 cases (Nat.beq off 0 && Nat.beq xs.length sz) with
 |true => simp only [cond_true]; rw [List.getElem?_set_ne (Ne.symm hj)]; exact h
 |false => simp only [cond_false]; rw [List.getElem?_modify,h]; simp [Ne.symm hj]
theorem wV {X : List (List AV)} {sz k off : Nat} {xs c c' : List AV} (h : X[k]? = some c) (e : (bif Nat.beq off 0 && Nat.beq xs.length sz then xs else zU c off xs) = c') : (xC X sz k off xs)[k]? = some c' := by
 unfold xC
 subst e
 have hk := (List.getElem?_eq_some_iff.1 h).1
 cases (Nat.beq off 0 && Nat.beq xs.length sz) with
 |true => simp only [cond_true]; rw [List.getElem?_set_self hk]
 |false => simp only [cond_false]; rw [List.getElem?_modify,h]; simp
theorem fz_st3 {s : StL} {S : St} {rows : List (List AV)} {n m l : Nat} (h1 : S.H (.n 900) = some (.rs 123 6 rows)) (hv : ∀ (j : Nat) (row : List AV) (t : Th),s.ths[j]? = some t → rows[j]? = some row → fz1s S row = some (zF t))
  (h3 : S.H (.n 901) = some (.ds 105 1 (s.cells.map encF))) (h4 : S.H (.n 902) = some (.ds 3 1 (s.owner.map encInt))) (hn : n = s.ths.length) (hm : m = s.cells.length) (hl : l = s.owner.length) :
  FzC S [.dref (.n 900) n,.ref (.n 901) 0 m,.ref (.n 902) 0 l,i64 s.fault] (encSt s) := by
 subst hn hm hl; exact fz_st2 h1 hv h3 h4
theorem l3Step_4 (hI : xB) (p : ProgL) (s : StL) (k : Nat) (hp : p.wf) (hk : k < s.ths.length) (h5 : s.ths.length ≤ 5) (hs : s.small) (hr : s.ths[k].ready p s k) (h40 : s.ths[k].st = 4) :
  CallsTo EE 95 [agg (encProg p),agg (encSt s),i64 k] (· = .tup [agg (encSt (stepL p s k).1),agg (encEv (stepL p s k).2)]) := by
 refine callsTo_of_AW (fn := Tryz.f95) Tryz.func95 rfl (by kernel_rfl) rfl ?_
 have hg : s.ths.getD k th0 = s.ths[k] := by simp [List.getD_eq_getElem?_getD,hk]
 conv => whnf
 refine ⟨zF s.ths[k],yB zF hk rfl,?_⟩
 conv => whnf
 refine ⟨_,nB p s.ths[k] hp hr.inP,?_⟩
 rintro r rfl
 conv => whnf
 refine kbi (fun h4 => ?_) (fun h4 => ?_)
 ·have h4 : s.ths[k].st = 4 := by simpa using h4
  conv => whnf
  refine ⟨_,lV s hs,?_⟩
  rintro r rfl
  conv => whnf
  have hl := hr.lock h4
  refine ⟨⟨hl.1,by simp; omega⟩,?_⟩
  conv => whnf
  refine ⟨⟨by omega,by simp; omega⟩,?_⟩
  conv => whnf
  refine ⟨⟨by omega,by simp; omega⟩,?_⟩
  conv => whnf
  refine ⟨⟨by omega,by simp; omega⟩,?_⟩
  conv => whnf
  cases hn : zZ p s.ths[k] with
  |none =>
   conv => whnf
   refine .inr (.inl ⟨4,[],?_⟩)
   conv => whnf
   refine ⟨by kernel_rfl,?_⟩
   conv => whnf
   have hd : stepL p s k = ({ s with owner := s.owner.set s.ths[k].lock.toNat k }.put k { s.ths[k] with st := 1,cond := -1,lock := -1 },{ ev0 k s.ths[k] with kind := 9,obj := s.ths[k].cond,lock := s.ths[k].lock }) := by
    unfold stepL; rw [hg]; simp [h4,hn]
   rw [hd]
   refine .inl ?_
   conv => whnf
   refine ⟨[agg (encSt _),agg (encEv _)],⟨_,_,rfl,⟨_,rfl,?_⟩,_,_,rfl,⟨_,rfl,?_⟩,rfl⟩,rfl⟩
   ·refine @fz_st3 _ _ ?_ _ _ _ ?_ ?_ ?_ ?_ ?_ ?_ ?_
    rotate_left 1
    ·conv => lhs; whnf
     rfl
    ·intro j row t' ht hrr
     have hjl : j < s.ths.length := by have := (List.getElem?_eq_some_iff.1 ht).1; simpa [StL.put] using this
     have r0 := yZ (o := 900) (List.getElem?_eq_getElem hjl)
     by_cases hj : j = k
     ·subst hj
      have e : t' = { s.ths[j] with st := 1,cond := -1,lock := -1 } := by simpa [StL.put,hjl] using ht.symm
      subst e
      have e2 : row = thRow 900 j { s.ths[j] with st := 1,cond := -1,lock := -1 } := by
       refine Option.some.inj (hrr.symm.trans ?_)
       refine yX ?_ (zW rfl)
       refine wV (c := [i64 s.ths[j].rt,i64 s.ths[j].pc,i64 1,i64 (-1),i64 s.ths[j].lock,.ref (.s 900 j) 0 s.ths[j].stack.length]) ?_ rfl
       refine wV (c := [i64 s.ths[j].rt,i64 s.ths[j].pc,i64 1,i64 s.ths[j].cond,i64 s.ths[j].lock,.ref (.s 900 j) 0 s.ths[j].stack.length]) ?_ rfl
       refine wV (c := thRow 900 j s.ths[j]) ?_ rfl
       repeat (first | exact r0 | refine yX ?_ (zW rfl))
      subst e2
      refine fz_rowT (els := stk s.ths[j]) ?_ (by simp [stk,List.take_of_length_le])
      conv => lhs; whnf
      repeat (refine n4 ?_ rfl; conv => lhs; whnf)
      rw [uU hjl]
     ·have e : t' = s.ths[j] := by
       have : (s.ths.set k _)[j]? = some t' := ht
       rw [List.getElem?_set_ne (Ne.symm hj),List.getElem?_eq_getElem hjl] at this
       exact (Option.some.inj this).symm
      subst e
      have e2 : row = thRow 900 j s.ths[j] := by
       refine Option.some.inj (hrr.symm.trans ?_)
       repeat (first | exact r0 | refine yX ?_ (zW rfl) | refine rF hj ?_)
      subst e2
      refine fz_rowT (els := stk s.ths[j]) ?_ (by simp [stk,List.take_of_length_le])
      conv => lhs; whnf
      repeat (refine n4 ?_ rfl; conv => lhs; whnf)
      rw [uU hjl]
    ·conv => lhs; whnf
     rfl
    ·conv => lhs; whnf
     show some (Ob.ds 3 1 ((s.owner.map encInt).set (0 + s.ths[k].lock.toNat) (encInt k))) = some (Ob.ds 3 1 ((s.owner.set s.ths[k].lock.toNat k).map encInt))
     rw [Nat.zero_add,List.map_set]
    ·simp [StL.put]
    ·simp [StL.put]
    ·simp [StL.put]
   ·exact n8 k 9 s.ths[k].cond s.ths[k].lock s.ths[k].pc
  |some o =>
   conv => whnf
   refine ⟨⟨by omega,by simp; omega⟩,?_⟩
   conv => whnf
   have r0 := yZ (o := 900) (List.getElem?_eq_getElem hk)
   refine ⟨[i64 s.ths[k].rt,i64 s.ths[k].pc,i64 1,i64 (-1),i64 (-1),.ref (.s 900 k) 0 s.ths[k].stack.length],⟨?_,by simp⟩,?_⟩
   ·refine wV (c := [i64 s.ths[k].rt,i64 s.ths[k].pc,i64 1,i64 (-1),i64 s.ths[k].lock,.ref (.s 900 k) 0 s.ths[k].stack.length]) ?_ rfl
    refine wV (c := [i64 s.ths[k].rt,i64 s.ths[k].pc,i64 1,i64 s.ths[k].cond,i64 s.ths[k].lock,.ref (.s 900 k) 0 s.ths[k].stack.length]) ?_ rfl
    refine wV (c := thRow 900 k s.ths[k]) ?_ rfl
    repeat (first | exact r0 | refine yX ?_ (zW rfl))
   conv => whnf
   rw [zE (by have := hr.pc.1; omega) (by have := hr.pc.2; omega)]
   refine ⟨⟨by omega,by simp; omega⟩,?_⟩
   conv => whnf
   refine .inr (.inl ⟨4,[],?_⟩)
   conv => whnf
   refine ⟨by kernel_rfl,?_⟩
   conv => whnf
   have hd : stepL p s k = ({ s with owner := s.owner.set s.ths[k].lock.toNat k }.put k { s.ths[k] with st := 1,cond := -1,lock := -1,pc := s.ths[k].pc + 1 },{ ev0 k s.ths[k] with kind := 9,obj := s.ths[k].cond,lock := s.ths[k].lock }) := by
    unfold stepL; rw [hg]; simp [h4,hn]
   rw [hd]
   refine .inl ?_
   conv => whnf
   refine ⟨[agg (encSt _),agg (encEv _)],⟨_,_,rfl,⟨_,rfl,?_⟩,_,_,rfl,⟨_,rfl,?_⟩,rfl⟩,rfl⟩
   ·refine @fz_st3 _ _ ?_ _ _ _ ?_ ?_ ?_ ?_ ?_ ?_ ?_
    rotate_left 1
    ·conv => lhs; whnf
     rfl
    ·intro j row t' ht hrr
     have hjl : j < s.ths.length := by have := (List.getElem?_eq_some_iff.1 ht).1; simpa [StL.put] using this
     have r0 := yZ (o := 900) (List.getElem?_eq_getElem hjl)
     by_cases hj : j = k
     ·subst hj
      have e : t' = { s.ths[j] with st := 1,cond := -1,lock := -1,pc := s.ths[j].pc + 1 } := by simpa [StL.put,hjl] using ht.symm
      subst e
      have e2 : row = thRow 900 j { s.ths[j] with st := 1,cond := -1,lock := -1,pc := s.ths[j].pc + 1 } := by
       refine Option.some.inj (hrr.symm.trans ?_)
       refine yX ?_ (zW rfl)
       refine wV (c := [i64 s.ths[j].rt,i64 s.ths[j].pc,i64 1,i64 (-1),i64 (-1),.ref (.s 900 j) 0 s.ths[j].stack.length]) ?_ rfl
       refine wV (c := [i64 s.ths[j].rt,i64 s.ths[j].pc,i64 1,i64 (-1),i64 s.ths[j].lock,.ref (.s 900 j) 0 s.ths[j].stack.length]) ?_ rfl
       refine wV (c := [i64 s.ths[j].rt,i64 s.ths[j].pc,i64 1,i64 s.ths[j].cond,i64 s.ths[j].lock,.ref (.s 900 j) 0 s.ths[j].stack.length]) ?_ rfl
       refine wV (c := thRow 900 j s.ths[j]) ?_ rfl
       repeat (first | exact r0 | refine yX ?_ (zW rfl))
      subst e2
      refine fz_rowT (els := stk s.ths[j]) ?_ (by simp [stk,List.take_of_length_le])
      conv => lhs; whnf
      repeat (refine n4 ?_ rfl; conv => lhs; whnf)
      rw [uU hjl]
     ·have e : t' = s.ths[j] := by
       have : (s.ths.set k _)[j]? = some t' := ht
       rw [List.getElem?_set_ne (Ne.symm hj),List.getElem?_eq_getElem hjl] at this
       exact (Option.some.inj this).symm
      subst e
      have e2 : row = thRow 900 j s.ths[j] := by
       refine Option.some.inj (hrr.symm.trans ?_)
       repeat (first | exact r0 | refine yX ?_ (zW rfl) | refine rF hj ?_)
      subst e2
      refine fz_rowT (els := stk s.ths[j]) ?_ (by simp [stk,List.take_of_length_le])
      conv => lhs; whnf
      repeat (refine n4 ?_ rfl; conv => lhs; whnf)
      rw [uU hjl]
    ·conv => lhs; whnf
     rfl
    ·conv => lhs; whnf
     show some (Ob.ds 3 1 ((s.owner.map encInt).set (0 + s.ths[k].lock.toNat) (encInt k))) = some (Ob.ds 3 1 ((s.owner.set s.ths[k].lock.toNat k).map encInt))
     rw [Nat.zero_add,List.map_set]
    ·simp [StL.put]
    ·simp [StL.put]
    ·simp [StL.put]
   ·exact n8 k 9 s.ths[k].cond s.ths[k].lock s.ths[k].pc
 ·exact absurd (by simpa using h40) h4
end Ai
end
section
namespace Ai
open Go Go.Proofs
section
variable {S : St} {H1 : Key → Option Ob} {L : Key → Bool} {f : Key → Key}
theorem lZ (hS : ∀ κ,L κ = true → S.H κ = (H1 κ).map (renO f)) (hf : ∀ κ,L κ = true → f κ = κ) (h0 : ∀ κ,L κ = false → H1 κ = none) {v : AV} {d : D} (h : fz1 ⟨fun _ => .junk,H1⟩ v = some d) : fz1 S (ren f v) = some d := by
 cases v with
 |d x => cases x <;> exact h
 |ref o off n =>
  have ho : L o = true := by
   cases hl : L o with
   |true => rfl
   |false =>
    have := h0 o hl
    simp [fz1,this] at h
  simp only [ren,hf o ho,fz1,hS o ho]
  simp only [fz1] at h
  cases hH : H1 o with
  |none => rw [hH] at h; cases h
  |some ob =>
   rw [hH] at h
   cases ob with
   |ds e sz els => exact h
   |vs e cs => cases h
   |rs e sz rows => cases h
   |mp ag ps => cases h
 | _ => cases h
theorem eI (hS : ∀ κ,L κ = true → S.H κ = (H1 κ).map (renO f)) (hf : ∀ κ,L κ = true → f κ = κ) (h0 : ∀ κ,L κ = false → H1 κ = none) : ∀ {vs : List AV} {ds : List D},fz1s ⟨fun _ => .junk,H1⟩ vs = some ds → fz1s S (renL f vs) = some ds
 | [],ds,h => h
 |v :: vs,ds,h => by
  simp only [fz1s] at h
  split at h
  ·rename_i x hx
   split at h
   ·rename_i xs hxs
    simp only [renL,fz1s,lZ hS hf h0 hx,eI hS hf h0 hxs]
    exact h
   ·cases h
  ·cases h
theorem FzC_back (hS : ∀ κ,L κ = true → S.H κ = (H1 κ).map (renO f)) (hf : ∀ κ,L κ = true → f κ = κ) (h0 : ∀ κ,L κ = false → H1 κ = none) : ∀ {vs : List AV} {ds : List D},FzC ⟨fun _ => .junk,H1⟩ vs ds → FzC S (renL f vs) ds
 | [],ds,h => h
 |v :: vs,ds,h => by
  obtain ⟨x,xs,rfl,hx,hxs⟩ := h
  refine ⟨x,xs,rfl,?_,FzC_back hS hf h0 hxs⟩
  cases v with
  |dref o n =>
   obtain ⟨els,rfl,hv⟩ := hx
   refine ⟨els,rfl,?_⟩
   unfold kE at hv ⊢
   simp only at hv
   have ho : L o = true := by
    cases hl : L o with
    |true => rfl
    |false => rw [h0 o hl] at hv; exact hv.elim
   rw [hf o ho,hS o ho]
   cases hH : H1 o with
   |none => rw [hH] at hv; exact hv.elim
   |some ob =>
    rw [hH] at hv
    cases ob with
    |ds e sz els => exact hv.elim
    |vs e cs => exact hv.elim
    |mp ag ps => exact hv.elim
    |rs e sz rows =>
     refine ⟨hv.1,fun j row hj hr => ?_⟩
     have hr : (rows.map (renL f))[j]? = some row := hr
     rw [List.getElem?_map] at hr
     obtain ⟨r0,g1,rfl⟩ := Option.map_eq_some_iff.1 hr
     obtain ⟨d,g2,g3⟩ := hv.2 j r0 hj g1
     exact ⟨d,g2,eI hS hf h0 g3⟩
  |d x => exact lZ hS hf h0 hx
  |ref o off n => exact lZ hS hf h0 hx
  | _ => exact lZ hS hf h0 hx
end
end Ai
end
section
set_option maxRecDepth 100000
namespace Ai
open Go Go.Proofs
theorem qH (a b o : Nat) (l : List Th) : (thRows o l).map (renL (swp (.n a) (.l b))) = thRows o l := by
 apply List.ext_getElem?
 intro i
 rw [List.getElem?_map]
 by_cases hj : i < l.length
 ·rw [xF hj]
  rfl
 ·rw [List.getElem?_eq_none (by rw [zQ]; omega)]
  rfl
theorem eF {x X : Option Ob} {f : Key → Key} (h : x = X) (hp : X.map (renO f) = X) : x.map (renO f) = X := by rw [h]; exact hp
theorem rH (s : StL) (j : Nat) : (match ownH (jY s) (.s 900 j) with | some ob => some ob | none => (none : Option Ob)) = zR s.ths j := by
 show (match ((s.ths.map stk)[j]?).map (Ob.ds 105 1) with | some ob => some ob | none => (none : Option Ob)) = (s.ths[j]?).map fun t => .ds 105 1 (stk t)
 rw [List.getElem?_map]
 cases s.ths[j]? <;> rfl
theorem l3Step_n (hI : xB) (p : ProgL) (s : StL) (k : Nat) (hp : p.wf) (hk : k < s.ths.length) (h5 : s.ths.length ≤ 5) (hs : s.small) (hr : s.ths[k].ready p s k) (h40 : ¬ s.ths[k].st = 4) :
  CallsTo EE 95 [agg (encProg p),agg (encSt s),i64 k] (· = .tup [agg (encSt (stepL p s k).1),agg (encEv (stepL p s k).2)]) := by
 refine callsTo_of_AW (fn := Tryz.f95) Tryz.func95 rfl (by kernel_rfl) rfl ?_
 have hg : s.ths.getD k th0 = s.ths[k] := by simp [List.getD_eq_getElem?_getD,hk]
 conv => whnf
 refine ⟨zF s.ths[k],yB zF hk rfl,?_⟩
 conv => whnf
 refine ⟨_,nB p s.ths[k] hp hr.inP,?_⟩
 rintro r rfl
 conv => whnf
 refine kbi (fun h4 => ?_) (fun h4 => ?_)
 ·exact absurd (by simpa using h4) h40
 ·conv => whnf
  cases hn : zZ p s.ths[k] with
  |none =>
   conv => whnf
   refine ⟨_,lV s hs,?_⟩
   rintro r rfl
   conv => whnf
   refine ⟨⟨by omega,by simp; omega⟩,?_⟩
   conv => whnf
   refine .inr (.inl ⟨4,[],?_⟩)
   conv => whnf
   refine ⟨by kernel_rfl,?_⟩
   conv => whnf
   have hd : stepL p s k = (s.put k { s.ths[k] with st := 2 },{ ev0 k s.ths[k] with kind := 11 }) := by
    unfold stepL; rw [hg]; simp [h40,hn]
   rw [hd]
   refine .inl ?_
   conv => whnf
   refine ⟨[agg (encSt _),agg (encEv _)],⟨_,_,rfl,⟨_,rfl,?_⟩,_,_,rfl,⟨_,rfl,?_⟩,rfl⟩,rfl⟩
   ·refine @fz_st3 _ _ ?_ _ _ _ ?_ ?_ ?_ ?_ ?_ ?_ ?_
    rotate_left 1
    ·conv => lhs; whnf
     rfl
    ·intro j row t' ht hrr
     have hjl : j < s.ths.length := by have := (List.getElem?_eq_some_iff.1 ht).1; simpa [StL.put] using this
     have r0 := yZ (o := 900) (List.getElem?_eq_getElem hjl)
     by_cases hj : j = k
     ·subst hj
      have e : t' = { s.ths[j] with st := 2 } := by simpa [StL.put,hjl] using ht.symm
      subst e
      have e2 : row = thRow 900 j { s.ths[j] with st := 2 } := by
       refine Option.some.inj (hrr.symm.trans ?_)
       refine yX ?_ (zW rfl)
       refine wV (c := thRow 900 j s.ths[j]) ?_ rfl
       repeat (first | exact r0 | refine yX ?_ (zW rfl))
      subst e2
      refine fz_rowT (els := stk s.ths[j]) ?_ (by simp [stk,List.take_of_length_le])
      conv => lhs; whnf
      repeat (refine n4 ?_ rfl; conv => lhs; whnf)
      rw [uU hjl]
     ·have e : t' = s.ths[j] := by
       have : (s.ths.set k _)[j]? = some t' := ht
       rw [List.getElem?_set_ne (Ne.symm hj),List.getElem?_eq_getElem hjl] at this
       exact (Option.some.inj this).symm
      subst e
      have e2 : row = thRow 900 j s.ths[j] := by
       refine Option.some.inj (hrr.symm.trans ?_)
       repeat (first | exact r0 | refine yX ?_ (zW rfl) | refine rF hj ?_)
      subst e2
      refine fz_rowT (els := stk s.ths[j]) ?_ (by simp [stk,List.take_of_length_le])
      conv => lhs; whnf
      repeat (refine n4 ?_ rfl; conv => lhs; whnf)
      rw [uU hjl]
    ·conv => lhs; whnf
     rfl
    ·conv => lhs; whnf
     rfl
    ·simp [StL.put]
    ·simp [StL.put]
    ·simp [StL.put]
   ·exact n8 k 11 (-1) (-1) s.ths[k].pc
  |some o =>
   conv => whnf
   refine ⟨_,l3Code_ok hI s k o hk hs (hr.op o hn).1,?_⟩
   rintro r rfl
   conv => whnf
   refine kbi (fun h6 => ?_) (fun h6 => ?_)
   ·have h6 : ¬ zT s k o = 0 := by simpa using h6
    conv => whnf
    refine ⟨_,l3Fault_ok s (ev0 k s.ths[k]) _ hs,?_⟩
    rintro r rfl
    conv => whnf
    have hd : stepL p s k = ({ s with fault := zT s k o },{ ev0 k s.ths[k] with kind := 12,obj := zT s k o }) := by
     unfold stepL; rw [hg]; simp [h40,hn,h6]
    rw [hd]
    rfl
   ·have h6 : zT s k o = 0 := by simpa using h6
    conv => whnf
    have hd : stepL p s k = doL s k o (ev0 k s.ths[k]) := by
     unfold stepL; rw [hg]; simp [h40,hn,h6]
    rw [hd]
    refine .inr (.inl ⟨5,[2700,2701,2703,2706],?_⟩)
    conv => whnf
    refine ⟨_,lV s hs,?_⟩
    conv => whnf
    refine ⟨by kernel_rfl,?_⟩
    conv => whnf
    refine .inr (.inl ⟨999,0,lendK,doPost (doL s k o (ev0 k s.ths[k])).1 (doL s k o (ev0 k s.ths[k])).2,?_,rfl,?_⟩)
    ·show IOCall EE 136 [.agg [.dref (.n 900) (s.ths.map bA).length,.ref (.n 901) 0 (s.cells.map encF).length,.ref (.n 902) 0 (s.owner.map encInt).length,i64 s.fault],i64 k,agg (encOp o),agg (encEv (ev0 k s.ths[k]))] _ _
     rw [List.length_map,List.length_map,List.length_map]
     refine l3Do_ok hI s k o (ev0 k s.ths[k]) hk h5 hs ((hr.op o hn).2 h6) hr.pc _ ⟨?_,fun j => ?_,?_,?_⟩
     ·conv => lhs; whnf
      refine congrArg some ?_
      refine yH ?_ (by exact congrArg _ (yE fun _ _ => rfl))
      exact congrArg (Ob.rs 123 6) (qH 999 0 900 s.ths)
     ·conv => lhs; whnf
      repeat (first | (refine hscrO ?_ (yG _ _ _); conv => lhs; whnf) | (refine eF ?_ (thFam_ren _ _ _); conv => lhs; whnf))
      exact rH s j
     ·conv => lhs; whnf
      rfl
     ·conv => lhs; whnf
      rfl
    ·rintro r H1 ⟨rfl,q1,q2⟩
     refine ⟨q2,(fun n hn => by cases hn),?_⟩
     conv => whnf
     refine .inl ?_
     conv => whnf
     refine ⟨[agg (encSt (doL s k o (ev0 k s.ths[k])).1),agg (encEv (doL s k o (ev0 k s.ths[k])).2)],⟨_,_,rfl,⟨_,rfl,?_⟩,_,_,rfl,⟨_,rfl,?_⟩,rfl⟩,rfl⟩
     ·refine FzC_back (f := swp (.n 999) (.l 0)) (vs := stRef (doL s k o (ev0 k s.ths[k])).1) (L := lendK) (fun κ hκ => ?_) (fun κ hκ => ?_) q2 q1
      ·cases κ with
       |n i =>
        have : i = 900 ∨ i = 901 ∨ i = 902 := by
         simp only [lendK,Bool.or_eq_true,Nat.beq_eq] at hκ
         omega
        rcases this with rfl | rfl | rfl
        ·rfl
        ·rfl
        ·rfl
       |s i j =>
        have : i = 900 := by simpa only [lendK,Nat.beq_eq] using hκ
        subst this
        rfl
       |l i => cases hκ
      ·cases κ with
       |n i =>
        have : i = 900 ∨ i = 901 ∨ i = 902 := by
         simp only [lendK,Bool.or_eq_true,Nat.beq_eq] at hκ
         omega
        rcases this with rfl | rfl | rfl <;> rfl
       |s i j => rfl
       |l i => cases hκ
     ·exact n8 _ _ _ _ _
end Ai
end
section
set_option maxRecDepth 100000
namespace Ai
open Go Go.Proofs
def gE : Prop := ∀ (x : Nat) (many n : Int),yP x many = some n → 0 ≤ n ∧ n < many
theorem kA (hR : gE) {s : StL} {t : Th} {n : Int} (h : zS s t = some n) : 0 ≤ n ∧ n < s.ths.length := by
 unfold zS at h
 cases hl : t.stack.getLast? with
 |none => rw [hl] at h; cases h
 |some x => rw [hl] at h; exact hR x _ n h
def zG (p : ProgL) (s : StL) (t : Th) : Int :=
 if t.st = 4 then s.owner.getD t.lock.toNat 0
 else match zZ p t with
  |none => -1
  |some o => if t.st = 1 then
    (if o.code = 12 then s.owner.getD o.a.toNat 0
    else if o.code = 15 then (match zS s t with | some k => if (s.ths.getD k.toNat th0).st = 2 then -1 else k | none => -1)
    else -1)
   else -1
structure Th.seen (t : Th) (p : ProgL) (s : StL) : Prop where
 inP : t.inP p
 lock : t.st = 4 → 0 ≤ t.lock ∧ t.lock < s.owner.length
 op : ∀ o,zZ p t = some o → o.code = 12 → 0 ≤ o.a ∧ o.a < s.owner.length
theorem fS (hI : xB) (hR : gE) (p : ProgL) (s : StL) (t : Th) (hp : p.wf) (ht : t.stack.length ≤ 1048576) (hv : t.seen p s) :
  CallsTo EE 131 [agg (encProg p),agg (encSt s),agg (zF t)] (· = i64 (zG p s t)) := by
 refine callsTo_of_AW (fn := Tryz.f131) Tryz.func131 rfl (by kernel_rfl) rfl ?_
 have own_get : ∀ (a : Int),0 ≤ a ∧ a < s.owner.length → 0 ≤ a ∧ (s.owner.map encInt)[a.toNat]? = some (encInt (s.owner.getD a.toNat 0)) ∧ (encInt (s.owner.getD a.toNat 0)).length = 1 := by
  intro a ha
  refine ⟨ha.1,?_,rfl⟩
  have : a.toNat < s.owner.length := by omega
  simp [this,List.getD_eq_getElem?_getD]
 conv => whnf
 refine kbi (fun h4 => ?_) (fun h4 => ?_)
 ·have h4 : t.st = 4 := by simpa using h4
  conv => whnf
  refine ⟨_,own_get t.lock (hv.lock h4),?_⟩
  conv => whnf
  simp only [zG,if_pos h4]
 have h4 : ¬ t.st = 4 := by simpa using h4
 conv => whnf
 refine ⟨_,nB p t hp hv.inP,?_⟩
 rintro r rfl
 conv => whnf
 refine kbi (fun h1 => ?_) (fun h1 => ?_)
 ·have h1 : ¬ t.st = 1 := by simpa using h1
  conv => whnf
  have : zG p s t = -1 := by
   unfold zG; rw [if_neg h4]
   cases zZ p t with
   |none => rfl
   |some o => simp [h1]
  rw [this]
 have h1 : t.st = 1 := by simpa using h1
 cases hn : zZ p t with
 |none =>
  conv => whnf
  have : zG p s t = -1 := by
   unfold zG; rw [if_neg h4,hn]
  rw [this]
 |some o =>
  conv => whnf
  refine kbi (fun h2 => ?_) (fun h2 => ?_)
  ·have h2 : o.code = 12 := by simpa using h2
   conv => whnf
   refine ⟨_,own_get o.a (hv.op o hn h2),?_⟩
   conv => whnf
   simp [zG,h4,hn,h1,h2]
  have h2 : ¬ o.code = 12 := by simpa using h2
  conv => whnf
  refine kbi (fun h3 => ?_) (fun h3 => ?_)
  ·have h3 : o.code = 15 := by simpa using h3
   conv => whnf
   refine ⟨_,dV hI s t ht,?_⟩
   rintro r rfl
   conv => whnf
   cases hj : zS s t with
   |none =>
    conv => whnf
    refine kbi (fun h5 => absurd h5 (by decide)) (fun h5 => ?_)
    conv => whnf
    simp [zG,h4,hn,h1,h2,h3,hj]
   |some k =>
    obtain ⟨k1,k2⟩ := kA hR hj
    have hk : k.toNat < s.ths.length := by omega
    conv => whnf
    refine kbi (fun h5 => ?_) (fun h5 => ?_)
    ·conv => whnf
     refine ⟨zF s.ths[k.toNat],⟨k1,by simp [hk],rfl⟩,?_⟩
     conv => whnf
     refine kbi (fun h6 => ?_) (fun h6 => ?_)
     ·have h6 : ¬ s.ths[k.toNat].st = 2 := by simpa using h6
      conv => whnf
      simp [zG,h4,hn,h1,h2,h3,hj,List.getD_eq_getElem?_getD,hk,h6]
     ·have h6 : s.ths[k.toNat].st = 2 := by simpa using h6
      conv => whnf
      simp [zG,h4,hn,h1,h2,h3,hj,List.getD_eq_getElem?_getD,hk,h6]
    ·exact absurd (by simpa using k1) h5
  have h3 : ¬ o.code = 15 := by simpa using h3
  conv => whnf
  simp [zG,h4,hn,h1,h2,h3]
end Ai
end
section
set_option maxRecDepth 100000
namespace Ai
open Go Go.Proofs
open Classical in
/-- may this thread go? -/
noncomputable def uV (p : ProgL) (s : StL) (k : Nat) : Bool := decide (s.fault = 0 ∧ ((s.ths.getD k th0).st = 1 ∨ (s.ths.getD k th0).st = 4) ∧ zG p s (s.ths.getD k th0) < 0)
noncomputable def zH (p : ProgL) (s : StL) (n : Nat) : List Nat := (List.range n).filter (uV p s)
noncomputable def enabledL (p : ProgL) (s : StL) : List Nat := zH p s s.ths.length
def encN (k : Nat) : List D := [di k]
theorem yQ {p : ProgL} {s : StL} {n : Nat} : zH p s (n + 1) = zH p s n ++ (if uV p s n = true then [n] else []) := by
 unfold zH
 rw [List.range_succ,List.filter_append]
 congr 1
 cases h : uV p s n <;> simp [h]
theorem enabledTo_le {p : ProgL} {s : StL} {n : Nat} : (zH p s n).length ≤ n := by
 unfold zH
 have := List.length_filter_le (uV p s) (List.range n)
 simpa using this
theorem l3Enabled_ok (hI : xB) (hR : gE) (p : ProgL) (s : StL) (hp : p.wf) (hs : s.small) (hv : ∀ t ∈ s.ths,t.seen p s) :
  CallsTo EE 93 [agg (encProg p),agg (encSt s)] (· = .uq 3 1 ((enabledL p s).map encN)) := by
 refine callsTo_of_AW (fn := Tryz.f93) Tryz.func93 rfl (by kernel_rfl) rfl ?_
 conv => whnf
 refine yR (fun k : Nat => [(2,.ptr (.n 2) 0),(3,.ptr (.n 3) 0),(5,.ref (.n 5) 0 (zH p s k).length),(9,sl (s.ths.map zF)),(10,i64 (s.ths.map zF).length),(11,i64 k)])
  (fun k => [(.n 2,.vs 31 ((encProg p).map .d)),(.n 3,.vs 76 ((encSt s).map .d)),(.n 5,.ds 3 1 ((zH p s k).map encN))]) (fun k => s.ths.length - k) (fun k => k ≤ s.ths.length) 0
  (weak_nil 5 (.n 5) 3 1 rfl) ?_ ?_ (Nat.zero_le _) ?_
 ·exact ⟨rfl,rfl,rfl,rfl,rfl,rfl,trivial⟩
 ·exact ⟨rfl,rfl,rfl,trivial⟩
 rintro k τ H hk
 conv => whnf
 refine kbi (fun h => ?_) (fun h => ?_)
 ·have hlt := xM h
  conv => whnf
  refine ⟨zF s.ths[k],yB zF hlt rfl,?_⟩
  conv => whnf
  have hg : s.ths.getD k th0 = s.ths[k] := by simp [List.getD_eq_getElem?_getD,hlt]
  have hle : (zH p s k).length ≤ k := enabledTo_le
  have hn := hs.1
  refine kbi (fun hf => ?_) (fun hf => ?_)
  ·have hf : s.fault = 0 := by simpa using hf
   conv => whnf
   refine kbi (fun h1 => ?_) (fun h1 => ?_)
   ·have h1 : s.ths[k].st = 1 := by simpa using h1
    conv => whnf
    refine ⟨_,fS hI hR p s s.ths[k] hp (hs.2.1 _ (List.getElem_mem hlt)) (hv _ (List.getElem_mem hlt)),?_⟩
    rintro r rfl
    conv => whnf
    refine kbi (fun hb => ?_) (fun hb => ?_)
    ·have hb : zG p s s.ths[k] < 0 := by simpa using hb
     conv => whnf
     refine ⟨⟨rfl,by simp; omega,by simp; omega⟩,?_⟩
     conv => whnf
     have hgo : uV p s k = true := by unfold uV; rw [hg]; exact decide_eq_true ⟨hf,.inl h1,hb⟩
     have hsk : zH p s (k + 1) = zH p s k ++ [k] := by rw [yQ,hgo]; simp
     refine ⟨k + 1,by omega,by show s.ths.length - (k + 1) < s.ths.length - k; omega,⟨rfl,rfl,?_,rfl,rfl,next_i64 hlt (by omega),trivial⟩,⟨rfl,rfl,?_,trivial⟩⟩
     ·rw [hsk]
      show AV.ref (.n 5) 0 ((zH p s k).length + 1) = _
      simp
     ·rw [hsk]
      show some (Ob.ds 3 1 (((zH p s k).map encN).take (zH p s k).length ++ [[di k]])) = _
      rw [List.take_of_length_le (by simp)]
      simp [encN]
    ·have hb : ¬ zG p s s.ths[k] < 0 := by simpa using hb
     conv => whnf
     have hgo : uV p s k = false := by unfold uV; rw [hg]; exact decide_eq_false fun e => hb e.2.2
     have hsk : zH p s (k + 1) = zH p s k := by rw [yQ,hgo]; simp
     refine ⟨k + 1,by omega,by show s.ths.length - (k + 1) < s.ths.length - k; omega,⟨rfl,rfl,?_,rfl,rfl,next_i64 hlt (by omega),trivial⟩,⟨rfl,rfl,?_,trivial⟩⟩
     ·rw [hsk]; rfl
     ·rw [hsk]; rfl
   ·have h1 : ¬ s.ths[k].st = 1 := by simpa using h1
    conv => whnf
    refine kbi (fun h4 => ?_) (fun h4 => ?_)
    ·have h4 : s.ths[k].st = 4 := by simpa using h4
     conv => whnf
     refine ⟨_,fS hI hR p s s.ths[k] hp (hs.2.1 _ (List.getElem_mem hlt)) (hv _ (List.getElem_mem hlt)),?_⟩
     rintro r rfl
     conv => whnf
     refine kbi (fun hb => ?_) (fun hb => ?_)
     ·have hb : zG p s s.ths[k] < 0 := by simpa using hb
      conv => whnf
      refine ⟨⟨rfl,by simp; omega,by simp; omega⟩,?_⟩
      conv => whnf
      have hgo : uV p s k = true := by unfold uV; rw [hg]; exact decide_eq_true ⟨hf,.inr h4,hb⟩
      have hsk : zH p s (k + 1) = zH p s k ++ [k] := by rw [yQ,hgo]; simp
      refine ⟨k + 1,by omega,by show s.ths.length - (k + 1) < s.ths.length - k; omega,⟨rfl,rfl,?_,rfl,rfl,next_i64 hlt (by omega),trivial⟩,⟨rfl,rfl,?_,trivial⟩⟩
      ·rw [hsk]
       show AV.ref (.n 5) 0 ((zH p s k).length + 1) = _
       simp
      ·rw [hsk]
       show some (Ob.ds 3 1 (((zH p s k).map encN).take (zH p s k).length ++ [[di k]])) = _
       rw [List.take_of_length_le (by simp)]
       simp [encN]
     ·have hb : ¬ zG p s s.ths[k] < 0 := by simpa using hb
      conv => whnf
      have hgo : uV p s k = false := by unfold uV; rw [hg]; exact decide_eq_false fun e => hb e.2.2
      have hsk : zH p s (k + 1) = zH p s k := by rw [yQ,hgo]; simp
      refine ⟨k + 1,by omega,by show s.ths.length - (k + 1) < s.ths.length - k; omega,⟨rfl,rfl,?_,rfl,rfl,next_i64 hlt (by omega),trivial⟩,⟨rfl,rfl,?_,trivial⟩⟩
      ·rw [hsk]; rfl
      ·rw [hsk]; rfl
    ·have h4 : ¬ s.ths[k].st = 4 := by simpa using h4
     conv => whnf
     have hgo : uV p s k = false := by unfold uV; rw [hg]; exact decide_eq_false fun e => e.2.1.elim h1 h4
     have hsk : zH p s (k + 1) = zH p s k := by rw [yQ,hgo]; simp
     refine ⟨k + 1,by omega,by show s.ths.length - (k + 1) < s.ths.length - k; omega,⟨rfl,rfl,?_,rfl,rfl,next_i64 hlt (by omega),trivial⟩,⟨rfl,rfl,?_,trivial⟩⟩
     ·rw [hsk]; rfl
     ·rw [hsk]; rfl
  ·have hf : ¬ s.fault = 0 := by simpa using hf
   conv => whnf
   have hgo : uV p s k = false := by unfold uV; exact decide_eq_false fun e => hf e.1
   have hsk : zH p s (k + 1) = zH p s k := by rw [yQ,hgo]; simp
   refine ⟨k + 1,by omega,by show s.ths.length - (k + 1) < s.ths.length - k; omega,⟨rfl,rfl,?_,rfl,rfl,next_i64 hlt (by omega),trivial⟩,⟨rfl,rfl,?_,trivial⟩⟩
   ·rw [hsk]; rfl
   ·rw [hsk]; rfl
 ·have hge : s.ths.length ≤ k := by simpa using h
  have hkk : k = s.ths.length := by omega
  subst hkk
  conv => whnf
  refine congrArg (AV.uq 3 1) ?_
  rw [List.take_of_length_le (by simp)]
  rfl
end Ai
end
section
set_option maxRecDepth 100000
namespace Ai
open Go Go.Proofs
open Classical in
/-- how a run stands -/
noncomputable def codeL (p : ProgL) (s : StL) (steps budget : Int) : Int :=
 if s.fault ≠ 0 then 2 else if enabledL p s = [] then (if ∃ t ∈ s.ths,t.st ≠ 2 then 3 else 1) else if steps = budget then 4 else 0
theorem l4Code_ok (hI : xB) (hR : gE) (p : ProgL) (s : StL) (steps budget : Int) (hp : p.wf) (hs : s.small) (hv : ∀ t ∈ s.ths,t.seen p s) :
  CallsTo EE 92 [agg (encProg p),agg (encSt s),i64 steps,i64 budget] (· = i64 (codeL p s steps budget)) := by
 refine callsTo_of_AW (fn := Tryz.f92) Tryz.func92 rfl (by kernel_rfl) rfl ?_
 have hn := hs.1
 conv => whnf
 refine kbi (fun hf => ?_) (fun hf => ?_)
 ·have hf : s.fault ≠ 0 := by simpa using hf
  conv => whnf
  unfold codeL
  rw [if_pos hf]
 have hf : ¬ s.fault ≠ 0 := by simpa using hf
 conv => whnf
 refine ⟨_,l3Enabled_ok hI hR p s hp hs hv,?_⟩
 rintro r rfl
 refine .inl ?_
 conv => whnf
 refine kbi (fun h0 => ?_) (fun h0 => ?_)
 ·have h0 : enabledL p s = [] := by
   have : (((enabledL p s).map encN).length : Int) = 0 := by simpa using h0
   simp at this
   exact this
  conv => whnf
  refine yR (fun k : Nat => [(8,i64 0),(20,sl (s.ths.map zF)),(21,i64 (s.ths.map zF).length),(22,i64 k)]) (fun k => []) (fun k => s.ths.length - k) (fun k => k ≤ s.ths.length ∧ ∀ j u,j < k → s.ths[j]? = some u → u.st = 2) 0
   Weak.refl ⟨rfl,rfl,rfl,rfl,trivial⟩ trivial ⟨Nat.zero_le _,fun j u hj => by omega⟩ ?_
  rintro k τ H ⟨hk,hall⟩
  conv => whnf
  refine kbi (fun h => ?_) (fun h => ?_)
  ·have hlt := xM h
   conv => whnf
   refine ⟨zF s.ths[k],yB zF hlt rfl,?_⟩
   conv => whnf
   refine kbi (fun h2 => ?_) (fun h2 => ?_)
   ·have h2 : s.ths[k].st ≠ 2 := by simpa using h2
    conv => whnf
    unfold codeL
    rw [if_neg hf,if_pos h0,if_pos ⟨_,List.getElem_mem hlt,h2⟩]
   ·have h2 : s.ths[k].st = 2 := by simpa using h2
    conv => whnf
    refine ⟨k + 1,⟨by omega,fun j u hj hu => ?_⟩,by show s.ths.length - (k + 1) < s.ths.length - k; omega,⟨rfl,rfl,rfl,next_i64 hlt (by omega),trivial⟩,trivial⟩
    by_cases hjk : j = k
    ·subst hjk
     rw [List.getElem?_eq_getElem hlt] at hu
     simp only [Option.some.injEq] at hu
     subst hu; exact h2
    ·exact hall j u (by omega) hu
  ·have hge : s.ths.length ≤ k := by simpa using h
   conv => whnf
   unfold codeL
   rw [if_neg hf,if_pos h0,if_neg]
   rintro ⟨t,ht,h2⟩
   obtain ⟨j,hj,rfl⟩ := List.mem_iff_getElem.1 ht
   exact h2 (hall j _ (by omega) (List.getElem?_eq_getElem hj))
 have h0 : ¬ enabledL p s = [] := fun e => h0 (by rw [e]; rfl)
 conv => whnf
 refine kbi (fun h1 => ?_) (fun h1 => ?_)
 ·have h1 : steps = budget := by simpa using h1
  conv => whnf
  unfold codeL
  rw [if_neg hf,if_neg h0,if_pos h1]
 ·have h1 : ¬ steps = budget := by simpa using h1
  conv => whnf
  unfold codeL
  rw [if_neg hf,if_neg h0,if_neg h1]
end Ai
end
section
set_option maxRecDepth 100000
namespace Ai
open Go Go.Proofs
theorem l3Step_ok (hI : xB) (p : ProgL) (s : StL) (k : Nat) (hp : p.wf) (hk : k < s.ths.length) (h5 : s.ths.length ≤ 5) (hs : s.small) (hr : s.ths[k].ready p s k) :
  CallsTo EE 95 [agg (encProg p),agg (encSt s),i64 k] (· = .tup [agg (encSt (stepL p s k).1),agg (encEv (stepL p s k).2)]) := by
 by_cases h : s.ths[k].st = 4
 ·exact l3Step_4 hI p s k hp hk h5 hs hr h
 ·exact l3Step_n hI p s k hp hk h5 hs hr h
end Ai
end
section
set_option maxRecDepth 100000
namespace Ai
open Go Go.Proofs
def wY (p : ProgL) : StL := ⟨[qS 0],List.replicate p.cells.toNat 0,List.replicate p.locks.toNat (-1),0⟩
theorem jF (p : Key → Bool) (k : Nat) (x : D) : (List.replicate k [AV.d x]).map (scrPL p) = List.replicate k [AV.d x] := by simp [scrPL,scrP]
def oN (p : ProgL) (k : Nat) (c2 : AV) : List (Key × Ob) := [(.n 1,.vs 31 ((encProg p).map .d)),(.n 2,.vs 76 [.d .nil,.d .nil,.d .nil,i64 0]),(.n 3,.vs 76 [.ref (.n 7) 0 1,.dref (.n 50) k,c2,i64 0]),(.n 7,.ds 123 6 [zF (qS 0)]),(.n 50,.rs 105 1 (List.replicate k [.d (.flt 0)]))]
def oN2 (p : ProgL) (k j : Nat) : List (Key × Ob) := [(.n 1,.vs 31 ((encProg p).map .d)),(.n 2,.vs 76 [.d .nil,.d .nil,.d .nil,i64 0]),(.n 3,.vs 76 [.ref (.n 7) 0 1,.dref (.n 50) k,.dref (.n 51) j,i64 0]),(.n 7,.ds 123 6 [zF (qS 0)]),(.n 50,.rs 105 1 (List.replicate k [.d (.flt 0)])),
 (.n 51,.rs 3 1 (List.replicate j [i64 (-1)]))]
theorem viewR {S : St} {o : Key} {n : Nat} {e : TypeId} {sz : Nat} {els : List (List D)} {rows : List (List AV)} (h : S.H o = some (.rs e sz rows)) (hl : els.length = n) (hr : rows.length = n) (hv : ∀ (j : Nat) (row : List AV) (d : List D),rows[j]? = some row → els[j]? = some d → fz1s S row = some d) : kE S o n els := by
 unfold kE
 rw [h]
 refine ⟨hl,fun j row hj hrow => ?_⟩
 have : j < els.length := by omega
 exact ⟨els[j],List.getElem?_eq_getElem this,hv j row _ hrow (List.getElem?_eq_getElem this)⟩
theorem l3New_ok (p : ProgL) (h1 : InR p.cells 0 1048576) (h2 : InR p.locks 0 1048576) : CallsTo EE 91 [agg (encProg p)] (· = agg (encSt (wY p))) := by
 refine callsTo_of_AW (fn := Tryz.f91) Tryz.func91 rfl (by kernel_rfl) rfl ?_
 conv => whnf
 refine ⟨_,dD 0,?_⟩
 rintro r rfl
 conv => whnf
 refine yR (fun k : Nat => [(1,.ptr (.n 1) 0),(2,.ptr (.n 2) 0),(3,.ptr (.n 3) 0),(4,i64 k)]) (fun k => oN p k (.d .nil)) (fun k => p.cells.toNat - k) (fun k => (k : Int) ≤ p.cells) 0
  (uP (.n 3) (.n 50) 76 105 1 1 _ (by intro n h; cases h) (by intro h; cases h) rfl rfl) ⟨rfl,rfl,rfl,rfl,trivial⟩ ⟨rfl,rfl,rfl,rfl,rfl,trivial⟩ h1.1 ?_
 rintro k τ H hk
 conv => whnf
 refine kbi (fun h => ?_) (fun h => ?_)
 ·have hlt : (k : Int) < p.cells := by simpa using h
  have := h1.2
  conv => whnf
  refine ⟨⟨fun c hc => ?_,by show (k + 1) * 8 ≤ _; omega,by show k + 1 ≤ _; omega⟩,?_⟩
  ·have hc : c ∈ [[AV.d (.flt (canon 0))]] := hc
   simp only [List.mem_singleton] at hc
   subst hc; rfl
  conv => whnf
  refine ⟨k + 1,by omega,by show p.cells.toNat - (k + 1) < p.cells.toNat - k; omega,⟨rfl,rfl,rfl,oK (by rw [zE (by omega) (by omega)]; rfl),trivial⟩,⟨rfl,rfl,rfl,rfl,?_,trivial⟩⟩
  show some (Ob.rs 105 1 (((((List.replicate k [AV.d (.flt 0)]).map (scrPL (isK (.n 17)))).take k ++ [[AV.d (.flt (canon 0))]]).map (scrPL (isK (.n 50)))))) = _
  rw [jF,List.take_of_length_le (by simp),List.map_append,jF,List.replicate_succ']
  rfl
 ·have hge : ¬ (k : Int) < p.cells := by simpa using h
  have hkc : k = p.cells.toNat := by omega
  conv => whnf
  refine yR (fun j : Nat => [(1,.ptr (.n 1) 0),(2,.ptr (.n 2) 0),(3,.ptr (.n 3) 0),(5,i64 j)]) (fun j => oN2 p k j) (fun j => p.locks.toNat - j) (fun j => (j : Int) ≤ p.locks) 0
   (uP (.n 3) (.n 51) 76 3 1 2 _ (by intro n h; cases h) (by intro h; cases h) rfl rfl) ⟨rfl,rfl,rfl,rfl,trivial⟩ ⟨rfl,rfl,rfl,rfl,?_,rfl,trivial⟩ h2.1 ?_
  ·show some (Ob.rs 105 1 ((List.replicate k [AV.d (.flt 0)]).map (scrPL (isK (.n 51))))) = _
   rw [jF]
  rintro j τ H hj
  conv => whnf
  refine kbi (fun h => ?_) (fun h => ?_)
  ·have hlt : (j : Int) < p.locks := by simpa using h
   have := h2.2
   conv => whnf
   refine ⟨⟨fun c hc => ?_,by show (j + 1) * 8 ≤ _; omega,by show j + 1 ≤ _; omega⟩,?_⟩
   ·have hc : c ∈ [[i64 (-1)]] := hc
    simp only [List.mem_singleton] at hc
    subst hc; rfl
   conv => whnf
   refine ⟨j + 1,by omega,by show p.locks.toNat - (j + 1) < p.locks.toNat - j; omega,⟨rfl,rfl,rfl,oK (by rw [zE (by omega) (by omega)]; rfl),trivial⟩,⟨rfl,rfl,rfl,rfl,?_,?_,trivial⟩⟩
   ·show some (Ob.rs 105 1 (((List.replicate k [AV.d (.flt 0)]).map (scrPL (isK (.n 28)))).map (scrPL (isK (.n 51))))) = _
    rw [jF,jF]
   ·show some (Ob.rs 3 1 (((((List.replicate j [i64 (-1)]).map (scrPL (isK (.n 28)))).take j ++ [[i64 (-1)]]).map (scrPL (isK (.n 51)))))) = _
    rw [jF,List.take_of_length_le (by simp),List.map_append,jF,List.replicate_succ']
    rfl
  ·have hge : ¬ (j : Int) < p.locks := by simpa using h
   have hjc : j = p.locks.toNat := by omega
   subst hkc hjc
   conv => whnf
   refine .inr (.inl ⟨agg (encSt (wY p)),⟨_,rfl,?_⟩,rfl⟩)
   refine ⟨.sl ([qS 0].map zF),_,rfl,rfl,.sl ((List.replicate p.cells.toNat 0).map encF),_,rfl,⟨_,rfl,?_⟩,.sl ((List.replicate p.locks.toNat (-1)).map encInt),_,rfl,⟨_,rfl,?_⟩,di 0,[],rfl,rfl,rfl⟩
   ·refine viewR (rows := List.replicate p.cells.toNat [.d (.flt 0)]) (by rfl) (by simp) (by simp) ?_
    intro i row d hr hd
    simp only [List.getElem?_map,List.getElem?_replicate] at hr hd
    split at hr
    ·simp only [Option.some.injEq] at hr
     subst hr
     rw [if_pos ‹_›] at hd
     simp only [Option.map_some,Option.some.injEq] at hd
     subst hd; rfl
    ·cases hr
   ·refine viewR (rows := List.replicate p.locks.toNat [i64 (-1)]) (by rfl) (by simp) (by simp) ?_
    intro i row d hr hd
    simp only [List.getElem?_map,List.getElem?_replicate] at hr hd
    split at hr
    ·simp only [Option.some.injEq] at hr
     subst hr
     rw [if_pos ‹_›] at hd
     simp only [Option.map_some,Option.some.injEq] at hd
     subst hd; rfl
    ·cases hr
end Ai
end
section
set_option maxRecDepth 100000
namespace Ai
open Go Go.Proofs
def encRun (c : Int) (tr : List Ev) (tk : List Int) (s : StL) : List D := [di c,.sl (tr.map encEv),.sl (tk.map encInt),.sl (s.ths.map zF),.sl (s.cells.map encF),.sl (s.owner.map encInt),di s.fault]
def pickOf (picks tk : List Int) (n : Nat) : Int := if tk.length < picks.length then (picks.getD tk.length 0).tmod n else 0
structure RunOK (p : ProgL) (Inv : StL → Prop) : Prop where
 small : ∀ s,Inv s → s.small ∧ s.ths.length ≤ 5
 seen : ∀ s,Inv s → ∀ t ∈ s.ths,t.seen p s
 ready : ∀ s,Inv s → ∀ k,k ∈ enabledL p s → (h : k < s.ths.length) → s.ths[k].ready p s k
 step : ∀ s,Inv s → ∀ k ∈ enabledL p s,Inv (stepL p s k).1
theorem en_get {l : List Nat} {k : Nat} (h : k < l.length) : (l.map encN)[k]? = some (encN (l.getD k 0)) := by simp [h,List.getD_eq_getElem?_getD]
theorem codeL_nn (p : ProgL) (s : StL) (a b : Int) : 0 ≤ codeL p s a b := by
 unfold codeL
 split
 ·decide
 ·split
  ·split <;> decide
  ·split <;> decide
end Ai
end
section
set_option maxRecDepth 100000
namespace Ai
open Go Go.Proofs
def w3 : Prop := ∀ (x : Nat) (many : Int),1 ≤ many → many ≤ 1000 → fcmp .lss x 0 = false → fcmp .lss x (FloatKind.f64.nearest many) = true → ∃ n,floatToIntVal .f64 x .i64 = some n ∧ 0 ≤ n ∧ n < many
theorem m9 (h : w3) : gE := by
 intro x many n hi
 unfold yP at hi
 split at hi
 ·rename_i hc
  obtain ⟨m,h1,h2,h3⟩ := h x many hc.1.1 hc.1.2 hc.2.1 hc.2.2
  rw [h1] at hi
  simp only at hi
  split at hi
  ·simp only [Option.some.injEq] at hi
   subst hi; exact ⟨h2,h3⟩
  ·cases hi
 ·cases hi
theorem rP (hF : w3) : xB := by
 intro x many
 refine callsTo_of_AW (fn := Tryz.f196) Tryz.func196 rfl (by kernel_rfl) rfl ?_
 conv => whnf
 refine ocase (qF _ _ _) (fun h1 => ?_) (fun h1 => ?_)
 ·conv => whnf
  refine kbi (fun h2 => ?_) (fun h2 => ?_)
  ·have h2 : fcmp .lss x 0 = true := h2
   conv => whnf
   have : yP x many = none := by
    unfold yP; rw [if_neg]
    rintro ⟨_,e,_⟩
    rw [h2] at e
    cases e
   rw [this]
   rfl
  have h2 : fcmp .lss x 0 = false := by
   have h2 : ¬ fcmp .lss x 0 = true := h2
   simpa using h2
  conv => whnf
  refine kbi (fun h3 => ?_) (fun h3 => ?_)
  ·have h3 : fcmp .lss x (FloatKind.f64.nearest many) = true := h3
   conv => whnf
   obtain ⟨n,g1,g2,g3⟩ := hF x many h1.1 h1.2 h2 h3
   refine ⟨n,g1,?_⟩
   conv => whnf
   refine kbi (fun h4 => ?_) (fun h4 => ?_)
   ·conv => whnf
    have : yP x many = none := by
     unfold yP; rw [if_pos ⟨h1,h2,h3⟩,g1]
     simp only
     rw [if_neg]
     intro e
     have h4 : fcmp .neq (FloatKind.f64.nearest n) x = true := h4
     rw [oX,e] at h4
     cases h4
    rw [this]
    rfl
   ·conv => whnf
    refine ⟨n,g1,?_⟩
    conv => whnf
    have : yP x many = some n := by
     unfold yP; rw [if_pos ⟨h1,h2,h3⟩,g1]
     simp only
     rw [if_pos]
     have h4 : ¬ fcmp .neq (FloatKind.f64.nearest n) x = true := h4
     rw [oX] at h4
     simpa using h4
    rw [this]
    rfl
  ·have h3 : ¬ fcmp .lss x (FloatKind.f64.nearest many) = true := h3
   conv => whnf
   have : yP x many = none := by
    unfold yP; rw [if_neg]
    rintro ⟨_,_,e⟩
    exact h3 e
   rw [this]
   rfl
 ·conv => whnf
  have : yP x many = none := by
   unfold yP; rw [if_neg]
   rintro ⟨e,_⟩
   exact h1 e
  rw [this]
  rfl
end Ai
end
section
set_option maxRecDepth 100000
namespace Ai
open Go Go.Proofs Ieee
def nearB (m : Nat) : Bool := double.read (FloatKind.f64.nearest ((m : Nat) : Int)) == .number false (m <<< (52 - m.log2)) (-((52 - m.log2 : Nat) : Int))
theorem near_all : (List.range 1001).all (fun m => m == 0 || nearB m) = true := by decide +kernel
theorem aV {m : Nat} (h1 : 1 ≤ m) (h2 : m ≤ 1000) : ∃ k : Nat,double.read (FloatKind.f64.nearest ((m : Nat) : Int)) = .number false (m <<< k) (-(k : Int)) := by
 have := near_all
 simp only [List.all_eq_true,List.mem_range] at this
 have := this m (by omega)
 simp only [Bool.or_eq_true,beq_iff_eq] at this
 rcases this with h | h
 ·omega
 ·unfold nearB at h
  exact ⟨_,by simpa using h⟩
theorem tR (s : Bool) (n d : Nat) : Toward.cut .zero s n d = n / (1 <<< min d (n.log2 + 2)) := by
 simp [Toward.cut]
theorem cut_lt {m d b : Nat} (hb : 0 < b) (h : m < b * 2 ^ d) : Toward.cut .zero false m d < b := by
 rw [tR,Nat.shiftLeft_eq,Nat.one_mul]
 by_cases hd : d ≤ m.log2 + 2
 ·rw [Nat.min_eq_left hd]
  exact (Nat.div_lt_iff_lt_mul (Nat.pow_pos (by decide))).2 h
 ·rw [Nat.min_eq_right (by omega)]
  have h1 : m < 2 ^ (m.log2 + 2) := Nat.lt_of_lt_of_le Nat.lt_log2_self (Nat.pow_le_pow_right (by decide) (by omega))
  rw [Nat.div_eq_of_lt h1]; exact hb
theorem cmp_lt (a b : Int) : compare a b = .lt ↔ a < b := by
 show compareOfLessAndEq a b = .lt ↔ a < b
 unfold compareOfLessAndEq
 by_cases h : a < b
 ·simp [h]
 ·by_cases h2 : a = b
  ·simp [h2]
  ·simp [h,h2]
theorem mA : w3 := by
 intro x many h1 h2 hx0 hxm
 obtain ⟨b,rfl⟩ : ∃ b : Nat,many = (b : Int) := ⟨many.toNat,by omega⟩
 obtain ⟨k,hk⟩ := aV (m := b) (by omega) (by omega)
 have o1 : double.order x 0 ≠ some .lt := by simpa [fcmp] using hx0
 have o2 : double.order x (FloatKind.f64.nearest (b : Int)) = some .lt := by simpa [fcmp] using hxm
 unfold Format.order at o1 o2
 rw [kO] at o1
 rw [hk] at o2
 have hdec : FloatKind.f64.decode x = double.read x := rfl
 unfold floatToIntVal
 rw [hdec]
 cases hd : double.read x with
 |nan s f => rw [hd] at o2; cases o2
 |infinity s =>
  rw [hd] at o1 o2
  simp only [Datum.order] at o1 o2
  exact absurd o2 o1
 |number s m i =>
  rw [hd] at o1 o2
  simp only [Datum.order,Option.some.injEq,ne_eq] at o1 o2
  rw [cmp_lt] at o1 o2
  have hs : s = false ∨ m = 0 := by
   cases s with
   |false => exact .inl rfl
   |true =>
    right
    simp only [signed,if_true,Nat.shiftLeft_eq] at o1
    by_cases hm : m = 0
    ·exact hm
    ·exfalso
     apply o1
     have : 0 < m * 2 ^ (i - min i double.leastPlace).toNat := Nat.mul_pos (by omega) (Nat.pow_pos (by decide))
     simp
     omega
  rcases hs with rfl | rfl
  ·simp only [signed,Bool.false_eq_true,if_false,Nat.shiftLeft_eq,Int.ofNat_lt] at o2
   have o2 : m * 2 ^ (i - min i (-(k : Int))).toNat < b * 2 ^ k * 2 ^ (-(k : Int) - min i (-(k : Int))).toNat := by exact_mod_cast o2
   have hlt : Toward.cut .zero false (m <<< i.toNat) (-i).toNat < b := by
    refine cut_lt (by omega) ?_
    rw [Nat.shiftLeft_eq]
    by_cases hi : 0 ≤ i
    ·rw [Int.min_eq_right (by omega)] at o2
     have e1 : (i - -(k : Int)).toNat = i.toNat + k := by omega
     have e2 : (-(k : Int) - -(k : Int)).toNat = 0 := by omega
     rw [e1,e2,Nat.pow_add,Nat.pow_zero,Nat.mul_one,← Nat.mul_assoc] at o2
     have e3 : (-i).toNat = 0 := by omega
     rw [e3,Nat.pow_zero,Nat.mul_one]
     exact Nat.lt_of_mul_lt_mul_right o2
    ·have e3 : i.toNat = 0 := by omega
     rw [e3,Nat.pow_zero,Nat.mul_one]
     by_cases hik : i ≤ -(k : Int)
     ·rw [Int.min_eq_left hik] at o2
      have e1 : (i - i).toNat = 0 := by omega
      have e2 : (-i).toNat = k + (-(k : Int) - i).toNat := by omega
      rw [e1,Nat.pow_zero,Nat.mul_one,Nat.mul_assoc,← Nat.pow_add] at o2
      rw [e2]; exact o2
     ·rw [Int.min_eq_right (by omega)] at o2
      have e1 : k = (-i).toNat + (i - -(k : Int)).toNat := by omega
      have e2 : (-(k : Int) - -(k : Int)).toNat = 0 := by omega
      rw [e2,Nat.pow_zero,Nat.mul_one] at o2
      generalize hq : (i - -(k : Int)).toNat = q at *
      rw [e1,Nat.pow_add,← Nat.mul_assoc] at o2
      exact Nat.lt_of_mul_lt_mul_right o2
   simp only [Datum.toInt,Datum.integral,signed,Bool.false_eq_true,if_false,Nat.shiftLeft_zero]
   rw [if_pos]
   ·exact ⟨_,rfl,by omega,by omega⟩
   ·have e4 : IntKind.i64.min = -9223372036854775808 := by decide
    have e5 : IntKind.i64.max = 9223372036854775807 := by decide
    rw [e4,e5]
    omega
  ·have hc : Toward.cut .zero s (0 <<< i.toNat) (-i).toNat = 0 := by rw [tR]; simp
   simp only [Datum.toInt,Datum.integral,hc,signed]
   refine ⟨0,?_,by omega,by omega⟩
   cases s <;> decide
theorem toIndexS : xB := rP mA
theorem idxRange : gE := m9 mA
end Ai
end
section
set_option maxRecDepth 100000
namespace Ai
open Go Go.Proofs
structure TInv (p : ProgL) (t : Th) : Prop where
 rt : 0 ≤ t.rt ∧ t.rt < p.rs.length
 pc : 0 ≤ t.pc ∧ t.pc ≤ (p.rs.getD t.rt.toNat []).length
 st : t.stack.length ≤ 8
 lock : t.st = 3 ∨ t.st = 4 → 0 ≤ t.lock ∧ t.lock < p.locks
structure SInv (p : ProgL) (s : StL) : Prop where
 len : s.ths.length ≤ 5
 cells : (s.cells.length : Int) = p.cells
 owner : (s.owner.length : Int) = p.locks
 ths : ∀ t ∈ s.ths,TInv p t
theorem fO {p : ProgL} (hg : p.goodS) {t : Th} (h : TInv p t) {o : OpL} (hn : zZ p t = some o) : o.goodS p (p.rs.getD t.rt.toNat []).length ∧ t.pc < (p.rs.getD t.rt.toNat []).length := by
 have hr : t.rt.toNat < p.rs.length := by have := h.rt; omega
 have e : p.rs.getD t.rt.toNat [] = p.rs[t.rt.toNat] := by simp [List.getD_eq_getElem?_getD,hr]
 unfold zZ at hn
 rw [e] at hn ⊢
 obtain ⟨h1,h2⟩ := List.getElem?_eq_some_iff.1 hn
 refine ⟨(hg.2 _ (List.getElem_mem hr)).1 o (h2 ▸ List.getElem_mem h1),?_⟩
 have := h.pc; omega
theorem inv_ready {p : ProgL} (hg : p.goodS) {s : StL} (hi : SInv p s) {k : Nat} (h : k < s.ths.length) : s.ths[k].ready p s k := by
 have ht := hi.ths _ (List.getElem_mem h)
 have hgd : s.ths.getD k th0 = s.ths[k] := by simp [List.getD_eq_getElem?_getD,h]
 have hr : s.ths[k].rt.toNat < p.rs.length := by have := ht.rt; omega
 have e : p.rs.getD s.ths[k].rt.toNat [] = p.rs[s.ths[k].rt.toNat] := by simp [List.getD_eq_getElem?_getD,hr]
 have h24 : (p.rs.getD s.ths[k].rt.toNat []).length ≤ 24 := by rw [e]; exact (hg.2 _ (List.getElem_mem hr)).2
 refine ⟨⟨⟨ht.rt.1,by have := ht.rt.2; omega⟩,ht.pc.1,ht.pc.2⟩,⟨ht.pc.1,by have := ht.pc.2; omega⟩,fun h4 => ?_,fun o ho => ?_⟩
 ·have := ht.lock (.inr h4)
  rw [hi.owner]; exact this
 ·obtain ⟨⟨g1,g2⟩,hlt⟩ := fO hg ht ho
  obtain ⟨c1,c2,c3,_⟩ := g1
  obtain ⟨a1,a2,a3,a4,a5,a6⟩ := g2
  refine ⟨⟨fun hc => ?_,fun hc => ?_⟩,fun hf => ⟨c1,fun hc => ?_,fun hc => ?_,fun hc => ?_,?_⟩⟩
  ·exact ⟨c2.1,by rw [hi.owner]; exact a3 (.inr hc)⟩
  ·exact ⟨c3.1,by rw [hi.owner]; exact (a5 hc).2⟩
  ·exact ⟨c2.1,by rw [hi.cells]; exact a1 hc⟩
  ·exact ⟨c2.1,by rw [hi.owner]; exact a3 hc⟩
  ·exact ⟨c3.1,by rw [hi.owner]; exact (a5 hc).2⟩
  ·unfold zT at hf
   simp only [hgd] at hf
   split at hf
   ·cases hf
   ·omega
end Ai
end
section
set_option maxRecDepth 100000
namespace Ai
open Go Go.Proofs
theorem wN {p : ProgL} {s : StL} {k : Nat} {t : Th} (hi : SInv p s) (ht : TInv p t) : SInv p (s.put k t) := by
 refine ⟨by simpa [StL.put] using hi.len,hi.cells,hi.owner,fun u hu => ?_⟩
 rcases List.mem_or_eq_of_mem_set hu with h | h
 ·exact hi.ths u h
 ·subst h; exact ht
theorem inv_cells {p : ProgL} {s : StL} (hi : SInv p s) (i : Nat) (x : Nat) : SInv p { s with cells := s.cells.set i x } := ⟨hi.len,by simpa using hi.cells,hi.owner,hi.ths⟩
theorem bV {p : ProgL} {s : StL} (hi : SInv p s) (i : Nat) (x : Int) : SInv p { s with owner := s.owner.set i x } := ⟨hi.len,hi.cells,by simpa using hi.owner,hi.ths⟩
theorem inv_pop {p : ProgL} {t : Th} {o : OpL} (h : TInv p t) (hlt : t.pc < (p.rs.getD t.rt.toNat []).length) : TInv p (zC t o) := by
 refine ⟨h.rt,⟨by have := h.pc; show 0 ≤ t.pc + 1; omega,by show t.pc + 1 ≤ _; exact hlt⟩,?_,h.lock⟩
 show (t.stack.take _).length ≤ 8
 have := h.st
 simp; omega
theorem inv_push {p : ProgL} {t : Th} {o : OpL} {x : Nat} (h : TInv p t) (hlt : t.pc < (p.rs.getD t.rt.toNat []).length) (h1 : (zA o.code).1 ≤ t.stack.length) (h8 : (t.stack.length : Int) - (zA o.code).1 + 1 ≤ 8) (ht : 0 ≤ (zA o.code).1) : TInv p (zL (zC t o) x) := by
 have hp := inv_pop (o := o) h hlt
 refine ⟨hp.rt,hp.pc,?_,hp.lock⟩
 show (t.stack.take (zP t o) ++ [x]).length ≤ 8
 simp [zP,xG]; omega
theorem inv_do {p : ProgL} (hg : p.goodS) {s : StL} (hi : SInv p s) {k : Nat} (h : k < s.ths.length) {o : OpL} (hn : zZ p s.ths[k] = some o) (hf : zT s k o = 0) (e : Ev) : SInv p (doL s k o e).1 := by
 have ht := hi.ths _ (List.getElem_mem h)
 have hgd : s.ths.getD k th0 = s.ths[k] := by simp [List.getD_eq_getElem?_getD,h]
 obtain ⟨⟨g1,g2⟩,hlt⟩ := fO hg ht hn
 obtain ⟨c1,c2,c3,_⟩ := g1
 obtain ⟨a1,a2,a3,a4,a5,a6⟩ := g2
 have htk : 0 ≤ (zA o.code).1 := by
  unfold zA; split
  ·decide
  ·split
   ·decide
   ·split <;> decide
 unfold zT at hf
 simp only [hgd] at hf
 generalize s.ths[k] = t at *
 split at hf
 ·cases hf
 rename_i hst
 split at hf
 ·cases hf
 split at hf
 ·cases hf
 split at hf
 ·cases hf
 rename_i h14
 have hp := inv_pop (o := o) ht hlt
 have push : ∀ x,(zA o.code).2 = 1 → TInv p (zL (zC t o) x) := fun x h2 => inv_push ht hlt (by omega) (by omega) htk
 unfold doL
 simp only [hgd]
 have jump : ((o.code = 10 ∨ o.code = 11) → TInv p { zC t o with pc := o.a }) := fun hc => ⟨hp.rt,⟨c2.1,a2 hc⟩,hp.st,hp.lock⟩
 by_cases n1 : o.code = 1
 ·rw [if_pos n1]; exact wN hi (push _ (by simp [zA,n1]))
 rw [if_neg n1]
 by_cases n2 : o.code = 2
 ·rw [if_pos n2]; exact wN hi (push _ (by simp [zA,n2]))
 rw [if_neg n2]
 by_cases n3 : o.code = 3
 ·rw [if_pos n3]; exact wN (inv_cells hi _ _) hp
 rw [if_neg n3]
 by_cases n10 : o.code = 10
 ·rw [if_pos n10]; exact wN hi (jump (.inl n10))
 rw [if_neg n10]
 by_cases n11 : o.code = 11
 ·rw [if_pos n11]
  refine wN hi ?_
  split
  ·exact jump (.inr n11)
  ·exact hp
 rw [if_neg n11]
 by_cases n12 : o.code = 12
 ·rw [if_pos n12]; exact wN (bV hi _ _) hp
 rw [if_neg n12]
 by_cases n13 : o.code = 13
 ·rw [if_pos n13]; exact wN (bV hi _ _) hp
 rw [if_neg n13]
 by_cases n14 : o.code = 14
 ·rw [if_pos n14]
  have h5 : s.ths.length ≤ 4 := by
   have := hi.len
   have : s.ths.length ≠ 5 := fun e => h14 ⟨n14,e⟩
   omega
  refine wN ⟨by simp; omega,hi.cells,hi.owner,fun u hu => ?_⟩ (push _ (by simp [zA,n14]))
  rcases List.mem_append.1 hu with h | h
  ·exact hi.ths u h
  ·simp only [List.mem_singleton] at h
   subst h
   exact ⟨⟨c2.1,a4 n14⟩,⟨Int.le_refl _,Int.natCast_nonneg _⟩,Nat.zero_le _,fun e => by rcases e with e | e <;> cases e⟩
 rw [if_neg n14]
 by_cases n15 : o.code = 15
 ·rw [if_pos n15]; exact wN hi hp
 rw [if_neg n15]
 by_cases n16 : o.code = 16
 ·rw [if_pos n16]
  refine wN (bV hi _ _) ⟨hp.rt,⟨?_,?_⟩,hp.st,fun _ => ⟨c3.1,(a5 n16).2⟩⟩
  ·show 0 ≤ t.pc + 1 - 1
   have := ht.pc; omega
  ·show t.pc + 1 - 1 ≤ _
   have := ht.pc; show _ ≤ ((p.rs.getD t.rt.toNat []).length : Int); omega
 rw [if_neg n16]
 by_cases n17 : o.code = 17
 ·rw [if_pos n17]
  cases hw : wH s.ths o.a with
  |none => exact wN hi hp
  |some j =>
   refine wN ⟨by simpa using hi.len,hi.cells,hi.owner,fun u hu => ?_⟩ hp
   obtain ⟨i,hi2,rfl⟩ := List.mem_iff_getElem.1 hu
   have hil : i < s.ths.length := by simpa using hi2
   have hT := hi.ths _ (List.getElem_mem hil)
   rw [List.getElem_modify]
   split
   ·rename_i hji
    subst hji
    unfold wH at hw
    rw [List.findIdx?_eq_some_iff_getElem] at hw
    obtain ⟨_,hpw,_⟩ := hw
    simp only [Bool.and_eq_true,beq_iff_eq] at hpw
    exact ⟨hT.rt,hT.pc,hT.st,fun _ => hT.lock (.inl hpw.1)⟩
   ·exact hT
 rw [if_neg n17]
 refine wN hi (push _ ?_)
 have : 4 ≤ o.code ∧ o.code ≤ 9 := by have := c1.1; have := c1.2; omega
 simp only [zA]
 rw [if_neg (by omega),if_neg (by omega),if_pos this]
theorem m6 {p : ProgL} (hg : p.goodS) {s : StL} (hi : SInv p s) {k : Nat} (h : k < s.ths.length) : SInv p (stepL p s k).1 := by
 have ht := hi.ths _ (List.getElem_mem h)
 have hgd : s.ths.getD k th0 = s.ths[k] := by simp [List.getD_eq_getElem?_getD,h]
 unfold stepL
 simp only [hgd]
 split
 ·rename_i h4
  refine wN (bV hi _ _) ⟨ht.rt,?_,ht.st,fun e => by rcases e with e | e <;> cases e⟩
  cases hn : zZ p s.ths[k] with
  |none => exact ht.pc
  |some o =>
   have := (fO hg ht hn).2
   have := ht.pc
   refine ⟨?_,?_⟩
   ·show 0 ≤ s.ths[k].pc + 1
    omega
   ·show s.ths[k].pc + 1 ≤ ((p.rs.getD s.ths[k].rt.toNat []).length : Int)
    omega
 ·split
  ·exact wN hi ⟨ht.rt,ht.pc,ht.st,fun e => by rcases e with e | e <;> cases e⟩
  ·rename_i o hn
   split
   ·rename_i hf
    exact inv_do hg hi h hn hf _
   ·exact ⟨hi.len,hi.cells,hi.owner,hi.ths⟩
theorem inv_new {p : ProgL} (hg : p.goodS) : SInv p (wY p) := by
 obtain ⟨b1,b2,b3,b4⟩ := hg.1
 refine ⟨by simp [wY],?_,?_,fun t ht => ?_⟩
 ·have := b1.1; simp [wY]; omega
 ·have := b2.1; simp [wY]; omega
 ·have : t = qS 0 := by simpa [wY] using ht
  subst this
  refine ⟨⟨Int.le_refl _,?_⟩,⟨Int.le_refl _,Int.natCast_nonneg _⟩,Nat.zero_le _,fun e => by rcases e with e | e <;> cases e⟩
  have := b4.1
  show (0 : Int) < p.rs.length
  omega
theorem runOK {p : ProgL} (hg : p.goodS) : RunOK p (SInv p) := by
 obtain ⟨b1,b2,b3,b4⟩ := hg.1
 refine ⟨fun s hi => ⟨⟨by have := hi.len; omega,fun t ht => by have := (hi.ths t ht).st; omega,?_,?_⟩,hi.len⟩,fun s hi t ht => ?_,fun s hi k hk h => inv_ready hg hi h,fun s hi k hk => ?_⟩
 ·have := hi.cells; have := b1.2; omega
 ·have := hi.owner; have := b2.2; omega
 ·obtain ⟨j,hj,rfl⟩ := List.mem_iff_getElem.1 ht
  have hr := inv_ready hg hi hj
  refine ⟨hr.inP,hr.lock,fun o ho hc => ?_⟩
  obtain ⟨⟨g1,g2⟩,_⟩ := fO hg (hi.ths _ ht) ho
  have := g1.2.1.1
  have := g2.2.2.1 (.inl hc)
  rw [hi.owner]
  exact ⟨by assumption,by assumption⟩
 ·have : k < s.ths.length := by have := (List.mem_filter.1 hk).1; simpa using this
  exact m6 hg hi this
end Ai
end
section
set_option maxRecDepth 100000
namespace Ai
open Go Go.Proofs
theorem mP (o : OpL) : CallsTo EE 181 [agg (encOp o)] (· = .tup [i64 (zA o.code).1,i64 (zA o.code).2]) := by
 refine callsTo_of_AW (fn := Tryz.f181) Tryz.func181 rfl (by kernel_rfl) rfl ?_
 have go1 : (o.code = 1 ∨ o.code = 2 ∨ o.code = 14) → zA o.code = (0,1) := fun h => by simp [zA,h]
 have go2 : ¬ (o.code = 1 ∨ o.code = 2 ∨ o.code = 14) → (o.code = 3 ∨ o.code = 11 ∨ o.code = 15) → zA o.code = (1,0) := fun h1 h => by simp [zA,h1,h]
 conv => whnf
 refine kbi (fun h1 => ?_) (fun h1 => ?_)
 ·have : o.code = 1 := by simpa using h1
  conv => whnf
  rw [go1 (.inl this)]
 conv => whnf
 refine kbi (fun h2 => ?_) (fun h2 => ?_)
 ·have : o.code = 2 := by simpa using h2
  conv => whnf
  rw [go1 (.inr (.inl this))]
 conv => whnf
 refine kbi (fun h3 => ?_) (fun h3 => ?_)
 ·have : o.code = 14 := by simpa using h3
  conv => whnf
  rw [go1 (.inr (.inr this))]
 have hn : ¬ (o.code = 1 ∨ o.code = 2 ∨ o.code = 14) := by simp at h1 h2 h3; omega
 conv => whnf
 refine kbi (fun g1 => ?_) (fun g1 => ?_)
 ·have : o.code = 3 := by simpa using g1
  conv => whnf
  rw [go2 hn (.inl this)]
 conv => whnf
 refine kbi (fun g2 => ?_) (fun g2 => ?_)
 ·have : o.code = 11 := by simpa using g2
  conv => whnf
  rw [go2 hn (.inr (.inl this))]
 conv => whnf
 refine kbi (fun g3 => ?_) (fun g3 => ?_)
 ·have : o.code = 15 := by simpa using g3
  conv => whnf
  rw [go2 hn (.inr (.inr this))]
 have hn2 : ¬ (o.code = 3 ∨ o.code = 11 ∨ o.code = 15) := by simp at g1 g2 g3; omega
 have go3 : 4 ≤ o.code ∧ o.code ≤ 9 → zA o.code = (2,1) := fun h => by simp only [zA,if_neg hn,if_neg hn2]; exact if_pos h
 have go4 : ¬ (4 ≤ o.code ∧ o.code ≤ 9) → zA o.code = (0,0) := fun h => by simp only [zA,if_neg hn,if_neg hn2]; exact if_neg h
 conv => whnf
 refine kbi (fun k1 => ?_) (fun k1 => ?_)
 ·have : o.code = 4 := by simpa using k1
  conv => whnf
  rw [go3 (by omega)]
 conv => whnf
 refine kbi (fun k2 => ?_) (fun k2 => ?_)
 ·have : o.code = 5 := by simpa using k2
  conv => whnf
  rw [go3 (by omega)]
 conv => whnf
 refine kbi (fun k3 => ?_) (fun k3 => ?_)
 ·have : o.code = 6 := by simpa using k3
  conv => whnf
  rw [go3 (by omega)]
 conv => whnf
 refine kbi (fun k4 => ?_) (fun k4 => ?_)
 ·have : o.code = 7 := by simpa using k4
  conv => whnf
  rw [go3 (by omega)]
 conv => whnf
 refine kbi (fun k5 => ?_) (fun k5 => ?_)
 ·have : o.code = 8 := by simpa using k5
  conv => whnf
  rw [go3 (by omega)]
 conv => whnf
 refine kbi (fun k6 => ?_) (fun k6 => ?_)
 ·have : o.code = 9 := by simpa using k6
  conv => whnf
  rw [go3 (by omega)]
 conv => whnf
 rw [go4 (by simp at k1 k2 k3 k4 k5 k6; omega)]
theorem sL (p : ProgL) (t : Th) (hp : p.wf) (h : t.inP p) : CallsTo EE 151 [agg (encProg p),agg (zF t)] (· = .tup [agg (encOp ((zZ p t).getD op0)),bv (zZ p t).isSome]) := by
 refine callsTo_of_AW (fn := Tryz.f151) Tryz.func151 rfl (by kernel_rfl) rfl ?_
 obtain ⟨⟨a1,a2⟩,b1,b2⟩ := h
 have hr : t.rt.toNat < p.rs.length := by omega
 conv => whnf
 refine ⟨zO p.rs[t.rt.toNat],⟨a1,?_,rfl⟩,?_⟩
 ·show (p.rs.map zO)[t.rt.toNat]? = _
  simp [hr]
 conv => whnf
 have hrow : p.rs.getD t.rt.toNat [] = p.rs[t.rt.toNat] := by simp [List.getD_eq_getElem?_getD,hr]
 rw [hrow] at b2
 refine kbi (fun h => ?_) (fun h => ?_)
 ·have h1 : t.pc.toNat < p.rs[t.rt.toNat].length := by simp at h; omega
  have h2 : zZ p t = some p.rs[t.rt.toNat][t.pc.toNat] := by unfold zZ; rw [hrow]; simp [h1]
  conv => whnf
  refine ⟨encOp p.rs[t.rt.toNat][t.pc.toNat],⟨b1,?_,rfl⟩,?_⟩
  ·simp [h1]
  conv => whnf
  rw [h2]
  rfl
 ·have h1 : t.pc = (p.rs[t.rt.toNat].length : Int) := by simp at h; omega
  have h2 : zZ p t = none := by unfold zZ; rw [hrow,h1]; simp
  conv => whnf
  rw [h2]
  rfl
end Ai
end
section
set_option maxRecDepth 100000
namespace Ai
open Go Go.Proofs
def yN : Prop := ∀ (x : Nat) (many : Int),CallsTo EE 183 [.d (.flt x),i64 many] (· = .tup [i64 ((yP x many).getD 0),bv (yP x many).isSome])
theorem sY (hI : yN) (s : StL) (t : Th) (ht : t.stack.length ≤ 1048576) : CallsTo EE 167 [.fp (encSt s),agg (zF t)] (· = .tup [i64 ((zS s t).getD 0),bv (zS s t).isSome]) := by
 refine callsTo_of_AW (fn := Tryz.f167) Tryz.func167 rfl (by kernel_rfl) rfl ?_
 conv => whnf
 refine kbi (fun h => ?_) (fun h => ?_)
 ·have h1 : t.stack = [] := by
   have : (t.stack.map encF).length = 0 := by simpa using h
   simpa using this
  conv => whnf
  simp [zS,h1]
 ·have hne : t.stack ≠ [] := fun e => h (by rw [e]; rfl)
  have hpos : 0 < t.stack.length := List.length_pos_iff.2 hne
  conv => whnf
  refine .inr (.inl ⟨18,[],?_⟩)
  conv => whnf
  refine ⟨encF (t.stack.getLast hne),⟨?_,?_,rfl⟩,?_⟩
  ·rw [zE (by simp; omega) (by simp; omega)]; simp; omega
  ·rw [zE (by simp; omega) (by simp; omega)]
   have e : ((((t.stack.map encF).length : Int) - 1).toNat) = t.stack.length - 1 := by simp
   rw [e,List.getElem?_map,← List.getLast?_eq_getElem?,List.getLast?_eq_some_getLast hne]
   rfl
  conv => whnf
  refine ⟨_,hI _ _,?_⟩
  conv => whnf
  have hj : zS s t = yP (t.stack.getLast hne) (s.ths.map zF).length := by
   unfold zS
   rw [List.getLast?_eq_some_getLast hne]
   simp
  rw [← hj]
  refine ⟨by kernel_rfl,?_⟩
  conv => whnf
end Ai
end
section
set_option maxRecDepth 100000
namespace Ai
open Go Go.Proofs
open Classical in
/-- impl.(*State).waits: whether a thread waits -/
theorem aF (hI : yN) (p : ProgL) (s : StL) (t : Th) (hp : p.wf) (ht : t.stack.length ≤ 1048576) (hv : t.seen p s) :
  CallsTo EE 138 [.fp (encSt s),agg (encProg p),agg (zF t)] (fun r => ∃ w : Int,r = .tup [i64 w,bp (0 ≤ zG p s t)] ∧ (0 ≤ zG p s t → w = zG p s t)) := by
 refine callsTo_of_AW (fn := Tryz.f138) Tryz.func138 rfl (by kernel_rfl) rfl ?_
 have own_get : ∀ (a : Int),0 ≤ a ∧ a < s.owner.length → 0 ≤ a ∧ (s.owner.map encInt)[a.toNat]? = some (encInt (s.owner.getD a.toNat 0)) ∧ (encInt (s.owner.getD a.toNat 0)).length = 1 := by
  intro a ha
  refine ⟨ha.1,?_,rfl⟩
  have : a.toNat < s.owner.length := by omega
  simp [this,List.getD_eq_getElem?_getD]
 conv => whnf
 refine kbi (fun h4 => ?_) (fun h4 => ?_)
 ·have h4 : t.st = 4 := by simpa using h4
  have hb : zG p s t = s.owner.getD t.lock.toNat 0 := by simp only [zG,if_pos h4]
  conv => whnf
  refine .inr (.inl ⟨19,[],?_⟩)
  conv => whnf
  refine ⟨_,own_get t.lock (hv.lock h4),?_⟩
  conv => whnf
  refine ⟨_,own_get t.lock (hv.lock h4),?_⟩
  conv => whnf
  refine kbi (fun h0 => ?_) (fun h0 => ?_)
  ·have h0 : 0 ≤ s.owner.getD (t.lock).toNat 0 := by simpa using h0
   conv => whnf
   refine ⟨by kernel_rfl,?_⟩
   conv => whnf
   exact ⟨_,by rw [hb]; simp only [bp,sI h0],fun _ => hb.symm⟩
  ·have h0 : ¬ 0 ≤ s.owner.getD (t.lock).toNat 0 := by simpa using h0
   conv => whnf
   refine ⟨by kernel_rfl,?_⟩
   conv => whnf
   exact ⟨_,by rw [hb]; simp only [bp,iY h0],fun _ => hb.symm⟩
 have h4 : ¬ t.st = 4 := by simpa using h4
 have none_ : zG p s t = -1 → ∃ w : Int,AV.tup [i64 0,bv false] = .tup [i64 w,bp (0 ≤ zG p s t)] ∧ (0 ≤ zG p s t → w = zG p s t) := fun e =>
  ⟨0,by rw [e]; simp only [bp,iY (show ¬ (0 : Int) ≤ -1 by decide)],fun h => by rw [e] at h; exact absurd h (by decide)⟩
 conv => whnf
 refine kbi (fun h1 => ?_) (fun h1 => ?_)
 ·have h1 : t.st = 1 := by simpa using h1
  conv => whnf
  refine ⟨_,sL p t hp hv.inP,?_⟩
  rintro r rfl
  conv => whnf
  cases hn : zZ p t with
  |none =>
   conv => whnf
   exact none_ (by unfold zG; rw [if_neg h4,hn])
  |some o =>
   conv => whnf
   refine kbi (fun h2 => ?_) (fun h2 => ?_)
   ·have h2 : o.code = 12 := by simpa using h2
    have hb : zG p s t = s.owner.getD o.a.toNat 0 := by simp [zG,h4,hn,h1,h2]
    conv => whnf
    refine .inr (.inl ⟨19,[],?_⟩)
    conv => whnf
    refine ⟨_,own_get o.a (hv.op o hn h2),?_⟩
    conv => whnf
    refine ⟨_,own_get o.a (hv.op o hn h2),?_⟩
    conv => whnf
    refine kbi (fun h0 => ?_) (fun h0 => ?_)
    ·have h0 : 0 ≤ s.owner.getD (o.a).toNat 0 := by simpa using h0
     conv => whnf
     refine ⟨by kernel_rfl,?_⟩
     conv => whnf
     exact ⟨_,by rw [hb]; simp only [bp,sI h0],fun _ => hb.symm⟩
    ·have h0 : ¬ 0 ≤ s.owner.getD (o.a).toNat 0 := by simpa using h0
     conv => whnf
     refine ⟨by kernel_rfl,?_⟩
     conv => whnf
     exact ⟨_,by rw [hb]; simp only [bp,iY h0],fun _ => hb.symm⟩
   have h2 : ¬ o.code = 12 := by simpa using h2
   conv => whnf
   refine kbi (fun h3 => ?_) (fun h3 => ?_)
   ·have h3 : o.code = 15 := by simpa using h3
    conv => whnf
    refine ⟨_,sY hI s t ht,?_⟩
    rintro r rfl
    conv => whnf
    cases hj : zS s t with
    |none =>
     conv => whnf
     refine .inr (.inl ⟨15,[],?_⟩)
     conv => whnf
     refine ⟨by kernel_rfl,?_⟩
     conv => whnf
     exact none_ (by simp [zG,h4,hn,h1,h2,h3,hj])
    |some k =>
     obtain ⟨k1,k2⟩ := kA idxRange hj
     have hk : k.toNat < s.ths.length := by omega
     conv => whnf
     refine .inr (.inl ⟨15,[],?_⟩)
     conv => whnf
     refine ⟨zF s.ths[k.toNat],⟨k1,by simp [hk],rfl⟩,?_⟩
     conv => whnf
     refine kbi (fun h6 => ?_) (fun h6 => ?_)
     ·have h6 : ¬ s.ths[k.toNat].st = 2 := by simpa using h6
      conv => whnf
      refine ⟨by kernel_rfl,?_⟩
      conv => whnf
      have hb : zG p s t = k := by simp [zG,h4,hn,h1,h2,h3,hj,List.getD_eq_getElem?_getD,hk,h6]
      exact ⟨k,by rw [hb]; simp only [bp,sI k1]; rfl,fun _ => hb.symm⟩
     ·have h6 : s.ths[k.toNat].st = 2 := by simpa using h6
      conv => whnf
      refine ⟨by kernel_rfl,?_⟩
      conv => whnf
      have hb : zG p s t = -1 := by simp [zG,h4,hn,h1,h2,h3,hj,List.getD_eq_getElem?_getD,hk,h6]
      exact ⟨k,by rw [hb]; simp only [bp,iY (show ¬ (0 : Int) ≤ -1 by decide)]; rfl,fun h => by rw [hb] at h; exact absurd h (by decide)⟩
   ·have h3 : ¬ o.code = 15 := by simpa using h3
    conv => whnf
    exact none_ (by simp [zG,h4,hn,h1,h2,h3])
 ·have h1 : ¬ t.st = 1 := by simpa using h1
  conv => whnf
  exact none_ (by
   unfold zG; rw [if_neg h4]
   cases zZ p t with
   |none => rfl
   |some o => simp [h1])
end Ai
end
section
set_option maxRecDepth 100000
namespace Ai
open Go Go.Proofs
theorem r5 (hI : yN) (p : ProgL) (s : StL) (hp : p.wf) (hs : s.small) (hv : ∀ t ∈ s.ths,t.seen p s) :
  CallsTo EE 114 [.fp (encSt s),agg (encProg p)] (· = .uq 3 1 ((enabledL p s).map encN)) := by
 refine callsTo_of_AW (fn := Tryz.f114) Tryz.func114 rfl (by kernel_rfl) rfl ?_
 conv => whnf
 refine yR (fun k : Nat => [(0,.fp (encSt s)),(3,.ptr (.n 3) 0),(5,.ref (.n 10) 0 (zH p s k).length),(14,sl (s.ths.map zF)),(15,i64 (s.ths.map zF).length),(16,i64 k)])
  (fun k => [(.n 3,.vs 31 ((encProg p).map .d)),(.n 10,.ds 3 1 ((zH p s k).map encN))]) (fun k => s.ths.length - k) (fun k => k ≤ s.ths.length) 0
  Weak.refl ⟨rfl,rfl,rfl,rfl,rfl,rfl,trivial⟩ ⟨rfl,rfl,trivial⟩ (Nat.zero_le _) ?_
 rintro k τ H hk
 conv => whnf
 refine kbi (fun h => ?_) (fun h => ?_)
 ·have hlt := xM h
  conv => whnf
  refine ⟨zF s.ths[k],yB zF hlt rfl,?_⟩
  conv => whnf
  have hg : s.ths.getD k th0 = s.ths[k] := by simp [List.getD_eq_getElem?_getD,hlt]
  have hle : (zH p s k).length ≤ k := enabledTo_le
  have hn := hs.1
  refine ⟨_,aF hI p s s.ths[k] hp (hs.2.1 _ (List.getElem_mem hlt)) (hv _ (List.getElem_mem hlt)),?_⟩
  rintro r ⟨w,rfl,-⟩
  conv => whnf
  refine kbi (fun hf => ?_) (fun hf => ?_)
  ·have hf : s.fault = 0 := by simpa using hf
   by_cases hb : 0 ≤ zG p s s.ths[k]
   ·simp only [bp,sI hb]
    conv => whnf
    have hgo : uV p s k = false := by unfold uV; rw [hg]; exact decide_eq_false fun e => by have := e.2.2; omega
    have hsk : zH p s (k + 1) = zH p s k := by rw [yQ,hgo]; simp
    refine ⟨k + 1,by omega,by show s.ths.length - (k + 1) < s.ths.length - k; omega,⟨rfl,rfl,?_,rfl,rfl,next_i64 hlt (by omega),trivial⟩,⟨rfl,?_,trivial⟩⟩
    ·rw [hsk]; rfl
    ·rw [hsk]; rfl
   ·simp only [bp,iY hb]
    conv => whnf
    refine kbi (fun h1 => ?_) (fun h1 => ?_)
    ·have h1 : s.ths[k].st = 1 := by simpa using h1
     conv => whnf
     refine ⟨⟨rfl,by simp; omega,by simp; omega⟩,?_⟩
     conv => whnf
     have hgo : uV p s k = true := by unfold uV; rw [hg]; exact decide_eq_true ⟨hf,.inl h1,by omega⟩
     have hsk : zH p s (k + 1) = zH p s k ++ [k] := by rw [yQ,hgo]; simp
     refine ⟨k + 1,by omega,by show s.ths.length - (k + 1) < s.ths.length - k; omega,⟨rfl,rfl,?_,rfl,rfl,next_i64 hlt (by omega),trivial⟩,⟨rfl,?_,trivial⟩⟩
     ·rw [hsk]
      show AV.ref (.n 10) 0 ((zH p s k).length + 1) = _
      simp
     ·rw [hsk]
      show some (Ob.ds 3 1 (((zH p s k).map encN).take (zH p s k).length ++ [[di k]])) = _
      rw [List.take_of_length_le (by simp)]
      simp [encN]
    ·have h1 : ¬ s.ths[k].st = 1 := by simpa using h1
     conv => whnf
     refine kbi (fun h4 => ?_) (fun h4 => ?_)
     ·have h4 : s.ths[k].st = 4 := by simpa using h4
      conv => whnf
      refine ⟨⟨rfl,by simp; omega,by simp; omega⟩,?_⟩
      conv => whnf
      have hgo : uV p s k = true := by unfold uV; rw [hg]; exact decide_eq_true ⟨hf,.inr h4,by omega⟩
      have hsk : zH p s (k + 1) = zH p s k ++ [k] := by rw [yQ,hgo]; simp
      refine ⟨k + 1,by omega,by show s.ths.length - (k + 1) < s.ths.length - k; omega,⟨rfl,rfl,?_,rfl,rfl,next_i64 hlt (by omega),trivial⟩,⟨rfl,?_,trivial⟩⟩
      ·rw [hsk]
       show AV.ref (.n 10) 0 ((zH p s k).length + 1) = _
       simp
      ·rw [hsk]
       show some (Ob.ds 3 1 (((zH p s k).map encN).take (zH p s k).length ++ [[di k]])) = _
       rw [List.take_of_length_le (by simp)]
       simp [encN]
     ·have h4 : ¬ s.ths[k].st = 4 := by simpa using h4
      conv => whnf
      have hgo : uV p s k = false := by unfold uV; rw [hg]; exact decide_eq_false fun e => e.2.1.elim h1 h4
      have hsk : zH p s (k + 1) = zH p s k := by rw [yQ,hgo]; simp
      refine ⟨k + 1,by omega,by show s.ths.length - (k + 1) < s.ths.length - k; omega,⟨rfl,rfl,?_,rfl,rfl,next_i64 hlt (by omega),trivial⟩,⟨rfl,?_,trivial⟩⟩
      ·rw [hsk]; rfl
      ·rw [hsk]; rfl
  ·have hf : ¬ s.fault = 0 := by simpa using hf
   conv => whnf
   have hgo : uV p s k = false := by unfold uV; exact decide_eq_false fun e => hf e.1
   have hsk : zH p s (k + 1) = zH p s k := by rw [yQ,hgo]; simp
   refine ⟨k + 1,by omega,by show s.ths.length - (k + 1) < s.ths.length - k; omega,⟨rfl,rfl,?_,rfl,rfl,next_i64 hlt (by omega),trivial⟩,⟨rfl,?_,trivial⟩⟩
   ·rw [hsk]; rfl
   ·rw [hsk]; rfl
 ·have hge : s.ths.length ≤ k := by simpa using h
  have hkk : k = s.ths.length := by omega
  subst hkk
  conv => whnf
  refine congrArg (AV.uq 3 1) ?_
  rw [List.take_of_length_le (by simp)]
  rfl
end Ai
end
section
set_option maxRecDepth 100000
namespace Ai
open Go Go.Proofs
theorem eP (hI : yN) (s : StL) (k : Nat) (o : OpL) (hk : k < s.ths.length) (hs : s.small) (ho : o.inS s) : CallsTo EE 152 [.fp (encSt s),i64 k,agg (encOp o)] (· = i64 (zT s k o)) := by
 refine callsTo_of_AW (fn := Tryz.f152) Tryz.func152 rfl (by kernel_rfl) rfl ?_
 have hg : s.ths.getD k th0 = s.ths[k] := by simp [List.getD_eq_getElem?_getD,hk]
 have hst := hs.2.1 _ (List.getElem_mem hk)
 conv => whnf
 refine ⟨zF s.ths[k],yB zF hk rfl,?_⟩
 conv => whnf
 refine ⟨_,mP o,?_⟩
 rintro r rfl
 conv => whnf
 have ht : 0 ≤ (zA o.code).1 ∧ (zA o.code).1 ≤ 2 ∧ 0 ≤ (zA o.code).2 ∧ (zA o.code).2 ≤ 1 := by
  unfold zA; split
  ·decide
  ·split
   ·decide
   ·split <;> decide
 have e1 : (IntKind.i64.wrap ((s.ths[k].stack.length : Int) - (zA o.code).1)) = (s.ths[k].stack.length : Int) - (zA o.code).1 := zE (by omega) (by omega)
 refine kbi (fun h1 => ?_) (fun h1 => ?_)
 ·conv => whnf
  have h1 : (s.ths[k].stack.length : Int) < (zA o.code).1 := by simpa using h1
  simp only [zT,hg]
  rw [if_pos (.inl h1)]
 have h1 : ¬ (s.ths[k].stack.length : Int) < (zA o.code).1 := by simpa using h1
 conv => whnf
 rw [show (List.map encF s.ths[k].stack).length = s.ths[k].stack.length by simp,e1,zE (by omega) (by omega)]
 refine kbi (fun h2 => ?_) (fun h2 => ?_)
 ·have h2 : 8 < (s.ths[k].stack.length : Int) - (zA o.code).1 + (zA o.code).2 := by simpa using h2
  conv => whnf
  simp only [zT,hg]
  rw [if_pos (.inr h2)]
 have h2 : ¬ 8 < (s.ths[k].stack.length : Int) - (zA o.code).1 + (zA o.code).2 := by simpa using h2
 have hn1 : ¬ ((s.ths[k].stack.length : Int) < (zA o.code).1 ∨ 8 < (s.ths[k].stack.length : Int) - (zA o.code).1 + (zA o.code).2) := fun e => e.elim h1 h2
 conv => whnf
 have fin : ∀ n : Int,(if (o.code = 13 ∧ s.owner.getD o.a.toNat 0 ≠ k) ∨ (o.code = 16 ∧ s.owner.getD o.b.toNat 0 ≠ k) then 2
   else if o.code = 15 ∧ (zS s s.ths[k]).getD (-1) < 0 then 3
   else if o.code = 14 ∧ s.ths.length = 5 then 4 else 0) = n → AV.d (.int .i64 n) = i64 (zT s k o) := by
  intro n hn
  rw [← hn]
  simp only [zT,hg]
  rw [if_neg hn1]
 have own_get : ∀ (a : Int),0 ≤ a ∧ a < s.owner.length → 0 ≤ a ∧ (s.owner.map encInt)[a.toNat]? = some (encInt (s.owner.getD a.toNat 0)) ∧ (encInt (s.owner.getD a.toNat 0)).length = 1 := by
  intro a ha
  refine ⟨ha.1,?_,rfl⟩
  have : a.toNat < s.owner.length := by omega
  simp [this,List.getD_eq_getElem?_getD]
 refine kbi (fun h3 => ?_) (fun h3 => ?_)
 ·have h3 : o.code = 13 := by simpa using h3
  conv => whnf
  refine .inr (.inl ⟨10,[],?_⟩)
  conv => whnf
  refine ⟨_,own_get o.a (ho.1 h3),?_⟩
  conv => whnf
  refine kbi (fun h4 => ?_) (fun h4 => ?_)
  ·have h4 : s.owner.getD o.a.toNat 0 ≠ k := by simpa using h4
   conv => whnf
   refine ⟨by kernel_rfl,?_⟩
   conv => whnf
   exact fin 2 (by rw [if_pos (.inl ⟨h3,h4⟩)])
  have h4 : ¬ s.owner.getD o.a.toNat 0 ≠ k := by simpa using h4
  conv => whnf
  refine ⟨by kernel_rfl,?_⟩
  conv => whnf
  exact fin 0 (by rw [if_neg (by rintro (⟨_,e⟩ | ⟨e,_⟩); exact h4 e; omega),if_neg (by omega),if_neg (by omega)])
 have h3 : ¬ o.code = 13 := by simpa using h3
 conv => whnf
 refine kbi (fun h4 => ?_) (fun h4 => ?_)
 ·have h4 : o.code = 16 := by simpa using h4
  conv => whnf
  refine .inr (.inl ⟨10,[],?_⟩)
  conv => whnf
  refine ⟨_,own_get o.b (ho.2 h4),?_⟩
  conv => whnf
  refine kbi (fun h5 => ?_) (fun h5 => ?_)
  ·have h5 : s.owner.getD o.b.toNat 0 ≠ k := by simpa using h5
   conv => whnf
   refine ⟨by kernel_rfl,?_⟩
   conv => whnf
   exact fin 2 (by rw [if_pos (.inr ⟨h4,h5⟩)])
  have h5 : ¬ s.owner.getD o.b.toNat 0 ≠ k := by simpa using h5
  conv => whnf
  refine ⟨by kernel_rfl,?_⟩
  conv => whnf
  exact fin 0 (by rw [if_neg (by rintro (⟨e,_⟩ | ⟨_,e⟩); exact h3 e; exact h5 e),if_neg (by omega),if_neg (by omega)])
 have h4 : ¬ o.code = 16 := by simpa using h4
 have hn2 : ¬ ((o.code = 13 ∧ s.owner.getD o.a.toNat 0 ≠ k) ∨ (o.code = 16 ∧ s.owner.getD o.b.toNat 0 ≠ k)) := by
  rintro (⟨e,_⟩ | ⟨e,_⟩)
  ·exact h3 e
  ·exact h4 e
 conv => whnf
 refine kbi (fun h5 => ?_) (fun h5 => ?_)
 ·have h5 : o.code = 15 := by simpa using h5
  conv => whnf
  refine ⟨_,sY hI s s.ths[k] hst,?_⟩
  rintro r rfl
  conv => whnf
  cases hj : zS s s.ths[k] with
  |none =>
   conv => whnf
   exact fin 3 (by rw [if_neg hn2,if_pos ⟨h5,by rw [hj]; decide⟩])
  |some n =>
   conv => whnf
   have := kA idxRange hj
   exact fin 0 (by rw [if_neg hn2,if_neg (fun e => by have e2 := e.2; rw [hj] at e2; simp only [Option.getD_some] at e2; omega),if_neg (by omega)])
 have h5 : ¬ o.code = 15 := by simpa using h5
 conv => whnf
 refine kbi (fun h6 => ?_) (fun h6 => ?_)
 ·have h6 : o.code = 14 := by simpa using h6
  conv => whnf
  refine kbi (fun h7 => ?_) (fun h7 => ?_)
  ·have h7 : s.ths.length = 5 := by
    have : ((s.ths.map zF).length : Int) = 5 := by simpa using h7
    simp at this; omega
   conv => whnf
   exact fin 4 (by rw [if_neg hn2,if_neg (fun e => h5 e.1),if_pos ⟨h6,h7⟩])
  have h7 : ¬ s.ths.length = 5 := fun e => h7 (by simp [e])
  conv => whnf
  exact fin 0 (by rw [if_neg hn2,if_neg (fun e => h5 e.1),if_neg (fun e => h7 e.2)])
 have h6 : ¬ o.code = 14 := by simpa using h6
 conv => whnf
 exact fin 0 (by rw [if_neg hn2,if_neg (fun e => h5 e.1),if_neg (fun e => h6 e.1)])
end Ai
end
section
set_option maxRecDepth 100000
namespace Ai
open Go Go.Proofs
def onP (p : ProgL) (k : Nat) : List (Key × Ob) := [(.n 2,.vs 76 [.d .nil,.d .nil,.d .nil,i64 0]),(.n 3,.vs 76 [.dref (.n 6) 1,.ref (.n 9) 0 p.cells.toNat,.ref (.n 12) 0 p.locks.toNat,i64 0]),
 (.n 6,.rs 123 6 [[i64 0,i64 0,i64 1,i64 (-1),i64 (-1),.ref (.n 905) 0 0]]),(.n 905,.ds 105 1 []),(.n 9,.ds 105 1 (List.replicate p.cells.toNat [.flt 0])),(.n 12,.ds 3 1 (List.replicate k [di (-1)] ++ List.replicate (p.locks.toNat - k) [di 0]))]
theorem repl_step {n k : Nat} {d : D} {b : List D} (h : k < n) : wJ (List.replicate k [d] ++ List.replicate (n - k) b) 1 (0 + ((k : Nat) : Int).toNat) 0 [d] = List.replicate (k + 1) [d] ++ List.replicate (n - (k + 1)) b := by
 have e1 : 0 + ((k : Nat) : Int).toNat = k := by omega
 have e2 : n - k = (n - (k + 1)) + 1 := by omega
 rw [e1]
 unfold wJ
 rw [show (Nat.beq 0 0 && Nat.beq [d].length 1) = true from rfl,cond_true,List.set_append,List.length_replicate,if_neg (by omega),Nat.sub_self,e2,List.replicate_succ,List.set_cons_zero,List.replicate_succ']
 simp
theorem start_ok (p : ProgL) (h1 : InR p.cells 0 1048576) (h2 : InR p.locks 0 1048576) : CallsTo EE 111 [agg (encProg p)] (· = .own (jY (wY p))) := by
 refine callsTo_of_AW (fn := Tryz.f111) Tryz.func111 rfl (by kernel_rfl) rfl ?_
 have a1 := h1.1
 have a2 := h1.2
 have b1 := h2.1
 have b2 := h2.2
 conv => whnf
 refine .inr (.inl ⟨10,[2715],?_⟩)
 conv => whnf
 refine ⟨_,kG 0,?_⟩
 conv => whnf
 refine ⟨⟨by omega,by omega,by show 8 * p.cells ≤ _; omega,by omega⟩,?_⟩
 conv => whnf
 refine ⟨⟨by omega,by omega,by show 8 * p.locks ≤ _; omega,by omega⟩,?_⟩
 conv => whnf
 refine ⟨by kernel_rfl,?_⟩
 conv => whnf
 refine yR (fun k : Nat => [(2,.ptr (.n 2) 0),(3,.ptr (.n 3) 0),(16,i64 p.locks.toNat),(17,i64 k)]) (fun k => onP p k) (fun k => p.locks.toNat - k) (fun k => k ≤ p.locks.toNat) 0
  Weak.refl ⟨rfl,rfl,rfl,rfl,trivial⟩ ⟨rfl,rfl,rfl,rfl,rfl,rfl,trivial⟩ (Nat.zero_le _) ?_
 rintro k τ H hk
 conv => whnf
 refine kbi (fun h => ?_) (fun h => ?_)
 ·have hlt : k < p.locks.toNat := lt_of_dec h
  conv => whnf
  refine ⟨⟨by omega,by omega⟩,?_⟩
  conv => whnf
  refine ⟨k + 1,by omega,by show p.locks.toNat - (k + 1) < p.locks.toNat - k; omega,⟨rfl,rfl,rfl,next_i64 hlt (by omega),trivial⟩,⟨rfl,rfl,rfl,rfl,rfl,?_,trivial⟩⟩
  exact congrArg (fun x => some (Ob.ds 3 1 x)) (repl_step hlt)
 ·have hge : p.locks.toNat ≤ k := ge_of_dec (by simpa using h)
  have hkc : k = p.locks.toNat := by omega
  subst hkc
  conv => whnf
  refine .inr (.inr ⟨jY (wY p),_,(vD 6 900).trans ((jD 905 900 0).trans ((vD 9 901).trans (vD 12 902))),?_,?_,gJ ⟨⟨rfl,fun j q hq => ?_⟩,?_,?_,trivial,trivial⟩,rfl⟩)
  ·show some [AV.agg [.dref 900 1,.ref 901 0 p.cells.toNat,.ref 902 0 p.locks.toNat,i64 0]] = _
   simp [ownR,ownR1,jY,jV,wY]
   exact ⟨rfl,rfl,rfl⟩
  ·intro v hv
   simp only [jY,List.mem_cons,List.not_mem_nil,or_false] at hv
   rcases hv with rfl | rfl | rfl | rfl
   ·rfl
   ·trivial
   ·trivial
   ·trivial
  ·match j,hq with
   | 0,hq => injection hq with hq; subst hq; rfl
   |j + 1,hq => cases hq
  ·show some (Ob.ds 105 1 (List.replicate p.cells.toNat [.flt 0])) = some (Ob.ds 105 1 ((List.replicate p.cells.toNat 0).map encF))
   rw [List.map_replicate]; rfl
  ·show some (Ob.ds 3 1 (List.replicate p.locks.toNat [di (-1)] ++ List.replicate (p.locks.toNat - p.locks.toNat) [di 0])) = some (Ob.ds 3 1 ((List.replicate p.locks.toNat (-1)).map encInt))
   rw [List.map_replicate,Nat.sub_self]
   exact congrArg (fun x => some (Ob.ds 3 1 x)) (List.append_nil _)
end Ai
end
section
set_option maxRecDepth 100000
namespace Ai
open Go Go.Proofs
def dX (o : Option Nat) : Int := match o with | some k => k | none => -1
theorem gP {α : Type} {f : α → Bool} {l : List α} {k : Nat} (hk : k < l.length) (h : ∀ x ∈ l.take k,f x = false) (hf : f l[k] = true) : l.findIdx? f = some k := by
 rw [List.findIdx?_eq_some_iff_getElem]
 refine ⟨hk,hf,fun j hj => ?_⟩
 have := h l[j] (List.mem_take_iff_getElem.2 ⟨j,by omega,rfl⟩)
 simp [this]
theorem gQ {α : Type} {f : α → Bool} {l : List α} (h : ∀ x ∈ l,f x = false) : l.findIdx? f = none := by
 rw [List.findIdx?_eq_none_iff]; exact h
theorem kI (l : List Th) (hl : l.length ≤ 1048576) (g : FuncId) (caps : List AV) (hc : caps = [] ∨ ∃ c,caps = [.fp c]) (f : Th → Bool) (hg : ∀ t ∈ l,CallsTo EE g (agg (zF t) :: caps) (· = bv (f t))) :
  CallsTo EE 184 [sl (l.map zF),.fn g caps] (· = i64 (dX (l.findIdx? f))) := by
 refine callsTo_of_AW (fn := Tryz.f184) Tryz.func184 rfl (by kernel_rfl) rfl ?_
 rcases hc with rfl | ⟨c,rfl⟩
 ·conv => whnf
  refine yR (fun k : Nat => [(0,sl (l.map zF)),(1,.fn g []),(7,i64 (l.map zF).length),(8,i64 k)]) (fun k => []) (fun k => l.length - k) (fun k => k ≤ l.length ∧ ∀ x ∈ l.take k,f x = false) 0
   Weak.refl ⟨rfl,rfl,rfl,rfl,trivial⟩ trivial ⟨Nat.zero_le _,by simp⟩ ?_
  rintro k τ H ⟨hk,hall⟩
  conv => whnf
  refine kbi (fun h => ?_) (fun h => ?_)
  ·have hlt := xM h
   conv => whnf
   refine ⟨zF l[k],yB zF hlt rfl,?_⟩
   conv => whnf
   refine ⟨_,hg _ (List.getElem_mem hlt),?_⟩
   rintro r rfl
   cases hf : f l[k] with
   |true =>
    conv => whnf
    rw [gP hlt hall hf]; rfl
   |false =>
    conv => whnf
    exact ⟨k + 1,⟨by omega,qD hall hlt hf⟩,by show l.length - (k + 1) < l.length - k; omega,⟨rfl,rfl,rfl,next_i64 hlt (by omega),trivial⟩,trivial⟩
  ·have hge : l.length ≤ k := by simpa using h
   conv => whnf
   rw [gQ (kF hall hge)]; rfl
 ·conv => whnf
  refine yR (fun k : Nat => [(0,sl (l.map zF)),(1,.fn g [.fp c]),(7,i64 (l.map zF).length),(8,i64 k)]) (fun k => []) (fun k => l.length - k) (fun k => k ≤ l.length ∧ ∀ x ∈ l.take k,f x = false) 0
   Weak.refl ⟨rfl,rfl,rfl,rfl,trivial⟩ trivial ⟨Nat.zero_le _,by simp⟩ ?_
  rintro k τ H ⟨hk,hall⟩
  conv => whnf
  refine kbi (fun h => ?_) (fun h => ?_)
  ·have hlt := xM h
   conv => whnf
   refine ⟨zF l[k],yB zF hlt rfl,?_⟩
   conv => whnf
   refine ⟨_,hg _ (List.getElem_mem hlt),?_⟩
   rintro r rfl
   cases hf : f l[k] with
   |true =>
    conv => whnf
    rw [gP hlt hall hf]; rfl
   |false =>
    conv => whnf
    exact ⟨k + 1,⟨by omega,qD hall hlt hf⟩,by show l.length - (k + 1) < l.length - k; omega,⟨rfl,rfl,rfl,next_i64 hlt (by omega),trivial⟩,trivial⟩
  ·have hge : l.length ≤ k := by simpa using h
   conv => whnf
   rw [gQ (kF hall hge)]; rfl
theorem fixI_nn {α : Type} {f : α → Bool} {l : List α} : decide (dX (l.findIdx? f) ≥ 0) = l.any f := by
 cases h : l.findIdx? f with
 |none =>
  rw [List.findIdx?_eq_none_iff] at h
  have : l.any f = false := by
   rw [List.any_eq_false]; intro x hx; simp [h x hx]
  rw [this]; rfl
 |some k =>
  rw [List.findIdx?_eq_some_iff_getElem] at h
  obtain ⟨hk,hf,_⟩ := h
  have : l.any f = true := List.any_eq_true.2 ⟨_,List.getElem_mem hk,hf⟩
  rw [this]
  simp [dX]
theorem nU (l : List Th) (hl : l.length ≤ 1048576) (g : FuncId) (f : Th → Bool) (hg : ∀ t ∈ l,CallsTo EE g [agg (zF t)] (· = bv (f t))) :
  CallsTo EE 172 [sl (l.map zF),.fn g []] (· = bv (l.any f)) := by
 refine callsTo_of_AW (fn := Tryz.f172) Tryz.func172 rfl (by kernel_rfl) rfl ?_
 conv => whnf
 refine ⟨_,kI l hl g [] (.inl rfl) f hg,?_⟩
 rintro r rfl
 conv => whnf
 rw [← fixI_nn]
 refine kbi (fun h => ?_) (fun h => ?_)
 ·conv => whnf
  rw [h]
 ·conv => whnf
  rw [show decide (dX (l.findIdx? f) ≥ 0) = false by simpa using h]
theorem codeOf1_ok (t : Th) : CallsTo EE 173 [agg (zF t)] (· = bv (t.st != 2)) := by
 refine callsTo_of_AW (fn := Tryz.f173) Tryz.func173 rfl (by kernel_rfl) rfl ?_
 conv => whnf
 refine kbi (fun h => ?_) (fun h => ?_)
 ·conv => whnf
  have : t.st ≠ 2 := by simpa using h
  simp [this]
 ·conv => whnf
  have : t.st = 2 := by simpa using h
  simp [this]
theorem codeOf_ok (p : ProgL) (s : StL) (steps budget : Int) (hs : s.small) :
  CallsTo EE 141 [agg (encProg p),.fp (encSt s),sl ((enabledL p s).map encN),i64 steps,i64 budget] (· = i64 (codeL p s steps budget)) := by
 refine callsTo_of_AW (fn := Tryz.f141) Tryz.func141 rfl (by kernel_rfl) rfl ?_
 have hn := hs.1
 conv => whnf
 refine kbi (fun hf => ?_) (fun hf => ?_)
 ·have hf : s.fault ≠ 0 := by simpa using hf
  conv => whnf
  unfold codeL
  rw [if_pos hf]
 have hf : ¬ s.fault ≠ 0 := by simpa using hf
 conv => whnf
 refine kbi (fun h0 => ?_) (fun h0 => ?_)
 ·have h0 : enabledL p s = [] := by
   have : (((enabledL p s).map encN).length : Int) = 0 := by simpa using h0
   simp at this
   exact this
  conv => whnf
  refine ⟨_,nU s.ths hn 173 _ (fun t _ => codeOf1_ok t),?_⟩
  rintro r rfl
  cases hany : s.ths.any (fun t => t.st != 2) with
  |true =>
   conv => whnf
   obtain ⟨t,ht,h2⟩ := List.any_eq_true.1 hany
   unfold codeL
   rw [if_neg hf,if_pos h0,if_pos ⟨t,ht,by simpa using h2⟩]
  |false =>
   conv => whnf
   rw [List.any_eq_false] at hany
   unfold codeL
   rw [if_neg hf,if_pos h0,if_neg]
   rintro ⟨t,ht,h2⟩
   exact hany t ht (by simpa using h2)
 have h0 : ¬ enabledL p s = [] := fun e => h0 (by rw [e]; rfl)
 conv => whnf
 refine kbi (fun h1 => ?_) (fun h1 => ?_)
 ·have h1 : steps = budget := by simpa using h1
  conv => whnf
  unfold codeL
  rw [if_neg hf,if_neg h0,if_pos h1]
 ·have h1 : ¬ steps = budget := by simpa using h1
  conv => whnf
  unfold codeL
  rw [if_neg hf,if_neg h0,if_neg h1]
end Ai
end
section
namespace Ai
open Go Go.RowKit
def s5 : List AV → Option (List D)
 | [] => some []
 | .d x :: cs => (s5 cs).map (x :: ·)
 | _ :: _ => none
theorem r9 : ∀ (cs : List AV) (ds : List D) (i : Nat) (d : D),s5 cs = some ds → ds[i]? = some d → cs[i]? = some (.d d)
 | [],ds,i,d,h,hi => by simp only [s5,Option.some.injEq] at h; subst h; simp at hi
 |c :: cs,ds,i,d,h,hi => by
  unfold s5 at h
  split at h
  ·rename_i heq; cases heq
  ·rename_i x cs' heq
   injection heq with h1 h2
   subst h1 h2
   obtain ⟨ds',h3,rfl⟩ := Option.map_eq_some_iff.1 h
   cases i with
   |zero => simpa using hi
   |succ i => simpa using r9 cs ds' i d h3 (by simpa using hi)
  ·cases h
mutual
def frz (p : Key → Bool) (H : Key → Option Ob) : AV → AV
 | .ref o off n => bif p o then (match H o with | some (.ds _ _ els) => .d (.sl ((els.drop off).take n)) | _ => .junk) else .ref o off n
 | .ptr o off => bif p o then (match H o with | some (.vs _ cs) => (match s5 cs with | some ds => .fp (ds.drop off) | none => .junk) | _ => .junk) else .ptr o off
 | .eptr o j off => bif p o then .junk else .eptr o j off
 | .dref o n => bif p o then .junk else .dref o n
 | .dptr o j off => bif p o then .junk else .dptr o j off
 | .mref o => bif p o then .junk else .mref o
 | .lit v => .lit v
 | .agg cs => .agg (dW p H cs)
 | .tup vs => .tup (dW p H vs)
 | .fn f caps => .fn f (dW p H caps)
 | .junk => .junk
 | .d x => .d x
 | .fp cs => .fp cs
 | .uq e sz els => .uq e sz els
 | .uqd e sz c e2 sz2 rows subs => .uqd e sz c e2 sz2 rows subs
 | .ownF f cs => .ownF f cs
def dW (p : Key → Bool) (H : Key → Option Ob) : List AV → List AV
 | [] => []
 |v :: vs => frz p H v :: dW p H vs
end
def frzO (p : Key → Bool) (H : Key → Option Ob) : Ob → Ob
 | .vs e cs => .vs e (dW p H cs)
 | .ds e sz els => .ds e sz els
 | .rs e sz rows => .rs e sz (rows.map (dW p H))
 | .mp ag ps => .mp ag ps
def St.frz (p : Key → Bool) (s : St) : St := { τ := fun i => Ai.frz p s.H (s.τ i),H := fun o => bif p o then none else (s.H o).map (frzO p s.H) }
theorem vZ (p : Key → Bool) (H : Key → Option Ob) : ∀ vs : List AV,(dW p H vs).length = vs.length
 | [] => by simp [dW]
 |v :: vs => by simp [dW,vZ p H vs]
theorem kX (p : Key → Bool) (H : Key → Option Ob) : ∀ (vs : List AV) (i : Nat),(dW p H vs)[i]? = (vs[i]?).map (frz p H)
 | [],i => by simp [dW]
 |v :: vs,0 => by simp [dW]
 |v :: vs,i + 1 => by simp [dW,kX p H vs i]
section
variable {E : Env} {N : Nat} {A : Fr} {w0 w w' : World} {m m' : Own} {s s' s1 : St} {a : Act}
theorem VRel.frz {p : Key → Bool} {H H' : Key → Option Ob} {ok ok' : Nat → Prop} (hH : ∀ o,H' o = bif p o then none else (H o).map (frzO p H)) (hok : ∀ b,ok b → ok' b)
  (hfz : ∀ o off n v els e sz,p o = true → H o = some (.ds e sz els) → VRel w ok m H (.ref o off n) v → RepD w ok' (.sl ((els.drop off).take n)) v)
  (hfp : ∀ o off e cs ds b full,p o = true → H o = some (.vs e cs) → s5 cs = some ds → m o = some (b,full) → VRel w ok' m H' (.fp (ds.drop off)) (.pointer (some ⟨b,off,none⟩))) {c : AV} {v : Value} (r : VRel w ok m H c v) : VRel w ok' m H' (Ai.frz p H c) v := by
 have hh : ∀ b,ok b → ok' b ∧ w.heap[b]? = w.heap[b]? := fun b hb => ⟨hok b hb,rfl⟩
 have at_ : ∀ {o : Key} {ob : Ob},p o = false → H o = some ob → H' o = some (frzO p H ob) := fun h1 h2 => by rw [hH,h1,h2]; rfl
 induction r with
 |junk v => exact .junk v
 |d x v hx => exact .d x v (hx.mono hh)
 |fp cs b off us hb hc => exact .fp cs b off us (hok b hb) fun i d hi => ⟨(hc i d hi).1,(hc i d hi).2.mono hh⟩
 |ref o off n e sz els b full cap hHo hn hm hcap hnc =>
  simp only [Ai.frz]
  cases hp : p o with
  |true =>
   simp only [cond_true,hHo]
   exact .d _ _ (hfz o off n _ els e sz hp hHo (.ref o off n e sz els b full cap hHo hn hm hcap hnc))
  |false => exact .ref o off n e sz els b full cap (at_ hp hHo) hn hm hcap hnc
 |ref0 o e sz hHo hm =>
  simp only [Ai.frz]
  cases hp : p o with
  |true =>
   simp only [cond_true,hHo]
   exact .d _ _ (hfz o 0 0 _ [] e sz hp hHo (.ref0 o e sz hHo hm))
  |false => exact .ref0 o e sz (at_ hp hHo) hm
 |ptr o off e cs b full hHo hm =>
  simp only [Ai.frz]
  cases hp : p o with
  |true =>
   simp only [cond_true,hHo]
   cases hd : s5 cs with
   |none => exact .junk _
   |some ds => exact hfp o off e cs ds b full hp hHo hd hm
  |false => exact .ptr o off e _ b full (at_ hp hHo) hm
 |eptr o j off e sz els b full hHo hj hm =>
  simp only [Ai.frz]
  cases hp : p o with
  |true => exact .junk _
  |false => exact .eptr o j off e sz els b full (at_ hp hHo) hj hm
 |dref o n e sz rows b full hHo hn hm hnc =>
  simp only [Ai.frz]
  cases hp : p o with
  |true => exact .junk _
  |false => exact .dref o n e sz _ b full (at_ hp hHo) (by simpa using hn) hm hnc
 |dref0 o e sz hHo hm =>
  simp only [Ai.frz]
  cases hp : p o with
  |true => exact .junk _
  |false => exact .dref0 o e sz (at_ hp hHo) hm
 |dptr o j off e sz rows b full hHo hj hm =>
  simp only [Ai.frz]
  cases hp : p o with
  |true => exact .junk _
  |false => exact .dptr o j off e sz _ b full (at_ hp hHo) (by simpa using hj) hm
 |lit v h => exact .lit v h
 |mref o ag ps b full hHo hm =>
  simp only [Ai.frz]
  cases hp : p o with
  |true => exact .junk _
  |false => exact .mref o ag ps b full (at_ hp hHo) hm
 |agg cs us hl hr ih =>
  simp only [Ai.frz]
  refine .agg _ us (by rw [vZ]; exact hl) fun i c u hc hu => ?_
  rw [kX,Option.map_eq_some_iff] at hc
  obtain ⟨c0,h1,rfl⟩ := hc
  exact ih i c0 u h1 hu
 |tup cs us hl hr ih =>
  simp only [Ai.frz]
  refine .tup _ us (by rw [vZ]; exact hl) fun i c u hc hu => ?_
  rw [kX,Option.map_eq_some_iff] at hc
  obtain ⟨c0,h1,rfl⟩ := hc
  exact ih i c0 u h1 hu
 |fn f cs us hl hr ih =>
  simp only [Ai.frz]
  refine .fn f _ us (by rw [vZ]; exact hl) fun i c u hc hu => ?_
  rw [kX,Option.map_eq_some_iff] at hc
  obtain ⟨c0,h1,rfl⟩ := hc
  exact ih i c0 u h1 hu
theorem SRel.frz (p : Key → Bool) (h : SRel E N A w0 m s a w) : SRel E N A w0 m (s.frz p) a w := by
 have hne : ∀ {o : Key},(s.frz p).H o ≠ none → p o = false ∧ s.H o ≠ none := fun {o} ho => by
  cases hp : p o with
  |true => exact absurd (by simp [St.frz,hp]) ho
  |false => exact ⟨rfl,fun hn => ho (by simp [St.frz,hp,hn])⟩
 have hok : ∀ (Z : Nat → Prop) b,okB Z s.H m w b → okB Z (s.frz p).H m w b := fun Z b hb => ⟨hb.1,fun o ho x hx => hb.2.1 o (hne ho).2 x hx,hb.2.2⟩
 have hfz : ∀ o off n v els e sz,p o = true → s.H o = some (.ds e sz els) → VRel w (okB A s.H m w) m s.H (.ref o off n) v → RepD w (okB A (s.frz p).H m w) (.sl ((els.drop off).take n)) v := by
  intro o off n v els e sz hp hH hv
  refine oV h (hok A) (fun o' off' n' he x hx => ?_) hv (by simp [fz1,hH])
  injection he with i1 i2 i3
  subst i1 i2 i3
  have hl : s.H o ≠ none := by rw [hH]; simp
  refine ⟨xQ h hl hx,fun o2 ho2 y hy heq => ?_,h.hAo hl hx⟩
  have := h.inj o2 o y x (hne ho2).2 hl hy hx heq
  rw [this] at ho2
  exact absurd (hne ho2).1 (by rw [hp]; simp)
 have hfp : ∀ o off e cs ds b full,p o = true → s.H o = some (.vs e cs) → s5 cs = some ds → m o = some (b,full) → VRel w (okB A (s.frz p).H m w) m (s.frz p).H (.fp (ds.drop off)) (.pointer (some ⟨b,off,none⟩)) := by
  intro o off e cs ds b full hp hH hd hm
  obtain ⟨b',full',cur,h1,hb,hcur,hsz,hc⟩ := h.objs o _ hH
  have e1 : (b',full') = (b,full) := Option.some.inj (h1.symm.trans hm)
  injection e1 with e1 e2
  subst e1 e2
  have hl : s.H o ≠ none := by rw [hH]; simp
  refine .fp _ b' off (fun i => (cur[off + i]?).getD undef) ⟨xQ h hl hm,fun o2 ho2 y hy heq => ?_,h.hAo hl hm⟩ (fun i d hi => ?_)
  ·have := h.inj o2 o y _ (hne ho2).2 hl hy hm heq
   rw [this] at ho2
   exact absurd (hne ho2).1 (by rw [hp]; simp)
  ·rw [List.getElem?_drop] at hi
   obtain ⟨u,hu,hv⟩ := hc (off + i) (.d d) (r9 cs ds _ _ hd hi)
   have hr : RepD w (okB A s.H m w) d u := by cases hv with | d _ _ hx => exact hx
   exact ⟨by simp [World.cell?,hcur,hu],by rw [hu]; exact hr.mono fun b hb => ⟨hok A b hb,rfl⟩⟩
 have hV : ∀ {c : AV} {v : Value},VRel w (okB A s.H m w) m s.H c v → VRel w (okB A (s.frz p).H m w) m (s.frz p).H (Ai.frz p s.H c) v := fun r => r.frz (fun _ => rfl) (hok A) hfz hfp
 have hob : ∀ o ob,(s.frz p).H o = some ob → ∃ ob0,s.H o = some ob0 ∧ ob = frzO p s.H ob0 := fun o ob ho => by
  have h1 := (hne (o := o) (by rw [ho]; simp)).1
  simp only [St.frz,h1,cond_false] at ho
  obtain ⟨ob0,h2,h3⟩ := Option.map_eq_some_iff.1 ho
  exact ⟨ob0,h2,h3.symm⟩
 refine ⟨h.size,h.defers,h.below,h.inv,fun i hi => hV (h.tmps i hi),fun o ob ho => ?_,fun o o' x x' ho ho' hx hx' he => h.inj o o' x x' (hne ho).2 (hne ho').2 hx hx' he,h.hA,
  fun b hb => ⟨(h.fr b hb).1,fun o ho x hx => (h.fr b hb).2.1 o (hne ho).2 x hx,(h.fr b hb).2.2⟩,fun n hn hs => ?_⟩
 ·obtain ⟨ob0,h0,rfl⟩ := hob o ob ho
  have hor := h.objs o _ h0
  cases ob0 with
  |vs e cs =>
   obtain ⟨b,full,cur,h1,hb,hcur,hsz,hc⟩ := hor
   refine ⟨b,full,cur,h1,hb,hcur,by rw [vZ]; exact hsz,fun i c hi => ?_⟩
   rw [kX] at hi
   obtain ⟨c0,hc0,rfl⟩ := Option.map_eq_some_iff.1 hi
   obtain ⟨u,hu,hv⟩ := hc i c0 hc0
   exact ⟨u,hu,hV hv⟩
  |ds e sz els =>
   rcases hor with ⟨h1,he⟩ | ⟨b,full,cur,h1,hb,hcur,hlen,hmax,hsz,hc⟩
   ·exact .inl ⟨h1,he⟩
   ·exact .inr ⟨b,full,cur,h1,hb,hcur,hlen,hmax,hsz,fun j c hj => ⟨(hc j c hj).1,fun i d hi => let ⟨u,hu,hr⟩ := (hc j c hj).2 i d hi; ⟨u,hu,hr.mono fun b hb => ⟨hok A b hb,rfl⟩⟩⟩⟩
  |rs e sz els =>
   rcases hor with ⟨h1,he⟩ | ⟨b,full,cur,h1,hb,hcur,hlen,hmax,hsz,hc⟩
   ·exact .inl ⟨h1,by rw [he]; rfl⟩
   ·refine .inr ⟨b,full,cur,h1,hb,hcur,by simpa using hlen,hmax,hsz,fun j c hj => ?_⟩
    rw [List.getElem?_map] at hj
    obtain ⟨c0,hc0,rfl⟩ := Option.map_eq_some_iff.1 hj
    refine ⟨by rw [vZ]; exact (hc j c0 hc0).1,fun i d hi => ?_⟩
    rw [kX] at hi
    obtain ⟨d0,hd0,rfl⟩ := Option.map_eq_some_iff.1 hi
    obtain ⟨u,hu,h1,hr⟩ := (hc j c0 hc0).2 i d0 hd0
    exact ⟨u,hu,h1,hV hr⟩
  |mp ag ps =>
   obtain ⟨b,full,es,h1,hb,hcur,hr⟩ := hor
   exact ⟨b,full,es,h1,hb,hcur,hr.mono fun b hb => ⟨hok A b hb,rfl⟩⟩
 ·cases hq : (s.frz p).H (.l n) with
  |none => exact absurd hq hs
  |some ob =>
   obtain ⟨ob0,h0,h1⟩ := hob _ _ hq
   exact h.pin n hn (by rw [h0]; simp)
theorem weak_frz (p : Key → Bool) : Weak E N s (s.frz p) := fun A w0 m a w h => ⟨m,h.frz p⟩
mutual
def cvt (κ : Key) : AV → AV
 | .ref o off n => .ref o off n
 | .ptr o off => .ptr o off
 | .eptr o j off => .eptr o j off
 | .dref o n => bif Key.beq o κ then .ref o 0 n else .dref o n
 | .dptr o j off => bif Key.beq o κ then .eptr o j off else .dptr o j off
 | .mref o => .mref o
 | .lit v => .lit v
 | .agg cs => .agg (nN κ cs)
 | .tup vs => .tup (nN κ vs)
 | .fn f caps => .fn f (nN κ caps)
 | .junk => .junk
 | .d x => .d x
 | .fp cs => .fp cs
 | .uq e sz els => .uq e sz els
 | .uqd e sz c e2 sz2 rows subs => .uqd e sz c e2 sz2 rows subs
 | .ownF f cs => .ownF f cs
def nN (κ : Key) : List AV → List AV
 | [] => []
 |v :: vs => cvt κ v :: nN κ vs
end
def cvtO (κ : Key) : Ob → Ob
 | .vs e cs => .vs e (nN κ cs)
 | .ds e sz els => .ds e sz els
 | .rs e sz rows => .rs e sz (rows.map (nN κ))
 | .mp ag ps => .mp ag ps
theorem uB (κ : Key) : ∀ vs : List AV,(nN κ vs).length = vs.length
 | [] => by simp [nN]
 |v :: vs => by simp [nN,uB κ vs]
theorem kZ (κ : Key) : ∀ (vs : List AV) (i : Nat),(nN κ vs)[i]? = (vs[i]?).map (cvt κ)
 | [],i => by simp [nN]
 |v :: vs,0 => by simp [nN]
 |v :: vs,i + 1 => by simp [nN,kZ κ vs i]
def St.cvt (κ : Key) (e : TypeId) (sz : Nat) (els : List (List D)) (s : St) : St := { τ := fun i => Ai.cvt κ (s.τ i),H := fun o => bif Key.beq o κ then some (.ds e sz els) else (s.H o).map (cvtO κ) }
theorem VRel.cvt {κ : Key} {H H' : Key → Option Ob} {ok ok' : Nat → Prop} {e : TypeId} {sz : Nat} {els : List (List D)} {rows : List (List AV)} (hκ : H κ = some (.rs e sz rows)) (hr : rows.length = els.length)
  (hH : ∀ o,H' o = bif Key.beq o κ then some (.ds e sz els) else (H o).map (cvtO κ)) (hok : ∀ b,ok b → ok' b) {c : AV} {v : Value} (r : VRel w ok m H c v) : VRel w ok' m H' (Ai.cvt κ c) v := by
 have hh : ∀ b,ok b → ok' b ∧ w.heap[b]? = w.heap[b]? := fun b hb => ⟨hok b hb,rfl⟩
 have hκ' : H' κ = some (.ds e sz els) := by rw [hH,zD]; rfl
 have at_ : ∀ {o : Key} {ob : Ob},Key.beq o κ = false → H o = some ob → H' o = some (cvtO κ ob) := fun h1 h2 => by rw [hH,h1,h2]; rfl
 have ne_ : ∀ {o : Key} {ob : Ob},H o = some ob → (∀ e sz rows,ob ≠ .rs e sz rows) → Key.beq o κ = false := fun {o ob} h1 h2 => by
  cases hb : Key.beq o κ with
  |false => rfl
  |true => have := yJ hb; subst this; rw [hκ] at h1; injection h1 with h1; exact absurd h1.symm (h2 _ _ _)
 induction r with
 |junk v => exact .junk v
 |d x v hx => exact .d x v (hx.mono hh)
 |fp cs b off us hb hc => exact .fp cs b off us (hok b hb) fun i d hi => ⟨(hc i d hi).1,(hc i d hi).2.mono hh⟩
 |ref o off n e sz els b full cap hHo hn hm hcap hnc => exact .ref o off n e sz els b full cap (at_ (ne_ hHo (by simp)) hHo) hn hm hcap hnc
 |ref0 o e sz hHo hm => exact .ref0 o e sz (at_ (ne_ hHo (by simp)) hHo) hm
 |ptr o off e cs b full hHo hm => exact .ptr o off e _ b full (at_ (ne_ hHo (by simp)) hHo) hm
 |eptr o j off e sz els b full hHo hj hm => exact .eptr o j off e sz els b full (at_ (ne_ hHo (by simp)) hHo) hj hm
 |dref o n e2 sz2 rows2 b full hHo hn hm hnc =>
  simp only [Ai.cvt]
  cases hp : Key.beq o κ with
  |true =>
   have := yJ hp; subst this
   rw [hκ] at hHo; injection hHo with hHo; injection hHo with i1 i2 i3; subst i1 i2 i3
   have := VRel.ref (w := w) (ok := ok') o 0 n e sz els b full full hκ' (by omega) hm (fun _ => rfl) hnc
   rw [Nat.zero_mul] at this
   exact this
  |false => exact .dref o n e2 sz2 _ b full (at_ hp hHo) (by simpa using hn) hm hnc
 |dref0 o e2 sz2 hHo hm =>
  simp only [Ai.cvt]
  cases hp : Key.beq o κ with
  |true =>
   have := yJ hp; subst this
   rw [hκ] at hHo; injection hHo with hHo; injection hHo with i1 i2 i3; subst i1 i2 i3
   have : els = [] := List.eq_nil_of_length_eq_zero (by simpa using hr.symm)
   subst this
   exact .ref0 o e sz hκ' hm
  |false => exact .dref0 o e2 sz2 (at_ hp hHo) hm
 |dptr o j off e2 sz2 rows2 b full hHo hj hm =>
  simp only [Ai.cvt]
  cases hp : Key.beq o κ with
  |true =>
   have := yJ hp; subst this
   rw [hκ] at hHo; injection hHo with hHo; injection hHo with i1 i2 i3; subst i1 i2 i3
   exact .eptr o j off e sz els b full hκ' (by omega) hm
  |false => exact .dptr o j off e2 sz2 _ b full (at_ hp hHo) (by simpa using hj) hm
 |lit v h => exact .lit v h
 |mref o ag ps b full hHo hm => exact .mref o ag ps b full (at_ (ne_ hHo (by simp)) hHo) hm
 |agg cs us hl hr ih =>
  simp only [Ai.cvt]
  refine .agg _ us (by rw [uB]; exact hl) fun i c u hc hu => ?_
  rw [kZ,Option.map_eq_some_iff] at hc
  obtain ⟨c0,h1,rfl⟩ := hc
  exact ih i c0 u h1 hu
 |tup cs us hl hr ih =>
  simp only [Ai.cvt]
  refine .tup _ us (by rw [uB]; exact hl) fun i c u hc hu => ?_
  rw [kZ,Option.map_eq_some_iff] at hc
  obtain ⟨c0,h1,rfl⟩ := hc
  exact ih i c0 u h1 hu
 |fn f cs us hl hr ih =>
  simp only [Ai.cvt]
  refine .fn f _ us (by rw [uB]; exact hl) fun i c u hc hu => ?_
  rw [kZ,Option.map_eq_some_iff] at hc
  obtain ⟨c0,h1,rfl⟩ := hc
  exact ih i c0 u h1 hu
theorem SRel.cvt (κ : Key) (h : SRel E N A w0 m s a w) {e : TypeId} {sz : Nat} {els : List (List D)} (hκ : s.H κ = some (.rs e sz (els.map (List.map .d)))) : SRel E N A w0 m (s.cvt κ e sz els) a w := by
 have hne : ∀ {o : Key},(s.cvt κ e sz els).H o ≠ none → s.H o ≠ none := fun {o} ho => by
  cases hp : Key.beq o κ with
  |true => have := yJ hp; subst this; rw [hκ]; simp
  |false => exact fun hn => ho (by simp [St.cvt,hp,hn])
 have hok : ∀ (Z : Nat → Prop) b,okB Z s.H m w b → okB Z (s.cvt κ e sz els).H m w b := fun Z b hb => ⟨hb.1,fun o ho x hx => hb.2.1 o (hne ho) x hx,hb.2.2⟩
 have hV : ∀ {c : AV} {v : Value},VRel w (okB A s.H m w) m s.H c v → VRel w (okB A (s.cvt κ e sz els).H m w) m (s.cvt κ e sz els).H (Ai.cvt κ c) v := fun r => r.cvt hκ (by simp) (fun _ => rfl) (hok A)
 have hob : ∀ o ob,(s.cvt κ e sz els).H o = some ob → (o = κ ∧ ob = .ds e sz els) ∨ (∃ ob0,s.H o = some ob0 ∧ ob = cvtO κ ob0) := fun o ob ho => by
  cases hp : Key.beq o κ with
  |true => left; exact ⟨yJ hp,by simp only [St.cvt,hp,cond_true,Option.some.injEq] at ho; exact ho.symm⟩
  |false =>
   right
   simp only [St.cvt,hp,cond_false] at ho
   obtain ⟨ob0,h2,h3⟩ := Option.map_eq_some_iff.1 ho
   exact ⟨ob0,h2,h3.symm⟩
 refine ⟨h.size,h.defers,h.below,h.inv,fun i hi => hV (h.tmps i hi),fun o ob ho => ?_,fun o o' x x' ho ho' hx hx' he => h.inj o o' x x' (hne ho) (hne ho') hx hx' he,h.hA,
  fun b hb => ⟨(h.fr b hb).1,fun o ho x hx => (h.fr b hb).2.1 o (hne ho) x hx,(h.fr b hb).2.2⟩,fun n hn hs => ?_⟩
 ·rcases hob o ob ho with ⟨rfl,rfl⟩ | ⟨ob0,h0,rfl⟩
  ·rcases h.objs o _ hκ with ⟨h1,he⟩ | ⟨b,full,cur,h1,hb,hcur,hlen,hmax,hsz,hc⟩
   ·exact .inl ⟨h1,by simpa using he⟩
   ·refine .inr ⟨b,full,cur,h1,hb,hcur,by simpa using hlen,hmax,hsz,fun j c hj => ?_⟩
    have hj2 : (els.map (List.map AV.d))[j]? = some (c.map .d) := by rw [List.getElem?_map,hj]; rfl
    refine ⟨by simpa using (hc j _ hj2).1,fun i d hi => ?_⟩
    obtain ⟨u,hu,h1,hr⟩ := (hc j _ hj2).2 i (.d d) (by rw [List.getElem?_map,hi]; rfl)
    cases hr with
    |d _ _ hr => exact ⟨u,hu,hr.mono fun b hb => ⟨hok A b hb,rfl⟩⟩
  have hor := h.objs o _ h0
  cases ob0 with
  |vs e cs =>
   obtain ⟨b,full,cur,h1,hb,hcur,hsz,hc⟩ := hor
   refine ⟨b,full,cur,h1,hb,hcur,by rw [uB]; exact hsz,fun i c hi => ?_⟩
   rw [kZ] at hi
   obtain ⟨c0,hc0,rfl⟩ := Option.map_eq_some_iff.1 hi
   obtain ⟨u,hu,hv⟩ := hc i c0 hc0
   exact ⟨u,hu,hV hv⟩
  |ds e sz els =>
   rcases hor with ⟨h1,he⟩ | ⟨b,full,cur,h1,hb,hcur,hlen,hmax,hsz,hc⟩
   ·exact .inl ⟨h1,he⟩
   ·exact .inr ⟨b,full,cur,h1,hb,hcur,hlen,hmax,hsz,fun j c hj => ⟨(hc j c hj).1,fun i d hi => let ⟨u,hu,hr⟩ := (hc j c hj).2 i d hi; ⟨u,hu,hr.mono fun b hb => ⟨hok A b hb,rfl⟩⟩⟩⟩
  |rs e sz els =>
   rcases hor with ⟨h1,he⟩ | ⟨b,full,cur,h1,hb,hcur,hlen,hmax,hsz,hc⟩
   ·exact .inl ⟨h1,by rw [he]; rfl⟩
   ·refine .inr ⟨b,full,cur,h1,hb,hcur,by simpa using hlen,hmax,hsz,fun j c hj => ?_⟩
    rw [List.getElem?_map] at hj
    obtain ⟨c0,hc0,rfl⟩ := Option.map_eq_some_iff.1 hj
    refine ⟨by rw [uB]; exact (hc j c0 hc0).1,fun i d hi => ?_⟩
    rw [kZ] at hi
    obtain ⟨d0,hd0,rfl⟩ := Option.map_eq_some_iff.1 hi
    obtain ⟨u,hu,h1,hr⟩ := (hc j c0 hc0).2 i d0 hd0
    exact ⟨u,hu,h1,hV hr⟩
  |mp ag ps =>
   obtain ⟨b,full,es,h1,hb,hcur,hr⟩ := hor
   exact ⟨b,full,es,h1,hb,hcur,hr.mono fun b hb => ⟨hok A b hb,rfl⟩⟩
 ·refine h.pin n hn fun hh => hs ?_
  show (bif Key.beq (.l n) κ then _ else (s.H (.l n)).map _) = none
  cases hq : Key.beq (.l n) κ with
  |true => rw [yJ hq] at hh; rw [hκ] at hh; cases hh
  |false => rw [hh]; rfl
theorem weak_cvt (κ : Key) {e : TypeId} {sz : Nat} {els : List (List D)} (hκ : s.H κ = some (.rs e sz (els.map (List.map .d)))) : Weak E N s (s.cvt κ e sz els) := fun A w0 m a w h => ⟨m,h.cvt κ hκ⟩
mutual
def cvr (κ : Key) : AV → AV
 | .ref o off n => bif Key.beq o κ then (match off with | 0 => .dref o n | _ => .junk) else .ref o off n
 | .ptr o off => .ptr o off
 | .eptr o j off => bif Key.beq o κ then .dptr o j off else .eptr o j off
 | .dref o n => .dref o n
 | .dptr o j off => .dptr o j off
 | .mref o => .mref o
 | .lit v => .lit v
 | .agg cs => .agg (nO κ cs)
 | .tup vs => .tup (nO κ vs)
 | .fn f caps => .fn f (nO κ caps)
 | .junk => .junk
 | .d x => .d x
 | .fp cs => .fp cs
 | .uq e sz els => .uq e sz els
 | .uqd e sz c e2 sz2 rows subs => .uqd e sz c e2 sz2 rows subs
 | .ownF f cs => .ownF f cs
def nO (κ : Key) : List AV → List AV
 | [] => []
 |v :: vs => cvr κ v :: nO κ vs
end
def cvrO (κ : Key) : Ob → Ob
 | .vs e cs => .vs e (nO κ cs)
 | .ds e sz els => .ds e sz els
 | .rs e sz rows => .rs e sz (rows.map (nO κ))
 | .mp ag ps => .mp ag ps
theorem uC (κ : Key) : ∀ vs : List AV,(nO κ vs).length = vs.length
 | [] => by simp [nO]
 |v :: vs => by simp [nO,uC κ vs]
theorem gA (κ : Key) : ∀ (vs : List AV) (i : Nat),(nO κ vs)[i]? = (vs[i]?).map (cvr κ)
 | [],i => by simp [nO]
 |v :: vs,0 => by simp [nO]
 |v :: vs,i + 1 => by simp [nO,gA κ vs i]
def St.cvr (κ : Key) (e : TypeId) (sz : Nat) (els : List (List D)) (s : St) : St := { τ := fun i => Ai.cvr κ (s.τ i),H := fun o => bif Key.beq o κ then some (.rs e sz (els.map (List.map .d))) else (s.H o).map (cvrO κ) }
theorem VRel.cvr {κ : Key} {H H' : Key → Option Ob} {ok ok' : Nat → Prop} {e : TypeId} {sz : Nat} {els : List (List D)} (hκ : H κ = some (.ds e sz els))
  (hH : ∀ o,H' o = bif Key.beq o κ then some (.rs e sz (els.map (List.map .d))) else (H o).map (cvrO κ)) (hok : ∀ b,ok b → ok' b) {c : AV} {v : Value} (hfull : ∀ b full,m κ = some (b,full) → els.length ≤ full) (r : VRel w ok m H c v) : VRel w ok' m H' (Ai.cvr κ c) v := by
 have hh : ∀ b,ok b → ok' b ∧ w.heap[b]? = w.heap[b]? := fun b hb => ⟨hok b hb,rfl⟩
 have hκ' : H' κ = some (.rs e sz (els.map (List.map .d))) := by rw [hH,zD]; rfl
 have at_ : ∀ {o : Key} {ob : Ob},Key.beq o κ = false → H o = some ob → H' o = some (cvrO κ ob) := fun h1 h2 => by rw [hH,h1,h2]; rfl
 have ne_ : ∀ {o : Key} {ob : Ob},H o = some ob → (∀ e sz rows,ob ≠ .ds e sz rows) → Key.beq o κ = false := fun {o ob} h1 h2 => by
  cases hb : Key.beq o κ with
  |false => rfl
  |true => have := yJ hb; subst this; rw [hκ] at h1; injection h1 with h1; exact absurd h1.symm (h2 _ _ _)
 induction r with
 |junk v => exact .junk v
 |d x v hx => exact .d x v (hx.mono hh)
 |fp cs b off us hb hc => exact .fp cs b off us (hok b hb) fun i d hi => ⟨(hc i d hi).1,(hc i d hi).2.mono hh⟩
 |ref o off n e2 sz2 els2 b full cap hHo hn hm hcap hnc =>
  simp only [Ai.cvr]
  cases hp : Key.beq o κ with
  |true =>
   have := yJ hp; subst this
   rw [hκ] at hHo; injection hHo with hHo; injection hHo with i1 i2 i3; subst i1 i2 i3
   cases off with
   |zero =>
    have hc := hcap rfl
    subst hc
    have := VRel.dref (w := w) (ok := ok') o n e sz _ b cap hκ' (by simpa using hn) hm hnc
    rw [Nat.zero_mul]
    exact this
   |succ off => exact .junk _
  |false => exact .ref o off n e2 sz2 els2 b full cap (at_ hp hHo) hn hm hcap hnc
 |ref0 o e2 sz2 hHo hm =>
  simp only [Ai.cvr]
  cases hp : Key.beq o κ with
  |true =>
   have := yJ hp; subst this
   rw [hκ] at hHo; injection hHo with hHo; injection hHo with i1 i2 i3; subst i1 i2 i3
   exact .dref0 o e sz hκ' hm
  |false => exact .ref0 o e2 sz2 (at_ hp hHo) hm
 |ptr o off e cs b full hHo hm => exact .ptr o off e _ b full (at_ (ne_ hHo (by simp)) hHo) hm
 |eptr o j off e2 sz2 els2 b full hHo hj hm =>
  simp only [Ai.cvr]
  cases hp : Key.beq o κ with
  |true =>
   have := yJ hp; subst this
   rw [hκ] at hHo; injection hHo with hHo; injection hHo with i1 i2 i3; subst i1 i2 i3
   exact .dptr o j off e sz _ b full hκ' (by simpa using hj) hm
  |false => exact .eptr o j off e2 sz2 els2 b full (at_ hp hHo) hj hm
 |dref o n e2 sz2 rows2 b full hHo hn hm hnc => exact .dref o n e2 sz2 _ b full (at_ (ne_ hHo (by simp)) hHo) (by simpa using hn) hm hnc
 |dref0 o e2 sz2 hHo hm => exact .dref0 o e2 sz2 (at_ (ne_ hHo (by simp)) hHo) hm
 |dptr o j off e2 sz2 rows2 b full hHo hj hm => exact .dptr o j off e2 sz2 _ b full (at_ (ne_ hHo (by simp)) hHo) (by simpa using hj) hm
 |lit v h => exact .lit v h
 |mref o ag ps b full hHo hm => exact .mref o ag ps b full (at_ (ne_ hHo (by simp)) hHo) hm
 |agg cs us hl hr ih =>
  simp only [Ai.cvr]
  refine .agg _ us (by rw [uC]; exact hl) fun i c u hc hu => ?_
  rw [gA,Option.map_eq_some_iff] at hc
  obtain ⟨c0,h1,rfl⟩ := hc
  exact ih i c0 u h1 hu
 |tup cs us hl hr ih =>
  simp only [Ai.cvr]
  refine .tup _ us (by rw [uC]; exact hl) fun i c u hc hu => ?_
  rw [gA,Option.map_eq_some_iff] at hc
  obtain ⟨c0,h1,rfl⟩ := hc
  exact ih i c0 u h1 hu
 |fn f cs us hl hr ih =>
  simp only [Ai.cvr]
  refine .fn f _ us (by rw [uC]; exact hl) fun i c u hc hu => ?_
  rw [gA,Option.map_eq_some_iff] at hc
  obtain ⟨c0,h1,rfl⟩ := hc
  exact ih i c0 u h1 hu
theorem SRel.cvr (κ : Key) (h : SRel E N A w0 m s a w) {e : TypeId} {sz : Nat} {els : List (List D)} (hκ : s.H κ = some (.ds e sz els)) : SRel E N A w0 m (s.cvr κ e sz els) a w := by
 have hne : ∀ {o : Key},(s.cvr κ e sz els).H o ≠ none → s.H o ≠ none := fun {o} ho => by
  cases hp : Key.beq o κ with
  |true => have := yJ hp; subst this; rw [hκ]; simp
  |false => exact fun hn => ho (by simp [St.cvr,hp,hn])
 have hok : ∀ (Z : Nat → Prop) b,okB Z s.H m w b → okB Z (s.cvr κ e sz els).H m w b := fun Z b hb => ⟨hb.1,fun o ho x hx => hb.2.1 o (hne ho) x hx,hb.2.2⟩
 have hfull : ∀ b full,m κ = some (b,full) → els.length ≤ full := fun b full hm => by
  rcases h.objs κ _ hκ with ⟨h1,_⟩ | ⟨b',full',cur,h1,hb,hcur,hlen,_⟩
  ·rw [hm] at h1; cases h1
  ·rw [hm] at h1; injection h1 with h1; injection h1 with i1 i2; subst i1 i2; exact hlen
 have hV : ∀ {c : AV} {v : Value},VRel w (okB A s.H m w) m s.H c v → VRel w (okB A (s.cvr κ e sz els).H m w) m (s.cvr κ e sz els).H (Ai.cvr κ c) v := fun r => r.cvr hκ (fun _ => rfl) (hok A) hfull
 have hob : ∀ o ob,(s.cvr κ e sz els).H o = some ob → (o = κ ∧ ob = .rs e sz (els.map (List.map .d))) ∨ (∃ ob0,s.H o = some ob0 ∧ ob = cvrO κ ob0) := fun o ob ho => by
  cases hp : Key.beq o κ with
  |true => left; exact ⟨yJ hp,by simp only [St.cvr,hp,cond_true,Option.some.injEq] at ho; exact ho.symm⟩
  |false =>
   right
   simp only [St.cvr,hp,cond_false] at ho
   obtain ⟨ob0,h2,h3⟩ := Option.map_eq_some_iff.1 ho
   exact ⟨ob0,h2,h3.symm⟩
 refine ⟨h.size,h.defers,h.below,h.inv,fun i hi => hV (h.tmps i hi),fun o ob ho => ?_,fun o o' x x' ho ho' hx hx' he => h.inj o o' x x' (hne ho) (hne ho') hx hx' he,h.hA,
  fun b hb => ⟨(h.fr b hb).1,fun o ho x hx => (h.fr b hb).2.1 o (hne ho) x hx,(h.fr b hb).2.2⟩,fun n hn hs => ?_⟩
 ·rcases hob o ob ho with ⟨rfl,rfl⟩ | ⟨ob0,h0,rfl⟩
  ·rcases h.objs o _ hκ with ⟨h1,he⟩ | ⟨b,full,cur,h1,hb,hcur,hlen,hmax,hsz,hc⟩
   ·exact .inl ⟨h1,by rw [he]; rfl⟩
   ·refine .inr ⟨b,full,cur,h1,hb,hcur,by simpa using hlen,hmax,hsz,fun j c hj => ?_⟩
    rw [List.getElem?_map] at hj
    obtain ⟨c0,hc0,rfl⟩ := Option.map_eq_some_iff.1 hj
    refine ⟨by simpa using (hc j _ hc0).1,fun i d hi => ?_⟩
    rw [List.getElem?_map] at hi
    obtain ⟨d0,hd0,rfl⟩ := Option.map_eq_some_iff.1 hi
    obtain ⟨u,hu,hr⟩ := (hc j _ hc0).2 i d0 hd0
    exact ⟨u,hu,hr.oneCell.1,.d _ _ (hr.mono fun b hb => ⟨hok A b hb,rfl⟩)⟩
  have hor := h.objs o _ h0
  cases ob0 with
  |vs e cs =>
   obtain ⟨b,full,cur,h1,hb,hcur,hsz,hc⟩ := hor
   refine ⟨b,full,cur,h1,hb,hcur,by rw [uC]; exact hsz,fun i c hi => ?_⟩
   rw [gA] at hi
   obtain ⟨c0,hc0,rfl⟩ := Option.map_eq_some_iff.1 hi
   obtain ⟨u,hu,hv⟩ := hc i c0 hc0
   exact ⟨u,hu,hV hv⟩
  |ds e sz els =>
   rcases hor with ⟨h1,he⟩ | ⟨b,full,cur,h1,hb,hcur,hlen,hmax,hsz,hc⟩
   ·exact .inl ⟨h1,he⟩
   ·exact .inr ⟨b,full,cur,h1,hb,hcur,hlen,hmax,hsz,fun j c hj => ⟨(hc j c hj).1,fun i d hi => let ⟨u,hu,hr⟩ := (hc j c hj).2 i d hi; ⟨u,hu,hr.mono fun b hb => ⟨hok A b hb,rfl⟩⟩⟩⟩
  |rs e sz els =>
   rcases hor with ⟨h1,he⟩ | ⟨b,full,cur,h1,hb,hcur,hlen,hmax,hsz,hc⟩
   ·exact .inl ⟨h1,by rw [he]; rfl⟩
   ·refine .inr ⟨b,full,cur,h1,hb,hcur,by simpa using hlen,hmax,hsz,fun j c hj => ?_⟩
    rw [List.getElem?_map] at hj
    obtain ⟨c0,hc0,rfl⟩ := Option.map_eq_some_iff.1 hj
    refine ⟨by rw [uC]; exact (hc j c0 hc0).1,fun i d hi => ?_⟩
    rw [gA] at hi
    obtain ⟨d0,hd0,rfl⟩ := Option.map_eq_some_iff.1 hi
    obtain ⟨u,hu,h1,hr⟩ := (hc j c0 hc0).2 i d0 hd0
    exact ⟨u,hu,h1,hV hr⟩
  |mp ag ps =>
   obtain ⟨b,full,es,h1,hb,hcur,hr⟩ := hor
   exact ⟨b,full,es,h1,hb,hcur,hr.mono fun b hb => ⟨hok A b hb,rfl⟩⟩
 ·refine h.pin n hn fun hh => hs ?_
  show (bif Key.beq (.l n) κ then _ else (s.H (.l n)).map _) = none
  cases hq : Key.beq (.l n) κ with
  |true => rw [yJ hq] at hh; rw [hκ] at hh; cases hh
  |false => rw [hh]; rfl
theorem w8 (κ : Key) {e : TypeId} {sz : Nat} {els : List (List D)} (hκ : s.H κ = some (.ds e sz els)) : Weak E N s (s.cvr κ e sz els) := fun A w0 m a w h => ⟨m,h.cvr κ hκ⟩
mutual
def cut (κ : Key) (q : Nat) : AV → AV
 | .ref o off m => bif Key.beq o κ then (bif Nat.ble (off + m) q then .ref o off m else .junk) else .ref o off m
 | .ptr o off => .ptr o off
 | .eptr o j off => bif Key.beq o κ then .junk else .eptr o j off
 | .dref o n => .dref o n
 | .dptr o j off => .dptr o j off
 | .mref o => .mref o
 | .lit v => .lit v
 | .agg cs => .agg (jS κ q cs)
 | .tup vs => .tup (jS κ q vs)
 | .fn f caps => .fn f (jS κ q caps)
 | .junk => .junk
 | .d x => .d x
 | .fp cs => .fp cs
 | .uq e sz els => .uq e sz els
 | .uqd e sz c e2 sz2 rows subs => .uqd e sz c e2 sz2 rows subs
 | .ownF f cs => .ownF f cs
def jS (κ : Key) (q : Nat) : List AV → List AV
 | [] => []
 |v :: vs => cut κ q v :: jS κ q vs
end
def cutO (κ : Key) (q : Nat) : Ob → Ob
 | .vs e cs => .vs e (jS κ q cs)
 | .ds e sz els => .ds e sz els
 | .rs e sz rows => .rs e sz (rows.map (jS κ q))
 | .mp ag ps => .mp ag ps
theorem uD (κ : Key) (q : Nat) : ∀ vs : List AV,(jS κ q vs).length = vs.length
 | [] => by simp [jS]
 |v :: vs => by simp [jS,uD κ q vs]
theorem gB (κ : Key) (q : Nat) : ∀ (vs : List AV) (i : Nat),(jS κ q vs)[i]? = (vs[i]?).map (cut κ q)
 | [],i => by simp [jS]
 |v :: vs,0 => by simp [jS]
 |v :: vs,i + 1 => by simp [jS,gB κ q vs i]
def St.cut (κ : Key) (e : TypeId) (sz : Nat) (els : List (List D)) (q : Nat) (s : St) : St := { τ := fun i => Ai.cut κ q (s.τ i),H := fun o => bif Key.beq o κ then some (.ds e sz (els.take q)) else (s.H o).map (cutO κ q) }
theorem VRel.cut {κ : Key} {q : Nat} {H H' : Key → Option Ob} {ok ok' : Nat → Prop} {e : TypeId} {sz : Nat} {els : List (List D)} (hκ : H κ = some (.ds e sz els))
  (hH : ∀ o,H' o = bif Key.beq o κ then some (.ds e sz (els.take q)) else (H o).map (cutO κ q)) (hok : ∀ b,ok b → ok' b) {c : AV} {v : Value} (r : VRel w ok m H c v) : VRel w ok' m H' (Ai.cut κ q c) v := by
 have hh : ∀ b,ok b → ok' b ∧ w.heap[b]? = w.heap[b]? := fun b hb => ⟨hok b hb,rfl⟩
 have hκ' : H' κ = some (.ds e sz (els.take q)) := by rw [hH,zD]; rfl
 have at_ : ∀ {o : Key} {ob : Ob},Key.beq o κ = false → H o = some ob → H' o = some (cutO κ q ob) := fun h1 h2 => by rw [hH,h1,h2]; rfl
 have ne_ : ∀ {o : Key} {ob : Ob},H o = some ob → (∀ e sz rows,ob ≠ .ds e sz rows) → Key.beq o κ = false := fun {o ob} h1 h2 => by
  cases hb : Key.beq o κ with
  |false => rfl
  |true => have := yJ hb; subst this; rw [hκ] at h1; injection h1 with h1; exact absurd h1.symm (h2 _ _ _)
 induction r with
 |junk v => exact .junk v
 |d x v hx => exact .d x v (hx.mono hh)
 |fp cs b off us hb hc => exact .fp cs b off us (hok b hb) fun i d hi => ⟨(hc i d hi).1,(hc i d hi).2.mono hh⟩
 |ref o off n e2 sz2 els2 b full cap hHo hn hm hcap hnc =>
  simp only [Ai.cut]
  cases hp : Key.beq o κ with
  |true =>
   have := yJ hp; subst this
   rw [hκ] at hHo; injection hHo with hHo; injection hHo with i1 i2 i3; subst i1 i2 i3
   cases hq : Nat.ble (off + n) q with
   |true => exact .ref o off n e sz (els.take q) b full cap hκ' (by have := Nat.le_of_ble_eq_true hq; simp; omega) hm hcap hnc
   |false => exact .junk _
  |false => exact .ref o off n e2 sz2 els2 b full cap (at_ hp hHo) hn hm hcap hnc
 |ref0 o e2 sz2 hHo hm =>
  simp only [Ai.cut]
  cases hp : Key.beq o κ with
  |true =>
   have := yJ hp; subst this
   rw [hκ] at hHo; injection hHo with hHo; injection hHo with i1 i2 i3; subst i1 i2 i3
   cases hq : Nat.ble (0 + 0) q with
   |true => exact .ref0 o e sz (by rw [hκ',List.take_nil]) hm
   |false => exact .junk _
  |false => exact .ref0 o e2 sz2 (at_ hp hHo) hm
 |ptr o off e cs b full hHo hm => exact .ptr o off e _ b full (at_ (ne_ hHo (by simp)) hHo) hm
 |eptr o j off e2 sz2 els2 b full hHo hj hm =>
  simp only [Ai.cut]
  cases hp : Key.beq o κ with
  |true => exact .junk _
  |false => exact .eptr o j off e2 sz2 els2 b full (at_ hp hHo) hj hm
 |dref o n e2 sz2 rows2 b full hHo hn hm hnc => exact .dref o n e2 sz2 _ b full (at_ (ne_ hHo (by simp)) hHo) (by simpa using hn) hm hnc
 |dref0 o e2 sz2 hHo hm => exact .dref0 o e2 sz2 (at_ (ne_ hHo (by simp)) hHo) hm
 |dptr o j off e2 sz2 rows2 b full hHo hj hm => exact .dptr o j off e2 sz2 _ b full (at_ (ne_ hHo (by simp)) hHo) (by simpa using hj) hm
 |lit v h => exact .lit v h
 |mref o ag ps b full hHo hm => exact .mref o ag ps b full (at_ (ne_ hHo (by simp)) hHo) hm
 |agg cs us hl hr ih =>
  simp only [Ai.cut]
  refine .agg _ us (by rw [uD]; exact hl) fun i c u hc hu => ?_
  rw [gB,Option.map_eq_some_iff] at hc
  obtain ⟨c0,h1,rfl⟩ := hc
  exact ih i c0 u h1 hu
 |tup cs us hl hr ih =>
  simp only [Ai.cut]
  refine .tup _ us (by rw [uD]; exact hl) fun i c u hc hu => ?_
  rw [gB,Option.map_eq_some_iff] at hc
  obtain ⟨c0,h1,rfl⟩ := hc
  exact ih i c0 u h1 hu
 |fn f cs us hl hr ih =>
  simp only [Ai.cut]
  refine .fn f _ us (by rw [uD]; exact hl) fun i c u hc hu => ?_
  rw [gB,Option.map_eq_some_iff] at hc
  obtain ⟨c0,h1,rfl⟩ := hc
  exact ih i c0 u h1 hu
theorem SRel.cut (κ : Key) (q : Nat) (h : SRel E N A w0 m s a w) {e : TypeId} {sz : Nat} {els : List (List D)} (hκ : s.H κ = some (.ds e sz els)) : SRel E N A w0 m (s.cut κ e sz els q) a w := by
 have hne : ∀ {o : Key},(s.cut κ e sz els q).H o ≠ none → s.H o ≠ none := fun {o} ho => by
  cases hp : Key.beq o κ with
  |true => have := yJ hp; subst this; rw [hκ]; simp
  |false => exact fun hn => ho (by simp [St.cut,hp,hn])
 have hok : ∀ (Z : Nat → Prop) b,okB Z s.H m w b → okB Z (s.cut κ e sz els q).H m w b := fun Z b hb => ⟨hb.1,fun o ho x hx => hb.2.1 o (hne ho) x hx,hb.2.2⟩
 have hV : ∀ {c : AV} {v : Value},VRel w (okB A s.H m w) m s.H c v → VRel w (okB A (s.cut κ e sz els q).H m w) m (s.cut κ e sz els q).H (Ai.cut κ q c) v := fun r => r.cut hκ (fun _ => rfl) (hok A)
 have hob : ∀ o ob,(s.cut κ e sz els q).H o = some ob → (o = κ ∧ ob = .ds e sz (els.take q)) ∨ (∃ ob0,s.H o = some ob0 ∧ ob = cutO κ q ob0) := fun o ob ho => by
  cases hp : Key.beq o κ with
  |true => left; exact ⟨yJ hp,by simp only [St.cut,hp,cond_true,Option.some.injEq] at ho; exact ho.symm⟩
  |false =>
   right
   simp only [St.cut,hp,cond_false] at ho
   obtain ⟨ob0,h2,h3⟩ := Option.map_eq_some_iff.1 ho
   exact ⟨ob0,h2,h3.symm⟩
 refine ⟨h.size,h.defers,h.below,h.inv,fun i hi => hV (h.tmps i hi),fun o ob ho => ?_,fun o o' x x' ho ho' hx hx' he => h.inj o o' x x' (hne ho) (hne ho') hx hx' he,h.hA,
  fun b hb => ⟨(h.fr b hb).1,fun o ho x hx => (h.fr b hb).2.1 o (hne ho) x hx,(h.fr b hb).2.2⟩,fun n hn hs => ?_⟩
 ·rcases hob o ob ho with ⟨rfl,rfl⟩ | ⟨ob0,h0,rfl⟩
  ·rcases h.objs o _ hκ with ⟨h1,he⟩ | ⟨b,full,cur,h1,hb,hcur,hlen,hmax,hsz,hc⟩
   ·exact .inl ⟨h1,by rw [he]; exact List.take_nil⟩
   ·refine .inr ⟨b,full,cur,h1,hb,hcur,by simp; omega,hmax,hsz,fun j c hj => ?_⟩
    have hj2 : els[j]? = some c := by
     rw [List.getElem?_take] at hj
     split at hj
     ·exact hj
     ·cases hj
    exact ⟨(hc j c hj2).1,fun i d hi => let ⟨u,hu,hr⟩ := (hc j c hj2).2 i d hi; ⟨u,hu,hr.mono fun b hb => ⟨hok A b hb,rfl⟩⟩⟩
  have hor := h.objs o _ h0
  cases ob0 with
  |vs e cs =>
   obtain ⟨b,full,cur,h1,hb,hcur,hsz,hc⟩ := hor
   refine ⟨b,full,cur,h1,hb,hcur,by rw [uD]; exact hsz,fun i c hi => ?_⟩
   rw [gB] at hi
   obtain ⟨c0,hc0,rfl⟩ := Option.map_eq_some_iff.1 hi
   obtain ⟨u,hu,hv⟩ := hc i c0 hc0
   exact ⟨u,hu,hV hv⟩
  |ds e sz els =>
   rcases hor with ⟨h1,he⟩ | ⟨b,full,cur,h1,hb,hcur,hlen,hmax,hsz,hc⟩
   ·exact .inl ⟨h1,he⟩
   ·exact .inr ⟨b,full,cur,h1,hb,hcur,hlen,hmax,hsz,fun j c hj => ⟨(hc j c hj).1,fun i d hi => let ⟨u,hu,hr⟩ := (hc j c hj).2 i d hi; ⟨u,hu,hr.mono fun b hb => ⟨hok A b hb,rfl⟩⟩⟩⟩
  |rs e sz els =>
   rcases hor with ⟨h1,he⟩ | ⟨b,full,cur,h1,hb,hcur,hlen,hmax,hsz,hc⟩
   ·exact .inl ⟨h1,by rw [he]; rfl⟩
   ·refine .inr ⟨b,full,cur,h1,hb,hcur,by simpa using hlen,hmax,hsz,fun j c hj => ?_⟩
    rw [List.getElem?_map] at hj
    obtain ⟨c0,hc0,rfl⟩ := Option.map_eq_some_iff.1 hj
    refine ⟨by rw [uD]; exact (hc j c0 hc0).1,fun i d hi => ?_⟩
    rw [gB] at hi
    obtain ⟨d0,hd0,rfl⟩ := Option.map_eq_some_iff.1 hi
    obtain ⟨u,hu,h1,hr⟩ := (hc j c0 hc0).2 i d0 hd0
    exact ⟨u,hu,h1,hV hr⟩
  |mp ag ps =>
   obtain ⟨b,full,es,h1,hb,hcur,hr⟩ := hor
   exact ⟨b,full,es,h1,hb,hcur,hr.mono fun b hb => ⟨hok A b hb,rfl⟩⟩
 ·refine h.pin n hn fun hh => hs ?_
  show (bif Key.beq (.l n) κ then _ else (s.H (.l n)).map _) = none
  cases hq : Key.beq (.l n) κ with
  |true => rw [yJ hq] at hh; rw [hκ] at hh; cases hh
  |false => rw [hh]; rfl
theorem weak_cut (κ : Key) (q : Nat) {e : TypeId} {sz : Nat} {els : List (List D)} (hκ : s.H κ = some (.ds e sz els)) : Weak E N s (s.cut κ e sz els q) := fun A w0 m a w h => ⟨m,h.cut κ q hκ⟩
theorem uS (x y : Key) : ∀ cs : List AV,(∀ c ∈ cs,Ai.ren (swp x y) (Ai.ren (swp x y) c) = c) → renL (swp x y) (renL (swp x y) cs) = cs
 | [],_ => rfl
 |c :: cs,h => by simp only [renL]; rw [h c List.mem_cons_self,uS x y cs fun c hc => h c (List.mem_cons_of_mem _ hc)]
theorem ren_ren (x y : Key) : ∀ c : AV,Ai.ren (swp x y) (Ai.ren (swp x y) c) = c
 | .ref o off n => by simp [Ai.ren,vE]
 | .ptr o off => by simp [Ai.ren,vE]
 | .eptr o j off => by simp [Ai.ren,vE]
 | .dref o n => by simp [Ai.ren,vE]
 | .dptr o j off => by simp [Ai.ren,vE]
 | .mref o => by simp [Ai.ren,vE]
 | .lit v => rfl
 | .agg cs => by simp only [Ai.ren]; rw [uS x y cs fun c _ => ren_ren x y c]
 | .tup cs => by simp only [Ai.ren]; rw [uS x y cs fun c _ => ren_ren x y c]
 | .fn f cs => by simp only [Ai.ren]; rw [uS x y cs fun c _ => ren_ren x y c]
 | .junk => rfl
 | .d x => rfl
 | .fp cs => rfl
 | .uq e sz els => rfl
 | .uqd e sz c e2 sz2 rows subs => rfl
 | .ownF f cs => rfl
theorem renO_renO (x y : Key) (ob : Ob) : renO (swp x y) (renO (swp x y) ob) = ob := by
 cases ob with
 |vs e cs => simp only [renO]; rw [uS x y cs fun c _ => ren_ren x y c]
 |ds e sz els => rfl
 |rs e sz rows =>
  simp only [renO,List.map_map,Ob.rs.injEq,true_and]
  calc rows.map (renL (swp x y) ∘ renL (swp x y)) = rows.map id := List.map_congr_left fun r _ => uS x y r fun c _ => ren_ren x y c
   _ = rows := List.map_id rows
 |mp ag ps => rfl
theorem swH_swH (x y : Key) (H : Key → Option Ob) : swH x y (swH x y H) = H := by
 funext κ
 simp only [swH,vE,Option.map_map]
 cases H κ with
 |none => rfl
 |some ob => simp [renO_renO]
theorem HRel.sw {H : Key → Option Ob} (x y : Key) (hx : ∀ n,x ≠ .l n) (hy : ∀ n,y ≠ .l n) (h : HRel E A w0 m H w) : HRel E A w0 (swM x y m) (swH x y H) w := by
 have h1 := (h.toS).sw x y (fun n hn hs => by
  have e1 : swp x y (.l n) = .l n := by
   unfold swp
   rw [zB (Ne.symm (hx n)),zB (Ne.symm (hy n))]; rfl
  show some (m (swp x y (.l n))) = A.pin n
  have hs : swH x y H (.l n) ≠ none := hs
  simp only [swH,e1] at hs
  rw [e1]
  exact h.pin n hn (fun hh => hs (by rw [hh]; rfl)))
 exact h1.toH
theorem IOCall.sw {g : FuncId} {as1 : List AV} {H0 : Key → Option Ob} {Post : AV → (Key → Option Ob) → Prop} (x y : Key) (hx : ∀ n,x ≠ .l n) (hy : ∀ n,y ≠ .l n) (h : IOCall E g as1 H0 Post) :
  IOCall E g (as1.map (ren (swp x y))) (swH x y H0) (fun r H1 => Post (ren (swp x y) r) (swH x y H1)) := by
 intro w0 A m w vs hH hl hrel
 have hH' := hH.sw x y hx hy
 rw [swH_swH] at hH'
 refine (h w0 A (swM x y m) w vs hH' (by simpa using hl) fun i a v ha hv => ?_).mono ?_
 ·have := (hrel i (ren (swp x y) a) v (by rw [List.getElem?_map,ha]; rfl) hv).ren (x := x) (y := y) (ok' := okB A (swH x y (swH x y H0)) (swM x y m) w) fun b hb => jI hb
  rw [ren_ren,swH_swH] at this
  exact this
 ·rintro v w' ⟨r,H1,m1,hP,hH1,hv⟩
  refine ⟨ren (swp x y) r,swH x y H1,swM x y m1,?_,hH1.sw x y hx hy,hv.ren fun b hb => jI hb⟩
  show Post (ren (swp x y) (ren (swp x y) r)) (swH x y (swH x y H1))
  rw [ren_ren,swH_swH]; exact hP
end
end Ai
end
section
set_option maxRecDepth 100000
namespace Ai
open Go Go.Proofs
def kL (l : List Th) (k : Nat) : List (List AV) := thRows 900 (l.take k) ++ (l.drop k).map fun t => (zF t).map .d
theorem renL_d (f : Key → Key) : ∀ xs : List D,renL f (xs.map .d) = xs.map .d
 | [] => rfl
 |x :: xs => by simp only [List.map_cons,renL,ren,renL_d f xs]
theorem scrL_d (p : Key → Bool) : ∀ xs : List D,scrPL p (xs.map .d) = xs.map .d
 | [] => rfl
 |x :: xs => by simp only [List.map_cons,scrPL,scrP,scrL_d p xs]
theorem eU {α : Type} (f : Key → Key) (enc : α → List D) (l : List α) : (l.map fun t => (enc t).map AV.d).map (renL f) = l.map fun t => (enc t).map AV.d := by
 rw [List.map_map]; exact List.map_congr_left fun t _ => renL_d f _
theorem dRows_scr {α : Type} (p : Key → Bool) (enc : α → List D) (l : List α) : (l.map fun t => (enc t).map AV.d).map (scrPL p) = l.map fun t => (enc t).map AV.d := by
 rw [List.map_map]; exact List.map_congr_left fun t _ => scrL_d p _
theorem rowsK_scr {p : Key → Bool} (l : List Th) (k : Nat) (h : ∀ j,p (.s 900 j) = false) : (kL l k).map (scrPL p) = kL l k := by
 unfold kL
 rw [List.map_append,yE fun j _ => h j,dRows_scr]
theorem rowsK_get {l : List Th} {k : Nat} (h : k < l.length) : (kL l k)[k]? = some ((zF l[k]).map .d) := by
 unfold kL
 have hl : (thRows 900 (l.take k)).length = k := by rw [zQ]; simp; omega
 rw [List.getElem?_append_right (by omega),hl,Nat.sub_self,List.getElem?_map,List.getElem?_drop,Nat.add_zero,List.getElem?_eq_getElem h]
 rfl
theorem j2 {l : List Th} {k a : Nat} {X : List (List AV)} {v : AV} (h : k < l.length) (hX : X = kL l k) (hv : v = .ref (.n a) 0 l[k].stack.length) :
  (xC X 6 ((k : Nat) : Int).toNat (0 + 5) [v]).map (renL (swp (.n a) (.s 900 k))) = kL l (k + 1) := by
 subst hX hv
 have hl : (l.take k).length = k := by simp; omega
 have hd : l.drop k = l[k] :: l.drop (k + 1) := List.drop_eq_getElem_cons h
 have e2 : swp (.n a) (.s 900 k) (.n a) = .s 900 k := by simp [swp,zD]
 unfold xC kL
 rw [show (Nat.beq (0 + 5) 0 && Nat.beq [AV.ref (.n a) 0 l[k].stack.length].length 6) = false from rfl,cond_false,show ((k : Nat) : Int).toNat = k from rfl,hd,List.map_cons]
 have hm : ∀ (A : List (List AV)) (x : List AV) (B : List (List AV)) (f : List AV → List AV),A.length = k → (A ++ x :: B).modify k f = A ++ f x :: B := by
  intro A x B f hA
  apply List.ext_getElem?
  intro j
  rw [List.getElem?_modify]
  rcases Nat.lt_trichotomy j k with hj | hj | hj
  ·rw [List.getElem?_append_left (by omega),List.getElem?_append_left (by omega)]
   simp only [if_neg (show ¬ k = j by omega)]; simp
  ·subst hj
   rw [List.getElem?_append_right (by omega),List.getElem?_append_right (by omega),hA]; simp
  ·rw [List.getElem?_append_right (by omega),List.getElem?_append_right (by omega)]
   simp only [if_neg (show ¬ k = j by omega)]
   rw [show j - A.length = (j - k - 1) + 1 by omega]; simp
 rw [hm _ _ _ _ (by rw [zQ]; exact hl),List.map_append,dM (by omega),List.map_cons,eU,bK l k h,nX,hl,List.append_assoc,List.singleton_append]
 congr 2
 simp [zF,zU,renL,ren,thRow,e2]
theorem eV (s : StL) (hs : s.small) : CallsTo EE 142 [agg (encSt s)] (· = .own (jY s)) := by
 obtain ⟨s1,s2,s3,s4⟩ := hs
 refine callsTo_of_AW (fn := Tryz.f142) Tryz.func142 rfl (by kernel_rfl) rfl ?_
 conv => whnf
 refine .inr (.inl ⟨13,[],?_⟩)
 conv => whnf
 refine ⟨_,gF s.cells s3,.inr ⟨_,rfl,?_⟩⟩
 conv => whnf
 refine ⟨_,CloneI_ok s.owner s4,.inr ⟨_,rfl,?_⟩⟩
 conv => whnf
 refine ⟨_,CloneT_ok s.ths s1,.inr ⟨_,rfl,?_⟩⟩
 conv => whnf
 refine ⟨by kernel_rfl,?_⟩
 conv => whnf
 refine aloopF (fun k : Nat => [(2,.ptr 2 0),(3,.ptr 3 0),(19,i64 s.ths.length),(20,i64 k)])
  (fun k => [(2,.vs 76 [.d .nil,.d .nil,.d .nil,i64 0]),(3,.vs 76 [.dref 900 s.ths.length,.ref 7 0 s.cells.length,.ref 10 0 s.owner.length,i64 s.fault]),(7,.ds 105 1 (s.cells.map encF)),(10,.ds 3 1 (s.owner.map encInt)),(900,.rs 123 6 (kL s.ths k))])
  (fun k => [(900,zR (s.ths.take k))]) (fun k => s.ths.length - k) (fun k => k ≤ s.ths.length) 0 ((w8 (.n 15) (els := s.ths.map zF) rfl).trans (vD 15 900)) ?_ ?_ ?_ (Nat.zero_le _) ?_
 ·refine ⟨rfl,rfl,?_,rfl,trivial⟩
  show i64 (s.ths.map zF).length = _
  rw [List.length_map]
 ·refine ⟨rfl,?_,rfl,rfl,?_,trivial⟩
  ·show some (Ob.vs 76 [.dref 900 (s.ths.map zF).length,.ref 7 0 (s.cells.map encF).length,.ref 10 0 (s.owner.map encInt).length,i64 s.fault]) = _
   simp
  ·show some (Ob.rs 123 6 (((s.ths.map zF).map (List.map .d)).map (renL (swp (.n 15) (.n 900))))) = _
   rw [List.map_map (f := zF),show (List.map AV.d ∘ zF) = fun t => (zF t).map AV.d from rfl,eU]
   simp [kL,thRows,ownRows]
 ·refine ⟨fun j => ?_,trivial⟩
  simp [zR]
  rfl
 rintro k τ H hk
 conv => whnf
 refine kbi (fun h => ?_) (fun h => ?_)
 ·have hlt : k < s.ths.length := by simpa using h
  have ht := s2 _ (List.getElem_mem hlt)
  conv => whnf
  refine .inr (.inl ⟨11,[],?_⟩)
  conv => whnf
  refine ⟨⟨by omega,by omega,by decide,by omega⟩,?_⟩
  conv => whnf
  refine ⟨⟨by omega,by omega⟩,?_⟩
  conv => whnf
  refine ⟨(zF s.ths[k]).map .d,⟨?_,by simp [zF]⟩,?_⟩
  ·repeat (first | exact rowsK_get hlt | refine yX ?_ (scrL_d _ _))
  conv => whnf
  refine ⟨⟨by simp [encF],by simp; omega,by simp; omega⟩,?_⟩
  conv => whnf
  refine ⟨by kernel_rfl,?_⟩
  conv => whnf
  refine ⟨⟨by omega,by omega⟩,?_⟩
  conv => whnf
  refine ⟨k + 1,_,jD 26 900 k,by omega,by show s.ths.length - (k + 1) < s.ths.length - k; omega,⟨rfl,rfl,rfl,next_i64 hlt (by omega),trivial⟩,⟨rfl,rfl,rfl,rfl,?_,trivial⟩,⟨fun j => ?_,trivial⟩⟩
  ·conv => lhs; whnf
   refine congrArg some ?_
   refine congrArg (Ob.rs 123 6) (j2 hlt ?_ ?_)
   ·exact rowsK_scr _ _ fun j => rfl
   ·conv => lhs; whnf
    show AV.ref (.n 26) 0 (0 + (s.ths[k].stack.map encF).length) = _
    rw [List.length_map,Nat.zero_add]
  ·have hl : (s.ths.take k).length = k := by simp; omega
   by_cases hj : j = k
   ·subst hj
    have e : swp (.n 26) (.s 900 j) (.s 900 j) = .n 26 := by simp [swp,Key.beq]
    show (St.H _ (swp (.n 26) (.s 900 j) (.s 900 j))).map _ = _
    rw [e]
    show some (Ob.ds 105 ti105.sz (List.take 0 [] ++ List.map encF s.ths[j].stack)) = _
    rw [zR,bK s.ths j hlt,List.getElem?_append_right (by omega),hl]
    simp [stk]
   ·have e : swp (.n 26) (.s 900 k) (.s 900 j) = .s 900 j := by simp [swp,Key.beq,nbeq_ne hj]
    show (St.H _ (swp (.n 26) (.s 900 k) (.s 900 j))).map _ = _
    rw [e]
    refine Eq.trans (eF (X := zR (s.ths.take k) j) ?_ (thFam_ren _ _ _)) (rT hj)
    conv => lhs; whnf
    repeat (refine hscrO ?_ (yG _ _ _); conv => lhs; whnf)
    rfl
 ·have hge : s.ths.length ≤ k := by simpa using h
  have hkk : k = s.ths.length := by omega
  subst hkk
  conv => whnf
  refine .inr (.inr ⟨jY s,_,(vD 7 901).trans (vD 10 902),?_,?_,gJ ⟨⟨?_,fun j q hq => ?_⟩,rfl,rfl,trivial,trivial⟩,rfl⟩)
  ·show some [AV.agg [.dref 900 s.ths.length,.ref 901 0 s.cells.length,.ref 902 0 s.owner.length,i64 s.fault]] = _
   simp [ownR,ownR1,jY,jV]
   exact ⟨rfl,rfl,rfl⟩
  ·intro v hv
   simp only [jY,List.mem_cons,List.not_mem_nil,or_false] at hv
   rcases hv with rfl | rfl | rfl | rfl
   ·show (s.ths.map bA).length = (s.ths.map stk).length
    simp
   ·trivial
   ·trivial
   ·trivial
  ·show some (Ob.rs 123 6 (((kL s.ths s.ths.length).map (renL (swp (.n 7) (.n 901)))).map (renL (swp (.n 10) (.n 902))))) = some (Ob.rs 123 6 (thRows 900 s.ths))
   have e : kL s.ths s.ths.length = thRows 900 s.ths := by simp [kL]
   rw [e,jW,jW]
  ·show ((zR (s.ths.take s.ths.length) j).map (renO _)).map (renO _) = _
   rw [thFam_ren,thFam_ren,List.take_length,zR]
   rw [List.getElem?_map] at hq
   obtain ⟨t,ht,rfl⟩ := Option.map_eq_some_iff.1 hq
   rw [ht]; rfl
end Ai
end
section
set_option maxRecDepth 100000
namespace Ai
open Go Go.Proofs
structure Inert (x : AV) : Prop where
 scr : ∀ p,scrP p x = x
 ren : ∀ f,ren f x = x
 cut : ∀ κ q,cut κ q x = x
def yC (t : Th) : List AV := [i64 t.rt,i64 t.pc,i64 t.st,i64 t.cond,i64 t.lock,.ref (.n 899) 0 t.stack.length]
def rowsA (l : List Th) (k : Nat) (t : Th) : List (List AV) := (thRows 900 l).set k (yC t)
theorem rowsA_len (l : List Th) (k : Nat) (t : Th) : (rowsA l k t).length = l.length := by simp [rowsA,zQ]
theorem zN {l : List Th} {k : Nat} {t : Th} (h : k < l.length) : (rowsA l k t)[((k : Nat) : Int).toNat]? = some (yC t) := by
 show (rowsA l k t)[k]? = _
 unfold rowsA
 rw [List.getElem?_set_self (by rw [zQ]; exact h)]
theorem rowsA_ne {l : List Th} {k j : Nat} {t : Th} (h : j ≠ k) : (rowsA l k t)[j]? = (thRows 900 l)[j]? := by
 unfold rowsA
 rw [List.getElem?_set_ne (Ne.symm h)]
theorem zV {p : Key → Bool} (h : p (.n 899) = false) (t : Th) : scrPL p (yC t) = yC t := by simp [yC,scrPL,scrP,h]
theorem vV {p : Key → Bool} (h1 : p (.n 899) = false) (h2 : ∀ j,p (.s 900 j) = false) (l : List Th) (k : Nat) (t : Th) : (rowsA l k t).map (scrPL p) = rowsA l k t := by
 unfold rowsA
 rw [List.map_set,yE fun j _ => h2 j,zV h1]
theorem bP {l : List Th} {k off : Nat} {t t' : Th} {v : AV} {X : List (List AV)} (hk : k < l.length) (hX : X = rowsA l k t) (h : zU (yC t) off [v] = yC t') : xC X 6 ((k : Nat) : Int).toNat off [v] = rowsA l k t' := by
 subst hX
 have hf : xC (rowsA l k t) 6 ((k : Nat) : Int).toNat off [v] = (rowsA l k t).modify k fun c => zU c off [v] := by
  unfold xC
  rw [show (Nat.beq off 0 && Nat.beq [v].length 6) = false from Bool.and_false _]
  rfl
 rw [hf]
 unfold rowsA
 apply List.ext_getElem?
 intro j
 rw [List.getElem?_modify]
 by_cases hj : k = j
 ·subst hj
  rw [List.getElem?_set_self (by rw [zQ]; exact hk),List.getElem?_set_self (by rw [zQ]; exact hk)]; simp [h]
 ·rw [List.getElem?_set_ne hj,List.getElem?_set_ne hj]; simp [hj]
theorem xH {E : TypeId} {x0 x1 x2 : AV} (i0 : Inert x0) (i1 : Inert x1) (i2 : Inert x2) (s : StL) {p : Key → Bool} (h : (p (.n 900) || p (.n 901) || p (.n 902)) = false) : scrPO p (.vs E ([x0,x1,x2] ++ stRef s)) = .vs E ([x0,x1,x2] ++ stRef s) := by
 simp only [Bool.or_eq_false_iff] at h
 simp [scrPO,scrPL,scrP,stRef,i0.scr,i1.scr,i2.scr,h.1.1,h.1.2,h.2]
theorem xI {E : TypeId} (s : StL) {p : Key → Bool} (h : (p (.n 900) || p (.n 901) || p (.n 902)) = false) : scrPO p (.vs E ([] ++ stRef s)) = .vs E ([] ++ stRef s) := by
 simp only [Bool.or_eq_false_iff] at h
 simp [scrPO,scrPL,scrP,stRef,h.1.1,h.1.2,h.2]
def doI1 (OFF : Nat) (k : Nat) (o : OpL) (t : Th) : List (Nat × AV) := [(0,.ptr (.l 0) OFF),(1,i64 k),(6,.ptr (.n 6) 0),(7,.ptr (.n 7) 0),(8,.ptr (.n 8) 0),(9,.dptr (.n 900) k 0),(13,sl ((t.stack.drop (zP t o)).map encF))]
def doIO (E : TypeId) (pre : List AV) (s : StL) (k : Nat) (o : OpL) (e : Ev) (t t' : Th) : List (Key × Ob) := [(.l 0,.vs E (pre ++ stRef s)),(.n 6,.vs 107 ((encOp o).map .d)),(.n 7,.vs 120 ((encEv e).map .d)),
 (.n 8,.vs 120 [i64 0,i64 0,i64 0,i64 0,i64 0]),(.n 899,.ds 105 1 (stk t)),(.n 900,.rs 123 6 (rowsA s.ths k t')),(.n 901,.ds 105 1 (s.cells.map encF)),(.n 902,.ds 3 1 (s.owner.map encInt))]
theorem doI_preB (E : TypeId) (x0 x1 x2 : AV) (i0 : Inert x0) (i1 : Inert x1) (i2 : Inert x2) (g : Nat → Option Ob) (hg : ∀ p j,(g j).map (scrPO p) = g j) (s : StL) (k : Nat) (o : OpL) (e : Ev) (hk : k < s.ths.length) (t : Th) (htk : (zA o.code).1 ≤ t.stack.length) (ht8 : t.stack.length ≤ 1048576) (hpc : InR t.pc 0 1048576)
  (τ : Nat → AV) (H : Key → Option Ob) (Q : AX → St → Prop) (K : St → Prop) (hK : ∀ s',At (doI1 3 k o t) (doIO E [x0,x1,x2] s k o e t (zC t o)) [(900,g)] s' → K s') :
  sH EE Tryz.f153.ntmps K Q 7 (Tryz.f153.body.getD .skip) (rA [(0,.ptr (.l 0) 3),(1,i64 k),(2,agg (encOp o)),(3,agg (encEv e))] (pY [(.l 0,.vs E ([x0,x1,x2] ++ stRef s)),(.n 899,.ds 105 1 (stk t)),(.n 900,.rs 123 6 (rowsA s.ths k t)),(.n 901,.ds 105 1 (s.cells.map encF)),(.n 902,.ds 3 1 (s.owner.map encInt))] (fN [(900,g)] ⟨τ,H⟩))) := by
 have ht : 0 ≤ (zA o.code).1 ∧ (zA o.code).1 ≤ 2 ∧ 0 ≤ (zA o.code).2 ∧ (zA o.code).2 ≤ 1 := by
  unfold zA; split
  ·decide
  ·split
   ·decide
   ·split <;> decide
 have e1 : (IntKind.i64.wrap ((t.stack.length : Int) - (zA o.code).1)) = (t.stack.length : Int) - (zA o.code).1 := zE (by omega) (by omega)
 have e2 : ((t.stack.length : Int) - (zA o.code).1).toNat = zP t o := by unfold zP xG; omega
 have allLen : ∀ a b : Nat,(((stk t).drop a).take b).all (fun c => c.length == 1) = true := by
  intro a b
  simp only [List.all_eq_true]
  intro x hx
  have hx := List.mem_of_mem_drop (List.mem_of_mem_take hx)
  obtain ⟨y,_,rfl⟩ := List.mem_map.1 hx
  rfl
 conv => whnf
 refine ⟨⟨by omega,by omega⟩,?_⟩
 conv => whnf
 refine ⟨_,mP o,?_⟩
 rintro r rfl
 conv => whnf
 refine ⟨yC t,⟨?_,by simp [yC]⟩,?_⟩
 ·repeat (first | exact zN hk | refine yX ?_ (zV rfl t))
 conv => whnf
 refine ⟨yC t,⟨?_,by simp [yC]⟩,?_⟩
 ·repeat (first | exact zN hk | refine yX ?_ (zV rfl t))
 conv => whnf
 rw [e1]
 have e3 : ((stk t).drop (0 + ((t.stack.length : Int) - (zA o.code).1).toNat)).take ((t.stack.length : Int).toNat - ((t.stack.length : Int) - (zA o.code).1).toNat) = (t.stack.drop (zP t o)).map encF := by
  rw [e2,Nat.zero_add,List.take_of_length_le (by simp [stk]),stk,List.map_drop]
 have hlen : (t.stack.drop (zP t o)).length ≤ 1048576 := by simp; omega
 rcases Int.lt_or_eq_of_le ht.1 with h0 | h0
 refine .inl ⟨⟨by omega,by omega,by omega,.inr (by omega)⟩,?_⟩
 conv => whnf
 refine .inl ⟨(· = .uq 105 1 ((t.stack.drop (zP t o)).map encF)),Eq.mp (congrArg (fun x => CallsTo EE 174 [sl x] _) e3.symm) (gF (t.stack.drop (zP t o)) hlen),?_⟩
 rintro r rfl
 refine ⟨fun c hc => ?_,.inl ?_⟩
 ·obtain ⟨y,_,rfl⟩ := List.mem_map.1 hc
  rfl
 conv => whnf
 rotate_left 1
 refine .inr ⟨⟨by omega,by omega,by omega⟩,?_⟩
 conv => whnf
 refine ⟨(· = .uq 105 1 ((t.stack.drop (zP t o)).map encF)),Eq.mp (congrArg (fun x => CallsTo EE 174 [sl x] _) (by simp [zP,xG,← h0])) (gF (t.stack.drop (zP t o)) hlen),?_⟩
 rintro r rfl
 refine .inl ?_
 conv => whnf
 all_goals
  refine ⟨yC t,⟨by repeat (first | exact zN hk | refine yX ?_ (zV rfl t)),by simp [yC]⟩,?_⟩
  conv => whnf
  refine .inl ⟨⟨by omega,by omega,by omega,.inl rfl⟩,?_⟩
  conv => whnf
  have e5 : ((t.stack.length : Int) - (zA o.code).1).toNat - (0 : Int).toNat = zP t o := by rw [e2]; rfl
  refine ⟨[i64 t.rt,i64 t.pc,i64 t.st,i64 t.cond,i64 t.lock,.ref (.n 899) 0 (zP t o)],⟨?_,by simp⟩,?_⟩
  ·refine wV (c := yC t) (by repeat (first | exact zN hk | refine yX ?_ (zV rfl t))) ?_
   conv => lhs; whnf
   rw [← e5]
   rfl
  conv => whnf
  refine hK _ ⟨?_,?_,?_⟩
  ·exact ⟨rfl,rfl,rfl,rfl,rfl,rfl,rfl,trivial⟩
  ·refine ⟨?_,rfl,rfl,rfl,rfl,?_,rfl,rfl,trivial⟩
   ·conv => lhs; whnf
    refine congrArg some ?_
    repeat (refine yH ?_ (xH i0 i1 i2 s rfl))
    rfl
   ·conv => lhs; whnf
    refine congrArg (fun x => some (Ob.rs 123 6 x)) ?_
    have hkl : (t.stack.take (zP t o)).length = zP t o := by simp [zP]
    refine bP hk (bP hk (t := t) (t' := { t with stack := t.stack.take (zP t o) }) (by repeat (first | rfl | refine Eq.trans (congrArg (List.map (scrPL _)) ?_) (vV rfl (fun _ => rfl) _ _ _))) ?_) ?_
    ·show [_,_,_,_,_,AV.ref (.n 899) 0 (((t.stack.length : Int) - (zA o.code).1).toNat - (0 : Int).toNat)] = [_,_,_,_,_,AV.ref (.n 899) 0 (t.stack.take (zP t o)).length]
     rw [e5,hkl]
    ·show [_,AV.d (.int .i64 (IntKind.i64.wrap (t.pc + 1))),_,_,_,AV.ref (.n 899) 0 (t.stack.take (zP t o)).length] = [_,i64 (t.pc + 1),_,_,_,AV.ref (.n 899) 0 (t.stack.take (zP t o)).length]
     rw [zE (by have := hpc.1; omega) (by have := hpc.2; omega)]
     rfl
  ·refine ⟨fun j => ?_,trivial⟩
   repeat (first | exact rfl | refine hscrO ?_ (hg _ _) | conv => lhs; whnf)
end Ai
end
section
set_option maxRecDepth 100000
namespace Ai
open Go Go.Proofs Ieee
theorem gtr_max {c : Nat} : fcmp .gtr c 9218868437227405311 = (match double.read c with | .infinity false => true | _ => false) := by
 unfold fcmp Format.order
 rw [show double.read 9218868437227405311 = .number false 9007199254740991 971 by decide]
 have bound : ∀ s m e,double.read c = .number s m e → m < 9007199254740992 ∧ -1074 ≤ e ∧ e ≤ 971 := by
  intro s m e h
  unfold Format.read at h
  rw [show double.signWeight = 9223372036854775808 by decide,show double.binade = 4503599627370496 by decide,show double.infRung = 9218868437227405312 by decide,show double.leastPlace = -1074 by decide] at h
  simp only at h
  split at h
  ·simp only [Datum.number.injEq] at h
   obtain ⟨_,h1,h2⟩ := h
   omega
  ·split at h
   ·simp only [Datum.number.injEq] at h
    obtain ⟨_,h1,h2⟩ := h
    omega
   ·split at h <;> cases h
 cases h : double.read c with
 |nan s f => rfl
 |infinity s => cases s <;> rfl
 |number s m e =>
  obtain ⟨b1,b2,b3⟩ := bound s m e h
  simp only [Datum.order]
  have hm : Min.min e 971 = e := by omega
  rw [hm]
  have h2 : 9007199254740991 ≤ 9007199254740991 <<< (971 - e).toNat := by
   rw [Nat.shiftLeft_eq]; exact Nat.le_mul_of_pos_right _ (Nat.pow_pos (by decide))
  have h3 : signed s m (e - e).toNat ≤ 9007199254740991 := by
   rw [Int.sub_self]
   show signed s m 0 ≤ _
   unfold signed
   rw [Nat.shiftLeft_zero]
   split <;> omega
  have h4 : signed false 9007199254740991 (971 - e).toNat = ((9007199254740991 <<< (971 - e).toNat : Nat) : Int) := rfl
  have hle : signed s m (e - e).toNat ≤ signed false 9007199254740991 (971 - e).toNat := by
   rw [h4]; omega
  generalize signed s m (e - e).toNat = u at hle
  generalize signed false 9007199254740991 (971 - e).toNat = v at hle
  show (some (compare u v) == some .gt) = false
  have : compare u v ≠ .gt := by
   rw [Int.compare_eq_ite_lt]
   split
   ·decide
   ·split
    ·omega
    ·decide
  cases hc : compare u v with
  |gt => exact absurd hc this
  |lt => rfl
  |eq => rfl
theorem lH {c : Nat} {s : Bool} {m : Nat} {e : Int} (hc : c < 18446744073709551616) (h : double.read c = .number s m e) :
  (c % 9223372036854775808 = m ∧ m < 4503599627370496 ∧ e = -1074 ∧ (s = true ↔ 9223372036854775808 ≤ c)) ∨
  (4503599627370496 ≤ m ∧ m < 9007199254740992 ∧ -1074 ≤ e ∧ c % 9223372036854775808 = (e + 1075).toNat * 4503599627370496 + (m - 4503599627370496) ∧ (s = true ↔ 9223372036854775808 ≤ c)) := by
 unfold Format.read at h
 rw [show double.signWeight = 9223372036854775808 by decide,show double.binade = 4503599627370496 by decide,show double.infRung = 9218868437227405312 by decide,show double.leastPlace = -1074 by decide] at h
 simp only at h
 have hs : (c / 9223372036854775808 % 2 == 1) = true ↔ 9223372036854775808 ≤ c := by
  simp only [beq_iff_eq]; omega
 split at h
 ·simp only [Datum.number.injEq] at h
  obtain ⟨h0,h1,h2⟩ := h
  subst h0
  exact .inl ⟨h1,by omega,by omega,hs⟩
 ·split at h
  ·simp only [Datum.number.injEq] at h
   obtain ⟨h0,h1,h2⟩ := h
   subst h0
   exact .inr ⟨by omega,by omega,by omega,by omega,hs⟩
  ·split at h <;> cases h
theorem num_eq {c d : Nat} {s t : Bool} {m n : Nat} {e i : Int} (hc : c < 18446744073709551616) (hd : d < 18446744073709551616) (h1 : double.read c = .number s m e) (h2 : double.read d = .number t n i)
  (h : double.order c d = some .eq) (h0 : ¬ (m = 0 ∧ n = 0)) : c = d := by
 unfold Format.order at h
 rw [h1,h2] at h
 simp only [Datum.order,Option.some.injEq] at h
 have h := Std.LawfulEqCmp.eq_of_compare h
 simp only [signed,Nat.shiftLeft_eq] at h
 have p1 : 0 < 2 ^ (e - Min.min e i).toNat := Nat.pow_pos (by decide)
 have p2 : 0 < 2 ^ (i - Min.min e i).toNat := Nat.pow_pos (by decide)
 have key : m * 2 ^ (e - Min.min e i).toNat = n * 2 ^ (i - Min.min e i).toNat ∧ s = t := by
  have q1 : m = 0 ∨ 0 < m * 2 ^ (e - Min.min e i).toNat := by
   rcases Nat.eq_zero_or_pos m with a | a
   ·exact .inl a
   ·exact .inr (Nat.mul_pos a p1)
  have q2 : n = 0 ∨ 0 < n * 2 ^ (i - Min.min e i).toNat := by
   rcases Nat.eq_zero_or_pos n with a | a
   ·exact .inl a
   ·exact .inr (Nat.mul_pos a p2)
  have z1 : m = 0 → m * 2 ^ (e - Min.min e i).toNat = 0 := fun a => by rw [a,Nat.zero_mul]
  have z2 : n = 0 → n * 2 ^ (i - Min.min e i).toNat = 0 := fun a => by rw [a,Nat.zero_mul]
  generalize m * 2 ^ (e - Min.min e i).toNat = u at *
  generalize n * 2 ^ (i - Min.min e i).toNat = v at *
  cases s <;> cases t <;> simp at h ⊢ <;> omega
 obtain ⟨k1,rfl⟩ := key
 have hei : ∀ (a b : Nat) (j : Nat),4503599627370496 ≤ b → a < 9007199254740992 → a = b * 2 ^ (j + 1) → False := by
  intro a b j hb ha he
  rw [Nat.pow_succ] at he
  have : 0 < 2 ^ j := Nat.pow_pos (by decide)
  have : b * 1 ≤ b * 2 ^ j := Nat.mul_le_mul_left _ this
  have : a = b * 2 ^ j * 2 := by rw [he,Nat.mul_assoc]
  omega
 have r1 := lH hc h1
 have r2 := lH hd h2
 have ee : e = i := by
  rcases Int.lt_trichotomy e i with hlt | heq | hgt
  ·exfalso
   rcases r2 with r2 | r2
   ·rcases r1 with r1 | r1 <;> omega
   obtain ⟨j,hj⟩ : ∃ j : Nat,(i - Min.min e i).toNat = j + 1 := ⟨(i - Min.min e i).toNat - 1,by omega⟩
   have hz : (e - Min.min e i).toNat = 0 := by omega
   rw [hz,hj,Nat.pow_zero,Nat.mul_one] at k1
   exact hei m n j r2.1 (by rcases r1 with r1 | r1 <;> omega) k1
  ·exact heq
  ·exfalso
   rcases r1 with r1 | r1
   ·rcases r2 with r2 | r2 <;> omega
   obtain ⟨j,hj⟩ : ∃ j : Nat,(e - Min.min e i).toNat = j + 1 := ⟨(e - Min.min e i).toNat - 1,by omega⟩
   have hz : (i - Min.min e i).toNat = 0 := by omega
   rw [hz,hj,Nat.pow_zero,Nat.mul_one] at k1
   exact hei n m j r1.1 (by rcases r2 with r2 | r2 <;> omega) k1.symm
 subst ee
 have : m = n := by
  have hz : (e - Min.min e e).toNat = 0 := by omega
  rw [hz,Nat.pow_zero,Nat.mul_one,Nat.mul_one] at k1
  exact k1
 subst this
 have hsg : (9223372036854775808 ≤ c ↔ 9223372036854775808 ≤ d) := by
  have a1 : s = true ↔ 9223372036854775808 ≤ c := r1.elim (fun r => r.2.2.2) fun r => r.2.2.2.2
  have a2 : s = true ↔ 9223372036854775808 ≤ d := r2.elim (fun r => r.2.2.2) fun r => r.2.2.2.2
  rw [← a1,← a2]
 have hmd : c % 9223372036854775808 = d % 9223372036854775808 := by
  rcases r1 with r1 | r1 <;> rcases r2 with r2 | r2 <;> omega
 by_cases hh : 9223372036854775808 ≤ c
 ·have := hsg.1 hh
  omega
 ·have : ¬ 9223372036854775808 ≤ d := fun e => hh (hsg.2 e)
  omega
theorem j6 {c : Nat} {s : Bool} (hc : c < 18446744073709551616) (h : double.read c = .infinity s) : c = if s = true then 18442240474082181120 else 9218868437227405312 := by
 unfold Format.read at h
 rw [show double.signWeight = 9223372036854775808 by decide,show double.binade = 4503599627370496 by decide,show double.infRung = 9218868437227405312 by decide,show double.leastPlace = -1074 by decide] at h
 simp only at h
 split at h
 ·cases h
 ·split at h
  ·cases h
  ·split at h
   ·simp only [Datum.infinity.injEq] at h
    subst h
    by_cases hh : 9223372036854775808 ≤ c
    ·have h1 : c / 9223372036854775808 = 1 := by omega
     rw [h1]
     simp
     omega
    ·have h1 : c / 9223372036854775808 = 0 := by omega
     rw [h1]
     simp
     omega
   ·cases h
theorem eql_refl {x : Nat} (h : zM x = false) : fcmp .eql x x = true := by
 have := dS x
 rw [h] at this
 simpa [fcmp] using this
theorem j1 {x y : Nat} (hx : x < 18446744073709551616) (hy : y < 18446744073709551616) (nx : zM x = false) (ny : zM y = false) : (fcmp .eql x y = true ∧ (jU x ↔ jU y)) ↔ x = y := by
 refine ⟨fun ⟨h1,h2⟩ => ?_,fun e => by subst e; exact ⟨eql_refl nx,Iff.rfl⟩⟩
 have h3 : double.order x y = some .eq := by simpa [fcmp] using h1
 have m1 : jU 9223372036854775808 := .inr ⟨by decide,by decide⟩
 have m0 : ¬ jU 0 := by unfold jU; decide
 cases rx : double.read x with
 |nan s f => unfold zM at nx; rw [rx] at nx; cases nx
 |infinity s =>
  cases ry : double.read y with
  |nan s f => unfold zM at ny; rw [ry] at ny; cases ny
  |number t n i => unfold Format.order at h3; rw [rx,ry] at h3; cases s <;> cases h3
  |infinity t =>
   unfold Format.order at h3
   rw [rx,ry] at h3
   have e1 := j6 hx rx
   have e2 := j6 hy ry
   cases s <;> cases t <;> first | exact e1.trans e2.symm | cases h3
 |number s m e =>
  cases ry : double.read y with
  |nan s f => unfold zM at ny; rw [ry] at ny; cases ny
  |infinity t => unfold Format.order at h3; rw [rx,ry] at h3; cases t <;> cases h3
  |number t n i =>
   by_cases h0 : m = 0 ∧ n = 0
   ·obtain ⟨rfl,rfl⟩ := h0
    have r1 := lH hx rx
    have r2 := lH hy ry
    have c1 : x = 0 ∨ x = 9223372036854775808 := by rcases r1 with r1 | r1 <;> omega
    have c2 : y = 0 ∨ y = 9223372036854775808 := by rcases r2 with r2 | r2 <;> omega
    rcases c1 with rfl | rfl <;> rcases c2 with rfl | rfl
    ·rfl
    ·exact absurd (h2.2 m1) m0
    ·exact absurd (h2.1 m1) m0
    ·rfl
   ·exact num_eq hx hy rx ry h3 h0
end Ai
end
section
set_option maxRecDepth 100000
namespace Ai
open Go Go.Proofs Ieee
theorem nT (x : Nat) : CallsTo EE 192 [.d (.flt x)] (· = bp (zM x = true)) := by
 refine callsTo_of_AW (fn := Tryz.f192) Tryz.func192 rfl (by kernel_rfl) rfl ?_
 conv => whnf
 refine kbi (fun h => ?_) (fun h => ?_)
 ·conv => whnf
  exact bpt (by rw [← dS]; exact h)
 ·conv => whnf
  exact bpf (by rw [← dS]; exact h)
theorem bitsI_run (b : Nat) (w : World) : (callFunc 193 #[.float .f64 b]).run Tryz.prog w = .ok (.value (.int .u64 b)) w := by
 kernel_rfl
theorem dZ {b : Nat} (h : zM (canon b) = false) : canon b = b := by
 unfold canon at *
 cases hn : zM b with
 |true => rw [hn] at h; exact absurd (show zM nanC = false from h) (by decide)
 |false => rfl
theorem wU (x : Nat) : CallsTo EE 193 [.d (.flt x)] (fun r => ∃ b : Nat,r = .d (.int .u64 b) ∧ canon b = x) := by
 intro w A vs hI hA
 obtain ⟨hl,hr⟩ := hA
 have h1 : vs.size = 1 := hl.symm
 obtain ⟨v,hv⟩ : ∃ v,vs = #[v] := ⟨vs[0],by apply Array.ext (by simp [h1]); intro i h2 h3; simp at h3; subst h3; rfl⟩
 subst hv
 have := hr 0 _ v rfl rfl
 cases this with
 |d _ _ hd => cases hd with
  |flt b =>
   unfold Invokes
   rw [show Sem.run EE.P (callFunc 193 #[Value.float .f64 b]) w = _ from bitsI_run b w]
   exact ⟨_,⟨b,rfl,rfl⟩,RowKit.Below.refl _ _,.d _ _ (.int _ _)⟩
theorem oW (n : Int) (w : World) : (callFunc 231 #[.int .u64 n]).run Tryz.prog w = .ok (.value (.float .f64 n.toNat)) w := by
 kernel_rfl
theorem n9 (n : Int) : CallsTo EE 231 [.d (.int .u64 n)] (· = .d (.flt (canon n.toNat))) := by
 intro w A vs hI hA
 obtain ⟨hl,hr⟩ := hA
 have h1 : vs.size = 1 := hl.symm
 obtain ⟨v,hv⟩ : ∃ v,vs = #[v] := ⟨vs[0],by apply Array.ext (by simp [h1]); intro i h2 h3; simp at h3; subst h3; rfl⟩
 subst hv
 have := hr 0 _ v rfl rfl
 cases this with
 |d _ _ hd => cases hd with
  |int =>
   unfold Invokes
   rw [show Sem.run EE.P (callFunc 231 #[Value.int .u64 n]) w = _ from oW n w]
   exact ⟨_,rfl,RowKit.Below.refl _ _,.d _ _ (.flt _)⟩
theorem trunc_next : Extern.findNext Tryz.f228 = none := by kernel_rfl
theorem trunc_find : Extern.find Tryz.f228 = some (Extern.MathFloor.toIntegral "math.archTrunc" .zero) := by kernel_rfl
theorem trunc_ng : (Tryz.f228.name == "runtime.NumGoroutine") = false := by kernel_rfl
theorem trunc_nb : Tryz.f228.body.isNone = true := by kernel_rfl
theorem trunc_run (b : Nat) (w : World) : (callFunc 228 #[.float .f64 b]).run Tryz.prog w = (((Extern.MathFloor.toIntegral "math.archTrunc" .zero #[.float .f64 b]).run Tryz.prog w).andThen fun v w => .ok (.value v) w) := by
 unfold callFunc
 simp only [Sem.run_bind,run_program,Result.andThen_ok,Tryz.func228,trunc_ng,trunc_nb,trunc_next,trunc_find,Bool.false_eq_true,if_false,if_true,run_mark,Sem.run_pure]
def dK (x : Nat) : Nat := canon (double.write ((double.read x).integral .zero))
theorem y1 (x : Nat) (hx : zM x = false) : CallsTo EE 228 [.d (.flt x)] (· = .d (.flt (dK x))) := by
 intro w A vs hI hA
 obtain ⟨hl,hr⟩ := hA
 have h1 : vs.size = 1 := hl.symm
 obtain ⟨v,hv⟩ : ∃ v,vs = #[v] := ⟨vs[0],by apply Array.ext (by simp [h1]); intro i h2 h3; simp at h3; subst h3; rfl⟩
 subst hv
 have := hr 0 _ v rfl rfl
 cases this with
 |d _ _ hd =>
  cases hd with
  |flt b =>
   have hb : canon b = b := dZ hx
   unfold Invokes
   have hrun : Sem.run EE.P (callFunc 228 #[Value.float .f64 b]) w = .ok (.value (.float .f64 (double.write ((double.read b).integral .zero)))) w := by
    rw [show Sem.run EE.P (callFunc 228 #[Value.float .f64 b]) w = _ from trunc_run b w]
    have hdec : FloatKind.f64.decode b = double.read b := rfl
    have hn : zM b = false := by rw [hb] at hx; exact hx
    unfold zM at hn
    have ht : Extern.MathFloor.toIntegral "math.archTrunc" .zero #[Value.float .f64 b] = pure (.float .f64 (double.write ((double.read b).integral .zero))) := by
     show (match FloatKind.f64.decode b with
      | .nan s t => _
      |d => _) = _
     rw [hdec]
     cases hd : double.read b with
     |nan s f => rw [hd] at hn; cases hn
     |infinity s => rfl
     |number s m i => rfl
    rw [ht]
    rfl
   rw [hrun]
   refine ⟨_,rfl,RowKit.Below.refl _ _,?_⟩
   rw [hb]
   exact .d _ _ (.flt _)
theorem Trunc_ok (x : Nat) (hx : zM x = false) : CallsTo EE 223 [.d (.flt x)] (· = .d (.flt (dK x))) := by
 refine callsTo_of_AW (fn := Tryz.f223) Tryz.func223 rfl (by kernel_rfl) rfl ?_
 conv => whnf
 refine ⟨_,y1 x hx,?_⟩
 rintro r rfl
 conv => whnf
def rB (b : Nat) : Nat := (IntKind.u64.wrap (BitVec.ofInt 64 b &&& ~~~BitVec.ofInt 64 9223372036854775808).toNat).toNat
theorem Abs_ok (x : Nat) : CallsTo EE 227 [.d (.flt x)] (fun r => ∃ b,canon b = x ∧ r = .d (.flt (canon (rB b)))) := by
 refine callsTo_of_AW (fn := Tryz.f227) Tryz.func227 rfl (by kernel_rfl) rfl ?_
 conv => whnf
 refine ⟨_,wU x,?_⟩
 rintro r ⟨b,rfl,hb⟩
 conv => whnf
 refine ⟨_,n9 _,?_⟩
 rintro r rfl
 conv => whnf
 exact ⟨b,hb,rfl⟩
theorem IsInf_ok (x : Nat) : CallsTo EE 222 [.d (.flt x),i64 0] (fun r => ∃ b,canon b = x ∧ r = bv (fcmp .gtr (canon (rB b)) 9218868437227405311)) := by
 refine callsTo_of_AW (fn := Tryz.f222) Tryz.func222 rfl (by kernel_rfl) rfl ?_
 conv => whnf
 refine kbi (fun _ => ?_) (fun h => absurd rfl h)
 conv => whnf
 refine ⟨_,Abs_ok x,?_⟩
 rintro r ⟨b,hb,rfl⟩
 conv => whnf
 refine kbi (fun h => ?_) (fun h => ?_)
 ·conv => whnf
  exact ⟨b,hb,congrArg bv (show true = _ from (show fcmp .gtr (canon (rB b)) 9218868437227405311 = true from h).symm)⟩
 ·conv => whnf
  exact ⟨b,hb,congrArg bv (show false = _ from (Bool.not_eq_true _ ▸ (show ¬ fcmp .gtr (canon (rB b)) 9218868437227405311 = true from h) : fcmp .gtr (canon (rB b)) 9218868437227405311 = false).symm)⟩
def wD (x : Nat) : Int := if zM x = true then 0 else (match double.read x with | .infinity _ => 1 | _ => if fcmp .eql x 0 = true then 2 else if fcmp .eql x (dK x) = true then 3 else 4)
theorem absB_mod (b : Nat) : rB b = b % 9223372036854775808 := by
 unfold rB
 have h1 : (BitVec.ofInt 64 (b : Int) &&& ~~~BitVec.ofInt 64 9223372036854775808).toNat = b % 9223372036854775808 := by
  rw [BitVec.toNat_and,show (~~~BitVec.ofInt 64 9223372036854775808).toNat = 2 ^ 63 - 1 by decide,Nat.and_two_pow_sub_one_eq_mod,BitVec.toNat_ofInt]
  omega
 rw [h1]
 have : IntKind.u64.wrap (((b % 9223372036854775808 : Nat)) : Int) = ((b % 9223372036854775808 : Nat) : Int) := by
  unfold IntKind.wrap
  simp [IntKind.bits,IntKind.signed]
  omega
 rw [this]
 rfl
theorem iC {b : Nat} : double.read (rB b) = (match double.read b with | .number _ m i => .number false m i | .infinity _ => .infinity false | .nan _ f => .nan false f) := by
 rw [absB_mod]
 unfold Format.read
 rw [show double.signWeight = 9223372036854775808 by decide]
 have h1 : b % 9223372036854775808 / 9223372036854775808 % 2 = 0 := by omega
 simp only [h1,Nat.mod_mod]
 split
 ·rfl
 ·split
  ·rfl
  ·split <;> rfl
theorem iE (x : Nat) : CallsTo EE 209 [.d (.flt x)] (· = i64 (wD x)) := by
 refine callsTo_of_AW (fn := Tryz.f209) Tryz.func209 rfl (by kernel_rfl) rfl ?_
 conv => whnf
 refine ocase (nT x) (fun h => ?_) (fun h => ?_)
 ·conv => whnf
  unfold wD
  rw [if_pos h]
 have h' : zM x = false := by simpa using h
 conv => whnf
 refine ⟨_,IsInf_ok x,?_⟩
 rintro r ⟨b,hb,rfl⟩
 have hbb : canon b = b := dZ (by rw [hb]; exact h')
 have hxb : b = x := by rw [← hb,hbb]
 subst hxb
 have hinf : fcmp .gtr (canon (rB b)) 9218868437227405311 = (match double.read b with | .infinity _ => true | _ => false) := by
  have hnb : zM (rB b) = false := by
   have := h'
   unfold zM at this ⊢
   rw [iC]
   cases hd : double.read b <;> rw [hd] at this <;> first | rfl | cases this
  have hcn : canon (rB b) = rB b := by unfold canon; rw [hnb]; rfl
  rw [hcn,gtr_max,iC]
  cases double.read b <;> rfl
 rw [hinf]
 cases hd : double.read b with
 |nan s f => unfold zM at h'; rw [hd] at h'; cases h'
 |infinity s =>
  conv => whnf
  unfold wD
  rw [if_neg h,hd]
 |number s m i =>
  conv => whnf
  refine kbi (fun h0 => ?_) (fun h0 => ?_)
  ·have h0 : fcmp .eql b 0 = true := h0
   conv => whnf
   unfold wD
   rw [if_neg h,hd]
   simp only
   rw [if_pos h0]
  have h0 : ¬ fcmp .eql b 0 = true := h0
  conv => whnf
  refine ⟨_,Trunc_ok b h',?_⟩
  rintro r rfl
  conv => whnf
  refine kbi (fun h1 => ?_) (fun h1 => ?_)
  ·have h1 : fcmp .eql b (dK b) = true := h1
   conv => whnf
   unfold wD
   rw [if_neg h,hd]
   simp only
   rw [if_neg h0,if_pos h1]
  ·have h1 : ¬ fcmp .eql b (dK b) = true := h1
   conv => whnf
   unfold wD
   rw [if_neg h,hd]
   simp only
   rw [if_neg h0,if_neg h1]
end Ai
end
section
set_option maxRecDepth 100000
namespace Ai
open Go Go.Proofs Ieee
theorem inf_eql0 {x : Nat} {s : Bool} (h : double.read x = .infinity s) : fcmp .eql x 0 = false := by
 unfold fcmp Format.order
 rw [h,kO]
 cases s <;> rfl
theorem isNo_ok (x : Nat) : CallsTo EE 182 [.d (.flt x)] (· = bp (zM x = true ∨ fcmp .eql x 0 = true)) := by
 refine callsTo_of_AW (fn := Tryz.f182) Tryz.func182 rfl (by kernel_rfl) rfl ?_
 conv => whnf
 refine ⟨_,iE x,?_⟩
 rintro r rfl
 conv => whnf
 refine kbi (fun h1 => ?_) (fun h1 => ?_)
 ·have h1 : wD x = 0 := by simpa using h1
  conv => whnf
  refine bpt (.inl ?_)
  unfold wD at h1
  split at h1
  ·assumption
  ·split at h1
   ·cases h1
   ·split at h1
    ·cases h1
    ·split at h1 <;> cases h1
 have h1 : ¬ wD x = 0 := by simpa using h1
 have hn : ¬ zM x = true := fun e => h1 (by unfold wD; rw [if_pos e])
 conv => whnf
 refine kbi (fun h2 => ?_) (fun h2 => ?_)
 ·have h2 : wD x = 2 := by simpa using h2
  conv => whnf
  refine bpt (.inr ?_)
  unfold wD at h2
  rw [if_neg hn] at h2
  split at h2
  ·cases h2
  ·split at h2
   ·assumption
   ·split at h2 <;> cases h2
 ·have h2 : ¬ wD x = 2 := by simpa using h2
  conv => whnf
  refine bpf fun e => e.elim hn fun e => h2 ?_
  unfold wD
  rw [if_neg hn]
  split
  ·rename_i s hs
   rw [inf_eql0 hs] at e; cases e
  ·rw [if_pos e]
theorem uY (b : Bool) : CallsTo EE 58 [bv b] (· = i64 (if b = true then 1 else 0)) := by
 refine callsTo_of_AW (fn := Tryz.f58) Tryz.func58 rfl (by kernel_rfl) rfl ?_
 cases b
 ·conv => whnf
  rfl
 ·conv => whnf
  rfl
theorem SameNumI_ok (x y : Nat) (hx : x < 18446744073709551616) (hy : y < 18446744073709551616) : CallsTo EE 158 [.d (.flt x),.d (.flt y)] (· = bp (bH x y)) := by
 refine callsTo_of_AW (fn := Tryz.f158) Tryz.func158 rfl (by kernel_rfl) rfl ?_
 have bits : ∀ {z b : Nat},zM z = false → canon b = z → b = z := fun {z b} h e => by
  have := dZ (b := b) (by rw [e]; exact h)
  rw [← e,this]
 have rest : ∀ (hn : ¬ (zM x = true ∧ zM y = true)) (b c : Nat),canon b = x → canon c = y → ((b : Int) = (c : Int) ↔ bH x y) := by
  intro hn b c hb hc
  have key : (b = c) ↔ bH x y := by
   by_cases h : zM x = true ∨ zM y = true
   ·constructor
    ·rintro rfl
     exfalso
     have : x = y := hb.symm.trans hc
     subst this
     exact hn ⟨h.elim id id,h.elim id id⟩
    ·rintro (e | e)
     ·exact absurd e.2 hn
     ·exact absurd h e.1
   ·have nx : zM x = false := by simpa using fun e => h (.inl e)
    have ny : zM y = false := by simpa using fun e => h (.inr e)
    rw [bits nx hb,bits ny hc]
    constructor
    ·intro e
     exact .inr ⟨h,(j1 hx hy nx ny).2 e⟩
    ·rintro (e | e)
     ·exact absurd e.1 h
     ·exact (j1 hx hy nx ny).1 e.2
  rw [← key]
  omega
 conv => whnf
 refine ocase (nT x) (fun h => ?_) (fun h => ?_)
 ·conv => whnf
  refine ocase (nT y) (fun h2 => ?_) (fun h2 => ?_)
  ·conv => whnf
   exact bpt (.inl ⟨.inl h,h,h2⟩)
  ·conv => whnf
   refine ⟨_,wU x,?_⟩
   rintro r ⟨b,rfl,hb⟩
   conv => whnf
   refine ⟨_,wU y,?_⟩
   rintro r ⟨c,rfl,hc⟩
   conv => whnf
   have := rest (fun e => h2 e.2) b c hb hc
   refine kbi (fun h3 => ?_) (fun h3 => ?_)
   ·conv => whnf
    exact bpt (this.1 (by simpa using h3))
   ·conv => whnf
    exact bpf (fun e => absurd (this.2 e) (by simpa using h3))
 ·conv => whnf
  refine ⟨_,wU x,?_⟩
  rintro r ⟨b,rfl,hb⟩
  conv => whnf
  refine ⟨_,wU y,?_⟩
  rintro r ⟨c,rfl,hc⟩
  conv => whnf
  have := rest (fun e => h e.1) b c hb hc
  refine kbi (fun h3 => ?_) (fun h3 => ?_)
  ·conv => whnf
   exact bpt (this.1 (by simpa using h3))
  ·conv => whnf
   exact bpf (fun e => absurd (this.2 e) (by simpa using h3))
theorem aB (c : Int) (x y : Nat) (hc : 4 ≤ c ∧ c ≤ 9) (hx : x < 18446744073709551616) (hy : y < 18446744073709551616) : CallsTo EE 186 [i64 c,.d (.flt x),.d (.flt y)] (· = .d (.flt (yL c x y))) := by
 refine callsTo_of_AW (fn := Tryz.f186) Tryz.func186 rfl (by kernel_rfl) rfl ?_
 conv => whnf
 refine kbi (fun h1 => ?_) (fun h1 => ?_)
 ·have : c = 4 := by simpa using h1
  conv => whnf
  subst this; rfl
 have h1 : ¬ c = 4 := by simpa using h1
 conv => whnf
 refine kbi (fun h2 => ?_) (fun h2 => ?_)
 ·have : c = 5 := by simpa using h2
  conv => whnf
  subst this; rfl
 have h2 : ¬ c = 5 := by simpa using h2
 conv => whnf
 refine kbi (fun h3 => ?_) (fun h3 => ?_)
 ·have : c = 6 := by simpa using h3
  conv => whnf
  subst this; rfl
 have h3 : ¬ c = 6 := by simpa using h3
 conv => whnf
 refine kbi (fun h4 => ?_) (fun h4 => ?_)
 ·have : c = 7 := by simpa using h4
  conv => whnf
  subst this; rfl
 have h4 : ¬ c = 7 := by simpa using h4
 conv => whnf
 refine kbi (fun h5 => ?_) (fun h5 => ?_)
 ·have : c = 8 := by simpa using h5
  conv => whnf
  refine kbi (fun hl => ?_) (fun hl => ?_)
  ·conv => whnf
   refine ⟨_,uY true,?_⟩
   rintro r rfl
   conv => whnf
   simp [yL,this,hl]; rfl
  ·conv => whnf
   refine ⟨_,uY false,?_⟩
   rintro r rfl
   conv => whnf
   simp [yL,this,hl]; rfl
 have h5 : ¬ c = 8 := by simpa using h5
 conv => whnf
 refine ocase (SameNumI_ok x y hx hy) (fun h => ?_) (fun h => ?_)
 ·conv => whnf
  refine ⟨_,uY true,?_⟩
  rintro r rfl
  conv => whnf
  simp [yL,h1,h2,h3,h4,h5,h]; rfl
 ·conv => whnf
  refine ⟨_,uY false,?_⟩
  rintro r rfl
  conv => whnf
  simp [yL,h1,h2,h3,h4,h5,h]; rfl
end Ai
end
section
set_option maxRecDepth 100000
namespace Ai
open Go Go.Proofs
theorem lA {t : Th} {o : OpL} {i : Nat} (h : ∀ x ∈ t.stack,x < 18446744073709551616) : yK t o i < 18446744073709551616 := by
 unfold yK
 rw [List.getD_eq_getElem?_getD]
 cases hg : (t.stack.drop (zP t o))[i]? with
 |none => decide
 |some x => exact h x (List.mem_of_mem_drop (List.mem_of_getElem? hg))
theorem w9 {x0 x1 x2 : AV} (i0 : Inert x0) (i1 : Inert x1) (i2 : Inert x2) (s : StL) {p : Key → Bool} (h : (p (.n 900) || p (.n 901) || p (.n 902)) = false) : scrPL p ([x0,x1,x2] ++ stRef s) = [x0,x1,x2] ++ stRef s := by
 have := xH (E := 0) i0 i1 i2 s h
 simpa [scrPO] using this
theorem hscrL {L X : List AV} {p : Key → Bool} (h : L = X) (hp : scrPL p X = X) : scrPL p L = X := by rw [h]; exact hp
theorem spawn_vs3 {x0 x1 x2 : AV} (i0 : Inert x0) (i1 : Inert x1) (i2 : Inert x2) {s s' : StL} {L : List AV} {v : AV} (hv : v = .dref (.n 900) s'.ths.length) (hL : L = [x0,x1,x2] ++ stRef s) (hc : s'.cells.length = s.cells.length) (ho : s'.owner.length = s.owner.length) (hf : s'.fault = s.fault) :
  zU (scrPL (isK (.n 900)) L) (3 + 0) [v] = [x0,x1,x2] ++ stRef s' := by
 subst hv hL
 simp only [stRef,List.cons_append,List.nil_append,scrPL,i0.scr,i1.scr,i2.scr,hc,ho,hf]
 rfl
theorem dJ {S : St} {l : List Th} {k : Nat} {t : Th} {els : List (List D)} (hk : k < l.length) (h9 : S.H (.n 900) = some (.rs 123 6 (rowsA l k t))) (hfam : ∀ j,j ≠ k → (h : j < l.length) → S.H (.s 900 j) = some (.ds 105 1 (stk l[j])))
  (h8 : S.H (.n 899) = some (.ds 105 1 els)) (he : els.take t.stack.length = stk t) : kE S (.n 900) l.length ((l.set k t).map zF) := by
 unfold kE
 rw [h9]
 refine ⟨by simp,fun j row hj hr => ?_⟩
 by_cases hjk : j = k
 ·subst hjk
  have : (rowsA l j t)[j]? = some (yC t) := zN hk
  rw [this] at hr
  simp only [Option.some.injEq] at hr
  subst hr
  refine ⟨zF t,by simp [hj],?_⟩
  simp [yC,fz1s,fz1,h8,i64,zF,he]
  rfl
 ·have : (rowsA l k t)[j]? = some (thRow 900 j l[j]) := by
   unfold rowsA
   rw [List.getElem?_set_ne (fun e => hjk e.symm)]
   exact xF hj
  rw [this] at hr
  simp only [Option.some.injEq] at hr
  subst hr
  exact ⟨zF l[j],by rw [List.getElem?_map,List.getElem?_set_ne (fun e => hjk e.symm)]; simp [hj],fz_row (hfam j hjk hj)⟩
theorem nZ (t : Th) (o : OpL) : CallsTo EE 185 [agg (zF t),.fp (encOp o)] (· = bv (t.st == 3 && t.cond == o.a)) := by
 refine callsTo_of_AW (fn := Tryz.f185) Tryz.func185 rfl (by kernel_rfl) rfl ?_
 conv => whnf
 refine kbi (fun h1 => ?_) (fun h1 => ?_)
 ·have h1 : t.st = 3 := by simpa using h1
  conv => whnf
  refine kbi (fun h2 => ?_) (fun h2 => ?_)
  ·have h2 : t.cond = o.a := by simpa using h2
   conv => whnf
   rw [h1,h2]; simp
  ·have h2 : ¬ t.cond = o.a := by simpa using h2
   conv => whnf
   rw [h1]; simp [h2]
 ·have h1 : ¬ t.st = 3 := by simpa using h1
  conv => whnf
  simp [h1]
theorem rO {l : List Th} {k : Nat} (hk : k < l.length) {t' : Th} (a : Int) (h1 : t'.st ≠ 3) (h2 : l[k].st ≠ 3) : (l.set k t').findIdx? (fun t => t.st == 3 && t.cond == a) = wH l a := by
 unfold wH
 have : ∀ (m : List Th) (k : Nat) (hk : k < m.length),m[k].st ≠ 3 → (m.set k t').findIdx? (fun t => t.st == 3 && t.cond == a) = m.findIdx? (fun t => t.st == 3 && t.cond == a) := by
  intro m
  induction m with
  |nil => intro k hk; cases hk
  |cons x m ih =>
   intro k hk h2
   cases k with
   |zero => simp [List.findIdx?_cons,h1,show x.st ≠ 3 from h2]
   |succ k => simp [List.findIdx?_cons,ih k (by simpa using hk) (by simpa using h2)]
 exact this l k hk h2
theorem uR {X : List (List AV)} {p : Key → Bool} {l : List Th} {k : Nat} {t : Th} (hX : X = rowsA l k t) (h1 : p (.n 899) = false) (h2 : ∀ j,p (.s 900 j) = false) : X.map (scrPL p) = rowsA l k t := by
 rw [hX]; exact vV h1 h2 l k t
theorem vU (l : List Th) (i : Nat) : (thRows 900 l)[i]? = (l[i]?).map (thRow 900 i) := by
 by_cases h : i < l.length
 ·rw [xF h,List.getElem?_eq_getElem h]; rfl
 ·rw [List.getElem?_eq_none (by rw [zQ]; omega),List.getElem?_eq_none (by omega)]; rfl
theorem sD {l : List Th} {k j : Nat} {t : Th} {X : List (List AV)} (hj : j < l.length) (hjk : j ≠ k) (hX : X = rowsA l k t) :
  xC X 6 ((j : Nat) : Int).toNat (0 + 2) [i64 4] = rowsA (l.modify j fun u => { u with st := 4 }) k t := by
 subst hX
 have hf : xC (rowsA l k t) 6 ((j : Nat) : Int).toNat (0 + 2) [i64 4] = (rowsA l k t).modify j fun c => zU c 2 [i64 4] := by
  unfold xC
  rfl
 rw [hf]
 apply List.ext_getElem?
 intro i
 rw [List.getElem?_modify]
 by_cases hik : i = k
 ·subst hik
  have h1 : (rowsA l i t)[i]? = (if i < l.length then some (yC t) else none) := by
   unfold rowsA; rw [List.getElem?_set,zQ]; simp
  have h2 : (rowsA (l.modify j fun u => { u with st := 4 }) i t)[i]? = (if i < l.length then some (yC t) else none) := by
   unfold rowsA; rw [List.getElem?_set,zQ]; simp
  rw [h1,h2]
  simp [hjk]
 ·have h1 : ∀ (m : List Th),(rowsA m k t)[i]? = (thRows 900 m)[i]? := fun m => by unfold rowsA; rw [List.getElem?_set_ne (fun e => hik e.symm)]
  rw [h1,h1]
  simp only [vU,List.getElem?_modify]
  by_cases hij : j = i
  ·subst hij
   simp [hj,thRow,zU]
  ·simp [hij]
theorem rS {l : List Th} {j : Nat} (i : Nat) : zR (l.modify j fun u => { u with st := 4 }) i = zR l i := by
 unfold zR
 simp only [List.getElem?_modify]
 cases l[i]? with
 |none => rfl
 |some u => by_cases h : j = i <;> simp [h,stk]
theorem nW {l : List Th} {a : Int} {j : Nat} (h : wH l a = some j) : ∃ h : j < l.length,l[j].st = 3 ∧ l[j].cond = a := by
 unfold wH at h
 rw [List.findIdx?_eq_some_iff_getElem] at h
 obtain ⟨h1,h2,_⟩ := h
 exact ⟨h1,by simpa using h2⟩
theorem xD (t : Th) (o : OpL) : (stk t).take (zC t o).stack.length = stk (zC t o) := by
 simp [stk,zC,List.map_take]
theorem qI (t : Th) : (stk t).take t.stack.length = stk t := by simp [stk,List.take_of_length_le]
def lF (l : List Th) (k : Nat) (r : List AV) : List (List AV) := (thRows 900 l).set k r
theorem xO {l : List Th} {k off : Nat} {X : List (List AV)} {r : List AV} {v : AV} (hk : k < l.length) (hX : X = lF l k r) : xC X 6 ((k : Nat) : Int).toNat off [v] = lF l k (zU r off [v]) := by
 subst hX
 have hf : xC (lF l k r) 6 ((k : Nat) : Int).toNat off [v] = (lF l k r).modify k fun c => zU c off [v] := by
  unfold xC
  rw [show (Nat.beq off 0 && Nat.beq [v].length 6) = false from Bool.and_false _]
  rfl
 rw [hf]
 unfold lF
 apply List.ext_getElem?
 intro j
 rw [List.getElem?_modify]
 by_cases hj : k = j
 ·subst hj
  rw [List.getElem?_set_self (by rw [zQ]; exact hk),List.getElem?_set_self (by rw [zQ]; exact hk)]; simp
 ·rw [List.getElem?_set_ne hj,List.getElem?_set_ne hj]; simp [hj]
theorem xN {l : List Th} {k : Nat} {X : List (List AV)} {r : List AV} {p : Key → Bool} (hp : ∀ j,p (.s 900 j) = false) (hX : X = lF l k r) : X.map (scrPL p) = lF l k (scrPL p r) := by
 subst hX
 unfold lF
 rw [List.map_set,yE fun j _ => hp j]
theorem rY {l : List Th} {k n : Nat} {X N : List (List AV)} {t : Th} {row : List AV} (hn : n = l.length) (hX : X = rowsA l k t) (hN : N = [row]) (hq : scrPL (isK (.n 900)) row = row) :
  (X.take n ++ N).map (scrPL (isK (.n 900))) = rowsA l k t ++ [row] := by
 subst hn hX hN
 rw [List.take_of_length_le (by rw [rowsA_len]; exact Nat.le_refl _),List.map_append,vV rfl (fun _ => rfl)]
 simp [hq]
theorem vI {l : List Th} {k : Nat} {X : List (List AV)} {r : List AV} {t : Th} (h1 : X = lF l k r) (h2 : r = yC t) : X = rowsA l k t := by subst h1 h2; rfl
def DoIE (E : TypeId) (pre : List AV) (g : Nat → Option Ob) (k : Nat) (s' : StL) (t' : Th) (e' : Ev) (S : St) : Prop :=
 ∃ (l' : List Th) (els : List (List D)),k < l'.length ∧ s'.ths = l'.set k t' ∧ (∀ j,j ≠ k → g j = zR l' j) ∧ els.take t'.stack.length = stk t' ∧
  ((l'.length = s'.ths.length ∧ At [(7,.ptr (.n 7) 0),(8,.ptr (.n 8) 0)] [(.l 0,.vs E (pre ++ stRef s')),(.n 7,.vs 120 ((encEv e').map .d)),(.n 8,.vs 120 [i64 0,i64 0,i64 0,i64 0,i64 0]),(.n 899,.ds 105 1 els),(.n 900,.rs 123 6 (rowsA l' k t')),(.n 901,.ds 105 1 (s'.cells.map encF)),(.n 902,.ds 3 1 (s'.owner.map encInt))] [(900,g)] S))
def DoIF (E : TypeId) (pre : List AV) (g : Nat → Option Ob) (k : Nat) (s' : StL) (l' : List Th) (t' : Th) (r : Int) (e' : Ev) (S : St) : Prop :=
 k < l'.length ∧ s'.ths = l'.set k t' ++ [qS r] ∧ (∀ j,j ≠ k → g j = zR l' j) ∧
  At [(7,.ptr (.n 7) 0),(8,.ptr (.n 8) 0)] [(.l 0,.vs E (pre ++ stRef s')),(.n 7,.vs 120 ((encEv e').map .d)),(.n 8,.vs 120 [i64 0,i64 0,i64 0,i64 0,i64 0]),(.n 899,.ds 105 1 (stk t')),(.n 900,.rs 123 6 (rowsA l' k t' ++ [[i64 r,i64 0,i64 1,i64 (-1),i64 (-1),.ref (.n 905) 0 0]])),(.n 901,.ds 105 1 (s'.cells.map encF)),(.n 902,.ds 3 1 (s'.owner.map encInt)),(.n 905,.ds 105 1 [])] [(900,g)] S
def DoI2 (E : TypeId) (pre : List AV) (g : Nat → Option Ob) (k : Nat) (s' : StL) (e' : Ev) (S : St) : Prop :=
 (∃ t',DoIE E pre g k s' t' e' S) ∨ ∃ l' t' r,DoIF E pre g k s' l' t' r e' S
theorem doI_swB (hI : yN) (E : TypeId) (x0 x1 x2 : AV) (i0 : Inert x0) (i1 : Inert x1) (i2 : Inert x2) (g : Nat → Option Ob) (hg : ∀ p j,(g j).map (scrPO p) = g j) (s : StL) (k : Nat) (o : OpL) (e : Ev) (hk : k < s.ths.length) (h5 : s.ths.length ≤ 5) (hgj : ∀ j,j ≠ k → g j = zR s.ths j)
  (hs : s.small) (ho : o.fits s s.ths[k]) (hpc : InR s.ths[k].pc 0 1048576) (hst3 : s.ths[k].st ≠ 3) (he : e.kind = 1) (hel : e.lock = -1) (hfl : ∀ x ∈ s.ths[k].stack,x < 18446744073709551616) (hjo : o.code = 15 → ∃ j,yP (yK s.ths[k] o 0) s.ths.length = some j ∧ zS s s.ths[k] = some j)
  (Q : AX → St → Prop) (K : St → Prop) (S : St) (hS : At (doI1 3 k o s.ths[k]) (doIO E [x0,x1,x2] s k o e s.ths[k] (zC s.ths[k] o)) [(900,g)] S) (hK : ∀ S',DoI2 E [x0,x1,x2] g k (doL s k o e).1 (doL s k o e).2 S' → K S') :
  sH EE Tryz.f153.ntmps K Q 1 (dropC 7 (Tryz.f153.body.getD .skip)) S := by
 have hst := hs.2.1 _ (List.getElem_mem hk)
 have hgd : s.ths.getD k th0 = s.ths[k] := by simp [List.getD_eq_getElem?_getD,hk]
 generalize ht0 : s.ths[k] = t at *
 obtain ⟨τ,H,rfl⟩ := hS.form
 clear hS
 obtain ⟨o1,o2,o3,o4,o5⟩ := ho
 obtain ⟨eth,ekind,eobj,elock,epc⟩ := e
 have he : ekind = 1 := he
 subst he
 have hel : elock = -1 := hel
 subst hel
 have hkn : zP t o ≤ t.stack.length := Nat.sub_le _ _
 have hkl : (t.stack.take (zP t o)).length = zP t o := by simp; omega
 have hpl : (zC t o).stack.length = zP t o := hkl
 conv => whnf
 refine kbi (fun hc => ?_) (fun hc => ?_)
 ·have hc : o.code = 1 := by simpa using hc
  conv => whnf
  refine .inr (.inr (.inr ⟨[0],by kernel_rfl,8,[],?_⟩))
  conv => whnf
  refine ⟨yC (zC t o),⟨by repeat (first | exact zN hk | refine yX ?_ (zV rfl _)),by simp [yC]⟩,?_⟩
  conv => whnf
  refine ⟨by kernel_rfl,?_⟩
  conv => whnf
  refine ⟨⟨rfl,by rw [hpl]; simp; omega,by rw [hpl]; simp; omega⟩,?_⟩
  conv => whnf
  have hd : doL s k o ⟨eth,1,eobj,-1,epc⟩ = (s.put k (zL (zC t o) o.v),⟨eth,1,eobj,-1,epc⟩) := by unfold doL; rw [hgd]; simp [hc]
  rw [hd] at hK
  dsimp only at hK
  refine hK _ (.inl ⟨zL (zC t o) o.v,s.ths,stk (zL (zC t o) o.v),hk,rfl,hgj,qI _,by simp [StL.put],⟨rfl,rfl,trivial⟩,⟨?_,?_,rfl,?_,?_,?_,?_,trivial⟩,⟨fun j => ?_,trivial⟩⟩)
  ·rw [show stRef _ = stRef s by simp [stRef,StL.put]]
   conv => lhs; whnf
   all_goals (
    refine congrArg some ?_
    repeat (refine yH ?_ (xH i0 i1 i2 s rfl))
    all_goals rfl)
  ·rfl
  ·conv => lhs; whnf
   show some (Ob.ds 105 1 _) = some (Ob.ds 105 1 _)
   simp [stk,zL,zC,encF]
  ·conv => lhs; whnf
   all_goals (
    refine congrArg (fun x => some (Ob.rs 123 6 x)) ?_
    apply vI
    ·repeat (first | exact rfl | apply xO hk | apply xN (fun _ => rfl))
    ·show [_,_,_,_,_,AV.ref (.n 899) 0 ((zC t o).stack.length + 1)] = _
     simp [yC,zL]
     exact ⟨rfl,rfl,rfl,rfl,rfl⟩)
  ·rfl
  ·rfl
  ·repeat (first | exact rfl | refine hscrO ?_ (hg _ _) | conv => lhs; whnf)
 have n1 : ¬ o.code = 1 := by simpa using hc
 clear hc
 conv => whnf
 refine kbi (fun hc => ?_) (fun hc => ?_)
 ·have hc : o.code = 2 := by simpa using hc
  have hr := o2 (.inl hc)
  conv => whnf
  refine .inr (.inl ⟨4,[],?_⟩)
  conv => whnf
  refine ⟨by kernel_rfl,?_⟩
  conv => whnf
  refine .inr (.inr (.inr ⟨[0],by kernel_rfl,14,[],?_⟩))
  conv => whnf
  refine ⟨yC (zC t o),⟨by repeat (first | exact zN hk | refine yX ?_ (zV rfl _)),by simp [yC]⟩,?_⟩
  conv => whnf
  refine ⟨⟨by omega,by omega⟩,?_⟩
  conv => whnf
  refine ⟨encF (s.cells.getD o.a.toNat 0),⟨by rw [Nat.zero_add]; exact tT hr,by simp [encF]⟩,?_⟩
  conv => whnf
  refine ⟨by kernel_rfl,?_⟩
  conv => whnf
  refine ⟨⟨rfl,by rw [hpl]; simp; omega,by rw [hpl]; simp; omega⟩,?_⟩
  conv => whnf
  have hd : doL s k o ⟨eth,1,eobj,-1,epc⟩ = (s.put k (zL (zC t o) (s.cells.getD o.a.toNat 0)),⟨eth,2,o.a,(-1),epc⟩) := by unfold doL; rw [hgd]; simp [hc]
  rw [hd] at hK
  dsimp only at hK
  refine hK _ (.inl ⟨zL (zC t o) (s.cells.getD o.a.toNat 0),s.ths,stk (zL (zC t o) (s.cells.getD o.a.toNat 0)),hk,rfl,hgj,qI _,by simp [StL.put],⟨rfl,rfl,trivial⟩,⟨?_,?_,rfl,?_,?_,?_,?_,trivial⟩,⟨fun j => ?_,trivial⟩⟩)
  ·rw [show stRef _ = stRef s by simp [stRef,StL.put]]
   conv => lhs; whnf
   all_goals (
    refine congrArg some ?_
    repeat (refine yH ?_ (xH i0 i1 i2 s rfl))
    all_goals rfl)
  ·rfl
  ·conv => lhs; whnf
   show some (Ob.ds 105 1 _) = some (Ob.ds 105 1 _)
   simp [stk,zL,zC,encF]
  ·conv => lhs; whnf
   all_goals (
    refine congrArg (fun x => some (Ob.rs 123 6 x)) ?_
    apply vI
    ·repeat (first | exact rfl | apply xO hk | apply xN (fun _ => rfl))
    ·show [_,_,_,_,_,AV.ref (.n 899) 0 ((zC t o).stack.length + 1)] = _
     simp [yC,zL]
     exact ⟨rfl,rfl,rfl,rfl,rfl⟩)
  ·rfl
  ·rfl
  ·repeat (first | exact rfl | refine hscrO ?_ (hg _ _) | conv => lhs; whnf)
 have n2 : ¬ o.code = 2 := by simpa using hc
 clear hc
 conv => whnf
 refine kbi (fun hc => ?_) (fun hc => ?_)
 ·have hc : o.code = 3 := by simpa using hc
  have hr := o2 (.inr hc)
  have htk : xG o = 1 := by simp [xG,zA,hc]
  conv => whnf
  refine .inr (.inl ⟨4,[],?_⟩)
  conv => whnf
  refine ⟨by kernel_rfl,?_⟩
  conv => whnf
  refine .inr (.inl ⟨9,[],?_⟩)
  conv => whnf
  refine ⟨encF (yK t o 0),⟨by omega,wL o5 (by omega),by simp [encF]⟩,?_⟩
  conv => whnf
  refine ⟨by kernel_rfl,?_⟩
  conv => whnf
  refine ⟨⟨by omega,by omega⟩,?_⟩
  conv => whnf
  have hd : doL s k o ⟨eth,1,eobj,-1,epc⟩ = ({ s with cells := s.cells.set o.a.toNat (yK t o 0) }.put k (zC t o),⟨eth,3,o.a,(-1),epc⟩) := by unfold doL; rw [hgd]; simp [hc]
  rw [hd] at hK
  dsimp only at hK
  refine hK _ (.inl ⟨zC t o,s.ths,stk t,hk,rfl,hgj,xD t o,by simp [StL.put],⟨rfl,rfl,trivial⟩,⟨?_,?_,rfl,?_,?_,?_,?_,trivial⟩,⟨fun j => ?_,trivial⟩⟩)
  ·rw [show stRef _ = stRef s by simp [stRef,StL.put]]
   conv => lhs; whnf
   all_goals (
    refine congrArg some ?_
    repeat (refine yH ?_ (xH i0 i1 i2 s rfl))
    all_goals rfl)
  ·rfl
  ·rfl
  ·conv => lhs; whnf
   all_goals (
    refine congrArg (fun x => some (Ob.rs 123 6 x)) ?_
    apply vI
    ·repeat (first | exact rfl | apply xO hk | apply xN (fun _ => rfl))
    ·rfl)
  ·conv => lhs; whnf
   show some (Ob.ds 105 1 ((s.cells.map encF).set (0 + o.a.toNat) (encF (yK t o 0)))) = some (Ob.ds 105 1 ((s.cells.set o.a.toNat (yK t o 0)).map encF))
   rw [Nat.zero_add,List.map_set]
  ·rfl
  ·repeat (first | exact rfl | refine hscrO ?_ (hg _ _) | conv => lhs; whnf)
 have n3 : ¬ o.code = 3 := by simpa using hc
 clear hc
 conv => whnf
 refine kbi (fun hc => ?_) (fun hc => ?_)
 ·have hc : o.code = 10 := by simpa using hc
  conv => whnf
  have hd : doL s k o ⟨eth,1,eobj,-1,epc⟩ = (s.put k ({ zC t o with pc := o.a }),⟨eth,1,eobj,-1,epc⟩) := by unfold doL; rw [hgd]; simp [hc]
  rw [hd] at hK
  dsimp only at hK
  refine hK _ (.inl ⟨({ zC t o with pc := o.a }),s.ths,stk t,hk,rfl,hgj,xD t o,by simp [StL.put],⟨rfl,rfl,trivial⟩,⟨?_,?_,rfl,?_,?_,?_,?_,trivial⟩,⟨fun j => ?_,trivial⟩⟩)
  ·rw [show stRef _ = stRef s by simp [stRef,StL.put]]
   conv => lhs; whnf
   all_goals (
    refine congrArg some ?_
    repeat (refine yH ?_ (xH i0 i1 i2 s rfl))
    all_goals rfl)
  ·rfl
  ·rfl
  ·conv => lhs; whnf
   all_goals (
    refine congrArg (fun x => some (Ob.rs 123 6 x)) ?_
    apply vI
    ·repeat (first | exact rfl | apply xO hk | apply xN (fun _ => rfl))
    ·rfl)
  ·rfl
  ·rfl
  ·repeat (first | exact rfl | refine hscrO ?_ (hg _ _) | conv => lhs; whnf)
 have n10 : ¬ o.code = 10 := by simpa using hc
 clear hc
 conv => whnf
 refine kbi (fun hc => ?_) (fun hc => ?_)
 ·have hc : o.code = 11 := by simpa using hc
  have htk : xG o = 1 := by simp [xG,zA,hc]
  conv => whnf
  refine ⟨encF (yK t o 0),⟨by omega,wL o5 (by omega),by simp [encF]⟩,?_⟩
  conv => whnf
  refine ocase (isNo_ok _) (fun hn => ?_) (fun hn => ?_)
  ·conv => whnf
   have hd : doL s k o ⟨eth,1,eobj,-1,epc⟩ = (s.put k ({ zC t o with pc := o.a }),⟨eth,1,eobj,-1,epc⟩) := by unfold doL; rw [hgd]; simp [hc]; rw [if_pos hn]
   rw [hd] at hK
   dsimp only at hK
   refine hK _ (.inl ⟨({ zC t o with pc := o.a }),s.ths,stk t,hk,rfl,hgj,xD t o,by simp [StL.put],⟨rfl,rfl,trivial⟩,⟨?_,?_,rfl,?_,?_,?_,?_,trivial⟩,⟨fun j => ?_,trivial⟩⟩)
   ·rw [show stRef _ = stRef s by simp [stRef,StL.put]]
    conv => lhs; whnf
    all_goals (
     refine congrArg some ?_
     repeat (refine yH ?_ (xH i0 i1 i2 s rfl))
     all_goals rfl)
   ·rfl
   ·rfl
   ·conv => lhs; whnf
    all_goals (
     refine congrArg (fun x => some (Ob.rs 123 6 x)) ?_
     apply vI
     ·repeat (first | exact rfl | apply xO hk | apply xN (fun _ => rfl))
     ·rfl)
   ·rfl
   ·rfl
   ·repeat (first | exact rfl | refine hscrO ?_ (hg _ _) | conv => lhs; whnf)
  ·conv => whnf
   have hd : doL s k o ⟨eth,1,eobj,-1,epc⟩ = (s.put k (zC t o),⟨eth,1,eobj,-1,epc⟩) := by unfold doL; rw [hgd]; simp [hc]; rw [if_neg hn]
   rw [hd] at hK
   dsimp only at hK
   refine hK _ (.inl ⟨zC t o,s.ths,stk t,hk,rfl,hgj,xD t o,by simp [StL.put],⟨rfl,rfl,trivial⟩,⟨?_,?_,rfl,?_,?_,?_,?_,trivial⟩,⟨fun j => ?_,trivial⟩⟩)
   ·rw [show stRef _ = stRef s by simp [stRef,StL.put]]
    conv => lhs; whnf
    all_goals (
     refine congrArg some ?_
     repeat (refine yH ?_ (xH i0 i1 i2 s rfl))
     all_goals rfl)
   ·rfl
   ·rfl
   ·conv => lhs; whnf
    all_goals (
     refine congrArg (fun x => some (Ob.rs 123 6 x)) ?_
     apply vI
     ·repeat (first | exact rfl | apply xO hk | apply xN (fun _ => rfl))
     ·rfl)
   ·rfl
   ·rfl
   ·repeat (first | exact rfl | refine hscrO ?_ (hg _ _) | conv => lhs; whnf)
 have n11 : ¬ o.code = 11 := by simpa using hc
 clear hc
 conv => whnf
 refine kbi (fun hc => ?_) (fun hc => ?_)
 ·have hc : o.code = 12 := by simpa using hc
  have hr := o3 (.inl hc)
  conv => whnf
  refine .inr (.inl ⟨4,[],?_⟩)
  conv => whnf
  refine ⟨by kernel_rfl,?_⟩
  conv => whnf
  refine .inr (.inl ⟨7,[],?_⟩)
  conv => whnf
  refine ⟨by kernel_rfl,?_⟩
  conv => whnf
  refine ⟨⟨by omega,by omega⟩,?_⟩
  conv => whnf
  have hd : doL s k o ⟨eth,1,eobj,-1,epc⟩ = ({ s with owner := s.owner.set o.a.toNat ((k : Nat) : Int) }.put k (zC t o),⟨eth,4,o.a,(-1),epc⟩) := by unfold doL; rw [hgd]; simp [hc]
  rw [hd] at hK
  dsimp only at hK
  refine hK _ (.inl ⟨zC t o,s.ths,stk t,hk,rfl,hgj,xD t o,by simp [StL.put],⟨rfl,rfl,trivial⟩,⟨?_,?_,rfl,?_,?_,?_,?_,trivial⟩,⟨fun j => ?_,trivial⟩⟩)
  ·rw [show stRef _ = stRef s by simp [stRef,StL.put]]
   conv => lhs; whnf
   all_goals (
    refine congrArg some ?_
    repeat (refine yH ?_ (xH i0 i1 i2 s rfl))
    all_goals rfl)
  ·rfl
  ·rfl
  ·conv => lhs; whnf
   all_goals (
    refine congrArg (fun x => some (Ob.rs 123 6 x)) ?_
    apply vI
    ·repeat (first | exact rfl | apply xO hk | apply xN (fun _ => rfl))
    ·rfl)
  ·rfl
  ·conv => lhs; whnf
   show some (Ob.ds 3 1 ((s.owner.map encInt).set (0 + o.a.toNat) (encInt ((k : Nat) : Int)))) = some (Ob.ds 3 1 ((s.owner.set o.a.toNat ((k : Nat) : Int)).map encInt))
   rw [Nat.zero_add,List.map_set]
  ·repeat (first | exact rfl | refine hscrO ?_ (hg _ _) | conv => lhs; whnf)
 have n12 : ¬ o.code = 12 := by simpa using hc
 clear hc
 conv => whnf
 refine kbi (fun hc => ?_) (fun hc => ?_)
 ·have hc : o.code = 13 := by simpa using hc
  have hr := o3 (.inr hc)
  conv => whnf
  refine .inr (.inl ⟨4,[],?_⟩)
  conv => whnf
  refine ⟨by kernel_rfl,?_⟩
  conv => whnf
  refine .inr (.inl ⟨6,[],?_⟩)
  conv => whnf
  refine ⟨by kernel_rfl,?_⟩
  conv => whnf
  refine ⟨⟨by omega,by omega⟩,?_⟩
  conv => whnf
  have hd : doL s k o ⟨eth,1,eobj,-1,epc⟩ = ({ s with owner := s.owner.set o.a.toNat (-1) }.put k (zC t o),⟨eth,5,o.a,(-1),epc⟩) := by unfold doL; rw [hgd]; simp [hc]
  rw [hd] at hK
  dsimp only at hK
  refine hK _ (.inl ⟨zC t o,s.ths,stk t,hk,rfl,hgj,xD t o,by simp [StL.put],⟨rfl,rfl,trivial⟩,⟨?_,?_,rfl,?_,?_,?_,?_,trivial⟩,⟨fun j => ?_,trivial⟩⟩)
  ·rw [show stRef _ = stRef s by simp [stRef,StL.put]]
   conv => lhs; whnf
   all_goals (
    refine congrArg some ?_
    repeat (refine yH ?_ (xH i0 i1 i2 s rfl))
    all_goals rfl)
  ·rfl
  ·rfl
  ·conv => lhs; whnf
   all_goals (
    refine congrArg (fun x => some (Ob.rs 123 6 x)) ?_
    apply vI
    ·repeat (first | exact rfl | apply xO hk | apply xN (fun _ => rfl))
    ·rfl)
  ·rfl
  ·conv => lhs; whnf
   show some (Ob.ds 3 1 ((s.owner.map encInt).set (0 + o.a.toNat) (encInt (-1)))) = some (Ob.ds 3 1 ((s.owner.set o.a.toNat (-1)).map encInt))
   rw [Nat.zero_add,List.map_set]
  ·repeat (first | exact rfl | refine hscrO ?_ (hg _ _) | conv => lhs; whnf)
 have n13 : ¬ o.code = 13 := by simpa using hc
 clear hc
 conv => whnf
 refine kbi (fun hc => ?_) (fun hc => ?_)
 ·have hc : o.code = 14 := by simpa using hc
  conv => whnf
  refine .inr (.inl ⟨7,[],?_⟩)
  conv => whnf
  refine ⟨by kernel_rfl,?_⟩
  conv => whnf
  refine .inr (.inr (.inr ⟨[0],by kernel_rfl,12,[],?_⟩))
  conv => whnf
  refine ⟨yC (zC t o),⟨by repeat (first | exact zN hk | refine yX ?_ (zV rfl _)),by simp [yC]⟩,?_⟩
  conv => whnf
  refine ⟨by kernel_rfl,?_⟩
  conv => whnf
  refine ⟨⟨rfl,by rw [hpl]; simp; omega,by rw [hpl]; simp; omega⟩,?_⟩
  conv => whnf
  refine .inr (.inr (.inr ⟨[0],by kernel_rfl,9,[2715],?_⟩))
  conv => whnf
  refine ⟨_,kG o.a,?_⟩
  conv => whnf
  refine ⟨by kernel_rfl,?_⟩
  conv => whnf
  refine ⟨⟨fun c hc' => ?_,?_,?_⟩,?_⟩
  ·have hc' : c ∈ [[i64 o.a,i64 0,i64 1,i64 (-1),i64 (-1),AV.ref (.n 905) 0 0]] := hc'
   simp only [List.mem_singleton] at hc'
   subst hc'; rfl
  ·show (s.ths.length + 1) * 64 ≤ _
   omega
  ·show s.ths.length + 1 ≤ _
   omega
  conv => whnf
  have hd : doL s k o ⟨eth,1,eobj,-1,epc⟩ = ({ s with ths := s.ths ++ [qS o.a] }.put k (zL (zC t o) (FloatKind.f64.nearest (s.ths.length : Int))),⟨eth,6,s.ths.length,(-1),epc⟩) := by unfold doL; rw [hgd]; simp [hc]
  rw [hd] at hK
  dsimp only at hK
  refine hK _ (.inr ⟨s.ths,zL (zC t o) (FloatKind.f64.nearest (s.ths.length : Int)),o.a,hk,?_,hgj,⟨rfl,rfl,trivial⟩,⟨?_,rfl,rfl,?_,?_,rfl,rfl,rfl,trivial⟩,⟨fun j => ?_,trivial⟩⟩)
  ·simp [StL.put,List.set_append_left _ _ hk]
  ·conv => lhs; whnf
   refine congrArg (fun x => some (Ob.vs E x)) ?_
   refine spawn_vs3 i0 i1 i2 (s := s) ?_ ?_ rfl rfl rfl
   ·conv => lhs; whnf
    all_goals simp [StL.put]
   all_goals (
    repeat (refine hscrL ?_ (w9 i0 i1 i2 s rfl))
    all_goals rfl)
  ·conv => lhs; whnf
   show some (Ob.ds 105 1 _) = some (Ob.ds 105 1 _)
   simp [stk,zL,zC,encF]
  ·conv => lhs; whnf
   refine congrArg (fun x => some (Ob.rs 123 6 x)) ?_
   refine rY rfl ?_ rfl rfl
   apply vI
   ·repeat (first | exact rfl | apply xO hk | apply xN (fun _ => rfl))
   ·show [_,_,_,_,_,AV.ref (.n 899) 0 ((zC t o).stack.length + 1)] = _
    simp [yC,zL]
    exact ⟨rfl,rfl,rfl,rfl,rfl⟩
  ·repeat (first | exact rfl | refine hscrO ?_ (hg _ _) | conv => lhs; whnf)
 have n14 : ¬ o.code = 14 := by simpa using hc
 clear hc
 conv => whnf
 refine kbi (fun hc => ?_) (fun hc => ?_)
 ·have hc : o.code = 15 := by simpa using hc
  have htk : xG o = 1 := by simp [xG,zA,hc]
  obtain ⟨jj,hj1,hj2⟩ := hjo hc
  conv => whnf
  refine .inr (.inl ⟨14,[],?_⟩)
  conv => whnf
  refine ⟨encF (yK t o 0),⟨by omega,wL o5 (by omega),by simp [encF]⟩,?_⟩
  conv => whnf
  refine ⟨_,hI _ _,?_⟩
  conv => whnf
  refine ⟨by kernel_rfl,?_⟩
  conv => whnf
  have hd : doL s k o ⟨eth,1,eobj,-1,epc⟩ = (s.put k (zC t o),⟨eth,7,(zS s t).getD (-1),(-1),epc⟩) := by unfold doL; rw [hgd]; simp [hc]
  rw [hd] at hK
  dsimp only at hK
  refine hK _ (.inl ⟨zC t o,s.ths,stk t,hk,rfl,hgj,xD t o,by simp [StL.put],⟨rfl,rfl,trivial⟩,⟨?_,?_,rfl,?_,?_,?_,?_,trivial⟩,⟨fun j => ?_,trivial⟩⟩)
  ·rw [show stRef _ = stRef s by simp [stRef,StL.put]]
   conv => lhs; whnf
   all_goals (
    refine congrArg some ?_
    repeat (refine yH ?_ (xH i0 i1 i2 s rfl))
    all_goals rfl)
  ·conv => lhs; whnf
   show some (Ob.vs 120 [i64 eth,i64 7,i64 ((yP (yK t o 0) s.ths.length).getD 0),i64 (-1),i64 epc]) = some (Ob.vs 120 [i64 eth,i64 7,i64 ((zS s t).getD (-1)),i64 (-1),i64 epc])
   rw [hj1,hj2]
   rfl
  ·rfl
  ·conv => lhs; whnf
   all_goals (
    refine congrArg (fun x => some (Ob.rs 123 6 x)) ?_
    apply vI
    ·repeat (first | exact rfl | apply xO hk | apply xN (fun _ => rfl))
    ·rfl)
  ·rfl
  ·rfl
  ·repeat (first | exact rfl | refine hscrO ?_ (hg _ _) | conv => lhs; whnf)
 have n15 : ¬ o.code = 15 := by simpa using hc
 clear hc
 conv => whnf
 refine kbi (fun hc => ?_) (fun hc => ?_)
 ·have hc : o.code = 16 := by simpa using hc
  have hr := o4 hc
  conv => whnf
  refine .inr (.inl ⟨8,[],?_⟩)
  conv => whnf
  refine ⟨by kernel_rfl,?_⟩
  conv => whnf
  refine .inr (.inl ⟨6,[],?_⟩)
  conv => whnf
  refine ⟨by kernel_rfl,?_⟩
  conv => whnf
  refine ⟨⟨by omega,by omega⟩,?_⟩
  conv => whnf
  refine ⟨yC (zC t o),⟨by repeat (first | exact zN hk | refine yX ?_ (zV rfl _)),by simp [yC]⟩,?_⟩
  conv => whnf
  refine .inr (.inr (.inr ⟨[0,1,2],by kernel_rfl,by kernel_rfl,by kernel_rfl,13,[],?_⟩))
  conv => whnf
  refine ⟨by kernel_rfl,?_⟩
  conv => whnf
  have hd : doL s k o ⟨eth,1,eobj,-1,epc⟩ = ({ s with owner := s.owner.set o.b.toNat (-1) }.put k ({ zC t o with st := 3,cond := o.a,lock := o.b,pc := (zC t o).pc - 1 }),⟨eth,8,o.a,o.b,epc⟩) := by unfold doL; rw [hgd]; simp [hc]
  rw [hd] at hK
  dsimp only at hK
  refine hK _ (.inl ⟨({ zC t o with st := 3,cond := o.a,lock := o.b,pc := (zC t o).pc - 1 }),s.ths,stk t,hk,rfl,hgj,xD t o,by simp [StL.put],⟨rfl,rfl,trivial⟩,⟨?_,?_,rfl,?_,?_,?_,?_,trivial⟩,⟨fun j => ?_,trivial⟩⟩)
  ·rw [show stRef _ = stRef s by simp [stRef,StL.put]]
   conv => lhs; whnf
   all_goals (
    refine congrArg some ?_
    repeat (refine yH ?_ (xH i0 i1 i2 s rfl))
    all_goals rfl)
  ·rfl
  ·rfl
  ·conv => lhs; whnf
   all_goals (
    refine congrArg (fun x => some (Ob.rs 123 6 x)) ?_
    apply vI
    ·repeat (first | exact rfl | apply xO hk | apply xN (fun _ => rfl))
    ·have ew : IntKind.i64.wrap (t.pc + 1 - 1) = t.pc + 1 - 1 := zE (by have := hpc.1; omega) (by have := hpc.2; omega)
     show [_,AV.d (.int .i64 (IntKind.i64.wrap (t.pc + 1 - 1))),_,_,_,_] = _
     rw [ew]
     rfl)
  ·rfl
  ·conv => lhs; whnf
   show some (Ob.ds 3 1 ((s.owner.map encInt).set (0 + o.b.toNat) (encInt (-1)))) = some (Ob.ds 3 1 ((s.owner.set o.b.toNat (-1)).map encInt))
   rw [Nat.zero_add,List.map_set]
  ·repeat (first | exact rfl | refine hscrO ?_ (hg _ _) | conv => lhs; whnf)
 have n16 : ¬ o.code = 16 := by simpa using hc
 clear hc
 conv => whnf
 refine kbi (fun hc => ?_) (fun hc => ?_)
 ·have hc : o.code = 17 := by simpa using hc
  have hcall : CallsTo EE 184 [sl ((s.ths.set k (zC t o)).map zF),.fn 185 [.fp (encOp o)]] (· = i64 (dX (wH s.ths o.a))) := by
   rw [← rO hk (t' := zC t o) o.a hst3 (by rw [ht0]; exact hst3)]
   exact kI _ (by simp; omega) 185 _ (.inr ⟨_,rfl⟩) (fun t => t.st == 3 && t.cond == o.a) (fun u _ => nZ u o)
  conv => whnf
  refine .inr (.inl ⟨4,[],?_⟩)
  conv => whnf
  refine ⟨by kernel_rfl,?_⟩
  conv => whnf
  refine .inl ⟨[sl ((s.ths.set k (zC t o)).map zF),.fn 185 [.fp (encOp o)]],[],_,⟨_,_,rfl,⟨_,rfl,dJ (l := s.ths) (k := k) (t := zC t o) (els := stk t) hk ?_ ?_ ?_ (xD t o)⟩,_,_,rfl,rfl,rfl⟩,rfl,hcall,?_⟩
  ·conv => lhs; whnf
   refine congrArg (fun x => some (Ob.rs 123 6 x)) ?_
   repeat (first | exact rfl | refine uR ?_ rfl (fun _ => rfl))
  ·intro j hj hjl
   refine Eq.trans (b := g j) ?_ ((hgj j hj).trans (by simp [zR,hjl]))
   repeat (first | exact rfl | refine hscrO ?_ (hg _ _) | conv => lhs; whnf)
  ·rfl
  rintro r rfl
  refine ⟨rfl,?_⟩
  cases hwk : wH s.ths o.a with
  |none =>
   conv => whnf
   refine kbi (fun hw => ?_) (fun hw => ?_)
   ·simp [dX] at hw
   conv => whnf
   have hd : doL s k o ⟨eth,1,eobj,-1,epc⟩ = (s.put k (zC t o),⟨eth,10,o.a,(-1),epc⟩) := by unfold doL; rw [hgd]; simp [hc,hwk]
   rw [hd] at hK
   dsimp only at hK
   refine hK _ (.inl ⟨zC t o,s.ths,stk t,hk,rfl,hgj,xD t o,by simp [StL.put],⟨rfl,rfl,trivial⟩,⟨?_,?_,rfl,?_,?_,?_,?_,trivial⟩,⟨fun j => ?_,trivial⟩⟩)
   ·rw [show stRef _ = stRef s by simp [stRef,StL.put]]
    conv => lhs; whnf
    all_goals (
     refine congrArg some ?_
     repeat (refine yH ?_ (xH i0 i1 i2 s rfl))
     all_goals rfl)
   ·rfl
   ·rfl
   ·conv => lhs; whnf
    all_goals (
     refine congrArg (fun x => some (Ob.rs 123 6 x)) ?_
     apply vI
     ·repeat (first | exact rfl | apply xO hk | apply xN (fun _ => rfl))
     ·rfl)
   ·rfl
   ·rfl
   ·repeat (first | exact rfl | refine hscrO ?_ (hg _ _) | conv => lhs; whnf)
  |some j =>
   obtain ⟨hjl,hj3,hjc⟩ := nW hwk
   have hjk : j ≠ k := by
    rintro rfl
    rw [ht0] at hj3; exact hst3 hj3
   conv => whnf
   refine kbi (fun hw => ?_) (fun hw => ?_)
   rotate_left 1
   ·simp [dX] at hw
   conv => whnf
   refine .inr (.inl ⟨6,[],?_⟩)
   conv => whnf
   have hd : doL s k o ⟨eth,1,eobj,-1,epc⟩ = ({ s with ths := s.ths.modify j fun u => { u with st := 4 } }.put k (zC t o),⟨eth,10,o.a,j,epc⟩) := by unfold doL; rw [hgd]; simp [hc,hwk]
   rw [hd] at hK
   dsimp only at hK
   refine ⟨by kernel_rfl,?_⟩
   conv => whnf
   refine ⟨⟨by show (0 : Int) ≤ (j : Int); omega,by show (j : Int) < s.ths.length; omega⟩,?_⟩
   conv => whnf
   refine hK _ (.inl ⟨zC t o,s.ths.modify j fun u => { u with st := 4 },stk t,by simpa using hk,rfl,fun i hi => (hgj i hi).trans (rS i).symm,xD t o,by simp [StL.put],⟨rfl,rfl,trivial⟩,⟨?_,?_,rfl,?_,?_,?_,?_,trivial⟩,⟨fun j => ?_,trivial⟩⟩)
   ·rw [show stRef _ = stRef s by simp [stRef,StL.put]]
    conv => lhs; whnf
    all_goals (
     refine congrArg some ?_
     repeat (refine yH ?_ (xH i0 i1 i2 s rfl))
     all_goals rfl)
   ·rfl
   ·rfl
   ·conv => lhs; whnf
    all_goals (
     refine congrArg (fun x => some (Ob.rs 123 6 x)) ?_
     refine sD hjl hjk ?_
     repeat (first | exact rfl | refine uR ?_ rfl (fun _ => rfl)))
   ·rfl
   ·rfl
   ·repeat (first | exact rfl | refine hscrO ?_ (hg _ _) | conv => lhs; whnf)
 have n17 : ¬ o.code = 17 := by simpa using hc
 clear hc
 conv => whnf
 have hcode : 4 ≤ o.code ∧ o.code ≤ 9 := by have := o1.1; have := o1.2; omega
 have htk : xG o = 2 := by simp only [xG,zA]; rw [if_neg (by omega),if_neg (by omega),if_pos hcode]; rfl
 refine .inr (.inr (.inr ⟨[0],by kernel_rfl,15,[],?_⟩))
 conv => whnf
 refine ⟨yC (zC t o),⟨by repeat (first | exact zN hk | refine yX ?_ (zV rfl _)),by simp [yC]⟩,?_⟩
 conv => whnf
 refine ⟨encF (yK t o 0),⟨by omega,wL o5 (by omega),by simp [encF]⟩,?_⟩
 conv => whnf
 refine ⟨encF (yK t o 1),⟨by omega,wL o5 (by omega),by simp [encF]⟩,?_⟩
 conv => whnf
 refine ⟨_,aB _ _ _ hcode (lA hfl) (lA hfl),?_⟩
 conv => whnf
 refine ⟨by kernel_rfl,?_⟩
 conv => whnf
 refine ⟨⟨rfl,by rw [hpl]; simp; omega,by rw [hpl]; simp; omega⟩,?_⟩
 conv => whnf
 have hd : doL s k o ⟨eth,1,eobj,-1,epc⟩ = (s.put k (zL (zC t o) (yL o.code (yK t o 0) (yK t o 1))),⟨eth,1,eobj,-1,epc⟩) := by unfold doL; rw [hgd]; simp [n1,n2,n3,n10,n11,n12,n13,n14,n15,n16,n17]
 rw [hd] at hK
 dsimp only at hK
 refine hK _ (.inl ⟨zL (zC t o) (yL o.code (yK t o 0) (yK t o 1)),s.ths,stk (zL (zC t o) (yL o.code (yK t o 0) (yK t o 1))),hk,rfl,hgj,qI _,by simp [StL.put],⟨rfl,rfl,trivial⟩,⟨?_,?_,rfl,?_,?_,?_,?_,trivial⟩,⟨fun j => ?_,trivial⟩⟩)
 ·rw [show stRef _ = stRef s by simp [stRef,StL.put]]
  conv => lhs; whnf
  all_goals (
   refine congrArg some ?_
   repeat (refine yH ?_ (xH i0 i1 i2 s rfl))
   all_goals rfl)
 ·rfl
 ·conv => lhs; whnf
  show some (Ob.ds 105 1 _) = some (Ob.ds 105 1 _)
  simp [stk,zL,zC,encF]
 ·conv => lhs; whnf
  all_goals (
   refine congrArg (fun x => some (Ob.rs 123 6 x)) ?_
   apply vI
   ·repeat (first | exact rfl | apply xO hk | apply xN (fun _ => rfl))
   ·show [_,_,_,_,_,AV.ref (.n 899) 0 ((zC t o).stack.length + 1)] = _
    simp [yC,zL]
    exact ⟨rfl,rfl,rfl,rfl,rfl⟩)
 ·rfl
 ·rfl
 ·repeat (first | exact rfl | refine hscrO ?_ (hg _ _) | conv => lhs; whnf)
end Ai
end
section
set_option maxRecDepth 100000
namespace Ai
open Go Go.Proofs
def InertL (pre : List AV) : Prop := ∀ x ∈ pre,Inert x
theorem gL : ∀ {pre : List AV},InertL pre → ∀ p,scrPL p pre = pre
 | [],_,p => rfl
 |x :: xs,h,p => by simp only [scrPL]; rw [(h x List.mem_cons_self).scr,gL (fun y hy => h y (List.mem_cons_of_mem _ hy))]
theorem inertL_ren : ∀ {pre : List AV},InertL pre → ∀ f,renL f pre = pre
 | [],_,f => rfl
 |x :: xs,h,f => by simp only [renL]; rw [(h x List.mem_cons_self).ren,inertL_ren (fun y hy => h y (List.mem_cons_of_mem _ hy))]
theorem tA : ∀ {pre : List AV},InertL pre → ∀ κ q,jS κ q pre = pre
 | [],_,κ,q => rfl
 |x :: xs,h,κ,q => by simp only [jS]; rw [(h x List.mem_cons_self).cut,tA (fun y hy => h y (List.mem_cons_of_mem _ hy))]
theorem bN (p : Key → Bool) : ∀ a b : List AV,scrPL p (a ++ b) = scrPL p a ++ scrPL p b
 | [],b => rfl
 |x :: a,b => by simp only [List.cons_append,scrPL]; rw [bN p a b]
theorem renL_app (f : Key → Key) : ∀ a b : List AV,renL f (a ++ b) = renL f a ++ renL f b
 | [],b => rfl
 |x :: a,b => by simp only [List.cons_append,renL]; rw [renL_app f a b]
theorem s8 (κ : Key) (q : Nat) : ∀ a b : List AV,jS κ q (a ++ b) = jS κ q a ++ jS κ q b
 | [],b => rfl
 |x :: a,b => by simp only [List.cons_append,jS]; rw [s8 κ q a b]
def xY : Key → Bool
 | .n k => Nat.beq k 899 || Nat.beq k 900 || Nat.beq k 901 || Nat.beq k 902
 | .s o _ => Nat.beq o 900
 | .l k => Nat.beq k 0
def stHA (E : TypeId) (pre : List AV) (s : StL) (k : Nat) (t : Th) : Key → Option Ob
 | .l j => bif Nat.beq j 0 then some (.vs E (pre ++ stRef s)) else none
 | .n j => bif Nat.beq j 899 then some (.ds 105 1 (stk t)) else bif Nat.beq j 900 then some (.rs 123 6 (rowsA s.ths k t)) else bif Nat.beq j 901 then some (.ds 105 1 (s.cells.map encF)) else bif Nat.beq j 902 then some (.ds 3 1 (s.owner.map encInt)) else none
 | .s o j => bif Nat.beq o 900 then (bif Nat.beq j k then none else zR s.ths j) else none
def stHC (E : TypeId) (pre : List AV) (s : StL) : Key → Option Ob
 | .l j => bif Nat.beq j 0 then some (.vs E (pre ++ stRef s)) else none
 | .n j => bif Nat.beq j 900 then some (.rs 123 6 (thRows 900 s.ths)) else bif Nat.beq j 901 then some (.ds 105 1 (s.cells.map encF)) else bif Nat.beq j 902 then some (.ds 3 1 (s.owner.map encInt)) else none
 | .s o j => bif Nat.beq o 900 then zR s.ths j else none
theorem thRows_set {l : List Th} {k : Nat} {t : Th} (hk : k < l.length) : thRows 900 (l.set k t) = (thRows 900 l).set k (thRow 900 k t) := by
 apply List.ext_getElem?
 intro i
 rw [vU,List.getElem?_set,List.getElem?_set]
 by_cases h : k = i
 ·subst h
  simp [hk,zQ]
 ·simp [h,vU]
theorem mT {l : List Th} {k : Nat} {t u : Th} (hk : k < l.length) : rowsA (l.set k u) k t = rowsA l k t := by
 unfold rowsA
 rw [thRows_set hk,List.set_set]
theorem mO {l : List Th} {k j : Nat} {t : Th} (h : j ≠ k) : zR (l.set k t) j = zR l j := by
 unfold zR; rw [List.getElem?_set_ne (Ne.symm h)]
theorem thFam_self {l : List Th} {k : Nat} (h : k < l.length) : zR l k = some (.ds 105 1 (stk l[k])) := by
 unfold zR; rw [List.getElem?_eq_getElem h]; rfl
theorem rows_cut {l : List Th} {k : Nat} {t : Th} : (rowsA l k t).map (jS (.n 899) t.stack.length) = rowsA l k t := by
 unfold rowsA
 rw [List.map_set]
 congr 1
 ·apply List.ext_getElem?
  intro i
  rw [List.getElem?_map,vU]
  cases l[i]? with
  |none => rfl
  |some u => rfl
 ·have : Nat.ble (0 + t.stack.length) t.stack.length = true := by rw [Nat.zero_add,Nat.ble_eq]; exact Nat.le_refl _
  show [_,_,_,_,_,(bif Nat.ble (0 + t.stack.length) t.stack.length then AV.ref (.n 899) 0 t.stack.length else .junk)] = _
  rw [this]; rfl
theorem stRef_cut (s : StL) (q : Nat) : jS (.n 899) q (stRef s) = stRef s := rfl
theorem aH (s : StL) : scrPL (fun o => !xY o) (stRef s) = stRef s := rfl
def doIPost (E : TypeId) (pre : List AV) (k : Nat) (s' : StL) (e' : Ev) (r : AV) (H1 : Key → Option Ob) : Prop :=
 r = agg (encEv e') ∧ ∃ (h : k < s'.ths.length),H1 = stHA E pre s' k s'.ths[k]
theorem doI_fin (E : TypeId) (pre : List AV) (hp : InertL pre) (g : Nat → Option Ob) (k : Nat) (hg : ∀ p j,(g j).map (scrPO p) = g j) (hgc : ∀ q j,(g j).map (cutO (.n 899) q) = g j) (hgk : g k = none) (s' : StL) (e' : Ev) (S : St) (t' : Th) (h : DoIE E pre g k s' t' e' S) :
  AW EE Tryz.f153.ntmps (dropC 8 (Tryz.f153.body.getD .skip)) (retIO EE Tryz.f153 (doIPost E pre k s' e')) S := by
 obtain ⟨l',els,hk,hths,hgj,hels,hlen,hat⟩ := h
 obtain ⟨τ,H,rfl⟩ := hat.form
 conv => whnf
 refine ⟨_,weak_cut (.n 899) t'.stack.length (e := 105) (sz := 1) (els := els) ?_,?_⟩
 ·rfl
 conv => whnf
 refine ⟨xY,?_,?_⟩
 ·rfl
 have hk' : k < s'.ths.length := by rw [hths]; simpa using hk
 have htk : s'.ths[k] = t' := by simp [hths]
 refine ⟨hk',?_⟩
 rw [htk]
 funext κ
 cases κ with
 |l j =>
  by_cases h : j = 0
  ·subst h
   show some (Ob.vs E (scrPL _ (jS _ _ (pre ++ stRef s')))) = some (Ob.vs E (pre ++ stRef s'))
   rw [s8,tA hp,stRef_cut,bN,gL hp,aH]
  ·simp [yI,xY,stHA,nbeq_ne h]
 |n j =>
  by_cases h1 : j = 899
  ·subst h1
   show some (Ob.ds 105 1 (els.take t'.stack.length)) = some (Ob.ds 105 1 (stk t'))
   rw [hels]
  by_cases h2 : j = 900
  ·subst h2
   show some (Ob.rs 123 6 (((rowsA l' k t').map (jS (.n 899) t'.stack.length)).map (scrPL fun o => !xY o))) = some (Ob.rs 123 6 (rowsA s'.ths k t'))
   rw [rows_cut,hths,mT hk]
   exact congrArg (fun x => some (Ob.rs 123 6 x)) (vV rfl (fun _ => rfl) _ _ _)
  by_cases h3 : j = 901
  ·subst h3; rfl
  by_cases h4 : j = 902
  ·subst h4; rfl
  simp [yI,xY,stHA,nbeq_ne h1,nbeq_ne h2,nbeq_ne h3,nbeq_ne h4]
 |s o j =>
  by_cases h : o = 900
  ·subst h
   show ((g j).map (cutO (.n 899) t'.stack.length)).map (scrPO fun o => !xY o) = bif Nat.beq j k then none else zR s'.ths j
   rw [hgc,hg]
   by_cases hj : j = k
   ·subst hj; rw [nbeq_self,hgk]; rfl
   ·rw [nbeq_ne hj,hgj j hj,hths,mO hj]; rfl
  ·simp [yI,xY,stHA,nbeq_ne h]
theorem rowsA_app {l : List Th} {k : Nat} {t u : Th} (hk : k < l.length) : rowsA (l ++ [u]) k t = rowsA l k t ++ [thRow 900 l.length u] := by
 unfold rowsA
 have : thRows 900 (l ++ [u]) = thRows 900 l ++ [thRow 900 l.length u] := by
  apply List.ext_getElem?
  intro i
  rw [vU]
  by_cases h : i < l.length
  ·rw [List.getElem?_append_left h,List.getElem?_append_left (by rw [zQ]; exact h),vU]
  ·rw [List.getElem?_append_right (by omega),List.getElem?_append_right (by rw [zQ]; omega),zQ]
   by_cases h2 : i - l.length = 0
   ·have : i = l.length := by omega
    subst this
    simp
   ·rw [List.getElem?_eq_none (by simp; omega),List.getElem?_eq_none (by simp; omega)]; rfl
 rw [this,List.set_append_left _ _ (by rw [zQ]; exact hk)]
theorem rowsA_ren {l : List Th} {k : Nat} {t : Th} : (rowsA l k t).map (renL (swp (.n 905) (.s 900 l.length))) = rowsA l k t := by
 unfold rowsA
 rw [List.map_set,dM (Nat.le_refl _)]
 rfl
theorem thFam_app {l : List Th} {u : Th} {j : Nat} : zR (l ++ [u]) j = bif Nat.beq j l.length then some (.ds 105 1 (stk u)) else zR l j := by
 unfold zR
 by_cases h : j = l.length
 ·subst h; rw [nbeq_self]; simp
 ·rw [nbeq_ne h]
  by_cases h2 : j < l.length
  ·rw [List.getElem?_append_left h2]; rfl
  ·rw [List.getElem?_eq_none (by simp; omega),List.getElem?_eq_none (by omega)]; rfl
theorem s6 (E : TypeId) (pre : List AV) (hp : InertL pre) (g : Nat → Option Ob) (k : Nat) (hg : ∀ p j,(g j).map (scrPO p) = g j) (hgr : ∀ f j,(g j).map (renO f) = g j) (hgk : g k = none) (s' : StL) (e' : Ev) (S : St) (l' : List Th) (t' : Th) (r : Int) (h : DoIF E pre g k s' l' t' r e' S) :
  AW EE Tryz.f153.ntmps (dropC 8 (Tryz.f153.body.getD .skip)) (retIO EE Tryz.f153 (doIPost E pre k s' e')) S := by
 obtain ⟨hk,hths,hgj,hat⟩ := h
 obtain ⟨τ,H,rfl⟩ := hat.form
 conv => whnf
 refine ⟨_,jD 905 900 l'.length,?_⟩
 conv => whnf
 refine ⟨xY,?_,?_⟩
 ·rfl
 have hk' : k < s'.ths.length := by rw [hths]; simp; omega
 have htk : s'.ths[k] = t' := by
  have : s'.ths[k]? = some t' := by rw [hths,List.getElem?_append_left (by simpa using hk)]; simp [hk]
  rw [List.getElem?_eq_getElem hk'] at this
  exact Option.some.inj this
 refine ⟨hk',?_⟩
 rw [htk]
 have hnk : l'.length ≠ k := by omega
 funext κ
 cases κ with
 |l j =>
  by_cases h : j = 0
  ·subst h
   show some (Ob.vs E (scrPL _ (renL _ (pre ++ stRef s')))) = some (Ob.vs E (pre ++ stRef s'))
   rw [renL_app,inertL_ren hp,bN,gL hp]
   rfl
  ·simp [yI,xY,stHA,nbeq_ne h]
 |n j =>
  by_cases h1 : j = 899
  ·subst h1; rfl
  by_cases h2 : j = 900
  ·subst h2
   show some (Ob.rs 123 6 (((rowsA l' k t' ++ [_]).map (renL (swp (.n 905) (.s 900 l'.length)))).map (scrPL fun o => !xY o))) = some (Ob.rs 123 6 (rowsA s'.ths k t'))
   rw [hths,rowsA_app (by simpa using hk),mT hk,List.map_append,rowsA_ren,List.map_append,vV rfl (fun _ => rfl),List.length_set]
   rfl
  by_cases h3 : j = 901
  ·subst h3; rfl
  by_cases h4 : j = 902
  ·subst h4; rfl
  simp [yI,xY,stHA,nbeq_ne h1,nbeq_ne h2,nbeq_ne h3,nbeq_ne h4]
 |s o j =>
  by_cases h : o = 900
  ·subst h
   rw [show stHA E pre s' k t' (.s 900 j) = (bif Nat.beq j k then none else zR s'.ths j) from rfl,hths,thFam_app,List.length_set]
   by_cases hjn : j = l'.length
   ·subst hjn
    rw [nbeq_ne hnk,nbeq_self]
    have e : swp (.n 905) (.s 900 l'.length) (.s 900 l'.length) = .n 905 := by simp [swp,Key.beq,nbeq_self]
    simp only [yI,St.swap,e]
    rfl
   ·have e : swp (.n 905) (.s 900 l'.length) (.s 900 j) = .s 900 j := by simp [swp,Key.beq,nbeq_ne hjn]
    rw [nbeq_ne hjn]
    simp only [yI,St.swap,e]
    show (((g j).map (renO _)).map (scrPO fun o => !xY o)) = bif Nat.beq j k then none else zR (l'.set k t') j
    rw [hgr,hg]
    by_cases hj : j = k
    ·subst hj; rw [nbeq_self,hgk]; rfl
    ·rw [nbeq_ne hj,hgj j hj,mO hj]; rfl
  ·simp [yI,xY,stHA,nbeq_ne h]
end Ai
end
section
set_option maxRecDepth 100000
namespace Ai
open Go Go.Proofs
def fam0 (l : List Th) (k : Nat) (j : Nat) : Option Ob := bif Nat.beq j k then none else zR l j
theorem yV (l : List Th) (k : Nat) (p : Key → Bool) (j : Nat) : (fam0 l k j).map (scrPO p) = fam0 l k j := by
 unfold fam0; cases Nat.beq j k
 ·exact yG p l j
 ·rfl
theorem kY (l : List Th) (k : Nat) (p : Key → Key) (j : Nat) : (fam0 l k j).map (renO p) = fam0 l k j := by
 unfold fam0; cases Nat.beq j k
 ·exact thFam_ren p l j
 ·rfl
theorem r3 (l : List Th) (k : Nat) (κ : Key) (q j : Nat) : (fam0 l k j).map (cutO κ q) = fam0 l k j := by
 unfold fam0; cases Nat.beq j k
 ·show (zR l j).map _ = zR l j
  unfold zR; cases l[j]? <;> rfl
 ·rfl
theorem doI_okA (hI : yN) (E : TypeId) (x0 x1 x2 : AV) (i0 : Inert x0) (i1 : Inert x1) (i2 : Inert x2) (s : StL) (k : Nat) (o : OpL) (e : Ev) (hk : k < s.ths.length) (h5 : s.ths.length ≤ 5)
  (hs : s.small) (ho : o.fits s s.ths[k]) (hpc : InR s.ths[k].pc 0 1048576) (hst3 : s.ths[k].st ≠ 3) (he : e.kind = 1) (hel : e.lock = -1) (hfl : ∀ x ∈ s.ths[k].stack,x < 18446744073709551616) (hjo : o.code = 15 → ∃ j,yP (yK s.ths[k] o 0) s.ths.length = some j ∧ zS s s.ths[k] = some j)
  (H0 : Key → Option Ob) (h0 : H0 (.l 0) = some (.vs E ([x0,x1,x2] ++ stRef s))) (h1 : H0 (.n 899) = some (.ds 105 1 (stk s.ths[k]))) (h2 : H0 (.n 900) = some (.rs 123 6 (rowsA s.ths k s.ths[k]))) (h3 : ∀ j,H0 (.s 900 j) = fam0 s.ths k j)
  (h4 : H0 (.n 901) = some (.ds 105 1 (s.cells.map encF))) (h6 : H0 (.n 902) = some (.ds 3 1 (s.owner.map encInt))) :
  IOCall EE 153 [.ptr (.l 0) 3,i64 k,agg (encOp o),agg (encEv e)] H0 (doIPost E [x0,x1,x2] k (doL s k o e).1 (doL s k o e).2) := by
 refine io_of_AW (fn := Tryz.f153) (c := Tryz.f153.body.getD .skip) Tryz.func153 rfl (by kernel_rfl) rfl ?_
 have hat : At [(0,.ptr (.l 0) 3),(1,i64 k),(2,agg (encOp o)),(3,agg (encEv e))] [(.l 0,.vs E ([x0,x1,x2] ++ stRef s)),(.n 899,.ds 105 1 (stk s.ths[k])),(.n 900,.rs 123 6 (rowsA s.ths k s.ths[k])),(.n 901,.ds 105 1 (s.cells.map encF)),(.n 902,.ds 3 1 (s.owner.map encInt))] [(900,fam0 s.ths k)]
   ⟨fun i => [AV.ptr (.l 0) 3,i64 k,agg (encOp o),agg (encEv e)].getD i .junk,H0⟩ :=
  ⟨⟨rfl,rfl,rfl,rfl,trivial⟩,⟨h0,h1,h2,h4,h6,trivial⟩,⟨h3,trivial⟩⟩
 obtain ⟨τ,H,hf⟩ := hat.form
 rw [hf]
 have hst := hs.2.1 _ (List.getElem_mem hk)
 have hgk : fam0 s.ths k k = none := by unfold fam0; rw [nbeq_self]; rfl
 refine kJ 7 (At (doI1 3 k o s.ths[k]) (doIO E [x0,x1,x2] s k o e s.ths[k] (zC s.ths[k] o)) [(900,fam0 s.ths k)]) (fun K hK => doI_preB E x0 x1 x2 i0 i1 i2 (fam0 s.ths k) (yV _ _) s k o e hk s.ths[k] ho.2.2.2.2 hst hpc τ H _ K hK) (fun S hS => ?_)
 refine kJ 1 (DoI2 E [x0,x1,x2] (fam0 s.ths k) k (doL s k o e).1 (doL s k o e).2) (fun K hK => doI_swB hI E x0 x1 x2 i0 i1 i2 (fam0 s.ths k) (yV _ _) s k o e hk h5 (fun j hj => by unfold fam0; rw [nbeq_ne hj]; rfl) hs ho hpc hst3 he hel hfl hjo _ K S hS hK) (fun S' hS' => ?_)
 have hp : InertL [x0,x1,x2] := by
  intro x hx
  simp only [List.mem_cons,List.not_mem_nil,or_false] at hx
  rcases hx with rfl | rfl | rfl <;> assumption
 rcases hS' with ⟨t',h⟩ | ⟨l',t',r,h⟩
 ·exact doI_fin E _ hp _ k (yV _ _) (r3 _ _ _) hgk _ _ S' t' h
 ·exact s6 E _ hp _ k (yV _ _) (kY _ _) hgk _ _ S' l' t' r h
theorem rowsA_sw {l : List Th} {k : Nat} (hk : k < l.length) : (thRows 900 l).map (renL (swp (.n 899) (.s 900 k))) = rowsA l k l[k] := by
 apply List.ext_getElem?
 intro i
 rw [List.getElem?_map,vU]
 by_cases h : i = k
 ·subst h
  have e : swp (.n 899) (.s 900 i) (.s 900 i) = .n 899 := by simp [swp,Key.beq,nbeq_self]
  have : (rowsA l i l[i])[i]? = some (yC l[i]) := zN hk
  rw [this,List.getElem?_eq_getElem hk]
  simp [thRow,yC,renL,ren,e]
 ·rw [rowsA_ne h,vU]
  cases hl : l[i]? with
  |none => rfl
  |some u => simp [aG (a := 899) (o := 900) h]
theorem rowsA_back {l : List Th} {k : Nat} (hk : k < l.length) : (rowsA l k l[k]).map (renL (swp (.n 899) (.s 900 k))) = thRows 900 l := by
 rw [← rowsA_sw hk,List.map_map]
 conv => rhs; rw [← List.map_id (thRows 900 l)]
 apply List.map_congr_left
 intro c hc
 exact uS _ _ c fun c _ => ren_ren _ _ c
theorem stRef_ren (s : StL) (k : Nat) : renL (swp (.n 899) (.s 900 k)) (stRef s) = stRef s := rfl
theorem swH_stHA {E : TypeId} {pre : List AV} (hp : InertL pre) {s : StL} {k : Nat} (hk : k < s.ths.length) : swH (.n 899) (.s 900 k) (stHA E pre s k s.ths[k]) = stHC E pre s := by
 funext κ
 cases κ with
 |l j =>
  have e : swp (.n 899) (.s 900 k) (.l j) = .l j := rfl
  by_cases h : j = 0
  ·subst h
   simp only [swH,e]
   show some (Ob.vs E (renL _ (pre ++ stRef s))) = some (Ob.vs E (pre ++ stRef s))
   rw [renL_app,inertL_ren hp,stRef_ren]
  ·simp [swH,e,stHA,stHC,nbeq_ne h]
 |n j =>
  by_cases h1 : j = 899
  ·subst h1
   have e : swp (.n 899) (.s 900 k) (.n 899) = .s 900 k := rfl
   simp only [swH,e]
   show (bif Nat.beq k k then none else zR s.ths k).map _ = none
   rw [nbeq_self]; rfl
  have e : swp (.n 899) (.s 900 k) (.n j) = .n j := by simp [swp,Key.beq,nbeq_ne h1]
  simp only [swH,e]
  by_cases h2 : j = 900
  ·subst h2
   show some (Ob.rs 123 6 ((rowsA s.ths k s.ths[k]).map (renL (swp (.n 899) (.s 900 k))))) = some (Ob.rs 123 6 (thRows 900 s.ths))
   rw [rowsA_back hk]
  by_cases h3 : j = 901
  ·subst h3; rfl
  by_cases h4 : j = 902
  ·subst h4; rfl
  simp [stHA,stHC,nbeq_ne h1,nbeq_ne h2,nbeq_ne h3,nbeq_ne h4]
 |s o j =>
  by_cases h : o = 900
  ·subst h
   by_cases hj : j = k
   ·subst hj
    have e : swp (.n 899) (.s 900 j) (.s 900 j) = .n 899 := by simp [swp,Key.beq,nbeq_self]
    simp only [swH,e]
    show some (Ob.ds 105 1 (stk s.ths[j])) = zR s.ths j
    rw [thFam_self hk]
   ·have e : swp (.n 899) (.s 900 k) (.s 900 j) = .s 900 j := by simp [swp,Key.beq,nbeq_ne hj]
    simp only [swH,e]
    show (bif Nat.beq j k then none else zR s.ths j).map _ = zR s.ths j
    rw [nbeq_ne hj]
    exact thFam_ren _ _ _
  ·have e : swp (.n 899) (.s 900 k) (.s o j) = .s o j := by simp [swp,Key.beq,nbeq_ne h]
   simp [swH,e,stHA,stHC,nbeq_ne h]
def AtC (E : TypeId) (pre : List AV) (s : StL) (H0 : Key → Option Ob) : Prop :=
 H0 (.l 0) = some (.vs E (pre ++ stRef s)) ∧ H0 (.n 899) = none ∧ H0 (.n 900) = some (.rs 123 6 (thRows 900 s.ths)) ∧ (∀ j,H0 (.s 900 j) = zR s.ths j) ∧ H0 (.n 901) = some (.ds 105 1 (s.cells.map encF)) ∧ H0 (.n 902) = some (.ds 3 1 (s.owner.map encInt))
theorem IOCall.mono {E : Env} {g : FuncId} {xs : List AV} {H0 : Key → Option Ob} {Post Post' : AV → (Key → Option Ob) → Prop} (h : IOCall E g xs H0 Post) (hp : ∀ r H1,Post r H1 → Post' r H1) : IOCall E g xs H0 Post' := by
 intro w0 A m w vs hH hl hrel
 refine (h w0 A m w vs hH hl hrel).mono ?_
 rintro v w' ⟨r,H1,m1,h1,h2,h3⟩
 exact ⟨r,H1,m1,hp r H1 h1,h2,h3⟩
end Ai
end
