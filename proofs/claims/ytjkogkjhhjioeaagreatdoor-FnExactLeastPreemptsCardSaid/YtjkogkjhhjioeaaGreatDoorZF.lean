import Derived.Test.YtjkogkjhhjioeaaGreatDoorZE
import Derived.WalkKit
set_option maxHeartbeats 8000000
set_option linter.unusedVariables false
set_option linter.unusedSimpArgs false
section
set_option maxRecDepth 100000
namespace Ai
open Go Go.Proofs
theorem wJ (n : Int) (h : (n != n) = true) : False := by simp at h
theorem iJ (x : Nat) : CallsTo EE 160 [.d (.flt x), .d (.flt x)] (· = bv true) := by
 refine callsTo_of_AW (fn := Tryz.f160) Tryz.func160 rfl (by kernel_rfl) rfl ?_
 conv => whnf
 repeat' (refine kbi (fun h => ?_) (fun h => ?_) <;> first | contradiction | conv => whnf)
 all_goals simp [oO] at *
 all_goals simp_all
theorem eqOp_ok (x : OpL) : CallsTo EE 127 [agg (encOp x), agg (encOp x)] (· = bv true) := by
 refine callsTo_of_AW (fn := Tryz.f127) Tryz.func127 rfl (by kernel_rfl) rfl ?_
 conv => whnf
 refine ⟨fun h => (wJ _ h).elim, fun _ => ?_⟩
 conv => whnf
 refine ⟨fun h => (wJ _ h).elim, fun _ => ?_⟩
 conv => whnf
 refine ⟨fun h => (wJ _ h).elim, fun _ => ?_⟩
 conv => whnf
 refine ⟨_, iJ x.v, ?_⟩
 rintro r rfl
 conv => whnf
theorem eqOpS_ok (xs : List OpL) (hx : xs.length ≤ 1048576) : CallsTo EE 82 [sl (xs.map encOp), sl (xs.map encOp)] (· = bv true) := by
 refine callsTo_of_AW (fn := Tryz.f82) Tryz.func82 rfl (by kernel_rfl) rfl ?_
 conv => whnf
 refine ⟨fun h => (wJ _ h).elim, fun _ => ?_⟩
 conv => whnf
 refine yU (fun k : Nat => [(0, sl (xs.map encOp)), (1, sl (xs.map encOp)), (5, i64 k)]) (fun k => []) (fun k => xs.length - k) (fun k => k ≤ xs.length) 0 .refl ⟨rfl, rfl, rfl, trivial⟩ trivial (Nat.zero_le _) ?_
 intro k τ H hk
 conv => whnf
 refine ⟨fun h => ?_, fun h => ?_⟩
 ·have hlt := xY h
  conv => whnf
  refine ⟨by kernel_rfl, ?_⟩
  conv => whnf
  refine ⟨encOp xs[k], yC encOp hlt rfl, ?_⟩
  conv => whnf
  refine ⟨encOp xs[k], yC encOp hlt rfl, ?_⟩
  conv => whnf
  refine ⟨_, eqOp_ok xs[k], ?_⟩
  conv => whnf
  refine ⟨k + 1, by omega, by show xs.length - (k + 1) < xs.length - k; omega, ⟨rfl, rfl, next_i64 hlt (by omega), trivial⟩, trivial⟩
 ·conv => whnf
theorem eqOpSS_ok (xs : List (List OpL)) (hx : xs.length ≤ 1048576) (hx2 : ∀ x ∈ xs, x.length ≤ 1048576) : CallsTo EE 46 [sl (xs.map zW), sl (xs.map zW)] (· = bv true) := by
 refine callsTo_of_AW (fn := Tryz.f46) Tryz.func46 rfl (by kernel_rfl) rfl ?_
 conv => whnf
 refine ⟨fun h => (wJ _ h).elim, fun _ => ?_⟩
 conv => whnf
 refine yU (fun k : Nat => [(0, sl (xs.map zW)), (1, sl (xs.map zW)), (5, i64 k)]) (fun k => []) (fun k => xs.length - k) (fun k => k ≤ xs.length) 0 .refl ⟨rfl, rfl, rfl, trivial⟩ trivial (Nat.zero_le _) ?_
 intro k τ H hk
 conv => whnf
 refine ⟨fun h => ?_, fun h => ?_⟩
 ·have hlt := xY h
  conv => whnf
  refine ⟨by kernel_rfl, ?_⟩
  conv => whnf
  refine ⟨zW xs[k], yC zW hlt rfl, ?_⟩
  conv => whnf
  refine ⟨zW xs[k], yC zW hlt rfl, ?_⟩
  conv => whnf
  refine ⟨_, eqOpS_ok xs[k] (hx2 _ (List.getElem_mem hlt)), ?_⟩
  conv => whnf
  refine ⟨k + 1, by omega, by show xs.length - (k + 1) < xs.length - k; omega, ⟨rfl, rfl, next_i64 hlt (by omega), trivial⟩, trivial⟩
 ·conv => whnf
theorem eqProg_ok (p : ProgL) (h : p.rs.length ≤ 1048576 ∧ ∀ x ∈ p.rs, x.length ≤ 1048576) : CallsTo EE 16 [agg (encProg p), agg (encProg p)] (· = bv true) := by
 refine callsTo_of_AW (fn := Tryz.f16) Tryz.func16 rfl (by kernel_rfl) rfl ?_
 conv => whnf
 refine ⟨fun h => (wJ _ h).elim, fun _ => ?_⟩
 conv => whnf
 refine ⟨fun h => (wJ _ h).elim, fun _ => ?_⟩
 conv => whnf
 refine ⟨fun h => (wJ _ h).elim, fun _ => ?_⟩
 conv => whnf
 refine ⟨_, eqOpSS_ok _ h.1 h.2, ?_⟩
 rintro r rfl
 conv => whnf
end Ai
end
section
set_option maxRecDepth 100000
namespace Ai
open Go Go.Proofs Cyc
def pT (p : ProgL) (picks : List Int) (sign : List UInt8) : Prop := fB p (u6 p picks 200) = sign
def Picks6 (xs : List Int) : Prop := xs.length ≤ 60 ∧ AllIn xs 0 999
theorem Picks6.nn {xs : List Int} (h : Picks6 xs) : ∀ i ∈ xs, 0 ≤ i := fun i hi => (h.2 i hi).1
end Ai
end
section
set_option maxRecDepth 100000
namespace Ai
open Go Go.Proofs Go.Shelf Go.Sort Go.RowKit
def qW (xs : List Int) (i j : Nat) : List Int := xs.take i ++ xs.drop j
end Ai
end
section
set_option maxRecDepth 100000
namespace Ai
open Go Go.Proofs Cyc
theorem drop_in {xs : List Int} {i j : Nat} (h : ∀ x ∈ xs, 0 ≤ x) : ∀ x ∈ qW xs i j, 0 ≤ x := by
 intro x hx
 rcases List.mem_append.1 hx with h1 | h1
 ·exact h x (List.mem_of_mem_take h1)
 ·exact h x (List.mem_of_mem_drop h1)
end Ai
end
section
set_option maxRecDepth 100000
namespace Ai
open Go Go.Proofs Cyc
section
open Classical
variable {ok : List Int → Prop} {l : Nat}
theorem oQ {xs : List Int} {i l : Nat} (h : i < xs.length ∧ 0 < l) : (qW xs i (min xs.length (i + l))).length < xs.length := by simp [qW]; omega
noncomputable def inn (ok : List Int → Prop) (l : Nat) (xs : List Int) (i a : Nat) (w : Bool) : List Int × Nat × Bool :=
 if h : i < xs.length ∧ 0 < l then
  if ok (qW xs i (min xs.length (i + l))) then inn ok l (qW xs i (min xs.length (i + l))) i (a + 1) true else inn ok l xs (i + 1) (a + 1) w
 else (xs, a, w)
termination_by xs.length - i
decreasing_by
 ·have := oQ h; omega
 ·omega
theorem inn_end {xs : List Int} {i a : Nat} {w : Bool} (h : ¬ i < xs.length) : inn ok l xs i a w = (xs, a, w) := by
 rw [inn, dif_neg (fun q => h q.1)]
theorem l4 {xs : List Int} {i a : Nat} {w : Bool} (h : i < xs.length) (h0 : 0 < l) (hk : ok (qW xs i (min xs.length (i + l)))) : inn ok l xs i a w = inn ok l (qW xs i (min xs.length (i + l))) i (a + 1) true := by
 rw [inn, dif_pos ⟨h, h0⟩, if_pos hk]
theorem l5 {xs : List Int} {i a : Nat} {w : Bool} (h : i < xs.length) (h0 : 0 < l) (hk : ¬ ok (qW xs i (min xs.length (i + l)))) : inn ok l xs i a w = inn ok l xs (i + 1) (a + 1) w := by
 rw [inn, dif_pos ⟨h, h0⟩, if_neg hk]
theorem nD : ∀ (n : Nat) (xs : List Int) (i a : Nat) (w : Bool), xs.length - i ≤ n → (inn ok l xs i a w).1.length ≤ xs.length ∧ (inn ok l xs i a w).2.1 ≤ a + n ∧ ((inn ok l xs i a w).2.2 = true → w = true ∨ (inn ok l xs i a w).1.length < xs.length) ∧ ((∀ x ∈ xs, 0 ≤ x) → ∀ x ∈ (inn ok l xs i a w).1, 0 ≤ x)
 | 0, xs, i, a, w, h => by
  rw [inn_end (by omega)]
  exact ⟨Nat.le_refl _, Nat.le_refl _, .inl, id⟩
 |n + 1, xs, i, a, w, h => by
  by_cases hi : i < xs.length ∧ 0 < l
  ·by_cases hk : ok (qW xs i (min xs.length (i + l)))
   ·rw [l4 hi.1 hi.2 hk]
    have hd := oQ hi
    obtain ⟨h1, h2, h3, h4⟩ := nD n (qW xs i (min xs.length (i + l))) i (a + 1) true (by omega)
    exact ⟨by omega, by omega, fun _ => .inr (by omega), fun h => h4 (drop_in h)⟩
   ·rw [l5 hi.1 hi.2 hk]
    obtain ⟨h1, h2, h3, h4⟩ := nD n xs (i + 1) (a + 1) w (by omega)
    exact ⟨h1, by omega, h3, h4⟩
  ·rw [inn, dif_neg hi]
   exact ⟨Nat.le_refl _, by show a ≤ _; omega, .inl, id⟩
theorem inn_len (xs : List Int) (a : Nat) : (inn ok l xs 0 a false).1.length ≤ xs.length := (nD _ xs 0 a false (Nat.le_refl _)).1
noncomputable def shr (ok : List Int → Prop) (l : Nat) (xs : List Int) (a : Nat) : List Int × Nat :=
 if h : 1 < l then shr ok (l / 2) (inn ok l xs 0 a false).1 (inn ok l xs 0 a false).2.1
 else if h : (inn ok l xs 0 a false).2.2 = true ∧ (inn ok l xs 0 a false).1.length < xs.length then shr ok l (inn ok l xs 0 a false).1 (inn ok l xs 0 a false).2.1
 else ((inn ok l xs 0 a false).1, (inn ok l xs 0 a false).2.1)
termination_by l + xs.length
decreasing_by
 ·have := inn_len (ok := ok) (l := l) xs a; omega
 ·omega
end
noncomputable def shrinkL (p : ProgL) (picks : List Int) (sign : List UInt8) : List Int × Nat := shr (fun xs => pT p xs sign) (max 1 (picks.length / 2)) picks 0
structure ShrP (p : ProgL) (sign : List UInt8) (F : List Int × Nat) (l : Nat) (xs : List Int) (a : Nat) : Prop where
 fin : shr (fun xs => pT p xs sign) l xs a = F
 l0 : 1 ≤ l
 l1 : l ≤ 60
 len : xs.length ≤ 60
 nn : ∀ x ∈ xs, 0 ≤ x
 asked : a + 60 * (l + xs.length) ≤ 7260
structure InnP (p : ProgL) (sign : List UInt8) (l : Nat) (xs : List Int) (a : Nat) (c : List Int) (i b : Nat) (w : Bool) : Prop where
 fin : inn (fun xs => pT p xs sign) l c i b w = inn (fun xs => pT p xs sign) l xs 0 a false
 len : c.length ≤ xs.length
 il : i ≤ c.length
 nn : ∀ x ∈ c, 0 ≤ x
 asked : b + (c.length - i) ≤ a + xs.length
theorem InnP.take {p : ProgL} {sign : List UInt8} {l a i b : Nat} {xs c : List Int} {w : Bool} (h : InnP p sign l xs a c i b w) (h0 : 1 ≤ l) (hi : i < c.length) (hk : pT p (qW c i (min c.length (i + l))) sign) :
  InnP p sign l xs a (qW c i (min c.length (i + l))) i (b + 1) true ∧ (qW c i (min c.length (i + l))).length < c.length := by
 have hd := oQ ⟨hi, h0⟩
 have hdl : i ≤ (qW c i (min c.length (i + l))).length := by simp [qW]; omega
 refine ⟨⟨by rw [← h.fin]; exact (l4 (ok := fun xs => pT p xs sign) hi h0 hk).symm, by have := h.len; omega, hdl, drop_in h.nn, by have := h.asked; omega⟩, hd⟩
theorem InnP.pass {p : ProgL} {sign : List UInt8} {l a i b : Nat} {xs c : List Int} {w : Bool} (h : InnP p sign l xs a c i b w) (h0 : 1 ≤ l) (hi : i < c.length) (hk : ¬ pT p (qW c i (min c.length (i + l))) sign) :
  InnP p sign l xs a c (i + 1) (b + 1) w :=
 ⟨by rw [← h.fin]; exact (l5 (ok := fun xs => pT p xs sign) hi h0 hk).symm, h.len, hi, h.nn, by have := h.asked; omega⟩
theorem ShrP.init (p : ProgL) (sign : List UInt8) {picks : List Int} (h : Picks6 picks) : ShrP p sign (shrinkL p picks sign) (max 1 (picks.length / 2)) picks 0 :=
 ⟨rfl, by omega, by have := h.1; omega, h.1, h.nn, by have := h.1; omega⟩
end Ai
end
section
set_option maxRecDepth 100000
namespace Ai
open Go Go.Proofs Cyc
def natI (l : List Nat) : List Int := l.map fun k => ((k : Nat) : Int)
theorem natI_enc (l : List Nat) : l.map encN = (natI l).map encInt := by simp [natI, encN, encInt]
end Ai
end
section
set_option maxRecDepth 100000
namespace Ai
open Go Go.Proofs Cyc
open Classical in
noncomputable def keptBy (K : StL → Nat → Ev → Prop) (s : StL) (l : List Nat) (e : Ev) : List Nat := l.filter fun u => decide (K s u e)
structure XS where
 acc : List RunT
 tried : List Nat
 ok : Bool
noncomputable def enAt (p : ProgL) (r : RunT) (k : Nat) : Nat := (enabledL p r.s).getD k 0
noncomputable def runBy (p : ProgL) (r : RunT) (k : Nat) : RunT := ⟨0, r.tr ++ [(stepL p r.s (enAt p r k)).2], r.tk ++ [(k : Int)], (stepL p r.s (enAt p r k)).1⟩
open Classical in
noncomputable def xloop (p : ProgL) (sl : Bool) (K : StL → Nat → Ev → Prop) (f : RunT → List Nat → List RunT → List RunT × Bool) (r : RunT) (sleep : List Nat) (acc : List RunT) : Nat → XS
 | 0 => ⟨acc, [], true⟩
 |k + 1 =>
  if (xloop p sl K f r sleep acc k).ok = false ∨ (sl = true ∧ enAt p r k ∈ sleep) then xloop p sl K f r sleep acc k
  else ⟨(f (runBy p r k) (keptBy K r.s (sleep ++ (xloop p sl K f r sleep acc k).tried) (stepL p r.s (enAt p r k)).2) (xloop p sl K f r sleep acc k).acc).1, (xloop p sl K f r sleep acc k).tried ++ [enAt p r k],
   (f (runBy p r k) (keptBy K r.s (sleep ++ (xloop p sl K f r sleep acc k).tried) (stepL p r.s (enAt p r k)).2) (xloop p sl K f r sleep acc k).acc).2⟩
def leaf (p : ProgL) (b : Int) (c : Int) (r : RunT) : RunT := ⟨c, r.tr, r.tk, r.s⟩
noncomputable def xgo (p : ProgL) (b : Int) (sl : Bool) (K : StL → Nat → Ev → Prop) : Nat → RunT → List Nat → List RunT → List RunT × Bool
 | 0, r, sleep, acc => (acc, true)
 |n + 1, r, sleep, acc =>
  if 0 < codeL p r.s r.tr.length b then (acc ++ [leaf p b (codeL p r.s r.tr.length b) r], decide (acc.length + 1 ≤ 400))
  else ((xloop p sl K (xgo p b sl K n) r sleep acc (enabledL p r.s).length).acc, (xloop p sl K (xgo p b sl K n) r sleep acc (enabledL p r.s).length).ok)
theorem xloop_stay {p : ProgL} {sl : Bool} {K : StL → Nat → Ev → Prop} {f : RunT → List Nat → List RunT → List RunT × Bool} {r : RunT} {sleep : List Nat} {acc : List RunT} {k : Nat} (h : (xloop p sl K f r sleep acc k).ok = false) :
    ∀ m, k ≤ m → xloop p sl K f r sleep acc m = xloop p sl K f r sleep acc k := by
  intro m hm
  induction m with
  | zero => have : k = 0 := by omega
            subst this; rfl
  | succ m ih =>
    by_cases hk : k = m + 1
    · subst hk; rfl
    · have := ih (by omega)
      rw [xloop, if_pos (.inl (by rw [this]; exact h)), this]
theorem nT {p : ProgL} {K K' : StL → Nat → Ev → Prop} {f f' : RunT → List Nat → List RunT → List RunT × Bool} {r : RunT} {s1 s2 : List Nat} {acc : List RunT}
  (hf : ∀ r a b acc, f r a acc = f' r b acc) : ∀ k, xloop p false K f r s1 acc k = xloop p false K' f' r s2 acc k
 | 0 => rfl
 |k + 1 => by
  have ih := nT (p := p) (K := K) (K' := K') (r := r) (s1 := s1) (s2 := s2) (acc := acc) hf k
  rw [xloop, xloop, ih]
  have e : ∀ (q : Nat) (l : List Nat), (false = true ∧ q ∈ l) ↔ False := fun q l => by simp
  simp only [e]
  split
  ·rfl
  ·rw [hf _ _ (keptBy K' r.s (s2 ++ (xloop p false K' f' r s2 acc k).tried) (stepL p r.s (enAt p r k)).2)]
theorem cO (p : ProgL) (b : Int) (K K' : StL → Nat → Ev → Prop) : ∀ (n : Nat) (r : RunT) (s1 s2 : List Nat) (acc : List RunT), xgo p b false K n r s1 acc = xgo p b false K' n r s2 acc
 | 0, _, _, _, _ => rfl
 |n + 1, r, s1, s2, acc => by
  rw [xgo, xgo, nT (K' := K') (f' := xgo p b false K' n) (s2 := s2) (fun r a c acc => cO p b K K' n r a c acc)]
noncomputable def xD (p : ProgL) (tr : List Ev) : Nat → StL
 | 0 => xS p
 |i + 1 => (stepL p (xD p tr i) (tr.getD i vH).th.toNat).1
theorem rO (p : ProgL) (tr : List Ev) (e : Ev) : ∀ i, i ≤ tr.length → xD p (tr ++ [e]) i = xD p tr i
 | 0, _ => rfl
 |i + 1, h => by
  rw [xD, xD, rO p tr e i (by omega)]
  have : (tr ++ [e]).getD i vH = tr.getD i vH := by
   rw [List.getD_eq_getElem?_getD, List.getD_eq_getElem?_getD, List.getElem?_append_left (by omega)]
  rw [this]
structure XR (p : ProgL) (b : Int) (r : RunT) : Prop where
 inv : AInv p r.s
 tr : TrOK r.s r.tr
 len : r.tr.length = r.tk.length
 le : (r.tr.length : Int) ≤ b
 tk : ∀ i ∈ r.tk, 0 ≤ i ∧ i < 5
 at_ : xD p r.tr r.tr.length = r.s
 en : ∀ i, i < r.tr.length → (r.tr.getD i vH).th.toNat ∈ enabledL p (xD p r.tr i) ∧ 0 ≤ (r.tr.getD i vH).th
 run : ∀ picks, r.tk <+: picks → u6 p picks b = v8 p picks b (b.toNat + 1 - r.tr.length) r.s r.tr r.tk
structure XEnd (p : ProgL) (b : Int) (x : RunT) : Prop where
 fin : REnd p b x
 en : ∀ i, i < x.tr.length → (x.tr.getD i vH).th.toNat ∈ enabledL p (xD p x.tr i) ∧ 0 ≤ (x.tr.getD i vH).th
 run : u6 p x.tk b = x
theorem XR.new {p : ProgL} (hg : p.goodS) {b : Int} (hb : 0 ≤ b) : XR p b ⟨0, [], [], xS p⟩ :=
 ⟨s6 hg, ⟨fun e he => (by cases he), fun h => absurd rfl h⟩, rfl, hb, fun i hi => (by cases hi), rfl, fun i hi => (by cases hi), fun picks h => rfl⟩
theorem XR.mem {p : ProgL} {b : Int} {r : RunT} {k : Nat} (hk : k < (enabledL p r.s).length) : enAt p r k ∈ enabledL p r.s := by
 unfold enAt
 rw [List.getD_eq_getElem?_getD, List.getElem?_eq_getElem hk]; exact List.getElem_mem hk
theorem XR.step {p : ProgL} (hg : p.goodS) (hv : p.flt) {b : Int} {r : RunT} (h : XR p b r) (hc : ¬ 0 < codeL p r.s r.tr.length b) {k : Nat} (hk : k < (enabledL p r.s).length) : XR p b (runBy p r k) := by
 have hm := XR.mem (b := b) hk
 have h5 : (enabledL p r.s).length ≤ 5 := Nat.le_trans (enabledTo_le) h.inv.si.len
 have hlb := (en_ne hc).2
 have hle := h.le
 have hth : (stepL p r.s (enAt p r k)).2.th = (enAt p r k : Nat) := (step_ev p r.s _).1
 refine ⟨eP hg hv hm h.inv, tr_step hg hm h.inv h.tr, by simp [runBy, h.len], ?_, fun i hi => ?_, ?_, fun i hi => ?_, fun picks hp => ?_⟩
 ·show ((r.tr ++ [_]).length : Int) ≤ b
  simp; omega
 ·rcases List.mem_append.1 hi with e | e
  ·exact h.tk i e
  ·simp only [List.mem_cons, List.not_mem_nil, or_false] at e
   subst e; omega
 ·show xD p (r.tr ++ [_]) (r.tr ++ [_]).length = (stepL p r.s _).1
  rw [List.length_append]
  show xD p (r.tr ++ [_]) (r.tr.length + 1) = _
  rw [xD, rO _ _ _ _ (Nat.le_refl _), h.at_]
  have : (r.tr ++ [(stepL p r.s (enAt p r k)).2]).getD r.tr.length vH = (stepL p r.s (enAt p r k)).2 := by simp [List.getD_eq_getElem?_getD]
  rw [this, hth]
  rfl
 ·have hi : i < (r.tr ++ [(stepL p r.s (enAt p r k)).2]).length := hi
  show ((r.tr ++ [_]).getD i vH).th.toNat ∈ enabledL p (xD p (r.tr ++ [_]) i) ∧ 0 ≤ ((r.tr ++ [_]).getD i vH).th
  simp only [List.length_append, List.length_cons, List.length_nil] at hi
  rw [rO _ _ _ _ (by omega)]
  by_cases he : i = r.tr.length
  ·subst he
   have : (r.tr ++ [(stepL p r.s (enAt p r k)).2]).getD r.tr.length vH = (stepL p r.s (enAt p r k)).2 := by simp [List.getD_eq_getElem?_getD]
   rw [this, hth, h.at_]
   exact ⟨by simpa using hm, by omega⟩
  ·have : (r.tr ++ [(stepL p r.s (enAt p r k)).2]).getD i vH = r.tr.getD i vH := by
    rw [List.getD_eq_getElem?_getD, List.getD_eq_getElem?_getD, List.getElem?_append_left (by omega)]
   rw [this]
   exact h.en i (by omega)
 ·have hp : r.tk ++ [(k : Int)] <+: picks := hp
  obtain ⟨more, rfl⟩ := hp
  rw [h.run _ ⟨[(k : Int)] ++ more, by simp⟩]
  have hn : b.toNat + 1 - r.tr.length = (b.toNat - r.tr.length) + 1 := by omega
  rw [hn, v8, if_neg hc]
  have hpk : jG (r.tk ++ [(k : Int)] ++ more) r.tk (enabledL p r.s).length = (k : Int) := by
   unfold jG
   rw [if_pos (by simp)]
   have : (r.tk ++ [(k : Int)] ++ more).getD r.tk.length 0 = (k : Int) := by simp [List.getD_eq_getElem?_getD]
   rw [this]
   exact Int.tmod_eq_of_lt (by omega) (by omega)
  simp only [hpk]
  show _ = v8 p _ b (b.toNat + 1 - (r.tr ++ [_]).length) _ _ _
  rw [show b.toNat + 1 - (r.tr ++ [(stepL p r.s (enAt p r k)).2]).length = b.toNat - r.tr.length by simp]
  rfl
theorem XR.leaf {p : ProgL} {b : Int} {r : RunT} (h : XR p b r) (hc : 0 < codeL p r.s r.tr.length b) : XEnd p b (leaf p b (codeL p r.s r.tr.length b) r) := by
 refine ⟨⟨h.inv, h.tr, rfl, hc, h.len, h.le, h.tk⟩, h.en, ?_⟩
 show u6 p r.tk b = _
 rw [h.run _ (List.prefix_rfl)]
 have hle := h.le
 have hn : b.toNat + 1 - r.tr.length = (b.toNat - r.tr.length) + 1 := by omega
 rw [hn, v8, if_pos hc]
 rfl
theorem xgo_all {p : ProgL} (hg : p.goodS) (hv : p.flt) {b : Int} {sl : Bool} {K : StL → Nat → Ev → Prop} : ∀ (n : Nat) (r : RunT) (sleep : List Nat) (acc : List RunT), XR p b r → (∀ x ∈ acc, XEnd p b x) → ∀ x ∈ (xgo p b sl K n r sleep acc).1, XEnd p b x
 | 0, r, sleep, acc, hr, ha => ha
 |n + 1, r, sleep, acc, hr, ha => by
  rw [xgo]
  split
  ·rename_i hc
   intro x hx
   rcases List.mem_append.1 hx with e | e
   ·exact ha x e
   ·simp only [List.mem_cons, List.not_mem_nil, or_false] at e
    subst e; exact hr.leaf hc
  ·rename_i hc
   have : ∀ k, k ≤ (enabledL p r.s).length → ∀ x ∈ (xloop p sl K (xgo p b sl K n) r sleep acc k).acc, XEnd p b x := by
    intro k
    induction k with
    |zero => exact fun _ => ha
    |succ k ih =>
     intro hk
     rw [xloop]
     split
     ·exact ih (by omega)
     ·exact xgo_all hg hv n _ _ _ (hr.step hg hv hc hk) (ih (by omega))
   exact this _ (Nat.le_refl _)
theorem eX {p : ProgL} {b : Int} {sl : Bool} {K : StL → Nat → Ev → Prop} : ∀ (n : Nat) (r : RunT) (sleep : List Nat) (acc : List RunT), acc.length ≤ 400 → (xgo p b sl K n r sleep acc).1.length ≤ 401 ∧ ((xgo p b sl K n r sleep acc).2 = true → (xgo p b sl K n r sleep acc).1.length ≤ 400)
 | 0, r, sleep, acc, ha => ⟨by show acc.length ≤ _; omega, fun _ => ha⟩
 |n + 1, r, sleep, acc, ha => by
  rw [xgo]
  split
  ·refine ⟨by simp; omega, fun h => ?_⟩
   have := of_decide_eq_true h
   simp; omega
  ·have : ∀ k, (xloop p sl K (xgo p b sl K n) r sleep acc k).acc.length ≤ 401 ∧ ((xloop p sl K (xgo p b sl K n) r sleep acc k).ok = true → (xloop p sl K (xgo p b sl K n) r sleep acc k).acc.length ≤ 400) := by
    intro k
    induction k with
    |zero => exact ⟨by show acc.length ≤ _; omega, fun _ => ha⟩
    |succ k ih =>
     rw [xloop]
     split
     ·exact ih
     ·rename_i h
      have hok : (xloop p sl K (xgo p b sl K n) r sleep acc k).ok = true := by
       cases hh : (xloop p sl K (xgo p b sl K n) r sleep acc k).ok with
       |true => rfl
       |false => exact absurd (.inl hh) h
      exact eX n _ _ _ (ih.2 hok)
   exact this _
theorem xloop_len {p : ProgL} {b : Int} {sl : Bool} {K : StL → Nat → Ev → Prop} {n : Nat} {r : RunT} {sleep : List Nat} {acc : List RunT} (ha : acc.length ≤ 400) : ∀ k, (xloop p sl K (xgo p b sl K n) r sleep acc k).ok = true → (xloop p sl K (xgo p b sl K n) r sleep acc k).acc.length ≤ 400
 | 0, _ => ha
 |k + 1, hok => by
  rw [xloop] at hok ⊢
  split
  ·rename_i h
   rw [if_pos h] at hok
   exact xloop_len ha k hok
  ·rename_i h
   rw [if_neg h] at hok
   have hok1 : (xloop p sl K (xgo p b sl K n) r sleep acc k).ok = true := by
    cases hh : (xloop p sl K (xgo p b sl K n) r sleep acc k).ok with
    |true => rfl
    |false => exact absurd (.inl hh) h
   exact (eX n _ _ _ (xloop_len ha k hok1)).2 hok
theorem xloop_tried {p : ProgL} {sl : Bool} {K : StL → Nat → Ev → Prop} {f : RunT → List Nat → List RunT → List RunT × Bool} {r : RunT} {sleep : List Nat} {acc : List RunT} : ∀ k, k ≤ (enabledL p r.s).length →
  (xloop p sl K f r sleep acc k).tried.length ≤ k ∧ ∀ u ∈ (xloop p sl K f r sleep acc k).tried, u ∈ enabledL p r.s
 | 0, _ => ⟨Nat.le_refl _, fun u hu => (by cases hu)⟩
 |k + 1, hk => by
  have ih := xloop_tried (p := p) (sl := sl) (K := K) (f := f) (r := r) (sleep := sleep) (acc := acc) k (by omega)
  rw [xloop]
  split
  ·exact ⟨by omega, ih.2⟩
  ·refine ⟨by simp; exact ih.1, fun u hu => ?_⟩
   rcases List.mem_append.1 hu with e | e
   ·exact ih.2 u e
   ·simp only [List.mem_cons, List.not_mem_nil, or_false] at e
    subst e
    exact XR.mem (b := 0) (by omega)
end Ai
end
section
set_option maxRecDepth 100000
namespace Ai
open Go Go.Proofs Cyc
noncomputable def uO (p : ProgL) (b : Int) : List RunT × Bool := xgo p b false (fun _ _ _ => True) (b.toNat + 1) ⟨0, [], [], xS p⟩ [] []
theorem s5 {p : ProgL} (hg : p.goodS) (hv : p.flt) {b : Int} (hb : 0 ≤ b) : ∀ x ∈ (uO p b).1, XEnd p b x := xgo_all hg hv _ _ _ _ (XR.new hg hb) fun x hx => (by cases hx)
theorem r9 (p : ProgL) (b : Int) : (uO p b).1.length ≤ 401 := (eX _ _ _ _ (Nat.zero_le _)).1
theorem allR_of (p : ProgL) (b : Int) (K : StL → Nat → Ev → Prop) (sleep : List Nat) : xgo p b false K (b.toNat + 1) ⟨0, [], [], xS p⟩ sleep [] = uO p b := cO p b K _ _ _ _ _ _
open Classical in
noncomputable def uQ (p : ProgL) (tr : List Ev) : Nat → Nat
 | 0 => 0
 |k + 1 => uQ p tr k + (if 0 < k ∧ (tr.getD (k - 1) vH).th ≠ (tr.getD k vH).th ∧ (tr.getD (k - 1) vH).th.toNat ∈ enabledL p (xD p tr k) then 1 else 0)
theorem rY (p : ProgL) (tr : List Ev) : ∀ k, uQ p tr k ≤ k
 | 0 => Nat.le_refl _
 |k + 1 => by
  have := rY p tr k
  rw [uQ]
  split <;> omega
noncomputable def cF (p : ProgL) (x : RunT) : Nat := uQ p x.tr x.tr.length
open Classical in
noncomputable def yW (p : ProgL) (sign : List UInt8) (xs : List RunT) : Nat → Int
 | 0 => -1
 |k + 1 => match xs[k]? with
  |some x => if fB p x = sign then (if yW p sign xs k < 0 ∨ (cF p x : Int) < yW p sign xs k then (cF p x : Int) else yW p sign xs k) else yW p sign xs k
  |none => yW p sign xs k
theorem rN {p : ProgL} (hg : p.goodS) (hv : p.flt) {tr : List Ev} (h : ∀ i, i < tr.length → (tr.getD i vH).th.toNat ∈ enabledL p (xD p tr i) ∧ 0 ≤ (tr.getD i vH).th) : ∀ i, i ≤ tr.length → AInv p (xD p tr i)
 | 0, _ => s6 hg
 |i + 1, hi => eP hg hv (h i (by omega)).1 (rN hg hv h i (by omega))
end Ai
end
section
set_option maxRecDepth 100000
namespace Ai
open Go Go.Proofs
def l8 (xs : List Int) (n : Int) : Option Nat := xs.findIdx? (· == n)
theorem lX (xs : List Int) (n : Int) : (0 ≤ dV (l8 xs n)) ↔ n ∈ xs := by
 unfold l8
 cases h : xs.findIdx? (· == n) with
 |none =>
  rw [List.findIdx?_eq_none_iff] at h
  simp only [dV]
  refine ⟨fun e => absurd e (by decide), fun hm => ?_⟩
  have := h n hm
  simp at this
 |some k =>
  rw [List.findIdx?_eq_some_iff_getElem] at h
  obtain ⟨h1, h2, _⟩ := h
  simp only [dV]
  have h2 : xs[k] = n := by simpa using h2
  exact ⟨fun _ => h2 ▸ List.getElem_mem h1, fun _ => by omega⟩
theorem IdxA_ok (xs : List Int) (n : Int) (hx : xs.length ≤ 1048576) : CallsTo EE 106 [sl (xs.map encInt), i64 n] (· = i64 (dV (l8 xs n))) := by
 refine callsTo_of_AW (fn := Tryz.f106) Tryz.func106 rfl (by kernel_rfl) rfl ?_
 conv => whnf
 refine yU (fun k : Nat => [(0, sl (xs.map encInt)), (1, i64 n), (7, i64 (xs.map encInt).length), (8, i64 k)]) (fun k => []) (fun k => xs.length - k) (fun k => k ≤ xs.length ∧ ∀ x ∈ xs.take k, (x == n) = false) 0 .refl ⟨rfl, rfl, rfl, rfl, trivial⟩ trivial ⟨Nat.zero_le _, jU⟩ ?_
 rintro k τ H ⟨hk, ih⟩
 conv => whnf
 refine kbi (fun h => ?_) (fun h => ?_)
 ·have hlt := xY h
  conv => whnf
  refine ⟨encInt xs[k], yC encInt hlt rfl, ?_⟩
  conv => whnf
  refine kbi (fun h => ?_) (fun h => ?_)
  ·conv => whnf
   have h : n = xs[k] := by simpa using h
   have : l8 xs n = some k := gN (f := (· == n)) hlt ih (by simp [h])
   rw [this]
   rfl
  ·conv => whnf
   have h : ¬ n = xs[k] := by simpa using h
   exact ⟨k + 1, ⟨by omega, qF ih hlt (by simp; exact fun e => h e.symm)⟩, by show xs.length - (k + 1) < xs.length - k; omega, ⟨rfl, rfl, rfl, next_i64 hlt (by omega), trivial⟩, trivial⟩
 ·conv => whnf
  have : l8 xs n = none := gO (f := (· == n)) (kE ih (by simp at h; omega))
  rw [this]
  rfl
theorem ContA_ok (xs : List Int) (n : Int) (hx : xs.length ≤ 1048576) : CallsTo EE 113 [sl (xs.map encInt), i64 n] (· = bp (n ∈ xs)) := by
 refine callsTo_of_AW (fn := Tryz.f113) Tryz.func113 rfl (by kernel_rfl) rfl ?_
 conv => whnf
 refine ⟨_, IdxA_ok xs n hx, ?_⟩
 rintro r rfl
 conv => whnf
 refine kbi (fun h => ?_) (fun h => ?_)
 ·conv => whnf
  exact bpt ((lX xs n).1 (of_decide_eq_true h))
 ·conv => whnf
  exact bpf fun e => h (decide_eq_true ((lX xs n).2 e))
theorem IdxS_ok (xs : List Int) (n : Int) (hx : xs.length ≤ 1048576) : CallsTo EE 178 [sl (xs.map encInt), i64 n] (· = i64 (dV (l8 xs n))) := by
 refine callsTo_of_AW (fn := Tryz.f178) Tryz.func178 rfl (by kernel_rfl) rfl ?_
 conv => whnf
 refine yU (fun k : Nat => [(0, sl (xs.map encInt)), (1, i64 n), (7, i64 (xs.map encInt).length), (8, i64 k)]) (fun k => []) (fun k => xs.length - k) (fun k => k ≤ xs.length ∧ ∀ x ∈ xs.take k, (x == n) = false) 0 .refl ⟨rfl, rfl, rfl, rfl, trivial⟩ trivial ⟨Nat.zero_le _, jU⟩ ?_
 rintro k τ H ⟨hk, ih⟩
 conv => whnf
 refine kbi (fun h => ?_) (fun h => ?_)
 ·have hlt := xY h
  conv => whnf
  refine ⟨encInt xs[k], yC encInt hlt rfl, ?_⟩
  conv => whnf
  refine kbi (fun h => ?_) (fun h => ?_)
  ·conv => whnf
   have h : n = xs[k] := by simpa using h
   have : l8 xs n = some k := gN (f := (· == n)) hlt ih (by simp [h])
   rw [this]
   rfl
  ·conv => whnf
   have h : ¬ n = xs[k] := by simpa using h
   exact ⟨k + 1, ⟨by omega, qF ih hlt (by simp; exact fun e => h e.symm)⟩, by show xs.length - (k + 1) < xs.length - k; omega, ⟨rfl, rfl, rfl, next_i64 hlt (by omega), trivial⟩, trivial⟩
 ·conv => whnf
  have : l8 xs n = none := gO (f := (· == n)) (kE ih (by simp at h; omega))
  rw [this]
  rfl
theorem ContS_ok (xs : List Int) (n : Int) (hx : xs.length ≤ 1048576) : CallsTo EE 146 [sl (xs.map encInt), i64 n] (· = bp (n ∈ xs)) := by
 refine callsTo_of_AW (fn := Tryz.f146) Tryz.func146 rfl (by kernel_rfl) rfl ?_
 conv => whnf
 refine ⟨_, IdxS_ok xs n hx, ?_⟩
 rintro r rfl
 conv => whnf
 refine kbi (fun h => ?_) (fun h => ?_)
 ·conv => whnf
  exact bpt ((lX xs n).1 (of_decide_eq_true h))
 ·conv => whnf
  exact bpf fun e => h (decide_eq_true ((lX xs n).2 e))
theorem CloneS_ok (xs : List Int) (hx : xs.length ≤ 1048576) : CallsTo EE 145 [sl (xs.map encInt)] (· = .uq 3 1 (xs.map encInt)) := by
 refine callsTo_of_AW (fn := Tryz.f145) Tryz.func145 rfl (by kernel_rfl) rfl ?_
 conv => whnf
 refine ⟨fun hn => ?_, ?_⟩
 ·conv => whnf
  have : xs = [] := List.eq_nil_of_length_eq_zero (by simpa using hn)
  subst this
  exact .inr ⟨3, 1, rfl⟩
 ·conv => whnf
  refine ⟨⟨by simp [encInt], by simp; omega, by simp; omega⟩, ?_⟩
  conv => whnf
  exact congrArg (AV.uq 3 1) (by simp [List.take_of_length_le])
def dI (e : Ev) : Prop := e.kind = 2 ∨ e.kind = 3
def pQ (e : Ev) : Prop := e.kind = 8 ∨ e.kind = 9 ∨ e.kind = 10
def jY (e : Ev) : Int := if e.kind = 4 ∨ e.kind = 5 then e.obj else if e.kind = 8 ∨ e.kind = 9 then e.lock else -2
def oD (e : Ev) : Int := if e.kind = 5 then e.obj else if e.kind = 8 then e.lock else -1
def iD (e : Ev) : Int := if e.kind = 4 then e.obj else if e.kind = 9 then e.lock else -1
def pD (e : Ev) : Int := if iD e > oD e then iD e else oD e
def fD (a b : Ev) : Prop :=
 if a.kind = 3 then dI b ∧ a.obj = b.obj
 else if a.kind = 6 then b.kind = 6 ∨ b.th = a.obj
 else if a.kind = 7 then b.kind = 11 ∧ b.th = a.obj
 else if a.kind = 10 then b.th = a.lock ∨ (pQ b ∧ a.obj = b.obj)
 else if a.kind = 8 then pQ b ∧ a.obj = b.obj
 else a.kind = 12
def hangE (a b : Ev) : Prop := a.th = b.th ∨ fD a b ∨ fD b a ∨ (jY a = jY b ∧ jY a ≠ -2)
def hangI (a b : Ev) : Prop := a.th = b.th ∨ fD a b ∨ fD b a ∨ (0 ≤ pD a ∧ pD a = pD b)
theorem touchS_ok (e : Ev) : CallsTo EE 203 [agg (encEv e)] (· = bp (dI e)) := by
 refine callsTo_of_AW (fn := Tryz.f203) Tryz.func203 rfl (by kernel_rfl) rfl ?_
 conv => whnf
 repeat' (refine kbi (fun h => ?_) (fun h => ?_) <;> conv => whnf)
 all_goals simp only [beq_iff_eq] at *
 all_goals first | exact bpt (by unfold dI; omega) | exact bpf (by unfold dI; omega)
theorem touchI_ok (e : Ev) : CallsTo EE 205 [agg (encEv e)] (· = bp (dI e)) := by
 refine callsTo_of_AW (fn := Tryz.f205) Tryz.func205 rfl (by kernel_rfl) rfl ?_
 conv => whnf
 repeat' (refine kbi (fun h => ?_) (fun h => ?_) <;> conv => whnf)
 all_goals simp only [beq_iff_eq] at *
 all_goals first | exact bpt (by unfold dI; omega) | exact bpf (by unfold dI; omega)
theorem condS_ok (e : Ev) : CallsTo EE 204 [agg (encEv e)] (· = bp (pQ e)) := by
 refine callsTo_of_AW (fn := Tryz.f204) Tryz.func204 rfl (by kernel_rfl) rfl ?_
 conv => whnf
 repeat' (refine kbi (fun h => ?_) (fun h => ?_) <;> conv => whnf)
 all_goals simp only [beq_iff_eq] at *
 all_goals first | exact bpt (by unfold pQ; omega) | exact bpf (by unfold pQ; omega)
theorem condI_ok (e : Ev) : CallsTo EE 206 [agg (encEv e)] (· = bp (pQ e)) := by
 refine callsTo_of_AW (fn := Tryz.f206) Tryz.func206 rfl (by kernel_rfl) rfl ?_
 conv => whnf
 repeat' (refine kbi (fun h => ?_) (fun h => ?_) <;> conv => whnf)
 all_goals simp only [beq_iff_eq] at *
 all_goals first | exact bpt (by unfold pQ; omega) | exact bpf (by unfold pQ; omega)
theorem sH (e : Ev) : CallsTo EE 176 [agg (encEv e)] (· = i64 (jY e)) := by
 refine callsTo_of_AW (fn := Tryz.f176) Tryz.func176 rfl (by kernel_rfl) rfl ?_
 conv => whnf
 repeat' (refine kbi (fun h => ?_) (fun h => ?_) <;> conv => whnf)
 all_goals simp only [beq_iff_eq] at *
 all_goals exact congrArg i64 (by unfold jY; simp [*])
theorem givesI_ok (e : Ev) : CallsTo EE 207 [agg (encEv e)] (· = i64 (oD e)) := by
 refine callsTo_of_AW (fn := Tryz.f207) Tryz.func207 rfl (by kernel_rfl) rfl ?_
 conv => whnf
 repeat' (refine kbi (fun h => ?_) (fun h => ?_) <;> conv => whnf)
 all_goals simp only [beq_iff_eq] at *
 all_goals exact congrArg i64 (by unfold oD; simp [*])
theorem takesI2_ok (e : Ev) : CallsTo EE 208 [agg (encEv e)] (· = i64 (iD e)) := by
 refine callsTo_of_AW (fn := Tryz.f208) Tryz.func208 rfl (by kernel_rfl) rfl ?_
 conv => whnf
 repeat' (refine kbi (fun h => ?_) (fun h => ?_) <;> conv => whnf)
 all_goals simp only [beq_iff_eq] at *
 all_goals exact congrArg i64 (by unfold iD; simp [*])
end Ai
end
section
set_option maxRecDepth 100000
namespace Ai
open Go Go.Proofs
theorem mE (a b : Ev) : CallsTo EE 177 [agg (encEv a), agg (encEv b)] (· = bp (fD a b)) := by
 refine callsTo_of_AW (fn := Tryz.f177) Tryz.func177 rfl (by kernel_rfl) rfl ?_
 conv => whnf
 repeat' (first | refine kbi (fun h => ?_) (fun h => ?_) | refine ocase (touchS_ok b) (fun h => ?_) (fun h => ?_) | refine ocase (condS_ok b) (fun h => ?_) (fun h => ?_)) <;> conv => whnf
 all_goals simp only [beq_iff_eq] at *
 all_goals first | exact bpt (by unfold fD; simp [*]) | exact bpf (by unfold fD; simp [*])
theorem r5 (a b : Ev) : CallsTo EE 179 [agg (encEv a), agg (encEv b)] (· = bp (fD a b)) := by
 refine callsTo_of_AW (fn := Tryz.f179) Tryz.func179 rfl (by kernel_rfl) rfl ?_
 conv => whnf
 repeat' (first | refine kbi (fun h => ?_) (fun h => ?_) | refine ocase (touchI_ok b) (fun h => ?_) (fun h => ?_) | refine ocase (condI_ok b) (fun h => ?_) (fun h => ?_)) <;> conv => whnf
 all_goals simp only [beq_iff_eq] at *
 all_goals first | exact bpt (by unfold fD; simp [*]) | exact bpf (by unfold fD; simp [*])
theorem nA (e : Ev) : CallsTo EE 180 [agg (encEv e)] (· = i64 (pD e)) := by
 refine callsTo_of_AW (fn := Tryz.f180) Tryz.func180 rfl (by kernel_rfl) rfl ?_
 conv => whnf
 refine ⟨by kernel_rfl, ?_⟩
 conv => whnf
 refine ⟨_, givesI_ok e, ?_⟩
 conv => whnf
 refine ⟨_, takesI2_ok e, ?_⟩
 conv => whnf
 rfl
theorem hangS_ok (a b : Ev) : CallsTo EE 143 [agg (encEv a), agg (encEv b)] (· = bp (hangE a b)) := by
 refine callsTo_of_AW (fn := Tryz.f143) Tryz.func143 rfl (by kernel_rfl) rfl ?_
 conv => whnf
 refine ⟨by kernel_rfl, ?_⟩
 conv => whnf
 refine kbi (fun h1 => ?_) (fun h1 => ?_)
 ·conv => whnf
  exact bpt (.inl (by simpa using h1))
 have h1 : ¬ a.th = b.th := by simpa using h1
 conv => whnf
 refine ⟨_, sH a, ?_⟩
 conv => whnf
 refine ⟨_, sH b, ?_⟩
 conv => whnf
 have rest : ¬ (jY a = jY b ∧ jY a ≠ -2) → (hangE a b ↔ fD a b ∨ fD b a) := fun h => by unfold hangE; simp [h, h1]
 refine kbi (fun h2 => ?_) (fun h2 => ?_)
 ·have h2 : jY a = jY b := by simpa using h2
  conv => whnf
  refine ⟨_, sH a, ?_⟩
  conv => whnf
  refine kbi (fun h3 => ?_) (fun h3 => ?_)
  ·have h3 : jY a ≠ -2 := by simpa using h3
   conv => whnf
   exact bpt (.inr (.inr (.inr ⟨h2, h3⟩)))
  have h3 : jY a = -2 := by simpa using h3
  have rest := rest fun e => e.2 h3
  conv => whnf
  refine ocase (mE a b) (fun h => ?_) (fun h => ?_)
  ·conv => whnf
   exact bpt (rest.2 (.inl h))
  conv => whnf
  refine ocase (mE b a) (fun h4 => ?_) (fun h4 => ?_)
  ·conv => whnf
   exact bpt (rest.2 (.inr h4))
  conv => whnf
  exact bpf fun e => (rest.1 e).elim h h4
 ·have h2 : ¬ jY a = jY b := by simpa using h2
  have rest := rest fun e => h2 e.1
  conv => whnf
  refine ocase (mE a b) (fun h => ?_) (fun h => ?_)
  ·conv => whnf
   exact bpt (rest.2 (.inl h))
  conv => whnf
  refine ocase (mE b a) (fun h4 => ?_) (fun h4 => ?_)
  ·conv => whnf
   exact bpt (rest.2 (.inr h4))
  conv => whnf
  exact bpf fun e => (rest.1 e).elim h h4
theorem hangI_ok (a b : Ev) : CallsTo EE 148 [agg (encEv a), agg (encEv b)] (· = bp (hangI a b)) := by
 refine callsTo_of_AW (fn := Tryz.f148) Tryz.func148 rfl (by kernel_rfl) rfl ?_
 conv => whnf
 refine ⟨by kernel_rfl, ?_⟩
 conv => whnf
 refine kbi (fun h1 => ?_) (fun h1 => ?_)
 ·conv => whnf
  exact bpt (.inl (by simpa using h1))
 have h1 : ¬ a.th = b.th := by simpa using h1
 conv => whnf
 refine qcase (r5 a b) (fun h2 => ?_) (fun h2 => ?_)
 ·conv => whnf
  exact bpt (.inr (.inl h2))
 conv => whnf
 refine qcase (r5 b a) (fun h3 => ?_) (fun h3 => ?_)
 ·conv => whnf
  exact bpt (.inr (.inr (.inl h3)))
 have rest : hangI a b ↔ 0 ≤ pD a ∧ pD a = pD b := by unfold hangI; simp [h1, h2, h3]
 conv => whnf
 refine ⟨_, nA a, ?_⟩
 conv => whnf
 refine kbi (fun h4 => ?_) (fun h4 => ?_)
 ·have h4 : 0 ≤ pD a := by simpa using h4
  conv => whnf
  refine ⟨_, nA a, ?_⟩
  conv => whnf
  refine ⟨_, nA b, ?_⟩
  conv => whnf
  refine kbi (fun h5 => ?_) (fun h5 => ?_)
  ·conv => whnf
   exact bpt (rest.2 ⟨h4, by simpa using h5⟩)
  ·conv => whnf
   exact bpf fun e => h5 (by simpa using (rest.1 e).2)
 ·conv => whnf
  exact bpf fun e => h4 (decide_eq_true (rest.1 e).1)
end Ai
end
section
set_option maxRecDepth 100000
namespace Ai
open Go Go.Proofs Cyc
def rowPk (x : RunT) : List D := [.sl (x.tk.map encInt)]
def rowTr (x : RunT) : List D := [.sl (x.tr.map encEv)]
noncomputable def rowSg (p : ProgL) (x : RunT) : List D := [.str (fB p x)]
theorem event_ok (p : ProgL) (hp : p.wf) (hg : p.goodS) (s : StL) (hi : AInv p s) (k : Nat) (hk : k < s.ths.length) (b : Int) (sl many : Bool) (d1 d2 d3 : List (List D)) :
  CallsTo EE 144 [.fp (encProg p ++ [di b, .bool sl, .sl d1, .sl d2, .sl d3, .bool many]), agg (encSt s), i64 k] (· = agg (encEv (stepL p s k).2)) := by
 have hst := l3Step_ok toIndexS p s k hp hk hi.si.len (runOK hg |>.small s hi.si).1 (inv_ready hg hi.si hk)
 refine callsTo_of_AW (fn := Tryz.f144) Tryz.func144 rfl (by kernel_rfl) rfl ?_
 conv => whnf
 refine .inr (.inl ⟨14, [], ?_⟩)
 conv => whnf
 refine ⟨_, hst, ?_⟩
 conv => whnf
 refine ⟨by kernel_rfl, ?_⟩
 conv => whnf
 rfl
def wkC (p : ProgL) (b : Int) (sl : Bool) (n : Nat) (many : Bool) : List AV := [i64 p.cells, i64 p.locks, i64 p.conds, .d (.sl (p.rs.map zW)), i64 b, bv sl, .ref (.n 901) 0 n, .ref (.n 902) 0 n, .ref (.n 903) 0 n, bv many]
noncomputable def wkH (p : ProgL) (b : Int) (sl : Bool) (xs : List RunT) (many : Bool) : Key → Option Ob
 | .l j => bif Nat.beq j 0 then some (.vs 92 (wkC p b sl xs.length many)) else none
 | .n j => bif Nat.beq j 901 then some (.ds 25 1 (xs.map rowPk)) else bif Nat.beq j 902 then some (.ds 72 1 (xs.map rowTr)) else bif Nat.beq j 903 then some (.ds 9 1 (xs.map (rowSg p))) else none
 | .s _ _ => none
def lendW : Key → Bool
 | .l j => Nat.beq j 0
 | .n j => Nat.beq j 901 || Nat.beq j 902 || Nat.beq j 903
 | .s _ _ => false
def AtW (p : ProgL) (b : Int) (sl : Bool) (xs : List RunT) (many : Bool) (H : Key → Option Ob) : Prop :=
 H (.l 0) = some (.vs 92 (wkC p b sl xs.length many)) ∧ H (.n 901) = some (.ds 25 1 (xs.map rowPk)) ∧ H (.n 902) = some (.ds 72 1 (xs.map rowTr)) ∧ H (.n 903) = some (.ds 9 1 (xs.map (rowSg p)))
theorem wkH_none {p : ProgL} {b : Int} {sl : Bool} {xs : List RunT} {many : Bool} : ∀ κ, lendW κ = false → wkH p b sl xs many κ = none
 | .l j, h => by have h : Nat.beq j 0 = false := h; simp [wkH, h]
 | .n j, h => by
  have h : (Nat.beq j 901 || Nat.beq j 902 || Nat.beq j 903) = false := h
  simp only [Bool.or_eq_false_iff] at h
  simp [wkH, h.1.1, h.1.2, h.2]
 | .s o j, h => rfl
theorem lend_wk {p : ProgL} {b : Int} {sl : Bool} {xs : List RunT} {many : Bool} {H : Key → Option Ob} (h : AtW p b sl xs many H) : yK lendW H = wkH p b sl xs many := by
 obtain ⟨h0, h1, h2, h3⟩ := h
 funext κ
 cases hk : lendW κ with
 |false => rw [wkH_none κ hk, bS hk]
 |true =>
  rw [wW hk]
  cases κ with
  |l j =>
   have := Nat.eq_of_beq_eq_true (show Nat.beq j 0 = true from hk)
   subst this
   rw [h0]; rfl
  |n j =>
   have hk : (Nat.beq j 901 || Nat.beq j 902 || Nat.beq j 903) = true := hk
   simp only [Bool.or_eq_true] at hk
   rcases hk with (hk | hk) | hk
   ·have := Nat.eq_of_beq_eq_true hk
    subst this; rw [h1]; rfl
   ·have := Nat.eq_of_beq_eq_true hk
    subst this; rw [h2]; rfl
   ·have := Nat.eq_of_beq_eq_true hk
    subst this; rw [h3]; rfl
  |s o j => cases hk
theorem io_nil {E : Env} {g : FuncId} {H0 : Key → Option Ob} {Post : AV → (Key → Option Ob) → Prop} {x y : AV} (h : IOCall E g [x, y, sl []] H0 Post) : IOCall E g [x, y, .d .nil] H0 Post := by
 intro w0 A m w vs hH hl hr
 refine h w0 A m w vs hH hl fun i a v ha hv => ?_
 match i, ha with
 | 0, ha => exact hr 0 a v ha hv
 | 1, ha => exact hr 1 a v ha hv
 | 2, ha =>
  have ha : sl [] = a := by simpa using ha
  subst ha
  have := hr 2 (.d .nil) v rfl hv
  cases this with
  |d _ _ hd => cases hd; exact .d _ _ (.sl0 none 0)
 |i + 3, ha => simp at ha
end Ai
end
section
set_option maxRecDepth 100000
namespace Ai
open Go Go.Proofs
theorem io_congr {g : FuncId} {xs ys : List AV} {H0 : Key → Option Ob} {Post : AV → (Key → Option Ob) → Prop} (h : IOCall EE g xs H0 Post) (e : ys = xs) : IOCall EE g ys H0 Post := by rw [e]; exact h
end Ai
end
section
set_option maxRecDepth 100000
namespace Ai
open Go Go.Proofs Cyc
def keepS (p : ProgL) (s : StL) (u : Nat) (e : Ev) : Prop := ¬ hangE (stepL p s u).2 e
theorem args3 {T T' K K' O O' : List (List D)} {x : AV} {a b c d : D} (h1 : T = T') (h2 : K = K') (h3 : O = O') : [x, AV.agg [i64 0, sl T, sl K, .d a, .d b, .d c, .d d], sl O] = [x, AV.agg [i64 0, sl T', sl K', .d a, .d b, .d c, .d d], sl O'] := by rw [h1, h2, h3]
noncomputable def wkO (p : ProgL) (b : Int) (sl : Bool) (xs : List RunT) (many : Bool) : List (Key × Ob) := [(.l 0, .vs 92 (wkC p b sl xs.length many)), (.n 901, .ds 25 1 (xs.map rowPk)), (.n 902, .ds 72 1 (xs.map rowTr)), (.n 903, .ds 9 1 (xs.map (rowSg p)))]
noncomputable def wkO2 (p : ProgL) (b : Int) (sl : Bool) (r : RunT) (X : XS) : List (Key × Ob) := [(.l 0, .vs 92 (wkC p b sl X.acc.length (!X.ok))), (.n 901, .ds 25 1 (X.acc.map rowPk)), (.n 902, .ds 72 1 (X.acc.map rowTr)), (.n 903, .ds 9 1 (X.acc.map (rowSg p))), (.n 4, .vs 78 ((encRun 0 r.tr r.tk r.s).map .d)), (.n 61, .ds 3 1 (X.tried.map encN))]
noncomputable def wkO3 (p : ProgL) (b : Int) (sl : Bool) (r : RunT) (X : XS) (st : StL × Ev) (on L : List Nat) : List (Key × Ob) := [(.l 0, .vs 92 (wkC p b sl X.acc.length (!X.ok))), (.n 901, .ds 25 1 (X.acc.map rowPk)), (.n 902, .ds 72 1 (X.acc.map rowTr)), (.n 903, .ds 9 1 (X.acc.map (rowSg p))), (.n 4, .vs 78 ((encRun 0 r.tr r.tk r.s).map .d)), (.n 61, .ds 3 1 (X.tried.map encN)),
 (.n 9, .vs 76 ((encSt st.1).map .d)), (.n 10, .vs 120 ((encEv st.2).map .d)), (.n 62, .ds 3 1 (on.map encN)), (.n 127, .ds 3 1 (L.map encN))]
theorem go1_ok (p : ProgL) (hp : p.wf) (hg : p.goodS) (hv : p.flt) (b : Int) (hb : InR b 0 1000) (slp : Bool) : ∀ (n : Nat) (r : RunT) (c0 : Int) (sleep : List Nat) (xs : List RunT), XR p b r → b.toNat + 1 - r.tr.length = n → xs.length ≤ 400 → sleep.length ≤ 5 * r.tr.length → (∀ u ∈ sleep, u < r.s.ths.length) →
    ∀ H0, AtW p b slp xs false H0 → IOCall EE 109 [.ptr (.l 0) 0, agg (encRun c0 r.tr r.tk r.s), sl (sleep.map encN)] H0 (fun q H1 => q = .tup [] ∧ H1 = wkH p b slp (xgo p b slp (keepS p) n r sleep xs).1 (!(xgo p b slp (keepS p) n r sleep xs).2))
  | 0, r, c0, sleep, xs, hr, hn, hx, hs, hu, H0, hH => by
    have := hr.le
    omega
  | n + 1, r, c0, sleep, xs, hr, hn, hx, hs, hu, H0, hH => by
    have hok := runOK hg
    have hsm := hok.small r.s hr.inv.si
    have hcode : CallsTo EE 92 [agg (encProg p), agg (encSt r.s), i64 ((r.tr.map encEv).length : Nat), i64 b] (· = i64 (codeL p r.s r.tr.length b)) := by
      rw [List.length_map]; exact l4Code_ok toIndexS idxRange p r.s r.tr.length b hp hsm.1 (hok.seen r.s hr.inv.si)
    have hen := l3Enabled_ok toIndexS idxRange p r.s hp hsm.1 (hok.seen r.s hr.inv.si)
    have hle := hr.le
    have hlen := hr.len
    have hb2 := hb.2
    rw [xgo]
    refine io_of_AW (fn := Tryz.f109) (c := Tryz.f109.body.getD .skip) Tryz.func109 rfl (by kernel_rfl) rfl ?_
    have hat : At [(0, .ptr (.l 0) 0), (1, agg (encRun c0 r.tr r.tk r.s)), (2, sl (sleep.map encN))] (wkO p b slp xs false) [] ⟨fun i => [AV.ptr (.l 0) 0, agg (encRun c0 r.tr r.tk r.s), sl (sleep.map encN)].getD i .junk, H0⟩ :=
      ⟨⟨rfl, rfl, rfl, trivial⟩, ⟨hH.1, hH.2.1, hH.2.2.1, hH.2.2.2, trivial⟩, trivial⟩
    obtain ⟨τ, H, hf⟩ := hat.form
    rw [hf]
    clear hat hf hH
    conv => whnf
    refine .inr (.inl ⟨14, [], ?_⟩)
    conv => whnf
    refine ⟨_, hcode, ?_⟩
    conv => whnf
    refine ⟨by kernel_rfl, ?_⟩
    conv => whnf
    refine kbi (fun hc => ?_) (fun hc => ?_)
    · have hc : 0 < codeL p r.s r.tr.length b := by simpa using hc
      rw [if_pos hc]
      have hX := hr.leaf hc
      have hsg := l4Sign_ok p hp hg hv b _ hX.fin (by omega)
      have hown : CallsTo EE 83 [sl (r.tk.map encInt)] (· = .uq 3 1 (r.tk.map encInt)) := l1Own_ok r.tk (by omega)
      conv => whnf
      refine .inr (.inr (.inr ⟨[0], by kernel_rfl, 9, [], ?_⟩))
      conv => whnf
      refine ⟨_, hown, ?_⟩
      refine .inl ?_
      conv => whnf
      refine ⟨by kernel_rfl, ?_⟩
      conv => whnf
      refine ⟨⟨rfl, by show (xs.length + 1) * 24 ≤ _; omega, by show xs.length + 1 ≤ _; omega⟩, ?_⟩
      conv => whnf
      refine .inr (.inr (.inr ⟨[0], by kernel_rfl, 10, [], ?_⟩))
      conv => whnf
      refine ⟨⟨by simp [encEv], by simp; omega, by simp; omega⟩, ?_⟩
      conv => whnf
      refine ⟨by kernel_rfl, ?_⟩
      conv => whnf
      refine ⟨_, (weak_frz (isK (.n 49))).trans (weak_cvt (.n 53) (e := 72) (sz := 1) (els := [[.sl (r.tr.map encEv)]]) ?_), ?_⟩
      · show some (Ob.rs 72 1 [[AV.d (.sl (((([] : List (List D)).take 0 ++ r.tr.map encEv).drop 0).take (0 + (r.tr.map encEv).length)))]]) = _
        simp [List.take_of_length_le]
      conv => whnf
      refine ⟨⟨rfl, by show (xs.length + 1) * 24 ≤ _; omega, by show xs.length + 1 ≤ _; omega⟩, ?_⟩
      conv => whnf
      refine .inr (.inr (.inr ⟨[0], by kernel_rfl, 12, [], ?_⟩))
      conv => whnf
      refine ⟨_, hsg, ?_⟩
      conv => whnf
      refine ⟨by kernel_rfl, ?_⟩
      conv => whnf
      refine ⟨⟨rfl, by show (xs.length + 1) * 16 ≤ _; omega, by show xs.length + 1 ≤ _; omega⟩, ?_⟩
      conv => whnf
      have fin : ∀ (S : Key → Option Ob) (w : Bool), w = !decide (xs.length + 1 ≤ 400) → S (.l 0) = some (.vs 92 (wkC p b slp (xs.length + 1) w)) → S (.n 901) = some (.ds 25 1 ((xs.map rowPk).take xs.length ++ [[.sl (r.tk.map encInt)]])) →
          S (.n 902) = some (.ds 72 1 ((xs.map rowTr).take xs.length ++ [[.sl (r.tr.map encEv)]])) → S (.n 903) = some (.ds 9 1 ((xs.map (rowSg p)).take xs.length ++ [rowSg p (leaf p b (codeL p r.s r.tr.length b) r)])) → AtW p b slp (xs ++ [leaf p b (codeL p r.s r.tr.length b) r]) (!decide (xs.length + 1 ≤ 400)) S := by
        intro S w hw h0 h1 h2 h3
        rw [List.take_of_length_le (by simp)] at h1 h2 h3
        refine ⟨by rw [h0, List.length_append, hw]; rfl, by rw [h1, List.map_append]; rfl, by rw [h2, List.map_append]; rfl, by rw [h3, List.map_append]; rfl⟩
      refine kbi (fun h4 => ?_) (fun h4 => ?_)
      · have h4 : ((xs.length + 1 : Nat) : Int) > 400 := of_decide_eq_true h4
        conv => whnf
        refine ⟨_, Weak.refl, ?_⟩
        conv => whnf
        refine ⟨lendW, rfl, lend_wk (fin _ true (by rw [decide_eq_false (by omega)]; rfl) rfl rfl rfl rfl)⟩
      · have h4 : ¬ ((xs.length + 1 : Nat) : Int) > 400 := fun e => h4 (decide_eq_true e)
        conv => whnf
        refine ⟨_, Weak.refl, ?_⟩
        conv => whnf
        refine ⟨lendW, rfl, lend_wk (fin _ false (by rw [decide_eq_true (by omega)]; rfl) rfl rfl rfl rfl)⟩
    · have hc : ¬ 0 < codeL p r.s r.tr.length b := by simpa using hc
      rw [if_neg hc]
      have h5 : (enabledL p r.s).length ≤ 5 := Nat.le_trans (enabledTo_le) hr.inv.si.len
      have hcc : codeL p r.s r.tr.length b = 0 := by have := codeL_nn p r.s r.tr.length b; omega
      have hlb := (en_ne hc).2
      conv => whnf
      refine .inr (.inl ⟨9, [], ?_⟩)
      conv => whnf
      refine ⟨_, hen, ?_⟩
      refine .inl ?_
      conv => whnf
      refine ⟨by kernel_rfl, ?_⟩
      conv => whnf
      refine aloopF (fun x : Nat × XS => [(0, .ptr (.l 0) 0), (2, sl (sleep.map encN)), (4, .ptr (.n 4) 0), (6, .ref (.n 61) 0 x.2.tried.length), (93, sl ((enabledL p r.s).map encN)), (94, i64 ((enabledL p r.s).map encN).length), (95, i64 x.1)])
        (fun x => wkO2 p b slp r x.2)
        (fun _ => []) (fun x => (enabledL p r.s).length - x.1) (fun x => x.1 ≤ (enabledL p r.s).length ∧ xloop p slp (keepS p) (xgo p b slp (keepS p) n) r sleep xs x.1 = x.2) (0, ⟨xs, [], true⟩) (weak_nil 6 (.n 61) 3 1 rfl) ⟨rfl, rfl, rfl, rfl, rfl, rfl, rfl, trivial⟩ ⟨rfl, rfl, rfl, rfl, ?_, rfl, trivial⟩ trivial ⟨Nat.zero_le _, rfl⟩ ?_
      · show some (Ob.vs 78 [i64 (codeL p r.s r.tr.length b), _, _, _, _, _, _]) = some (Ob.vs 78 [i64 0, _, _, _, _, _, _])
        rw [hcc]; rfl
      rintro ⟨k, ⟨acc, tried, okk⟩⟩ τ H ⟨hk, hXe⟩
      have hk : k ≤ (enabledL p r.s).length := hk
      have hXe : xloop p slp (keepS p) (xgo p b slp (keepS p) n) r sleep xs k = ⟨acc, tried, okk⟩ := hXe
      conv => whnf
      refine kbi (fun h => ?_) (fun h => ?_)
      · have hlt : k < (enabledL p r.s).length := by simpa using h
        have hXl := xloop_len (p := p) (b := b) (sl := slp) (K := keepS p) (n := n) (r := r) (sleep := sleep) hx k
        have hXt := xloop_tried (p := p) (sl := slp) (K := keepS p) (f := xgo p b slp (keepS p) n) (r := r) (sleep := sleep) (acc := xs) k hk
        rw [hXe] at hXl hXt
        have hnx := xloop.eq_2 p slp (keepS p) (xgo p b slp (keepS p) n) r sleep xs k
        rw [hXe] at hnx
        have hm := XR.mem (b := b) hlt
        have hwl := en_lt hm
        have hst := l3Step_ok toIndexS p r.s (enAt p r k) hp hwl hsm.2 hsm.1 (inv_ready hg hr.inv.si hwl)
        have hnext := hr.step hg hv hc hlt
        have hown : CallsTo EE 83 [sl (sleep.map encN)] (· = .uq 3 1 (sleep.map encN)) := by
          rw [natI_enc]; exact l1Own_ok (natI sleep) (by simp [natI]; omega)
        have hhas : CallsTo EE 112 [sl (sleep.map encN), i64 (enAt p r k : Nat)] (· = bp (((enAt p r k : Nat) : Int) ∈ natI sleep)) := by
          rw [natI_enc]; exact l1Has_ok (natI sleep) _ (by simp [natI]; omega)
        have hmem : ((enAt p r k : Nat) : Int) ∈ natI sleep ↔ enAt p r k ∈ sleep := by
          simp only [natI, List.mem_map]
          exact ⟨fun ⟨a, ha, e⟩ => by have : a = enAt p r k := by omega
                                      subst this; exact ha, fun h => ⟨_, h, rfl⟩⟩
        have hownT : CallsTo EE 83 [sl (r.tk.map encInt)] (· = .uq 3 1 (r.tk.map encInt)) := l1Own_ok r.tk (by omega)
        have hL : ((sleep.map encN).take (sleep.map encN).length ++ ((tried.map encN).drop 0).take tried.length) = (sleep ++ tried).map encN := by
          rw [List.take_length, List.drop_zero, List.take_of_length_le (by simp), List.map_append]
        have hLl : (sleep.map encN).length + (((tried.map encN).drop 0).take tried.length).length = (sleep ++ tried).length := by simp
        have hLu : ∀ u ∈ sleep ++ tried, u < r.s.ths.length := fun u hu' => (List.mem_append.1 hu').elim (hu u) fun h => en_lt (hXt.2 u h)
        have hLb : (sleep ++ tried).length ≤ 5 * r.tr.length + 5 := by have : tried.length ≤ k := hXt.1; simp; omega
        conv => whnf
        refine ⟨encN (enAt p r k), ⟨by omega, en_get hlt, rfl⟩, ?_⟩
        cases okk with
        | false =>
          rw [if_pos (.inl rfl)] at hnx
          conv => whnf
          refine ⟨(k + 1, ⟨acc, tried, false⟩), _, Weak.refl, ⟨hlt, hnx⟩, by show (enabledL p r.s).length - (k + 1) < (enabledL p r.s).length - k; omega, ⟨rfl, rfl, rfl, rfl, rfl, rfl, next_i64 hlt (by omega), trivial⟩, ⟨rfl, rfl, rfl, rfl, rfl, rfl, trivial⟩, trivial⟩
        | true =>
          have ha4 : acc.length ≤ 400 := hXl rfl
          clear hXl
          obtain ⟨sq, hsq⟩ : ∃ sq : Bool, sq = slp := ⟨slp, rfl⟩
          cases slp
          case' true =>
            conv => whnf
            refine ocase hhas (fun hin => ?_) (fun hin => ?_)
          case true.refine_1 =>
            rw [if_pos (.inr ⟨rfl, hmem.1 hin⟩)] at hnx
            conv => whnf
            refine ⟨(k + 1, ⟨acc, tried, true⟩), _, Weak.refl, ⟨hlt, hnx⟩, by show (enabledL p r.s).length - (k + 1) < (enabledL p r.s).length - k; omega, ⟨rfl, rfl, rfl, rfl, rfl, rfl, next_i64 hlt (by omega), trivial⟩, ⟨rfl, rfl, rfl, rfl, rfl, rfl, trivial⟩, trivial⟩
          case' true.refine_2 => rw [if_neg (by rintro (e | ⟨_, e⟩); exact absurd e (by simp); exact hin (hmem.2 e))] at hnx
          case' false => rw [if_neg (by rintro (e | ⟨e, _⟩); exact absurd e (by simp); exact absurd e (by simp))] at hnx
          all_goals
            conv => whnf
            refine .inr (.inl ⟨15, [], ?_⟩)
            conv => whnf
            refine ⟨_, hst, ?_⟩
            conv => whnf
            refine ⟨by kernel_rfl, ?_⟩
            conv => whnf
            refine ⟨_, hown, ?_⟩
            rintro q rfl
            refine .inr ⟨_, rfl, ?_⟩
            conv => whnf
            refine ⟨⟨by rw [List.all_eq_true]; intro c hc'; obtain ⟨y, _, rfl⟩ := List.mem_map.1 (List.mem_of_mem_drop (List.mem_of_mem_take hc')); rfl, by show _ * 8 ≤ _; rw [hLl]; omega, by rw [hLl]; omega⟩, ?_⟩
            conv => whnf
            generalize hLe : sleep ++ tried = L at *
            refine aloopF (fun j : Nat => [(0, .ptr (.l 0) 0), (2, sl (sleep.map encN)), (4, .ptr (.n 4) 0), (6, .ref (.n 61) 0 tried.length), (7, i64 k), (8, i64 (enAt p r k : Nat)), (9, .ptr (.n 9) 0), (10, .ptr (.n 10) 0), (11, .ref (.n 62) 0 (keptBy (keepS p) r.s (L.take j) (stepL p r.s (enAt p r k)).2).length), (93, sl ((enabledL p r.s).map encN)), (94, i64 ((enabledL p r.s).map encN).length), (95, i64 k), (129, .ref (.n 127) 0 L.length), (130, i64 L.length), (131, i64 j)])
              (fun j => wkO3 p b sq r ⟨acc, tried, true⟩ (stepL p r.s (enAt p r k)) (keptBy (keepS p) r.s (L.take j) (stepL p r.s (enAt p r k)).2) L)
              (fun _ => []) (fun j => L.length - j) (fun j => j ≤ L.length) 0 (weak_nil 11 (.n 62) 3 1 rfl) ⟨rfl, rfl, rfl, rfl, rfl, rfl, rfl, rfl, rfl, rfl, rfl, rfl, ?_, ?_, rfl, trivial⟩ ⟨by rw [hsq]; rfl, rfl, rfl, rfl, rfl, rfl, rfl, rfl, rfl, ?_, trivial⟩ trivial (Nat.zero_le _) ?_
            · exact congrArg (AV.ref (.n 127) 0) hLl
            · exact congrArg (fun x : Nat => i64 (x : Int)) hLl
            · exact congrArg (fun x => some (Ob.ds 3 1 x)) hL
            intro j τ H hj
            have hj : j ≤ L.length := hj
            conv => whnf
            refine kbi (fun h => ?_) (fun h => ?_)
            · have hjl : j < L.length := by have := of_decide_eq_true h; omega
              have hhg := hangS_ok (stepL p r.s L[j]).2 (stepL p r.s (enAt p r k)).2
              have hjt : L.take (j + 1) = L.take j ++ [L[j]] := List.take_succ_eq_append_getElem hjl
              have hkj : keptBy (keepS p) r.s (L.take (j + 1)) (stepL p r.s (enAt p r k)).2 = keptBy (keepS p) r.s (L.take j) (stepL p r.s (enAt p r k)).2 ++ keptBy (keepS p) r.s [L[j]] (stepL p r.s (enAt p r k)).2 := by
                rw [hjt]; unfold keptBy; rw [List.filter_append]
              have hkl : (keptBy (keepS p) r.s (L.take j) (stepL p r.s (enAt p r k)).2).length ≤ j := Nat.le_trans (List.length_filter_le _ _) (by simp; omega)
              have hev := event_ok p hp hg r.s hr.inv L[j] (hLu _ (List.getElem_mem hjl)) b sq
              conv => whnf
              refine ⟨⟨by omega, by omega⟩, ?_⟩
              conv => whnf
              refine ⟨encN L[j], ⟨by simp [hjl], Nat.le_refl _⟩, ?_⟩
              conv => whnf
              refine ⟨by kernel_rfl, ?_⟩
              conv => whnf
              refine ⟨_, hev _ _ _ _, fun c hc' => ?_, ?_⟩
              · obtain ⟨y, hy, rfl⟩ := List.mem_map.1 hc'
                simp only [encEv, List.mem_cons, List.not_mem_nil, or_false] at hy
                rcases hy with rfl | rfl | rfl | rfl | rfl <;> exact ⟨_, rfl, rfl⟩
              conv => whnf
              refine qcase hhg (fun hh => ?_) (fun hh => ?_)
              · have hkn : keptBy (keepS p) r.s [L[j]] (stepL p r.s (enAt p r k)).2 = [] := by simp [keptBy, keepS, hh]
                rw [hkn, List.append_nil] at hkj
                conv => whnf
                refine ⟨j + 1, _, Weak.refl, hjl, by show L.length - (j + 1) < L.length - j; omega, ⟨rfl, rfl, rfl, rfl, rfl, rfl, rfl, rfl, ?_, rfl, rfl, rfl, rfl, rfl, next_i64 hjl (by omega), trivial⟩, ⟨rfl, rfl, rfl, rfl, rfl, rfl, rfl, rfl, ?_, rfl, trivial⟩, trivial⟩
                · show AV.ref (.n 62) 0 (keptBy (keepS p) r.s (L.take j) _).length = .ref (.n 62) 0 (keptBy (keepS p) r.s (L.take (j + 1)) _).length
                  rw [hkj]
                · show some (Ob.ds 3 1 ((keptBy (keepS p) r.s (L.take j) _).map encN)) = some (Ob.ds 3 1 ((keptBy (keepS p) r.s (L.take (j + 1)) _).map encN))
                  rw [hkj]
              · have hkn : keptBy (keepS p) r.s [L[j]] (stepL p r.s (enAt p r k)).2 = [L[j]] := by simp [keptBy, keepS, hh]
                rw [hkn] at hkj
                conv => whnf
                refine ⟨⟨rfl, by show (_ + 1) * 8 ≤ _; omega, by show _ + 1 ≤ _; omega⟩, ?_⟩
                conv => whnf
                refine ⟨j + 1, _, Weak.refl, hjl, by show L.length - (j + 1) < L.length - j; omega, ⟨rfl, rfl, rfl, rfl, rfl, rfl, rfl, rfl, ?_, rfl, rfl, rfl, rfl, rfl, next_i64 hjl (by omega), trivial⟩, ⟨rfl, rfl, rfl, rfl, rfl, rfl, rfl, rfl, ?_, rfl, trivial⟩, trivial⟩
                · show AV.ref (.n 62) 0 ((keptBy (keepS p) r.s (L.take j) (stepL p r.s (enAt p r k)).2).length + 1) = .ref (.n 62) 0 (keptBy (keepS p) r.s (L.take (j + 1)) _).length
                  rw [hkj, List.length_append]; rfl
                · show some (Ob.ds 3 1 (((keptBy (keepS p) r.s (L.take j) (stepL p r.s (enAt p r k)).2).map encN).take _ ++ [encN L[j]])) = some (Ob.ds 3 1 ((keptBy (keepS p) r.s (L.take (j + 1)) _).map encN))
                  rw [hkj, List.take_of_length_le (by simp), List.map_append]; rfl
            · have hge : j = L.length := by
                have : ¬ (j : Int) < L.length := fun e => h (decide_eq_true e)
                omega
              subst hge
              have hon : keptBy (keepS p) r.s (L.take L.length) (stepL p r.s (enAt p r k)).2 = keptBy (keepS p) r.s L (stepL p r.s (enAt p r k)).2 := by rw [List.take_length]
              conv => whnf
              refine .inr (.inl ⟨17, [], ?_⟩)
              conv => whnf
              refine ⟨⟨by simp [encEv], by simp; omega, by simp; omega⟩, ?_⟩
              conv => whnf
              refine ⟨⟨rfl, by simp; omega, by simp; omega⟩, ?_⟩
              conv => whnf
              refine ⟨_, hownT, ?_⟩
              refine .inr ⟨_, rfl, ?_⟩
              conv => whnf
              refine ⟨⟨rfl, by simp; omega, by simp; omega⟩, ?_⟩
              conv => whnf
              refine ⟨by kernel_rfl, ?_⟩
              conv => whnf
              subst hsq
              have hkk : (keptBy (keepS p) r.s L (stepL p r.s (enAt p r k)).2).length ≤ 5 * (runBy p r k).tr.length := by
                have : (keptBy (keepS p) r.s L (stepL p r.s (enAt p r k)).2).length ≤ L.length := List.length_filter_le _ _
                have e : (runBy p r k).tr.length = r.tr.length + 1 := by simp [runBy]
                omega
              have hku : ∀ u ∈ keptBy (keepS p) r.s L (stepL p r.s (enAt p r k)).2, u < (runBy p r k).s.ths.length := fun u hu' => Nat.lt_of_lt_of_le (hLu u (List.mem_filter.1 hu').1) (step_len p r.s _)
              have hfu : b.toNat + 1 - (runBy p r k).tr.length = n := by
                have e : (runBy p r k).tr.length = r.tr.length + 1 := by simp [runBy]
                omega
              refine .inr (.inr (.inr (.inl ⟨_, 109, [], weak_frz (fun κ => isK (.n 153) κ || isK (.n 159) κ || isK (.n 62) κ), rfl, 999, 99, lendW, _, io_congr (go1_ok p hp hg hv b hb _ n (runBy p r k) 0 (keptBy (keepS p) r.s L (stepL p r.s (enAt p r k)).2) acc hnext hfu ha4 hkk hku _ ⟨rfl, rfl, rfl, rfl⟩) ?_, rfl, ?_⟩)))
              · show [AV.ptr (.l 0) 0, AV.agg [i64 0, sl _, sl _, _, _, _, _], sl _] = _
                refine args3 ?_ ?_ ?_
                · simp [List.take_of_length_le, runBy]; rfl
                · simp [List.take_of_length_le, runBy]; rfl
                · simp [List.take_of_length_le]
              rintro q H1 ⟨rfl, rfl⟩
              refine ⟨wkH_none, fun n hn => ?_, ?_⟩
              · have : n = 0 := Nat.eq_of_beq_eq_true hn
                subst this
                exact ⟨92, _, _, rfl, rfl⟩
              conv => whnf
              refine ⟨⟨rfl, by show (tried.length + 1) * 8 ≤ _; have : tried.length ≤ k := hXt.1; omega, by show tried.length + 1 ≤ _; have : tried.length ≤ k := hXt.1; omega⟩, ?_⟩
              conv => whnf
              refine ⟨(k + 1, ⟨_, tried ++ [enAt p r k], _⟩), _, Weak.refl, ⟨hlt, hnx⟩, by show (enabledL p r.s).length - (k + 1) < (enabledL p r.s).length - k; omega, ⟨rfl, rfl, rfl, ?_, rfl, rfl, next_i64 hlt (by omega), trivial⟩, ⟨rfl, rfl, rfl, rfl, ?_, ?_, trivial⟩, trivial⟩
              · show AV.ref (.n 61) 0 (tried.length + 1) = .ref (.n 61) 0 (tried ++ [enAt p r k]).length
                rw [List.length_append]; rfl
              · rfl
              · show some (Ob.ds 3 1 ((tried.map encN).take tried.length ++ [encN (enAt p r k)])) = some (Ob.ds 3 1 ((tried ++ [enAt p r k]).map encN))
                rw [List.take_of_length_le (by simp), List.map_append]; rfl
      · have hge : k = (enabledL p r.s).length := by
          have : ¬ (k : Int) < ((enabledL p r.s).map encN).length := fun e => h (decide_eq_true e)
          simp at this; omega
        rw [← hge, hXe]
        conv => whnf
        refine ⟨_, Weak.refl, ?_⟩
        conv => whnf
        exact ⟨lendW, rfl, lend_wk ⟨rfl, rfl, rfl, rfl⟩⟩
end Ai
end
section
set_option maxRecDepth 100000
namespace Ai
open Go Go.Proofs Cyc
def OkX (p : ProgL) (b : Int) : Prop := p.goodS ∧ InR b 0 14
theorem sub_agg {w : World} {ok : Nat → Prop} {m : Own} {H : Key → Option Ob} {c x y z u t : D} {v : Value} (h : VRel w ok m H (.agg [.d c, .d .nil, .d .nil, .d x, .d y, .d z, .d u]) v) : VRel w ok m H (.agg [.d c, sl [], sl [], .d x, .d y, .d z, .d u]) v := by
 cases h with
 |agg _ us hl h =>
  refine .agg _ us hl fun i c' u' hc hu => ?_
  match i, hc with
  | 0, hc => exact h 0 _ _ hc hu
  | 1, hc =>
   have e : sl [] = c' := by simpa using hc
   subst e
   have := h 1 (.d .nil) u' rfl hu
   cases this with
   |d _ _ hd => cases hd; exact .d _ _ (.sl0 none 0)
  | 2, hc =>
   have e : sl [] = c' := by simpa using hc
   subst e
   have := h 2 (.d .nil) u' rfl hu
   cases this with
   |d _ _ hd => cases hd; exact .d _ _ (.sl0 none 0)
  | 3, hc => exact h 3 _ _ hc hu
  | 4, hc => exact h 4 _ _ hc hu
  | 5, hc => exact h 5 _ _ hc hu
  | 6, hc => exact h 6 _ _ hc hu
  |i + 7, hc => simp at hc
theorem io_nilR {E : Env} {g : FuncId} {H0 : Key → Option Ob} {Post : AV → (Key → Option Ob) → Prop} {x y : AV} {c a b d e : D} (h : IOCall E g [x, .agg [.d c, sl [], sl [], .d a, .d b, .d d, .d e], y] H0 Post) : IOCall E g [x, .agg [.d c, .d .nil, .d .nil, .d a, .d b, .d d, .d e], y] H0 Post := by
 intro w0 A m w vs hH hl hr
 refine h w0 A m w vs hH hl fun i av v ha hv => ?_
 match i, ha with
 | 0, ha => exact hr 0 av v ha hv
 | 1, ha =>
  have ha : AV.agg [.d c, sl [], sl [], .d a, .d b, .d d, .d e] = av := by simpa using ha
  subst ha
  exact sub_agg (t := c) (hr 1 _ v rfl hv)
 | 2, ha => exact hr 2 av v ha hv
 |i + 3, ha => simp at ha
noncomputable def wkN (p : ProgL) (b : Int) (sl : Bool) (xs : List RunT) (many : Bool) : Key → Option Ob
 | .n j => bif Nat.beq j 905 then some (.vs 92 (wkC p b sl xs.length many)) else bif Nat.beq j 901 then some (.ds 25 1 (xs.map rowPk)) else bif Nat.beq j 902 then some (.ds 72 1 (xs.map rowTr)) else bif Nat.beq j 903 then some (.ds 9 1 (xs.map (rowSg p))) else none
 | _ => none
def pI : Key → Bool
 | .n j => Nat.beq j 905 || Nat.beq j 901 || Nat.beq j 902 || Nat.beq j 903
 | _ => false
def AtN (p : ProgL) (b : Int) (sl : Bool) (xs : List RunT) (many : Bool) (H : Key → Option Ob) : Prop :=
 H (.n 905) = some (.vs 92 (wkC p b sl xs.length many)) ∧ H (.n 901) = some (.ds 25 1 (xs.map rowPk)) ∧ H (.n 902) = some (.ds 72 1 (xs.map rowTr)) ∧ H (.n 903) = some (.ds 9 1 (xs.map (rowSg p)))
theorem x6 {p : ProgL} {b : Int} {sl : Bool} {xs : List RunT} {many : Bool} : ∀ κ, pI κ = false → wkN p b sl xs many κ = none
 | .l j, h => rfl
 | .n j, h => by
  have h : (Nat.beq j 905 || Nat.beq j 901 || Nat.beq j 902 || Nat.beq j 903) = false := h
  simp only [Bool.or_eq_false_iff] at h
  simp [wkN, h.1.1.1, h.1.1.2, h.1.2, h.2]
 | .s o j, h => rfl
theorem lend_wkN {p : ProgL} {b : Int} {sl : Bool} {xs : List RunT} {many : Bool} {H : Key → Option Ob} (h : AtN p b sl xs many H) : yK pI H = wkN p b sl xs many := by
 obtain ⟨h0, h1, h2, h3⟩ := h
 funext κ
 cases hk : pI κ with
 |false => rw [x6 κ hk, bS hk]
 |true =>
  rw [wW hk]
  cases κ with
  |l j => cases hk
  |n j =>
   have hk : (Nat.beq j 905 || Nat.beq j 901 || Nat.beq j 902 || Nat.beq j 903) = true := hk
   simp only [Bool.or_eq_true] at hk
   rcases hk with ((hk | hk) | hk) | hk
   ·have := Nat.eq_of_beq_eq_true hk
    subst this; rw [h0]; rfl
   ·have := Nat.eq_of_beq_eq_true hk
    subst this; rw [h1]; rfl
   ·have := Nat.eq_of_beq_eq_true hk
    subst this; rw [h2]; rfl
   ·have := Nat.eq_of_beq_eq_true hk
    subst this; rw [h3]; rfl
  |s o j => cases hk
noncomputable def allX (p : ProgL) (b : Int) (sl : Bool) : List RunT × Bool := xgo p b sl (keepS p) (b.toNat + 1) ⟨0, [], [], xS p⟩ [] []
def AllPost (p : ProgL) (b : Int) (sl : Bool) (q : AV) (H1 : Key → Option Ob) : Prop :=
 (OkX p b ∧ q = .tup [.ptr (.n 905) 0, bv (allX p b sl).2] ∧ H1 = wkN p b sl (allX p b sl).1 (!(allX p b sl).2)) ∨ (¬ OkX p b ∧ q = .tup [.junk, bv false] ∧ H1 = fun _ => none)
theorem l10All_ok (p : ProgL) (hp : p.wf) (hs : p.rs.length ≤ 1048576 ∧ ∀ x ∈ p.rs, x.length ≤ 1048576) (hv : p.flt) (b : Int) (slp : Bool) : IOCall EE 64 [agg (encProg p), i64 b, bv slp] (fun _ => none) (AllPost p b slp) := by
 refine io_of_AW (fn := Tryz.f64) (c := Tryz.f64.body.getD .skip) Tryz.func64 rfl (by kernel_rfl) rfl ?_
 conv => whnf
 refine ocase (mL p hs hv) (fun hg => ?_) (fun hg => ?_)
 rotate_left 1
 ·conv => whnf
  refine ⟨_, Weak.refl, ?_⟩
  conv => whnf
  refine ⟨fun _ => false, .inr ⟨fun e => hg e.1, rfl, rfl⟩⟩
 conv => whnf
 refine ocase (qH b 0 14) (fun hk => ?_) (fun hk => ?_)
 rotate_left 1
 ·conv => whnf
  refine ⟨_, Weak.refl, ?_⟩
  conv => whnf
  refine ⟨fun _ => false, .inr ⟨fun e => hk e.2, rfl, rfl⟩⟩
 obtain ⟨b1, b2, b3, b4⟩ := hg.1
 conv => whnf
 refine ⟨_, sN p ⟨b1.1, by have := b1.2; omega⟩ ⟨b2.1, by have := b2.2; omega⟩, ?_⟩
 rintro r rfl
 have hr0 : XR p b ⟨0, [], [], xS p⟩ := XR.new hg hk.1
 conv => whnf
 refine .inr (.inr (.inr (.inl ⟨_, 109, [], (vC (.n 13) (.n 901) 92 25 1 6 [i64 p.cells, i64 p.locks, i64 p.conds, .d (.sl (p.rs.map zW)), i64 b, bv slp, .d .nil, .d .nil, .d .nil, bv false] (by intro n h; cases h) (by intro h; cases h) rfl rfl).trans ((vC (.n 13) (.n 902) 92 72 1 7 [i64 p.cells, i64 p.locks, i64 p.conds, .d (.sl (p.rs.map zW)), i64 b, bv slp, .dref (.n 901) 0, .d .nil, .d .nil, bv false] (by intro n h; cases h) (by intro h; cases h) rfl rfl).trans
  ((vC (.n 13) (.n 903) 92 9 1 8 [i64 p.cells, i64 p.locks, i64 p.conds, .d (.sl (p.rs.map zW)), i64 b, bv slp, .dref (.n 901) 0, .dref (.n 902) 0, .d .nil, bv false] (by intro n h; cases h) (by intro h; cases h) rfl rfl).trans ((weak_cvt (.n 901) (e := 25) (sz := 1) (els := []) rfl).trans ((weak_cvt (.n 902) (e := 72) (sz := 1) (els := []) rfl).trans (weak_cvt (.n 903) (e := 9) (sz := 1) (els := []) rfl))))), rfl, 13, 0, lendW, _, io_nilR (io_nil (go1_ok p hp hg hv b ⟨hk.1, by have := hk.2; omega⟩ slp (b.toNat + 1) ⟨0, [], [], xS p⟩ 0 [] [] hr0 (by simp) (by simp) (by simp) (fun u hu => by cases hu) _ ?_)), rfl, ?_⟩)))
 ·exact ⟨rfl, rfl, rfl, rfl⟩
 rintro q H1 ⟨rfl, rfl⟩
 refine ⟨wkH_none, fun n hn => ?_, ?_⟩
 ·have : n = 0 := Nat.eq_of_beq_eq_true hn
  subst this
  exact ⟨92, _, _, rfl, rfl⟩
 conv => whnf
 refine .inr (.inl ⟨8, [], ?_⟩)
 conv => whnf
 refine ⟨by kernel_rfl, ?_⟩
 conv => whnf
 have hX : allX p b slp = xgo p b slp (keepS p) (b.toNat + 1) ⟨0, [], [], xS p⟩ [] [] := rfl
 generalize xgo p b slp (keepS p) (b.toNat + 1) ⟨0, [], [], xS p⟩ [] [] = X at *
 refine ⟨_, qE 13 905, ?_⟩
 conv => whnf
 refine ⟨pI, .inl ⟨⟨hg, hk⟩, ?_, ?_⟩⟩
 ·rw [hX]
  cases X.2 <;> rfl
 ·rw [hX]
  exact lend_wkN ⟨rfl, rfl, rfl, rfl⟩
end Ai
end
section
set_option maxRecDepth 100000
namespace Ai
open Go Go.Proofs Cyc
theorem vO {tr : List Ev} {k : Nat} (h : k < tr.length) : tr.getD k vH = tr[k] := by
 rw [List.getD_eq_getElem?_getD, List.getElem?_eq_getElem h]; rfl
theorem kU {n : Int} (hn : 0 ≤ n) {l : List Nat} : n ∈ natI l ↔ n.toNat ∈ l := by
 simp only [natI, List.mem_map]
 constructor
 ·rintro ⟨a, ha, e⟩
  have : a = n.toNat := by omega
  subst this; exact ha
 ·exact fun h => ⟨_, h, by omega⟩
theorem l17Pre_ok (p : ProgL) (hp : p.wf) (hg : p.goodS) (hv : p.flt) (b : Int) (hb : b ≤ 1000) (x : RunT) (hx : XEnd p b x) : CallsTo EE 68 [agg (encProg p), agg (vB x)] (· = i64 (cF p x : Nat)) := by
 obtain ⟨b1, b2, b3, b4⟩ := hg.1
 have hok := runOK hg
 have hle : (x.tr.length : Int) ≤ b := hx.fin.le
 refine callsTo_of_AW (fn := Tryz.f68) Tryz.func68 rfl (by kernel_rfl) rfl ?_
 conv => whnf
 refine ⟨_, sN p ⟨b1.1, by have := b1.2; omega⟩ ⟨b2.1, by have := b2.2; omega⟩, ?_⟩
 rintro r rfl
 conv => whnf
 refine yU (fun k : Nat => [(2, .ptr (.n 2) 0), (3, .ptr (.n 3) 0), (4, i64 0), (5, .ptr (.n 5) 0), (6, i64 (uQ p x.tr k : Nat)), (14, sl (x.tr.map encEv)), (15, i64 (x.tr.map encEv).length), (16, i64 k)])
  (fun k => [(.n 2, .vs 31 ((encProg p).map .d)), (.n 3, .vs 78 ((vB x).map .d)), (.n 5, .vs 76 ((encSt (xD p x.tr k)).map .d))]) (fun k => x.tr.length - k) (fun k => k ≤ x.tr.length) 0 .refl
  ⟨rfl, rfl, rfl, rfl, rfl, rfl, rfl, rfl, trivial⟩ ⟨rfl, rfl, rfl, trivial⟩ (Nat.zero_le _) ?_
 rintro k τ H hk
 have hk : k ≤ x.tr.length := hk
 have hai := rN hg hv hx.en k hk
 have hsm := hok.small _ hai.si
 have hen := l3Enabled_ok toIndexS idxRange p (xD p x.tr k) hp hsm.1 (hok.seen _ hai.si)
 have h5 : (enabledL p (xD p x.tr k)).length ≤ 5 := Nat.le_trans (enabledTo_le) hai.si.len
 conv => whnf
 refine kbi (fun h => ?_) (fun h => ?_)
 ·have hlt : k < x.tr.length := by simpa using h
  have hme := hx.en k hlt
  rw [vO hlt] at hme
  have hwl := en_lt hme.1
  have hst := l3Step_ok toIndexS p (xD p x.tr k) x.tr[k].th.toNat hp hwl hsm.2 hsm.1 (inv_ready hg hai.si hwl)
  rw [Int.toNat_of_nonneg hme.2] at hst
  have hS : xD p x.tr (k + 1) = (stepL p (xD p x.tr k) x.tr[k].th.toNat).1 := by rw [xD, vO hlt]
  have hP : uQ p x.tr (k + 1) = uQ p x.tr k + (if 0 < k ∧ (x.tr.getD (k - 1) vH).th ≠ x.tr[k].th ∧ (x.tr.getD (k - 1) vH).th.toNat ∈ enabledL p (xD p x.tr k) then 1 else 0) := by rw [uQ, vO hlt]
  have hpl := rY p x.tr k
  conv => whnf
  refine ⟨encEv x.tr[k], yC encEv hlt rfl, ?_⟩
  conv => whnf
  refine ⟨by kernel_rfl, ?_⟩
  conv => whnf
  refine kbi (fun h0 => ?_) (fun h0 => ?_)
  ·have h0 : 0 < k := by have : (k : Int) > 0 := of_decide_eq_true h0; omega
   have hl1 : k - 1 < x.tr.length := by omega
   rw [vO hl1] at hP
   have hth := (hx.en (k - 1) hl1).2
   rw [vO hl1] at hth
   have hhas : CallsTo EE 112 [sl ((enabledL p (xD p x.tr k)).map encN), i64 x.tr[k-1].th] (· = bp (x.tr[k-1].th ∈ natI (enabledL p (xD p x.tr k)))) := by
    rw [natI_enc]; exact l1Has_ok (natI _) _ (by simp [natI]; omega)
   conv => whnf
   have hwr : IntKind.i64.wrap ((k : Int) - 1) = ((k - 1 : Nat) : Int) := by rw [zH (by omega) (by omega)]; omega
   refine ⟨encEv x.tr[k - 1], ⟨by rw [hwr]; omega, by rw [hwr]; simp [hl1], rfl⟩, ?_⟩
   conv => whnf
   refine kbi (fun h1 => ?_) (fun h1 => ?_)
   ·have h1 : x.tr[k - 1].th ≠ x.tr[k].th := by simpa using h1
    conv => whnf
    refine ⟨_, hen, ?_⟩
    conv => whnf
    refine ⟨encEv x.tr[k - 1], ⟨by rw [hwr]; omega, by rw [hwr]; simp [hl1], rfl⟩, ?_⟩
    conv => whnf
    refine qcase hhas (fun h2 => ?_) (fun h2 => ?_)
    ·rw [if_pos ⟨h0, h1, (kU hth).1 h2⟩] at hP
     conv => whnf
     refine ⟨_, hst, ?_⟩
     rintro r rfl
     conv => whnf
     refine ⟨k + 1, hlt, by show x.tr.length - (k + 1) < x.tr.length - k; omega, ⟨rfl, rfl, rfl, rfl, ?_, rfl, rfl, next_i64 hlt (by omega), trivial⟩, ⟨rfl, rfl, ?_, trivial⟩⟩
     ·rw [hP]
      exact next_i64 (n := 1048576) (by omega) (by omega)
     ·rw [hS]; rfl
    ·rw [if_neg (fun e => h2 ((kU hth).2 e.2.2)), Nat.add_zero] at hP
     conv => whnf
     refine ⟨_, hst, ?_⟩
     rintro r rfl
     conv => whnf
     refine ⟨k + 1, hlt, by show x.tr.length - (k + 1) < x.tr.length - k; omega, ⟨rfl, rfl, rfl, rfl, ?_, rfl, rfl, next_i64 hlt (by omega), trivial⟩, ⟨rfl, rfl, ?_, trivial⟩⟩
     ·rw [hP]; rfl
     ·rw [hS]; rfl
   ·have h1 : x.tr[k - 1].th = x.tr[k].th := by simpa using h1
    rw [if_neg (fun e => e.2.1 h1), Nat.add_zero] at hP
    conv => whnf
    refine ⟨_, hst, ?_⟩
    rintro r rfl
    conv => whnf
    refine ⟨k + 1, hlt, by show x.tr.length - (k + 1) < x.tr.length - k; omega, ⟨rfl, rfl, rfl, rfl, ?_, rfl, rfl, next_i64 hlt (by omega), trivial⟩, ⟨rfl, rfl, ?_, trivial⟩⟩
    ·rw [hP]; rfl
    ·rw [hS]; rfl
  ·have h0 : ¬ 0 < k := by
    intro e; apply h0; apply decide_eq_true; show (k : Int) > 0; omega
   rw [if_neg (fun e => h0 e.1), Nat.add_zero] at hP
   conv => whnf
   refine ⟨_, hst, ?_⟩
   rintro r rfl
   conv => whnf
   refine ⟨k + 1, hlt, by show x.tr.length - (k + 1) < x.tr.length - k; omega, ⟨rfl, rfl, rfl, rfl, ?_, rfl, rfl, next_i64 hlt (by omega), trivial⟩, ⟨rfl, rfl, ?_, trivial⟩⟩
   ·rw [hP]; rfl
   ·rw [hS]; rfl
 ·have hge : k = x.tr.length := by
   have : ¬ (k : Int) < (x.tr.map encEv).length := fun e => h (decide_eq_true e)
   simp at this; omega
  subst hge
  conv => whnf
  rfl
end Ai
end
section
set_option maxRecDepth 100000
namespace Ai
open Go Go.Proofs Cyc
theorem lend_none {H : Key → Option Ob} (h0 : H (.n 905) = none) (h1 : H (.n 901) = none) (h2 : H (.n 902) = none) (h3 : H (.n 903) = none) : yK pI H = fun _ => none := by
 funext κ
 cases hk : pI κ with
 |false => exact bS hk
 |true =>
  rw [wW hk]
  cases κ with
  |l j => cases hk
  |n j =>
   have hk : (Nat.beq j 905 || Nat.beq j 901 || Nat.beq j 902 || Nat.beq j 903) = true := hk
   simp only [Bool.or_eq_true] at hk
   rcases hk with ((hk | hk) | hk) | hk
   all_goals (have := Nat.eq_of_beq_eq_true hk; subst this; first | (rw [h0]; rfl) | (rw [h1]; rfl) | (rw [h2]; rfl) | (rw [h3]; rfl))
  |s o j => cases hk
theorem l10All_at (p : ProgL) (hp : p.wf) (hs : p.rs.length ≤ 1048576 ∧ ∀ x ∈ p.rs, x.length ≤ 1048576) (hv : p.flt) (b : Int) (slp : Bool) {H : Key → Option Ob} (h0 : H (.n 905) = none) (h1 : H (.n 901) = none) (h2 : H (.n 902) = none) (h3 : H (.n 903) = none) :
  IOCall EE 64 [agg (encProg p), i64 b, bv slp] (yK pI H) (AllPost p b slp) := by
 rw [lend_none h0 h1 h2 h3]; exact l10All_ok p hp hs hv b slp
theorem allX_eq (p : ProgL) (b : Int) : allX p b false = uO p b := allR_of p b _ _
def OkA (p : ProgL) (b : Int) : Prop := OkX p b ∧ (uO p b).2 = true
theorem AllRunsS_ok (p : ProgL) (hp : p.wf) (hs : p.rs.length ≤ 1048576 ∧ ∀ x ∈ p.rs, x.length ≤ 1048576) (hv : p.flt) (b : Int) :
  CallsTo EE 66 [agg (encProg p), i64 b] (fun r => (OkA p b ∧ r = .tup [sl ((uO p b).1.map rowPk), bv true]) ∨ (¬ OkA p b ∧ r = .tup [sl [], bv false])) := by
 refine callsTo_of_AW (fn := Tryz.f66) Tryz.func66 rfl (by kernel_rfl) rfl ?_
 conv => whnf
 refine ⟨_, 64, [], Weak.refl, rfl, 999, 99, pI, _, l10All_at p hp hs hv b false rfl rfl rfl rfl, rfl, ?_⟩
 rintro q H1 (⟨hok, rfl, rfl⟩ | ⟨hn, rfl, rfl⟩)
 ·rw [allX_eq]
  refine ⟨x6, fun n hn => ?_, ?_⟩
  ·cases hn
  have hA : OkA p b ↔ (uO p b).2 = true := ⟨fun e => e.2, fun e => ⟨hok, e⟩⟩
  generalize uO p b = X at *
  obtain ⟨xs, okk⟩ := X
  cases okk with
  |false =>
   conv => whnf
   refine .inl ?_
   conv => whnf
   exact .inr ⟨fun e => absurd (hA.1 e) (by simp), rfl⟩
  |true =>
   conv => whnf
   refine .inl ?_
   conv => whnf
   refine .inl ⟨hA.2 rfl, ?_⟩
   show AV.tup [sl (((xs.map rowPk).drop 0).take xs.length), bv true] = _
   rw [List.drop_zero, List.take_of_length_le (by simp)]
 ·refine ⟨fun _ _ => rfl, fun n hn => ?_, ?_⟩
  ·cases hn
  conv => whnf
  refine .inl ?_
  conv => whnf
  exact .inr ⟨fun e => hn e.1, rfl⟩
end Ai
end
section
set_option maxRecDepth 100000
namespace Ai
open Go Go.Proofs Cyc
open Classical in
theorem r6 {p : ProgL} {sign : List UInt8} {xs : List RunT} {k : Nat} (hk : k < xs.length) :
  yW p sign xs (k + 1) = if fB p xs[k] = sign then (if yW p sign xs k < 0 ∨ (cF p xs[k] : Int) < yW p sign xs k then (cF p xs[k] : Int) else yW p sign xs k) else yW p sign xs k := by
 rw [yW, List.getElem?_eq_getElem hk]
open Classical in
/-- what LeastPreempts finds -/
noncomputable def uX (p : ProgL) (b : Int) (sign : List UInt8) : Int × Bool :=
 if OkA p b ∧ ¬ yW p sign (uO p b).1 (uO p b).1.length < 0 then (yW p sign (uO p b).1 (uO p b).1.length, true) else (0, false)
theorem run_of_end {p : ProgL} (hp : p.wf) (hg : p.goodS) {b : Int} (hb : InR b 0 14) {x : RunT} (hx : XEnd p b x) : CallsTo EE 67 [agg (encProg p), sl (x.tk.map encInt), i64 b] (· = agg (vB x)) := by
 have h := l4Run_of p hp hg x.tk b (fun i hi => (hx.fin.tk i hi).1) (by have := hx.fin.le; have := hx.fin.len; have := hb.2; omega) ⟨hb.1, by have := hb.2; omega⟩
 rwa [hx.run] at h
theorem LeastS_ok (p : ProgL) (hp : p.wf) (hs : p.rs.length ≤ 1048576 ∧ ∀ x ∈ p.rs, x.length ≤ 1048576) (hv : p.flt) (b : Int) (sign : List UInt8) :
  CallsTo EE 31 [agg (encProg p), i64 b, sv sign] (· = .tup [i64 (uX p b sign).1, bv (uX p b sign).2]) := by
 classical
 refine callsTo_of_AW (fn := Tryz.f31) Tryz.func31 rfl (by kernel_rfl) rfl ?_
 conv => whnf
 refine ⟨_, AllRunsS_ok p hp hs hv b, ?_⟩
 rintro r (⟨hA, rfl⟩ | ⟨hn, rfl⟩)
 ·have hall := s5 hA.1.1 hv hA.1.2.1
  have hl := r9 p b
  have hg := hA.1.1
  have hb := hA.1.2
  have hR : uX p b sign = if ¬ yW p sign (uO p b).1 (uO p b).1.length < 0 then (yW p sign (uO p b).1 (uO p b).1.length, true) else (0, false) := by
   unfold uX
   simp only [hA, true_and]
  rw [hR]
  clear hR hA
  generalize (uO p b).1 = xs at *
  conv => whnf
  refine yU (fun k : Nat => [(1, i64 b), (2, sv sign), (3, .ptr (.n 3) 0), (9, bv true), (10, i64 (yW p sign xs k)), (21, sl (xs.map rowPk)), (22, i64 (xs.map rowPk).length), (23, i64 k)])
   (fun k => [(.n 3, .vs 31 ((encProg p).map .d))]) (fun k => xs.length - k) (fun k => k ≤ xs.length) 0 .refl
   ⟨rfl, rfl, rfl, rfl, rfl, rfl, rfl, rfl, trivial⟩ ⟨rfl, trivial⟩ (Nat.zero_le _) ?_
  rintro k τ H hk
  have hk : k ≤ xs.length := hk
  conv => whnf
  refine kbi (fun h => ?_) (fun h => ?_)
  ·have hlt : k < xs.length := by simpa using h
   have hx := hall _ (List.getElem_mem hlt)
   have hbs := r6 (p := p) (sign := sign) hlt
   conv => whnf
   refine ⟨rowPk xs[k], yC rowPk hlt rfl, ?_⟩
   conv => whnf
   refine ⟨_, run_of_end hp hg hb hx, ?_⟩
   rintro r rfl
   conv => whnf
   refine ⟨_, l4Sign_ok p hp hg hv b _ hx.fin (by have := hb.2; omega), ?_⟩
   rintro r rfl
   conv => whnf
   refine kbi (fun h1 => ?_) (fun h1 => ?_)
   ·have h1 : fB p xs[k] ≠ sign := by simpa using h1
    rw [if_neg h1] at hbs
    conv => whnf
    refine ⟨k + 1, hlt, by show xs.length - (k + 1) < xs.length - k; omega, ⟨rfl, rfl, rfl, rfl, ?_, rfl, rfl, next_i64 hlt (by omega), trivial⟩, ⟨rfl, trivial⟩⟩
    rw [hbs]; rfl
   ·have h1 : fB p xs[k] = sign := by simpa using h1
    rw [if_pos h1] at hbs
    conv => whnf
    refine ⟨_, l17Pre_ok p hp hg hv b (by have := hb.2; omega) _ hx, ?_⟩
    rintro r rfl
    conv => whnf
    refine kbi (fun h2 => ?_) (fun h2 => ?_)
    ·have h2 : yW p sign xs k < 0 := by simpa using h2
     rw [if_pos (.inl h2)] at hbs
     conv => whnf
     refine ⟨k + 1, hlt, by show xs.length - (k + 1) < xs.length - k; omega, ⟨rfl, rfl, rfl, rfl, ?_, rfl, rfl, next_i64 hlt (by omega), trivial⟩, ⟨rfl, trivial⟩⟩
     rw [hbs]; rfl
    ·have h2 : ¬ yW p sign xs k < 0 := by simpa using h2
     conv => whnf
     refine kbi (fun h3 => ?_) (fun h3 => ?_)
     ·have h3 : (cF p xs[k] : Int) < yW p sign xs k := by simpa using h3
      rw [if_pos (.inr h3)] at hbs
      conv => whnf
      refine ⟨k + 1, hlt, by show xs.length - (k + 1) < xs.length - k; omega, ⟨rfl, rfl, rfl, rfl, ?_, rfl, rfl, next_i64 hlt (by omega), trivial⟩, ⟨rfl, trivial⟩⟩
      rw [hbs]; rfl
     ·have h3 : ¬ (cF p xs[k] : Int) < yW p sign xs k := by simpa using h3
      rw [if_neg (fun e => e.elim h2 h3)] at hbs
      conv => whnf
      refine ⟨k + 1, hlt, by show xs.length - (k + 1) < xs.length - k; omega, ⟨rfl, rfl, rfl, rfl, ?_, rfl, rfl, next_i64 hlt (by omega), trivial⟩, ⟨rfl, trivial⟩⟩
      rw [hbs]; rfl
  ·have hge : k = xs.length := by
    have : ¬ (k : Int) < (xs.map rowPk).length := fun e => h (decide_eq_true e)
    simp at this; omega
   rw [← hge]
   conv => whnf
   refine kbi (fun h2 => ?_) (fun h2 => ?_)
   ·have h2 : yW p sign xs k < 0 := by simpa using h2
    conv => whnf
    rw [if_neg (by simpa using h2)]
   ·have h2 : ¬ yW p sign xs k < 0 := by simpa using h2
    conv => whnf
    rw [if_pos h2]
 ·have hR : uX p b sign = (0, false) := by unfold uX; rw [if_neg (fun e => hn e.1)]
  rw [hR]
  conv => whnf
  refine yU (fun _ : Unit => [(9, bv false), (10, i64 (-1)), (22, i64 (([] : List (List D)).length : Nat)), (23, i64 0)]) (fun _ => []) (fun _ => 0) (fun _ => True) () .refl ⟨rfl, rfl, rfl, rfl, trivial⟩ trivial trivial ?_
  rintro ⟨⟩ τ H _
  conv => whnf
  refine kbi (fun h => by simp at h) (fun h => ?_)
  conv => whnf
end Ai
end
section
set_option maxRecDepth 100000
namespace Ai
open Go Go.Proofs
theorem x8 (s : StL) {p : Key → Bool} (h : (p (.n 900) || p (.n 901) || p (.n 902)) = false) : scrPL p ([] ++ stRef s) = [] ++ stRef s := by
 have := xJ (E := 0) s h
 simpa [scrPO] using this
theorem spawn_vs0 {s s' : StL} {L : List AV} {v : AV} (hv : v = .dref (.n 900) s'.ths.length) (hL : L = [] ++ stRef s) (hc : s'.cells.length = s.cells.length) (ho : s'.owner.length = s.owner.length) (hf : s'.fault = s.fault) :
  zZ (scrPL (isK (.n 900)) L) (0 + 0) [v] = [] ++ stRef s' := by
 subst hv hL
 simp only [stRef, List.cons_append, List.nil_append, scrPL, hc, ho, hf]
 rfl
theorem doI_preB0 (E : TypeId) (g : Nat → Option Ob) (hg : ∀ p j, (g j).map (scrPO p) = g j) (s : StL) (k : Nat) (o : OpL) (e : Ev) (hk : k < s.ths.length) (t : Th) (htk : (zA o.code).1 ≤ t.stack.length) (ht8 : t.stack.length ≤ 1048576) (hpc : InR t.pc 0 1048576)
  (τ : Nat → AV) (H : Key → Option Ob) (Q : AX → St → Prop) (K : St → Prop) (hK : ∀ s', At (doI1 0 k o t) (doIO E [] s k o e t (zC t o)) [(900, g)] s' → K s') :
  rZ EE Tryz.f153.ntmps K Q 7 (Tryz.f153.body.getD .skip) (pW [(0, .ptr (.l 0) 0), (1, i64 k), (2, agg (encOp o)), (3, agg (encEv e))] (pV [(.l 0, .vs E ([] ++ stRef s)), (.n 899, .ds 105 1 (stk t)), (.n 900, .rs 123 6 (rowsA s.ths k t)), (.n 901, .ds 105 1 (s.cells.map encF)), (.n 902, .ds 3 1 (s.owner.map encInt))] (fN [(900, g)] ⟨τ, H⟩))) := by
 have ht : 0 ≤ (zA o.code).1 ∧ (zA o.code).1 ≤ 2 ∧ 0 ≤ (zA o.code).2 ∧ (zA o.code).2 ≤ 1 := by
  unfold zA; split
  ·decide
  ·split
   ·decide
   ·split <;> decide
 have e1 : (IntKind.i64.wrap ((t.stack.length : Int) - (zA o.code).1)) = (t.stack.length : Int) - (zA o.code).1 := zH (by omega) (by omega)
 have e2 : ((t.stack.length : Int) - (zA o.code).1).toNat = zQ t o := by unfold zQ xH; omega
 have allLen : ∀ a b : Nat, (((stk t).drop a).take b).all (fun c => c.length == 1) = true := by
  intro a b
  simp only [List.all_eq_true]
  intro x hx
  have hx := List.mem_of_mem_drop (List.mem_of_mem_take hx)
  obtain ⟨y, _, rfl⟩ := List.mem_map.1 hx
  rfl
 conv => whnf
 refine ⟨⟨by omega, by omega⟩, ?_⟩
 conv => whnf
 refine ⟨_, mQ o, ?_⟩
 rintro r rfl
 conv => whnf
 refine ⟨yE t, ⟨?_, by simp [yE]⟩, ?_⟩
 ·repeat (first | exact zP hk | refine yY ?_ (zV rfl t))
 conv => whnf
 refine ⟨yE t, ⟨?_, by simp [yE]⟩, ?_⟩
 ·repeat (first | exact zP hk | refine yY ?_ (zV rfl t))
 conv => whnf
 rw [e1]
 have e3 : ((stk t).drop (0 + ((t.stack.length : Int) - (zA o.code).1).toNat)).take ((t.stack.length : Int).toNat - ((t.stack.length : Int) - (zA o.code).1).toNat) = (t.stack.drop (zQ t o)).map encF := by
  rw [e2, Nat.zero_add, List.take_of_length_le (by simp [stk]), stk, List.map_drop]
 have hlen : (t.stack.drop (zQ t o)).length ≤ 1048576 := by simp; omega
 rcases Int.lt_or_eq_of_le ht.1 with h0 | h0
 refine .inl ⟨⟨by omega, by omega, by omega, .inr (by omega)⟩, ?_⟩
 conv => whnf
 refine .inl ⟨(· = .uq 105 1 ((t.stack.drop (zQ t o)).map encF)), Eq.mp (congrArg (fun x => CallsTo EE 174 [sl x] _) e3.symm) (gD (t.stack.drop (zQ t o)) hlen), ?_⟩
 rintro r rfl
 refine ⟨fun c hc => ?_, .inl ?_⟩
 ·obtain ⟨y, _, rfl⟩ := List.mem_map.1 hc
  rfl
 conv => whnf
 rotate_left 1
 refine .inr ⟨⟨by omega, by omega, by omega⟩, ?_⟩
 conv => whnf
 refine ⟨(· = .uq 105 1 ((t.stack.drop (zQ t o)).map encF)), Eq.mp (congrArg (fun x => CallsTo EE 174 [sl x] _) (by simp [zQ, xH, ← h0])) (gD (t.stack.drop (zQ t o)) hlen), ?_⟩
 rintro r rfl
 refine .inl ?_
 conv => whnf
 all_goals
  refine ⟨yE t, ⟨by repeat (first | exact zP hk | refine yY ?_ (zV rfl t)), by simp [yE]⟩, ?_⟩
  conv => whnf
  refine .inl ⟨⟨by omega, by omega, by omega, .inl rfl⟩, ?_⟩
  conv => whnf
  have e5 : ((t.stack.length : Int) - (zA o.code).1).toNat - (0 : Int).toNat = zQ t o := by rw [e2]; rfl
  refine ⟨[i64 t.rt, i64 t.pc, i64 t.st, i64 t.cond, i64 t.lock, .ref (.n 899) 0 (zQ t o)], ⟨?_, by simp⟩, ?_⟩
  ·refine vE (c := yE t) (by repeat (first | exact zP hk | refine yY ?_ (zV rfl t))) ?_
   conv => lhs; whnf
   rw [← e5]
   rfl
  conv => whnf
  refine hK _ ⟨?_, ?_, ?_⟩
  ·exact ⟨rfl, rfl, rfl, rfl, rfl, rfl, rfl, trivial⟩
  ·refine ⟨?_, rfl, rfl, rfl, rfl, ?_, rfl, rfl, trivial⟩
   ·conv => lhs; whnf
    refine congrArg some ?_
    repeat (refine yD ?_ (xJ s rfl))
    rfl
   ·conv => lhs; whnf
    refine congrArg (fun x => some (Ob.rs 123 6 x)) ?_
    have hkl : (t.stack.take (zQ t o)).length = zQ t o := by simp [zQ]
    refine bN hk (bN hk (t := t) (t' := { t with stack := t.stack.take (zQ t o) }) (by repeat (first | rfl | refine Eq.trans (congrArg (List.map (scrPL _)) ?_) (vV rfl (fun _ => rfl) _ _ _))) ?_) ?_
    ·show [_, _, _, _, _, AV.ref (.n 899) 0 (((t.stack.length : Int) - (zA o.code).1).toNat - (0 : Int).toNat)] = [_, _, _, _, _, AV.ref (.n 899) 0 (t.stack.take (zQ t o)).length]
     rw [e5, hkl]
    ·show [_, AV.d (.int .i64 (IntKind.i64.wrap (t.pc + 1))), _, _, _, AV.ref (.n 899) 0 (t.stack.take (zQ t o)).length] = [_, i64 (t.pc + 1), _, _, _, AV.ref (.n 899) 0 (t.stack.take (zQ t o)).length]
     rw [zH (by have := hpc.1; omega) (by have := hpc.2; omega)]
     rfl
  ·refine ⟨fun j => ?_, trivial⟩
   repeat (first | exact rfl | refine hscrO ?_ (hg _ _) | conv => lhs; whnf)
theorem doI_swB0 (hI : yM) (E : TypeId) (g : Nat → Option Ob) (hg : ∀ p j, (g j).map (scrPO p) = g j) (s : StL) (k : Nat) (o : OpL) (e : Ev) (hk : k < s.ths.length) (h5 : s.ths.length ≤ 5) (hgj : ∀ j, j ≠ k → g j = zM s.ths j)
  (hs : s.small) (ho : o.fits s s.ths[k]) (hpc : InR s.ths[k].pc 0 1048576) (hst3 : s.ths[k].st ≠ 3) (he : e.kind = 1) (hel : e.lock = -1) (hfl : ∀ x ∈ s.ths[k].stack, x < 18446744073709551616) (hjo : o.code = 15 → ∃ j, yO (yI s.ths[k] o 0) s.ths.length = some j ∧ zT s s.ths[k] = some j)
  (Q : AX → St → Prop) (K : St → Prop) (S : St) (hS : At (doI1 0 k o s.ths[k]) (doIO E [] s k o e s.ths[k] (zC s.ths[k] o)) [(900, g)] S) (hK : ∀ S', DoI2 E [] g k (doL s k o e).1 (doL s k o e).2 S' → K S') :
  rZ EE Tryz.f153.ntmps K Q 1 (dropC 7 (Tryz.f153.body.getD .skip)) S := by
 have hst := hs.2.1 _ (List.getElem_mem hk)
 have hgd : s.ths.getD k th0 = s.ths[k] := by simp [List.getD_eq_getElem?_getD, hk]
 generalize ht0 : s.ths[k] = t at *
 obtain ⟨τ, H, rfl⟩ := hS.form
 clear hS
 obtain ⟨o1, o2, o3, o4, o5⟩ := ho
 obtain ⟨eth, ekind, eobj, elock, epc⟩ := e
 have he : ekind = 1 := he
 subst he
 have hel : elock = -1 := hel
 subst hel
 have hkn : zQ t o ≤ t.stack.length := Nat.sub_le _ _
 have hkl : (t.stack.take (zQ t o)).length = zQ t o := by simp; omega
 have hpl : (zC t o).stack.length = zQ t o := hkl
 conv => whnf
 refine kbi (fun hc => ?_) (fun hc => ?_)
 ·have hc : o.code = 1 := by simpa using hc
  conv => whnf
  refine .inr (.inr (.inr ⟨[0], by kernel_rfl, 8, [], ?_⟩))
  conv => whnf
  refine ⟨yE (zC t o), ⟨by repeat (first | exact zP hk | refine yY ?_ (zV rfl _)), by simp [yE]⟩, ?_⟩
  conv => whnf
  refine ⟨by kernel_rfl, ?_⟩
  conv => whnf
  refine ⟨⟨rfl, by rw [hpl]; simp; omega, by rw [hpl]; simp; omega⟩, ?_⟩
  conv => whnf
  have hd : doL s k o ⟨eth, 1, eobj, -1, epc⟩ = (s.put k (zL (zC t o) o.v), ⟨eth, 1, eobj, -1, epc⟩) := by unfold doL; rw [hgd]; simp [hc]
  rw [hd] at hK
  dsimp only at hK
  refine hK _ (.inl ⟨zL (zC t o) o.v, s.ths, stk (zL (zC t o) o.v), hk, rfl, hgj, qJ _, by simp [StL.put], ⟨rfl, rfl, trivial⟩, ⟨?_, ?_, rfl, ?_, ?_, ?_, ?_, trivial⟩, ⟨fun j => ?_, trivial⟩⟩)
  ·rw [show stRef _ = stRef s by simp [stRef, StL.put]]
   conv => lhs; whnf
   all_goals (
    refine congrArg some ?_
    repeat (refine yD ?_ (xJ s rfl))
    all_goals rfl)
  ·rfl
  ·conv => lhs; whnf
   show some (Ob.ds 105 1 _) = some (Ob.ds 105 1 _)
   simp [stk, zL, zC, encF]
  ·conv => lhs; whnf
   all_goals (
    refine congrArg (fun x => some (Ob.rs 123 6 x)) ?_
    apply vJ
    ·repeat (first | exact rfl | apply xN hk | apply xM (fun _ => rfl))
    ·show [_, _, _, _, _, AV.ref (.n 899) 0 ((zC t o).stack.length + 1)] = _
     simp [yE, zL]
     exact ⟨rfl, rfl, rfl, rfl, rfl⟩)
  ·rfl
  ·rfl
  ·repeat (first | exact rfl | refine hscrO ?_ (hg _ _) | conv => lhs; whnf)
 have n1 : ¬ o.code = 1 := by simpa using hc
 clear hc
 conv => whnf
 refine kbi (fun hc => ?_) (fun hc => ?_)
 ·have hc : o.code = 2 := by simpa using hc
  have hr := o2 (.inl hc)
  conv => whnf
  refine .inr (.inl ⟨4, [], ?_⟩)
  conv => whnf
  refine ⟨by kernel_rfl, ?_⟩
  conv => whnf
  refine .inr (.inr (.inr ⟨[0], by kernel_rfl, 14, [], ?_⟩))
  conv => whnf
  refine ⟨yE (zC t o), ⟨by repeat (first | exact zP hk | refine yY ?_ (zV rfl _)), by simp [yE]⟩, ?_⟩
  conv => whnf
  refine ⟨⟨by omega, by omega⟩, ?_⟩
  conv => whnf
  refine ⟨encF (s.cells.getD o.a.toNat 0), ⟨by rw [Nat.zero_add]; exact tL hr, by simp [encF]⟩, ?_⟩
  conv => whnf
  refine ⟨by kernel_rfl, ?_⟩
  conv => whnf
  refine ⟨⟨rfl, by rw [hpl]; simp; omega, by rw [hpl]; simp; omega⟩, ?_⟩
  conv => whnf
  have hd : doL s k o ⟨eth, 1, eobj, -1, epc⟩ = (s.put k (zL (zC t o) (s.cells.getD o.a.toNat 0)), ⟨eth, 2, o.a, (-1), epc⟩) := by unfold doL; rw [hgd]; simp [hc]
  rw [hd] at hK
  dsimp only at hK
  refine hK _ (.inl ⟨zL (zC t o) (s.cells.getD o.a.toNat 0), s.ths, stk (zL (zC t o) (s.cells.getD o.a.toNat 0)), hk, rfl, hgj, qJ _, by simp [StL.put], ⟨rfl, rfl, trivial⟩, ⟨?_, ?_, rfl, ?_, ?_, ?_, ?_, trivial⟩, ⟨fun j => ?_, trivial⟩⟩)
  ·rw [show stRef _ = stRef s by simp [stRef, StL.put]]
   conv => lhs; whnf
   all_goals (
    refine congrArg some ?_
    repeat (refine yD ?_ (xJ s rfl))
    all_goals rfl)
  ·rfl
  ·conv => lhs; whnf
   show some (Ob.ds 105 1 _) = some (Ob.ds 105 1 _)
   simp [stk, zL, zC, encF]
  ·conv => lhs; whnf
   all_goals (
    refine congrArg (fun x => some (Ob.rs 123 6 x)) ?_
    apply vJ
    ·repeat (first | exact rfl | apply xN hk | apply xM (fun _ => rfl))
    ·show [_, _, _, _, _, AV.ref (.n 899) 0 ((zC t o).stack.length + 1)] = _
     simp [yE, zL]
     exact ⟨rfl, rfl, rfl, rfl, rfl⟩)
  ·rfl
  ·rfl
  ·repeat (first | exact rfl | refine hscrO ?_ (hg _ _) | conv => lhs; whnf)
 have n2 : ¬ o.code = 2 := by simpa using hc
 clear hc
 conv => whnf
 refine kbi (fun hc => ?_) (fun hc => ?_)
 ·have hc : o.code = 3 := by simpa using hc
  have hr := o2 (.inr hc)
  have htk : xH o = 1 := by simp [xH, zA, hc]
  conv => whnf
  refine .inr (.inl ⟨4, [], ?_⟩)
  conv => whnf
  refine ⟨by kernel_rfl, ?_⟩
  conv => whnf
  refine .inr (.inl ⟨9, [], ?_⟩)
  conv => whnf
  refine ⟨encF (yI t o 0), ⟨by omega, wL o5 (by omega), by simp [encF]⟩, ?_⟩
  conv => whnf
  refine ⟨by kernel_rfl, ?_⟩
  conv => whnf
  refine ⟨⟨by omega, by omega⟩, ?_⟩
  conv => whnf
  have hd : doL s k o ⟨eth, 1, eobj, -1, epc⟩ = ({ s with cells := s.cells.set o.a.toNat (yI t o 0) }.put k (zC t o), ⟨eth, 3, o.a, (-1), epc⟩) := by unfold doL; rw [hgd]; simp [hc]
  rw [hd] at hK
  dsimp only at hK
  refine hK _ (.inl ⟨zC t o, s.ths, stk t, hk, rfl, hgj, xE t o, by simp [StL.put], ⟨rfl, rfl, trivial⟩, ⟨?_, ?_, rfl, ?_, ?_, ?_, ?_, trivial⟩, ⟨fun j => ?_, trivial⟩⟩)
  ·rw [show stRef _ = stRef s by simp [stRef, StL.put]]
   conv => lhs; whnf
   all_goals (
    refine congrArg some ?_
    repeat (refine yD ?_ (xJ s rfl))
    all_goals rfl)
  ·rfl
  ·rfl
  ·conv => lhs; whnf
   all_goals (
    refine congrArg (fun x => some (Ob.rs 123 6 x)) ?_
    apply vJ
    ·repeat (first | exact rfl | apply xN hk | apply xM (fun _ => rfl))
    ·rfl)
  ·conv => lhs; whnf
   show some (Ob.ds 105 1 ((s.cells.map encF).set (0 + o.a.toNat) (encF (yI t o 0)))) = some (Ob.ds 105 1 ((s.cells.set o.a.toNat (yI t o 0)).map encF))
   rw [Nat.zero_add, List.map_set]
  ·rfl
  ·repeat (first | exact rfl | refine hscrO ?_ (hg _ _) | conv => lhs; whnf)
 have n3 : ¬ o.code = 3 := by simpa using hc
 clear hc
 conv => whnf
 refine kbi (fun hc => ?_) (fun hc => ?_)
 ·have hc : o.code = 10 := by simpa using hc
  conv => whnf
  have hd : doL s k o ⟨eth, 1, eobj, -1, epc⟩ = (s.put k ({ zC t o with pc := o.a }), ⟨eth, 1, eobj, -1, epc⟩) := by unfold doL; rw [hgd]; simp [hc]
  rw [hd] at hK
  dsimp only at hK
  refine hK _ (.inl ⟨({ zC t o with pc := o.a }), s.ths, stk t, hk, rfl, hgj, xE t o, by simp [StL.put], ⟨rfl, rfl, trivial⟩, ⟨?_, ?_, rfl, ?_, ?_, ?_, ?_, trivial⟩, ⟨fun j => ?_, trivial⟩⟩)
  ·rw [show stRef _ = stRef s by simp [stRef, StL.put]]
   conv => lhs; whnf
   all_goals (
    refine congrArg some ?_
    repeat (refine yD ?_ (xJ s rfl))
    all_goals rfl)
  ·rfl
  ·rfl
  ·conv => lhs; whnf
   all_goals (
    refine congrArg (fun x => some (Ob.rs 123 6 x)) ?_
    apply vJ
    ·repeat (first | exact rfl | apply xN hk | apply xM (fun _ => rfl))
    ·rfl)
  ·rfl
  ·rfl
  ·repeat (first | exact rfl | refine hscrO ?_ (hg _ _) | conv => lhs; whnf)
 have n10 : ¬ o.code = 10 := by simpa using hc
 clear hc
 conv => whnf
 refine kbi (fun hc => ?_) (fun hc => ?_)
 ·have hc : o.code = 11 := by simpa using hc
  have htk : xH o = 1 := by simp [xH, zA, hc]
  conv => whnf
  refine ⟨encF (yI t o 0), ⟨by omega, wL o5 (by omega), by simp [encF]⟩, ?_⟩
  conv => whnf
  refine ocase (isNo_ok _) (fun hn => ?_) (fun hn => ?_)
  ·conv => whnf
   have hd : doL s k o ⟨eth, 1, eobj, -1, epc⟩ = (s.put k ({ zC t o with pc := o.a }), ⟨eth, 1, eobj, -1, epc⟩) := by unfold doL; rw [hgd]; simp [hc]; rw [if_pos hn]
   rw [hd] at hK
   dsimp only at hK
   refine hK _ (.inl ⟨({ zC t o with pc := o.a }), s.ths, stk t, hk, rfl, hgj, xE t o, by simp [StL.put], ⟨rfl, rfl, trivial⟩, ⟨?_, ?_, rfl, ?_, ?_, ?_, ?_, trivial⟩, ⟨fun j => ?_, trivial⟩⟩)
   ·rw [show stRef _ = stRef s by simp [stRef, StL.put]]
    conv => lhs; whnf
    all_goals (
     refine congrArg some ?_
     repeat (refine yD ?_ (xJ s rfl))
     all_goals rfl)
   ·rfl
   ·rfl
   ·conv => lhs; whnf
    all_goals (
     refine congrArg (fun x => some (Ob.rs 123 6 x)) ?_
     apply vJ
     ·repeat (first | exact rfl | apply xN hk | apply xM (fun _ => rfl))
     ·rfl)
   ·rfl
   ·rfl
   ·repeat (first | exact rfl | refine hscrO ?_ (hg _ _) | conv => lhs; whnf)
  ·conv => whnf
   have hd : doL s k o ⟨eth, 1, eobj, -1, epc⟩ = (s.put k (zC t o), ⟨eth, 1, eobj, -1, epc⟩) := by unfold doL; rw [hgd]; simp [hc]; rw [if_neg hn]
   rw [hd] at hK
   dsimp only at hK
   refine hK _ (.inl ⟨zC t o, s.ths, stk t, hk, rfl, hgj, xE t o, by simp [StL.put], ⟨rfl, rfl, trivial⟩, ⟨?_, ?_, rfl, ?_, ?_, ?_, ?_, trivial⟩, ⟨fun j => ?_, trivial⟩⟩)
   ·rw [show stRef _ = stRef s by simp [stRef, StL.put]]
    conv => lhs; whnf
    all_goals (
     refine congrArg some ?_
     repeat (refine yD ?_ (xJ s rfl))
     all_goals rfl)
   ·rfl
   ·rfl
   ·conv => lhs; whnf
    all_goals (
     refine congrArg (fun x => some (Ob.rs 123 6 x)) ?_
     apply vJ
     ·repeat (first | exact rfl | apply xN hk | apply xM (fun _ => rfl))
     ·rfl)
   ·rfl
   ·rfl
   ·repeat (first | exact rfl | refine hscrO ?_ (hg _ _) | conv => lhs; whnf)
 have n11 : ¬ o.code = 11 := by simpa using hc
 clear hc
 conv => whnf
 refine kbi (fun hc => ?_) (fun hc => ?_)
 ·have hc : o.code = 12 := by simpa using hc
  have hr := o3 (.inl hc)
  conv => whnf
  refine .inr (.inl ⟨4, [], ?_⟩)
  conv => whnf
  refine ⟨by kernel_rfl, ?_⟩
  conv => whnf
  refine .inr (.inl ⟨7, [], ?_⟩)
  conv => whnf
  refine ⟨by kernel_rfl, ?_⟩
  conv => whnf
  refine ⟨⟨by omega, by omega⟩, ?_⟩
  conv => whnf
  have hd : doL s k o ⟨eth, 1, eobj, -1, epc⟩ = ({ s with owner := s.owner.set o.a.toNat ((k : Nat) : Int) }.put k (zC t o), ⟨eth, 4, o.a, (-1), epc⟩) := by unfold doL; rw [hgd]; simp [hc]
  rw [hd] at hK
  dsimp only at hK
  refine hK _ (.inl ⟨zC t o, s.ths, stk t, hk, rfl, hgj, xE t o, by simp [StL.put], ⟨rfl, rfl, trivial⟩, ⟨?_, ?_, rfl, ?_, ?_, ?_, ?_, trivial⟩, ⟨fun j => ?_, trivial⟩⟩)
  ·rw [show stRef _ = stRef s by simp [stRef, StL.put]]
   conv => lhs; whnf
   all_goals (
    refine congrArg some ?_
    repeat (refine yD ?_ (xJ s rfl))
    all_goals rfl)
  ·rfl
  ·rfl
  ·conv => lhs; whnf
   all_goals (
    refine congrArg (fun x => some (Ob.rs 123 6 x)) ?_
    apply vJ
    ·repeat (first | exact rfl | apply xN hk | apply xM (fun _ => rfl))
    ·rfl)
  ·rfl
  ·conv => lhs; whnf
   show some (Ob.ds 3 1 ((s.owner.map encInt).set (0 + o.a.toNat) (encInt ((k : Nat) : Int)))) = some (Ob.ds 3 1 ((s.owner.set o.a.toNat ((k : Nat) : Int)).map encInt))
   rw [Nat.zero_add, List.map_set]
  ·repeat (first | exact rfl | refine hscrO ?_ (hg _ _) | conv => lhs; whnf)
 have n12 : ¬ o.code = 12 := by simpa using hc
 clear hc
 conv => whnf
 refine kbi (fun hc => ?_) (fun hc => ?_)
 ·have hc : o.code = 13 := by simpa using hc
  have hr := o3 (.inr hc)
  conv => whnf
  refine .inr (.inl ⟨4, [], ?_⟩)
  conv => whnf
  refine ⟨by kernel_rfl, ?_⟩
  conv => whnf
  refine .inr (.inl ⟨6, [], ?_⟩)
  conv => whnf
  refine ⟨by kernel_rfl, ?_⟩
  conv => whnf
  refine ⟨⟨by omega, by omega⟩, ?_⟩
  conv => whnf
  have hd : doL s k o ⟨eth, 1, eobj, -1, epc⟩ = ({ s with owner := s.owner.set o.a.toNat (-1) }.put k (zC t o), ⟨eth, 5, o.a, (-1), epc⟩) := by unfold doL; rw [hgd]; simp [hc]
  rw [hd] at hK
  dsimp only at hK
  refine hK _ (.inl ⟨zC t o, s.ths, stk t, hk, rfl, hgj, xE t o, by simp [StL.put], ⟨rfl, rfl, trivial⟩, ⟨?_, ?_, rfl, ?_, ?_, ?_, ?_, trivial⟩, ⟨fun j => ?_, trivial⟩⟩)
  ·rw [show stRef _ = stRef s by simp [stRef, StL.put]]
   conv => lhs; whnf
   all_goals (
    refine congrArg some ?_
    repeat (refine yD ?_ (xJ s rfl))
    all_goals rfl)
  ·rfl
  ·rfl
  ·conv => lhs; whnf
   all_goals (
    refine congrArg (fun x => some (Ob.rs 123 6 x)) ?_
    apply vJ
    ·repeat (first | exact rfl | apply xN hk | apply xM (fun _ => rfl))
    ·rfl)
  ·rfl
  ·conv => lhs; whnf
   show some (Ob.ds 3 1 ((s.owner.map encInt).set (0 + o.a.toNat) (encInt (-1)))) = some (Ob.ds 3 1 ((s.owner.set o.a.toNat (-1)).map encInt))
   rw [Nat.zero_add, List.map_set]
  ·repeat (first | exact rfl | refine hscrO ?_ (hg _ _) | conv => lhs; whnf)
 have n13 : ¬ o.code = 13 := by simpa using hc
 clear hc
 conv => whnf
 refine kbi (fun hc => ?_) (fun hc => ?_)
 ·have hc : o.code = 14 := by simpa using hc
  conv => whnf
  refine .inr (.inl ⟨7, [], ?_⟩)
  conv => whnf
  refine ⟨by kernel_rfl, ?_⟩
  conv => whnf
  refine .inr (.inr (.inr ⟨[0], by kernel_rfl, 12, [], ?_⟩))
  conv => whnf
  refine ⟨yE (zC t o), ⟨by repeat (first | exact zP hk | refine yY ?_ (zV rfl _)), by simp [yE]⟩, ?_⟩
  conv => whnf
  refine ⟨by kernel_rfl, ?_⟩
  conv => whnf
  refine ⟨⟨rfl, by rw [hpl]; simp; omega, by rw [hpl]; simp; omega⟩, ?_⟩
  conv => whnf
  refine .inr (.inr (.inr ⟨[0], by kernel_rfl, 9, [2715], ?_⟩))
  conv => whnf
  refine ⟨_, kF o.a, ?_⟩
  conv => whnf
  refine ⟨by kernel_rfl, ?_⟩
  conv => whnf
  refine ⟨⟨fun c hc' => ?_, ?_, ?_⟩, ?_⟩
  ·have hc' : c ∈ [[i64 o.a, i64 0, i64 1, i64 (-1), i64 (-1), AV.ref (.n 905) 0 0]] := hc'
   simp only [List.mem_singleton] at hc'
   subst hc'; rfl
  ·show (s.ths.length + 1) * 64 ≤ _
   omega
  ·show s.ths.length + 1 ≤ _
   omega
  conv => whnf
  have hd : doL s k o ⟨eth, 1, eobj, -1, epc⟩ = ({ s with ths := s.ths ++ [qT o.a] }.put k (zL (zC t o) (FloatKind.f64.nearest (s.ths.length : Int))), ⟨eth, 6, s.ths.length, (-1), epc⟩) := by unfold doL; rw [hgd]; simp [hc]
  rw [hd] at hK
  dsimp only at hK
  refine hK _ (.inr ⟨s.ths, zL (zC t o) (FloatKind.f64.nearest (s.ths.length : Int)), o.a, hk, ?_, hgj, ⟨rfl, rfl, trivial⟩, ⟨?_, rfl, rfl, ?_, ?_, rfl, rfl, rfl, trivial⟩, ⟨fun j => ?_, trivial⟩⟩)
  ·simp [StL.put, List.set_append_left _ _ hk]
  ·conv => lhs; whnf
   refine congrArg (fun x => some (Ob.vs E x)) ?_
   refine spawn_vs0 (s := s) ?_ ?_ rfl rfl rfl
   ·conv => lhs; whnf
    all_goals simp [StL.put]
   all_goals (
    repeat (refine hscrL ?_ (x8 s rfl))
    all_goals rfl)
  ·conv => lhs; whnf
   show some (Ob.ds 105 1 _) = some (Ob.ds 105 1 _)
   simp [stk, zL, zC, encF]
  ·conv => lhs; whnf
   refine congrArg (fun x => some (Ob.rs 123 6 x)) ?_
   refine rR rfl ?_ rfl rfl
   apply vJ
   ·repeat (first | exact rfl | apply xN hk | apply xM (fun _ => rfl))
   ·show [_, _, _, _, _, AV.ref (.n 899) 0 ((zC t o).stack.length + 1)] = _
    simp [yE, zL]
    exact ⟨rfl, rfl, rfl, rfl, rfl⟩
  ·repeat (first | exact rfl | refine hscrO ?_ (hg _ _) | conv => lhs; whnf)
 have n14 : ¬ o.code = 14 := by simpa using hc
 clear hc
 conv => whnf
 refine kbi (fun hc => ?_) (fun hc => ?_)
 ·have hc : o.code = 15 := by simpa using hc
  have htk : xH o = 1 := by simp [xH, zA, hc]
  obtain ⟨jj, hj1, hj2⟩ := hjo hc
  conv => whnf
  refine .inr (.inl ⟨14, [], ?_⟩)
  conv => whnf
  refine ⟨encF (yI t o 0), ⟨by omega, wL o5 (by omega), by simp [encF]⟩, ?_⟩
  conv => whnf
  refine ⟨_, hI _ _, ?_⟩
  conv => whnf
  refine ⟨by kernel_rfl, ?_⟩
  conv => whnf
  have hd : doL s k o ⟨eth, 1, eobj, -1, epc⟩ = (s.put k (zC t o), ⟨eth, 7, (zT s t).getD (-1), (-1), epc⟩) := by unfold doL; rw [hgd]; simp [hc]
  rw [hd] at hK
  dsimp only at hK
  refine hK _ (.inl ⟨zC t o, s.ths, stk t, hk, rfl, hgj, xE t o, by simp [StL.put], ⟨rfl, rfl, trivial⟩, ⟨?_, ?_, rfl, ?_, ?_, ?_, ?_, trivial⟩, ⟨fun j => ?_, trivial⟩⟩)
  ·rw [show stRef _ = stRef s by simp [stRef, StL.put]]
   conv => lhs; whnf
   all_goals (
    refine congrArg some ?_
    repeat (refine yD ?_ (xJ s rfl))
    all_goals rfl)
  ·conv => lhs; whnf
   show some (Ob.vs 120 [i64 eth, i64 7, i64 ((yO (yI t o 0) s.ths.length).getD 0), i64 (-1), i64 epc]) = some (Ob.vs 120 [i64 eth, i64 7, i64 ((zT s t).getD (-1)), i64 (-1), i64 epc])
   rw [hj1, hj2]
   rfl
  ·rfl
  ·conv => lhs; whnf
   all_goals (
    refine congrArg (fun x => some (Ob.rs 123 6 x)) ?_
    apply vJ
    ·repeat (first | exact rfl | apply xN hk | apply xM (fun _ => rfl))
    ·rfl)
  ·rfl
  ·rfl
  ·repeat (first | exact rfl | refine hscrO ?_ (hg _ _) | conv => lhs; whnf)
 have n15 : ¬ o.code = 15 := by simpa using hc
 clear hc
 conv => whnf
 refine kbi (fun hc => ?_) (fun hc => ?_)
 ·have hc : o.code = 16 := by simpa using hc
  have hr := o4 hc
  conv => whnf
  refine .inr (.inl ⟨8, [], ?_⟩)
  conv => whnf
  refine ⟨by kernel_rfl, ?_⟩
  conv => whnf
  refine .inr (.inl ⟨6, [], ?_⟩)
  conv => whnf
  refine ⟨by kernel_rfl, ?_⟩
  conv => whnf
  refine ⟨⟨by omega, by omega⟩, ?_⟩
  conv => whnf
  refine ⟨yE (zC t o), ⟨by repeat (first | exact zP hk | refine yY ?_ (zV rfl _)), by simp [yE]⟩, ?_⟩
  conv => whnf
  refine .inr (.inr (.inr ⟨[0, 1, 2], by kernel_rfl, by kernel_rfl, by kernel_rfl, 13, [], ?_⟩))
  conv => whnf
  refine ⟨by kernel_rfl, ?_⟩
  conv => whnf
  have hd : doL s k o ⟨eth, 1, eobj, -1, epc⟩ = ({ s with owner := s.owner.set o.b.toNat (-1) }.put k ({ zC t o with st := 3, cond := o.a, lock := o.b, pc := (zC t o).pc - 1 }), ⟨eth, 8, o.a, o.b, epc⟩) := by unfold doL; rw [hgd]; simp [hc]
  rw [hd] at hK
  dsimp only at hK
  refine hK _ (.inl ⟨({ zC t o with st := 3, cond := o.a, lock := o.b, pc := (zC t o).pc - 1 }), s.ths, stk t, hk, rfl, hgj, xE t o, by simp [StL.put], ⟨rfl, rfl, trivial⟩, ⟨?_, ?_, rfl, ?_, ?_, ?_, ?_, trivial⟩, ⟨fun j => ?_, trivial⟩⟩)
  ·rw [show stRef _ = stRef s by simp [stRef, StL.put]]
   conv => lhs; whnf
   all_goals (
    refine congrArg some ?_
    repeat (refine yD ?_ (xJ s rfl))
    all_goals rfl)
  ·rfl
  ·rfl
  ·conv => lhs; whnf
   all_goals (
    refine congrArg (fun x => some (Ob.rs 123 6 x)) ?_
    apply vJ
    ·repeat (first | exact rfl | apply xN hk | apply xM (fun _ => rfl))
    ·have ew : IntKind.i64.wrap (t.pc + 1 - 1) = t.pc + 1 - 1 := zH (by have := hpc.1; omega) (by have := hpc.2; omega)
     show [_, AV.d (.int .i64 (IntKind.i64.wrap (t.pc + 1 - 1))), _, _, _, _] = _
     rw [ew]
     rfl)
  ·rfl
  ·conv => lhs; whnf
   show some (Ob.ds 3 1 ((s.owner.map encInt).set (0 + o.b.toNat) (encInt (-1)))) = some (Ob.ds 3 1 ((s.owner.set o.b.toNat (-1)).map encInt))
   rw [Nat.zero_add, List.map_set]
  ·repeat (first | exact rfl | refine hscrO ?_ (hg _ _) | conv => lhs; whnf)
 have n16 : ¬ o.code = 16 := by simpa using hc
 clear hc
 conv => whnf
 refine kbi (fun hc => ?_) (fun hc => ?_)
 ·have hc : o.code = 17 := by simpa using hc
  have hcall : CallsTo EE 184 [sl ((s.ths.set k (zC t o)).map zE), .fn 185 [.fp (encOp o)]] (· = i64 (dV (wI s.ths o.a))) := by
   rw [← rH hk (t' := zC t o) o.a hst3 (by rw [ht0]; exact hst3)]
   exact kH _ (by simp; omega) 185 _ (.inr ⟨_, rfl⟩) (fun t => t.st == 3 && t.cond == o.a) (fun u _ => nX u o)
  conv => whnf
  refine .inr (.inl ⟨4, [], ?_⟩)
  conv => whnf
  refine ⟨by kernel_rfl, ?_⟩
  conv => whnf
  refine .inl ⟨[sl ((s.ths.set k (zC t o)).map zE), .fn 185 [.fp (encOp o)]], [], _, ⟨_, _, rfl, ⟨_, rfl, dG (l := s.ths) (k := k) (t := zC t o) (els := stk t) hk ?_ ?_ ?_ (xE t o)⟩, _, _, rfl, rfl, rfl⟩, rfl, hcall, ?_⟩
  ·conv => lhs; whnf
   refine congrArg (fun x => some (Ob.rs 123 6 x)) ?_
   repeat (first | exact rfl | refine uT ?_ rfl (fun _ => rfl))
  ·intro j hj hjl
   refine Eq.trans (b := g j) ?_ ((hgj j hj).trans (by simp [zM, hjl]))
   repeat (first | exact rfl | refine hscrO ?_ (hg _ _) | conv => lhs; whnf)
  ·rfl
  rintro r rfl
  refine ⟨rfl, ?_⟩
  cases hwk : wI s.ths o.a with
  |none =>
   conv => whnf
   refine kbi (fun hw => ?_) (fun hw => ?_)
   ·simp [dV] at hw
   conv => whnf
   have hd : doL s k o ⟨eth, 1, eobj, -1, epc⟩ = (s.put k (zC t o), ⟨eth, 10, o.a, (-1), epc⟩) := by unfold doL; rw [hgd]; simp [hc, hwk]
   rw [hd] at hK
   dsimp only at hK
   refine hK _ (.inl ⟨zC t o, s.ths, stk t, hk, rfl, hgj, xE t o, by simp [StL.put], ⟨rfl, rfl, trivial⟩, ⟨?_, ?_, rfl, ?_, ?_, ?_, ?_, trivial⟩, ⟨fun j => ?_, trivial⟩⟩)
   ·rw [show stRef _ = stRef s by simp [stRef, StL.put]]
    conv => lhs; whnf
    all_goals (
     refine congrArg some ?_
     repeat (refine yD ?_ (xJ s rfl))
     all_goals rfl)
   ·rfl
   ·rfl
   ·conv => lhs; whnf
    all_goals (
     refine congrArg (fun x => some (Ob.rs 123 6 x)) ?_
     apply vJ
     ·repeat (first | exact rfl | apply xN hk | apply xM (fun _ => rfl))
     ·rfl)
   ·rfl
   ·rfl
   ·repeat (first | exact rfl | refine hscrO ?_ (hg _ _) | conv => lhs; whnf)
  |some j =>
   obtain ⟨hjl, hj3, hjc⟩ := nU hwk
   have hjk : j ≠ k := by
    rintro rfl
    rw [ht0] at hj3; exact hst3 hj3
   conv => whnf
   refine kbi (fun hw => ?_) (fun hw => ?_)
   rotate_left 1
   ·simp [dV] at hw
   conv => whnf
   refine .inr (.inl ⟨6, [], ?_⟩)
   conv => whnf
   have hd : doL s k o ⟨eth, 1, eobj, -1, epc⟩ = ({ s with ths := s.ths.modify j fun u => { u with st := 4 } }.put k (zC t o), ⟨eth, 10, o.a, j, epc⟩) := by unfold doL; rw [hgd]; simp [hc, hwk]
   rw [hd] at hK
   dsimp only at hK
   refine ⟨by kernel_rfl, ?_⟩
   conv => whnf
   refine ⟨⟨by show (0 : Int) ≤ (j : Int); omega, by show (j : Int) < s.ths.length; omega⟩, ?_⟩
   conv => whnf
   refine hK _ (.inl ⟨zC t o, s.ths.modify j fun u => { u with st := 4 }, stk t, by simpa using hk, rfl, fun i hi => (hgj i hi).trans (rL i).symm, xE t o, by simp [StL.put], ⟨rfl, rfl, trivial⟩, ⟨?_, ?_, rfl, ?_, ?_, ?_, ?_, trivial⟩, ⟨fun j => ?_, trivial⟩⟩)
   ·rw [show stRef _ = stRef s by simp [stRef, StL.put]]
    conv => lhs; whnf
    all_goals (
     refine congrArg some ?_
     repeat (refine yD ?_ (xJ s rfl))
     all_goals rfl)
   ·rfl
   ·rfl
   ·conv => lhs; whnf
    all_goals (
     refine congrArg (fun x => some (Ob.rs 123 6 x)) ?_
     refine rV hjl hjk ?_
     repeat (first | exact rfl | refine uT ?_ rfl (fun _ => rfl)))
   ·rfl
   ·rfl
   ·repeat (first | exact rfl | refine hscrO ?_ (hg _ _) | conv => lhs; whnf)
 have n17 : ¬ o.code = 17 := by simpa using hc
 clear hc
 conv => whnf
 have hcode : 4 ≤ o.code ∧ o.code ≤ 9 := by have := o1.1; have := o1.2; omega
 have htk : xH o = 2 := by simp only [xH, zA]; rw [if_neg (by omega), if_neg (by omega), if_pos hcode]; rfl
 refine .inr (.inr (.inr ⟨[0], by kernel_rfl, 15, [], ?_⟩))
 conv => whnf
 refine ⟨yE (zC t o), ⟨by repeat (first | exact zP hk | refine yY ?_ (zV rfl _)), by simp [yE]⟩, ?_⟩
 conv => whnf
 refine ⟨encF (yI t o 0), ⟨by omega, wL o5 (by omega), by simp [encF]⟩, ?_⟩
 conv => whnf
 refine ⟨encF (yI t o 1), ⟨by omega, wL o5 (by omega), by simp [encF]⟩, ?_⟩
 conv => whnf
 refine ⟨_, cR _ _ _ hcode (lB hfl) (lB hfl), ?_⟩
 conv => whnf
 refine ⟨by kernel_rfl, ?_⟩
 conv => whnf
 refine ⟨⟨rfl, by rw [hpl]; simp; omega, by rw [hpl]; simp; omega⟩, ?_⟩
 conv => whnf
 have hd : doL s k o ⟨eth, 1, eobj, -1, epc⟩ = (s.put k (zL (zC t o) (yJ o.code (yI t o 0) (yI t o 1))), ⟨eth, 1, eobj, -1, epc⟩) := by unfold doL; rw [hgd]; simp [n1, n2, n3, n10, n11, n12, n13, n14, n15, n16, n17]
 rw [hd] at hK
 dsimp only at hK
 refine hK _ (.inl ⟨zL (zC t o) (yJ o.code (yI t o 0) (yI t o 1)), s.ths, stk (zL (zC t o) (yJ o.code (yI t o 0) (yI t o 1))), hk, rfl, hgj, qJ _, by simp [StL.put], ⟨rfl, rfl, trivial⟩, ⟨?_, ?_, rfl, ?_, ?_, ?_, ?_, trivial⟩, ⟨fun j => ?_, trivial⟩⟩)
 ·rw [show stRef _ = stRef s by simp [stRef, StL.put]]
  conv => lhs; whnf
  all_goals (
   refine congrArg some ?_
   repeat (refine yD ?_ (xJ s rfl))
   all_goals rfl)
 ·rfl
 ·conv => lhs; whnf
  show some (Ob.ds 105 1 _) = some (Ob.ds 105 1 _)
  simp [stk, zL, zC, encF]
 ·conv => lhs; whnf
  all_goals (
   refine congrArg (fun x => some (Ob.rs 123 6 x)) ?_
   apply vJ
   ·repeat (first | exact rfl | apply xN hk | apply xM (fun _ => rfl))
   ·show [_, _, _, _, _, AV.ref (.n 899) 0 ((zC t o).stack.length + 1)] = _
    simp [yE, zL]
    exact ⟨rfl, rfl, rfl, rfl, rfl⟩)
 ·rfl
 ·rfl
 ·repeat (first | exact rfl | refine hscrO ?_ (hg _ _) | conv => lhs; whnf)
theorem doI_okA0 (hI : yM) (E : TypeId) (s : StL) (k : Nat) (o : OpL) (e : Ev) (hk : k < s.ths.length) (h5 : s.ths.length ≤ 5)
  (hs : s.small) (ho : o.fits s s.ths[k]) (hpc : InR s.ths[k].pc 0 1048576) (hst3 : s.ths[k].st ≠ 3) (he : e.kind = 1) (hel : e.lock = -1) (hfl : ∀ x ∈ s.ths[k].stack, x < 18446744073709551616) (hjo : o.code = 15 → ∃ j, yO (yI s.ths[k] o 0) s.ths.length = some j ∧ zT s s.ths[k] = some j)
  (H0 : Key → Option Ob) (h0 : H0 (.l 0) = some (.vs E ([] ++ stRef s))) (h1 : H0 (.n 899) = some (.ds 105 1 (stk s.ths[k]))) (h2 : H0 (.n 900) = some (.rs 123 6 (rowsA s.ths k s.ths[k]))) (h3 : ∀ j, H0 (.s 900 j) = fam0 s.ths k j)
  (h4 : H0 (.n 901) = some (.ds 105 1 (s.cells.map encF))) (h6 : H0 (.n 902) = some (.ds 3 1 (s.owner.map encInt))) :
  IOCall EE 153 [.ptr (.l 0) 0, i64 k, agg (encOp o), agg (encEv e)] H0 (doIPost E [] k (doL s k o e).1 (doL s k o e).2) := by
 refine io_of_AW (fn := Tryz.f153) (c := Tryz.f153.body.getD .skip) Tryz.func153 rfl (by kernel_rfl) rfl ?_
 have hat : At [(0, .ptr (.l 0) 0), (1, i64 k), (2, agg (encOp o)), (3, agg (encEv e))] [(.l 0, .vs E ([] ++ stRef s)), (.n 899, .ds 105 1 (stk s.ths[k])), (.n 900, .rs 123 6 (rowsA s.ths k s.ths[k])), (.n 901, .ds 105 1 (s.cells.map encF)), (.n 902, .ds 3 1 (s.owner.map encInt))] [(900, fam0 s.ths k)]
   ⟨fun i => [AV.ptr (.l 0) 0, i64 k, agg (encOp o), agg (encEv e)].getD i .junk, H0⟩ :=
  ⟨⟨rfl, rfl, rfl, rfl, trivial⟩, ⟨h0, h1, h2, h4, h6, trivial⟩, ⟨h3, trivial⟩⟩
 obtain ⟨τ, H, hf⟩ := hat.form
 rw [hf]
 have hst := hs.2.1 _ (List.getElem_mem hk)
 have hgk : fam0 s.ths k k = none := by unfold fam0; rw [nbeq_self]; rfl
 refine nS 7 (At (doI1 0 k o s.ths[k]) (doIO E [] s k o e s.ths[k] (zC s.ths[k] o)) [(900, fam0 s.ths k)]) (fun K hK => doI_preB0 E (fam0 s.ths k) (yT _ _) s k o e hk s.ths[k] ho.2.2.2.2 hst hpc τ H _ K hK) (fun S hS => ?_)
 refine nS 1 (DoI2 E [] (fam0 s.ths k) k (doL s k o e).1 (doL s k o e).2) (fun K hK => doI_swB0 hI E (fam0 s.ths k) (yT _ _) s k o e hk h5 (fun j hj => by unfold fam0; rw [nbeq_ne hj]; rfl) hs ho hpc hst3 he hel hfl hjo _ K S hS hK) (fun S' hS' => ?_)
 have hp : InertL [] := fun x hx => by cases hx
 rcases hS' with ⟨t', h⟩ | ⟨l', t', r, h⟩
 ·exact doI_fin E _ hp _ k (yT _ _) (n4 _ _ _) hgk _ _ S' t' h
 ·exact p7 E _ hp _ k (yT _ _) (kY _ _) hgk _ _ S' l' t' r h
theorem stepI_A0 (hI : yM) (E : TypeId) (p : ProgL) (s : StL) (k : Nat) (hp : p.wf) (hk : k < s.ths.length) (h5 : s.ths.length ≤ 5)
  (hs : s.small) (hr : s.ths[k].ready p s k) (hst3 : s.ths[k].st ≠ 3) (hfl : ∀ x ∈ s.ths[k].stack, x < 18446744073709551616) (hjo : ∀ o, yA p s.ths[k] = some o → zU s k o = 0 → o.code = 15 → ∃ j, yO (yI s.ths[k] o 0) s.ths.length = some j ∧ zT s s.ths[k] = some j)
  (H0 : Key → Option Ob) (h0 : H0 (.l 0) = some (.vs E ([] ++ stRef s))) (h1 : H0 (.n 899) = some (.ds 105 1 (stk s.ths[k]))) (h2 : H0 (.n 900) = some (.rs 123 6 (rowsA s.ths k s.ths[k]))) (h3 : ∀ j, H0 (.s 900 j) = fam0 s.ths k j)
  (h4 : H0 (.n 901) = some (.ds 105 1 (s.cells.map encF))) (h6 : H0 (.n 902) = some (.ds 3 1 (s.owner.map encInt))) :
  IOCall EE 115 [.ptr (.l 0) 0, agg (encProg p), i64 k] H0 (doIPost E [] k (stepL p s k).1 (stepL p s k).2) := by
 refine io_of_AW (fn := Tryz.f115) (c := Tryz.f115.body.getD .skip) Tryz.func115 rfl (by kernel_rfl) rfl ?_
 have hat : At [(0, .ptr (.l 0) 0), (1, agg (encProg p)), (2, i64 k)] [(.l 0, .vs E ([] ++ stRef s)), (.n 899, .ds 105 1 (stk s.ths[k])), (.n 900, .rs 123 6 (rowsA s.ths k s.ths[k])), (.n 901, .ds 105 1 (s.cells.map encF)), (.n 902, .ds 3 1 (s.owner.map encInt))] [(900, fam0 s.ths k)]
   ⟨fun i => [AV.ptr (.l 0) 0, agg (encProg p), i64 k].getD i .junk, H0⟩ :=
  ⟨⟨rfl, rfl, rfl, trivial⟩, ⟨h0, h1, h2, h4, h6, trivial⟩, ⟨h3, trivial⟩⟩
 obtain ⟨τ, H, hf⟩ := hat.form
 rw [hf]
 have hst := hs.2.1 _ (List.getElem_mem hk)
 have hgd : s.ths.getD k th0 = s.ths[k] := by simp [List.getD_eq_getElem?_getD, hk]
 have hp3 : InertL [] := fun x hx => by cases hx
 have hpc := hr.pc
 clear hat hf h0 h1 h2 h3 h4 h6
 generalize ht0 : s.ths[k] = t at *
 conv => whnf
 refine ⟨⟨by omega, by omega⟩, ?_⟩
 conv => whnf
 refine ⟨yE t, ⟨by repeat (first | exact zP hk | refine yY ?_ (zV rfl t)), by simp [yE]⟩, ?_⟩
 conv => whnf
 refine .inr (.inl ⟨10, [], ?_⟩)
 conv => whnf
 refine ⟨yE t, ⟨by repeat (first | exact zP hk | refine yY ?_ (zV rfl t)), by simp [yE]⟩, ?_⟩
 conv => whnf
 refine ⟨_, Eq.mp (congrArg (fun x => CallsTo EE 151 [agg (encProg p), .agg [i64 t.rt, i64 t.pc, i64 t.st, i64 t.cond, i64 t.lock, sl x]] _) (qJ t).symm) (sD p t hp hr.inP), ?_, ?_⟩
 ·intro c hc
  simp only [List.mem_cons, List.not_mem_nil, or_false] at hc
  rcases hc with rfl | rfl
  ·exact .inr ⟨encOp _, rfl, rfl⟩
  ·exact .inl ⟨_, rfl, rfl⟩
 conv => whnf
 refine ⟨by kernel_rfl, ?_⟩
 conv => whnf
 refine ⟨yE t, ⟨by repeat (first | exact zP hk | refine yY ?_ (zV rfl t)), by simp [yE]⟩, ?_⟩
 conv => whnf
 have hp3 : InertL [] := fun x hx => by cases hx
 refine kbi (fun h4 => ?_) (fun h4 => ?_)
 ·have h4 : t.st = 4 := by simpa using h4
  have hlk := hr.lock h4
  have hd : stepL p s k = ({ s with owner := s.owner.set t.lock.toNat ((k : Nat) : Int) }.put k { t with st := 1, cond := -1, lock := -1, pc := if (yA p t).isSome = true then t.pc + 1 else t.pc }, { ev0 k t with kind := 9, obj := t.cond, lock := t.lock }) := by
   unfold stepL; rw [hgd, if_pos h4]
  conv => whnf
  refine .inr (.inl ⟨12, [], ?_⟩)
  conv => whnf
  refine ⟨yE t, ⟨by repeat (first | exact zP hk | refine yY ?_ (zV rfl _)), by simp [yE]⟩, ?_⟩
  conv => whnf
  refine ⟨yE t, ⟨by repeat (first | exact zP hk | refine yY ?_ (zV rfl _)), by simp [yE]⟩, ?_⟩
  conv => whnf
  refine ⟨by kernel_rfl, ?_⟩
  conv => whnf
  refine .inr (.inl ⟨9, [], ?_⟩)
  conv => whnf
  refine ⟨yE t, ⟨by repeat (first | exact zP hk | refine yY ?_ (zV rfl _)), by simp [yE]⟩, ?_⟩
  conv => whnf
  refine ⟨by kernel_rfl, ?_⟩
  conv => whnf
  refine ⟨⟨by omega, by omega⟩, ?_⟩
  conv => whnf
  refine .inr (.inl ⟨7, [], ?_⟩)
  conv => whnf
  refine ⟨yE { t with st := 1, cond := -1, lock := -1 }, ⟨yY (rW hk ?_) (zV rfl _), by simp [yE]⟩, ?_⟩
  ·apply vJ
   ·repeat (first | exact rfl | apply xN hk | apply xM (fun _ => rfl))
   ·rfl
  conv => whnf
  refine ⟨_, wR _, ?_⟩
  conv => whnf
  refine ⟨by kernel_rfl, ?_⟩
  conv => whnf
  refine ⟨_, Weak.refl, ?_⟩
  conv => whnf
  rw [hd]
  refine ⟨xZ, by rfl, ?_⟩
  refine vY hp3 (l := s.ths) (t' := { t with st := 1, cond := -1, lock := -1, pc := if (yA p t).isSome = true then t.pc + 1 else t.pc }) hk rfl ?_ ?_ ?_ (fun j => ?_) ?_ ?_
  ·refine Eq.trans ?_ (congrArg (fun x => some (Ob.vs E ([] ++ x))) (show stRef s = stRef _ by simp [stRef, StL.put]))
   conv => lhs; whnf
   all_goals (
    refine congrArg some ?_
    repeat (refine yD ?_ (xJ s rfl))
    all_goals rfl)
  ·rfl
  ·conv => lhs; whnf
   all_goals (
    refine congrArg (fun x => some (Ob.rs 123 6 x)) ?_
    apply vJ
    ·repeat (first | exact rfl | apply xN hk | apply xM (fun _ => rfl))
    ·have ew : IntKind.i64.wrap (t.pc + (if (yA p t).isSome = true then 1 else 0)) = (if (yA p t).isSome = true then t.pc + 1 else t.pc) := by have a := hpc.1; have b := hpc.2; split <;> rw [zH (by omega) (by omega)]; omega
     show [_, AV.d (.int .i64 (IntKind.i64.wrap (t.pc + (if (yA p t).isSome = true then 1 else 0)))), _, _, _, _] = _
     rw [ew]
     rfl)
  ·repeat (first | exact rfl | refine hscrO ?_ (yT _ _ _ _) | conv => lhs; whnf)
  ·rfl
  ·conv => lhs; whnf
   show some (Ob.ds 3 1 ((s.owner.map encInt).set (0 + t.lock.toNat) (encInt ((k : Nat) : Int)))) = some (Ob.ds 3 1 ((s.owner.set t.lock.toNat ((k : Nat) : Int)).map encInt))
   rw [Nat.zero_add, List.map_set]
 have h4 : ¬ t.st = 4 := by simpa using h4
 cases hn : yA p t with
 |none =>
  conv => whnf
  have hd : stepL p s k = (s.put k { t with st := 2 }, { ev0 k t with kind := 11 }) := by
   unfold stepL; rw [hgd]; simp [h4, hn]
  refine ⟨_, Weak.refl, ?_⟩
  conv => whnf
  rw [hd]
  refine ⟨xZ, by rfl, ?_⟩
  refine vY hp3 (l := s.ths) (t' := { t with st := 2 }) hk rfl ?_ ?_ ?_ (fun j => ?_) ?_ ?_
  ·refine Eq.trans ?_ (congrArg (fun x => some (Ob.vs E ([] ++ x))) (show stRef s = stRef _ by simp [stRef, StL.put]))
   conv => lhs; whnf
   all_goals (
    refine congrArg some ?_
    repeat (refine yD ?_ (xJ s rfl))
    all_goals rfl)
  ·rfl
  ·conv => lhs; whnf
   all_goals (
    refine congrArg (fun x => some (Ob.rs 123 6 x)) ?_
    apply vJ
    ·repeat (first | exact rfl | apply xN hk | apply xM (fun _ => rfl))
    ·rfl)
  ·repeat (first | exact rfl | refine hscrO ?_ (yT _ _ _ _) | conv => lhs; whnf)
  ·rfl
  ·rfl
 |some o =>
  obtain ⟨hoS, hoF⟩ := hr.op o hn
  conv => whnf
  refine .inl ⟨[.fp (encSt s), i64 k, agg (encOp o)], [], _, ⟨_, _, rfl, y9 (E := E) (cs := [] ++ stRef s) ?_ (fz_stA (k := k) (t := t) (els := stk t) hk ht0 ?_ (fun j hj hjl => ?_) rfl (by simp [stk, List.take_of_length_le]) ?_ ?_), _, _, rfl, rfl, _, _, rfl, ⟨encOp o, rfl, _, _, rfl, rfl, _, _, rfl, rfl, _, _, rfl, rfl, _, _, rfl, rfl, rfl⟩, rfl⟩, rfl, eD hI s k o hk hs hoS, ?_⟩
  ·conv => lhs; whnf
   all_goals (
    refine congrArg some ?_
    repeat (refine yD ?_ (xJ s rfl))
    all_goals rfl)
  ·conv => lhs; whnf
   all_goals (
    refine congrArg (fun x => some (Ob.rs 123 6 x)) ?_
    repeat (first | exact rfl | refine uT ?_ rfl (fun _ => rfl)))
  ·refine Eq.trans (b := fam0 s.ths k j) ?_ (by simp [fam0, nbeq_ne hj, zM, hjl])
   repeat (first | exact rfl | refine hscrO ?_ (yT _ _ _ _) | conv => lhs; whnf)
  ·rfl
  ·rfl
  rintro r rfl
  refine ⟨rfl, ?_⟩
  conv => whnf
  refine kbi (fun h6 => ?_) (fun h6 => ?_)
  ·have h6 : ¬ zU s k o = 0 := by simpa using h6
   have hd : stepL p s k = ({ s with fault := zU s k o }, { ev0 k t with kind := 12, obj := zU s k o }) := by
    unfold stepL; rw [hgd]; simp [h4, hn, h6]
   conv => whnf
   refine ⟨_, Weak.refl, ?_⟩
   conv => whnf
   rw [hd]
   refine ⟨xZ, by rfl, ?_⟩
   refine vY hp3 (l := s.ths) (t' := t) hk (by show s.ths = s.ths.set k t; rw [← ht0, List.set_getElem_self]) ?_ ?_ ?_ (fun j => ?_) ?_ ?_
   ·conv => lhs; whnf
    refine congrArg some ?_
    repeat (refine yD ?_ (xJ { s with fault := zU s k o } rfl))
    refine congrArg (Ob.vs E) (n0 (pre := []) ?_)
    repeat (refine hscrL ?_ (x8 s rfl))
    all_goals rfl
   ·rfl
   ·conv => lhs; whnf
    all_goals (
     refine congrArg (fun x => some (Ob.rs 123 6 x)) ?_
     apply vJ
     ·repeat (first | exact rfl | apply xN hk | apply xM (fun _ => rfl))
     ·rfl)
   ·repeat (first | exact rfl | refine hscrO ?_ (yT _ _ _ _) | conv => lhs; whnf)
   ·rfl
   ·rfl
  ·have h6 : zU s k o = 0 := by simpa using h6
   have hd : stepL p s k = doL s k o (ev0 k t) := by
    unfold stepL; rw [hgd]; simp [h4, hn, h6]
   conv => whnf
   refine .inr (.inl ⟨999, 99, xZ, _, doI_okA0 hI E s k o { ev0 k t with kind := 1 } hk h5 hs (by rw [ht0]; exact hoF h6) (by rw [ht0]; exact hpc) (by rw [ht0]; exact hst3) rfl rfl (by rw [ht0]; exact hfl) (by rw [ht0]; exact hjo o hn h6) _ ?_ ?_ ?_ (fun j => ?_) ?_ ?_, rfl, ?_⟩)
   ·conv => lhs; whnf
    refine congrArg some ?_
    repeat (first | exact rfl | refine yD ?_ (xJ s rfl) | refine pL ?_ (iB hp3 s))
   ·rw [ht0]
    rfl
   ·rw [ht0]
    conv => lhs; whnf
    refine congrArg some ?_
    repeat (first | exact rfl | refine yD ?_ (gF rfl (fun _ => rfl) _ _ _) | refine pL ?_ (gG _ _ _))
   ·repeat (first | exact rfl | refine hscrO ?_ (yT _ _ _ _) | refine aU ?_ (kY _ _ _ _) | conv => lhs; whnf)
   ·rfl
   ·rfl
   rintro r H1 ⟨rfl, hk2, rfl⟩
   refine ⟨cZ, ?_, ?_⟩
   ·intro n hn
    have : n = 0 := by simpa [xZ] using hn
    subst this
    exact ⟨E, _, _, rfl, rfl⟩
   conv => whnf
   refine ⟨_, Weak.refl, ?_⟩
   conv => whnf
   rw [hd]
   refine ⟨xZ, by rfl, ?_⟩
   refine vY hp3 (l := (doL s k o (ev0 k t)).1.ths) (t' := (doL s k o (ev0 k t)).1.ths[k]) hk2 (List.set_getElem_self _).symm ?_ ?_ ?_ (fun j => ?_) ?_ ?_
   ·conv => lhs; whnf
    refine congrArg some ?_
    repeat (first | exact rfl | refine yD ?_ (xJ _ rfl) | refine pL ?_ (iB hp3 _))
   ·rfl
   ·conv => lhs; whnf
    refine congrArg some ?_
    repeat (first | exact rfl | refine yD ?_ (gF rfl (fun _ => rfl) _ _ _) | refine pL ?_ (gG _ _ _))
   ·refine Eq.trans (b := fam0 (doL s k o (ev0 k t)).1.ths k j) ?_ rfl
    repeat (first | exact rfl | refine hscrO ?_ (yT _ _ _ _) | refine aU ?_ (kY _ _ _ _) | conv => lhs; whnf)
   ·rfl
   ·rfl
theorem cX (hI : yM) (E : TypeId) (p : ProgL) (s : StL) (k : Nat) (hp : p.wf) (hk : k < s.ths.length) (h5 : s.ths.length ≤ 5)
  (hs : s.small) (hr : s.ths[k].ready p s k) (hst3 : s.ths[k].st ≠ 3) (hfl : ∀ x ∈ s.ths[k].stack, x < 18446744073709551616) (hjo : ∀ o, yA p s.ths[k] = some o → zU s k o = 0 → o.code = 15 → ∃ j, yO (yI s.ths[k] o 0) s.ths.length = some j ∧ zT s s.ths[k] = some j)
  (H0 : Key → Option Ob) (hH : AtC E [] s H0) :
  IOCall EE 115 [.ptr (.l 0) 0, agg (encProg p), i64 k] H0 (fun r H1 => r = agg (encEv (stepL p s k).2) ∧ H1 = stHC E [] (stepL p s k).1) := by
 have hp3 : InertL [] := fun x hx => by cases hx
 refine io_canon hp3 hk ?_ hH fun H0 a b c d e f => stepI_A0 hI E p s k hp hk h5 hs hr hst3 hfl hjo H0 a b c d e f
 simp only [List.map_cons, List.map_nil, agg_ren]
 rfl
end Ai
end
section
set_option maxRecDepth 100000
namespace Ai
open Go Go.Proofs Cyc
theorem iV (p : ProgL) (hp : p.wf) (hg : p.goodS) (hv : p.flt) (s : StL) (hi : AInv p s) (k : Nat) (hk : k ∈ enabledL p s) (b : Int) (sl : Bool) (d1 : List (List D)) :
  CallsTo EE 149 [.fp (encProg p ++ [di b, .sl d1, .bool sl]), agg (encSt s), i64 k] (· = agg (encEv (stepL p s k).2)) := by
 have hok := runOK hg
 refine callsTo_of_AW (fn := Tryz.f149) Tryz.func149 rfl (by kernel_rfl) rfl ?_
 conv => whnf
 refine ⟨_, eJ s (hok.small s hi.si).1, ?_⟩
 rintro r rfl
 conv => whnf
 have hri := runI hg hv
 have hin : SInv p s ∧ s.flt := ⟨hi.si, hi.fl⟩
 have hs := hri.small s hin
 have hkl := en_lt hk
 refine .inr (.inl ⟨7, 0, wT, _, cX kJ 76 p s k hp hkl hs.2 hs.1 (hri.ready s hin k hk hkl) (hri.awake s hin k hk hkl) (hri.flt s hin _ (List.getElem_mem hkl)) (hri.joins s hin k hk hkl) _ ⟨?_, rfl, ?_, fun j => ?_, ?_, ?_⟩, rfl, ?_⟩)
 ·show some (Ob.vs 76 [.dref (.n 900) (s.ths.map gR).length, .ref (.n 901) 0 (s.cells.map encF).length, .ref (.n 902) 0 (s.owner.map encInt).length, i64 s.fault]) = some (Ob.vs 76 [.dref (.n 900) s.ths.length, .ref (.n 901) 0 s.cells.length, .ref (.n 902) 0 s.owner.length, i64 s.fault])
  rw [List.length_map, List.length_map, List.length_map]
 ·show some (Ob.rs 123 6 ((((thRows 900 s.ths).map (scrPL (isK (.n 7)))).map (renL (swp (.n 7) (.l 0)))).map (scrPL fun o => !wT o))) = _
  rw [zN (fun _ _ => rfl), yX]
  exact congrArg (fun x => some (Ob.rs 123 6 x)) (zN fun _ _ => rfl)
 ·refine (congrArg (fun x => Option.map (scrPO (fun o => !wT o)) (Option.map (renO (swp (.n 7) (.l 0))) (Option.map (scrPO (isK (.n 7))) x))) (lL s j)).trans ?_
  show Option.map _ (Option.map _ (Option.map _ (zM s.ths j))) = _
  rw [zS, thFam_ren, zS]
 ·rfl
 ·rfl
 rintro q H1 ⟨rfl, rfl⟩
 refine ⟨jB, fun n hn => ?_, ?_⟩
 ·have : n = 0 := by simpa [wT] using hn
  subst this
  exact ⟨76, _, _, rfl, rfl⟩
 conv => whnf
 rfl
end Ai
end
section
set_option maxRecDepth 100000
namespace Ai
open Go Go.Proofs Cyc
def wiC (p : ProgL) (b : Int) (sl : Bool) (n : Nat) : List AV := [i64 p.cells, i64 p.locks, i64 p.conds, .d (.sl (p.rs.map zW)), i64 b, .ref (.n 950) 0 n, bv sl]
noncomputable def wiH (p : ProgL) (b : Int) (sl : Bool) (xs : List RunT) : Key → Option Ob
 | .l j => bif Nat.beq j 0 then some (.vs 143 (wiC p b sl xs.length)) else none
 | .n j => bif Nat.beq j 950 then some (.ds 78 7 (xs.map vB)) else none
 | .s _ _ => none
def lV : Key → Bool
 | .l j => Nat.beq j 0
 | .n j => Nat.beq j 950
 | .s _ _ => false
def AtI (p : ProgL) (b : Int) (sl : Bool) (xs : List RunT) (H : Key → Option Ob) : Prop :=
 H (.l 0) = some (.vs 143 (wiC p b sl xs.length)) ∧ H (.n 950) = some (.ds 78 7 (xs.map vB))
theorem rG {p : ProgL} {b : Int} {sl : Bool} {xs : List RunT} : ∀ κ, lV κ = false → wiH p b sl xs κ = none
 | .l j, h => by have h : Nat.beq j 0 = false := h; simp [wiH, h]
 | .n j, h => by have h : Nat.beq j 950 = false := h; simp [wiH, h]
 | .s o j, h => rfl
theorem rC {p : ProgL} {b : Int} {sl : Bool} {xs : List RunT} {H : Key → Option Ob} (h : AtI p b sl xs H) : yK lV H = wiH p b sl xs := by
 obtain ⟨h0, h1⟩ := h
 funext κ
 cases hk : lV κ with
 |false => rw [rG κ hk, bS hk]
 |true =>
  rw [wW hk]
  cases κ with
  |l j =>
   have := Nat.eq_of_beq_eq_true (show Nat.beq j 0 = true from hk)
   subst this
   rw [h0]; rfl
  |n j =>
   have := Nat.eq_of_beq_eq_true (show Nat.beq j 950 = true from hk)
   subst this; rw [h1]
   rfl
  |s o j => cases hk
theorem args5 {T T' K K' A A' B B' C C' O O' : List (List D)} {x y : AV} {c : AV} (h1 : T = T') (h2 : K = K') (h3 : A = A') (h4 : B = B') (h5 : C = C') (h6 : O = O') : [x, AV.agg [c, sl T, sl K, sl A, sl B, sl C, y], sl O] = [x, AV.agg [c, sl T', sl K', sl A', sl B', sl C', y], sl O'] := by rw [h1, h2, h3, h4, h5, h6]
def isSt (κ : Key) : Bool := match κ with | .s o _ => Nat.beq o 900 | .n k => Nat.beq k 901 || Nat.beq k 902 | .l _ => false
def yS (p : ProgL) (s : StL) (u : Nat) (e : Ev) : Prop := ¬ (u ∈ enabledL p s ∧ hangI (stepL p s u).2 e)
theorem rK {q : Key → Bool} {H : Key → Option Ob} {l : List Th} (hq : ∀ j, q (.s 900 j) = true) (hH : ∀ j, H (.s 900 j) = zM l j) : (thRows 900 l).map (dU q H) = (l.map zE).map (List.map .d) := by
 apply List.ext_getElem?
 intro j
 rw [List.getElem?_map, List.getElem?_map, List.getElem?_map]
 by_cases h : j < l.length
 ·rw [xG h, List.getElem?_eq_getElem h]
  simp [thRow, dU, frz, hq, hH, thFam_self h, i64, zE, stk, List.take_of_length_le]
 ·rw [List.getElem?_eq_none (by simp [thRows, ownRows]; omega), List.getElem?_eq_none (by omega)]
  rfl
def isF9 (κ : Key) : Bool := match κ with | .s o _ => Nat.beq o 900 | _ => false
noncomputable def wiO2 (p : ProgL) (b : Int) (sl : Bool) (r : RunT) (acc : List RunT) (L kept : List Nat) (x : RunT) (e : Ev) : List (Key × Ob) := [(.l 0, .vs 143 (wiC p b sl acc.length)), (.n 950, .ds 78 7 (acc.map vB)), (.n 4, .vs 78 ((encRun 0 r.tr r.tk r.s).map .d)), (.n 57, .ds 3 1 (L.map encN)),
 (.n 11, .vs 78 ([i64 0, .ref (.n 87) 0 x.tr.length, .ref (.n 93) 0 x.tk.length] ++ stRef x.s)), (.n 87, .ds 120 5 (x.tr.map encEv)), (.n 93, .ds 3 1 (x.tk.map encInt)), (.n 900, .rs 123 6 (thRows 900 x.s.ths)), (.n 901, .ds 105 1 (x.s.cells.map encF)), (.n 902, .ds 3 1 (x.s.owner.map encInt)),
 (.n 12, .vs 120 ((encEv e).map .d)), (.n 99, .ds 3 1 (kept.map encN))]
theorem walk_ok (p : ProgL) (hp : p.wf) (hg : p.goodS) (hv : p.flt) (b : Int) (hb : InR b 0 1000) (slp : Bool) : ∀ (n : Nat) (r : RunT) (c0 : Int) (sleep : List Nat) (xs : List RunT), XR p b r → b.toNat + 1 - r.tr.length = n → xs.length ≤ 400 → sleep.length ≤ 5 * r.tr.length →
  ∀ H0, AtI p b slp xs H0 → IOCall EE 110 [.ptr (.l 0) 0, agg (encRun c0 r.tr r.tk r.s), sl (sleep.map encN)] H0 (fun q H1 => q = bv (xgo p b slp (yS p) n r sleep xs).2 ∧ H1 = wiH p b slp (xgo p b slp (yS p) n r sleep xs).1)
 | 0, r, c0, sleep, xs, hr, hn, hx, hs, H0, hH => by
  have := hr.le
  omega
 |n + 1, r, c0, sleep, xs, hr, hn, hx, hs, H0, hH => by
  have hok := runOK hg
  have hri := runI hg hv
  have hin : SInv p r.s ∧ r.s.flt := ⟨hr.inv.si, hr.inv.fl⟩
  have hsm := hok.small r.s hr.inv.si
  have hen := pO kJ p r.s hp hsm.1 (hok.seen r.s hr.inv.si)
  have hcode : CallsTo EE 141 [agg (encProg p), .fp (encSt r.s), sl ((enabledL p r.s).map encN), i64 ((r.tr.map encEv).length : Nat), i64 b] (· = i64 (codeL p r.s r.tr.length b)) := by
   rw [List.length_map]; exact codeOf_ok p r.s r.tr.length b hsm.1
  have h5 : (enabledL p r.s).length ≤ 5 := Nat.le_trans (enabledTo_le) hr.inv.si.len
  have hle := hr.le
  have hlen := hr.len
  have hb2 := hb.2
  rw [xgo]
  refine io_of_AW (fn := Tryz.f110) (c := Tryz.f110.body.getD .skip) Tryz.func110 rfl (by kernel_rfl) rfl ?_
  have hat : At [(0, .ptr (.l 0) 0), (1, agg (encRun c0 r.tr r.tk r.s)), (2, sl (sleep.map encN))] [(.l 0, .vs 143 (wiC p b slp xs.length)), (.n 950, .ds 78 7 (xs.map vB))] [] ⟨fun i => [AV.ptr (.l 0) 0, agg (encRun c0 r.tr r.tk r.s), sl (sleep.map encN)].getD i .junk, H0⟩ :=
   ⟨⟨rfl, rfl, rfl, trivial⟩, ⟨hH.1, hH.2, trivial⟩, trivial⟩
  obtain ⟨τ, H, hf⟩ := hat.form
  rw [hf]
  clear hat hf hH
  conv => whnf
  refine .inl ⟨_, hen, ?_⟩
  rintro q rfl
  refine ⟨fun c hc => ?_, .inl ?_⟩
  ·obtain ⟨y, _, rfl⟩ := List.mem_map.1 hc
   rfl
  conv => whnf
  refine .inl ⟨14, by kernel_rfl, ?_⟩
  conv => whnf
  refine ⟨_, hcode, rfl, ?_⟩
  conv => whnf
  refine kbi (fun hc => ?_) (fun hc => ?_)
  ·have hc : codeL p r.s r.tr.length b ≠ 0 := by simpa using hc
   have hc : 0 < codeL p r.s r.tr.length b := by have := codeL_nn p r.s r.tr.length b; omega
   rw [if_pos hc]
   conv => whnf
   refine .inr (.inr (.inr ⟨[0], by kernel_rfl, 7, [], ?_⟩))
   conv => whnf
   refine ⟨by kernel_rfl, ?_⟩
   conv => whnf
   refine ⟨⟨rfl, by show (xs.length + 1) * _ ≤ _; simp only [ti78]; omega, by show xs.length + 1 ≤ _; omega⟩, ?_⟩
   conv => whnf
   have fin : ∀ (S : Key → Option Ob), S (.l 0) = some (.vs 143 (wiC p b slp (xs.length + 1))) → S (.n 950) = some (.ds 78 7 ((xs.map vB).take xs.length ++ [vB (leaf p b (codeL p r.s r.tr.length b) r)])) → AtI p b slp (xs ++ [leaf p b (codeL p r.s r.tr.length b) r]) S := by
    intro S h0 h1
    rw [List.take_of_length_le (by simp)] at h1
    exact ⟨by rw [h0, List.length_append]; rfl, by rw [h1, List.map_append]; rfl⟩
   refine kbi (fun h4 => ?_) (fun h4 => ?_)
   ·have h4 : ((xs.length + 1 : Nat) : Int) ≤ 400 := of_decide_eq_true h4
    conv => whnf
    refine ⟨_, Weak.refl, ?_⟩
    conv => whnf
    refine ⟨lV, ?_, rC (fin _ rfl rfl)⟩
    show bv true = bv (decide (xs.length + 1 ≤ 400))
    rw [decide_eq_true (by omega)]
   ·have h4 : ¬ ((xs.length + 1 : Nat) : Int) ≤ 400 := fun e => h4 (decide_eq_true e)
    conv => whnf
    refine ⟨_, Weak.refl, ?_⟩
    conv => whnf
    refine ⟨lV, ?_, rC (fin _ rfl rfl)⟩
    show bv false = bv (decide (xs.length + 1 ≤ 400))
    rw [decide_eq_false (by omega)]
  ·have hc : ¬ 0 < codeL p r.s r.tr.length b := by simp at hc; omega
   rw [if_neg hc]
   have hcc : codeL p r.s r.tr.length b = 0 := by have := codeL_nn p r.s r.tr.length b; omega
   have hlb := (en_ne hc).2
   have hcl : CallsTo EE 145 [sl (sleep.map encN)] (· = .uq 3 1 (sleep.map encN)) := by
    rw [natI_enc]; exact CloneS_ok (natI sleep) (by simp [natI]; omega)
   conv => whnf
   refine ⟨_, hcl, ?_⟩
   rintro q rfl
   refine .inr ⟨_, rfl, ?_⟩
   conv => whnf
   refine aloopF (fun x : Nat × XS => [(0, .ptr (.l 0) 0), (2, sl (sleep.map encN)), (4, .ptr (.n 4) 0), (6, bv false), (7, sl ((enabledL p r.s).map encN)), (8, .ref (.n 57) 0 (sleep ++ x.2.tried).length), (58, sl ((enabledL p r.s).map encN)), (59, i64 ((enabledL p r.s).map encN).length), (60, i64 x.1)])
    (fun x => [(.l 0, .vs 143 (wiC p b slp x.2.acc.length)), (.n 950, .ds 78 7 (x.2.acc.map vB)), (.n 4, .vs 78 ((encRun 0 r.tr r.tk r.s).map .d)), (.n 57, .ds 3 1 ((sleep ++ x.2.tried).map encN))])
    (fun _ => [(900, fun _ => none)]) (fun x => (enabledL p r.s).length - x.1) (fun x => x.2.ok = true ∧ x.1 ≤ (enabledL p r.s).length ∧ xloop p slp (yS p) (xgo p b slp (yS p) n) r sleep xs x.1 = x.2) (0, ⟨xs, [], true⟩) (weak_frz isF9) ⟨rfl, rfl, rfl, rfl, rfl, ?_, rfl, rfl, rfl, trivial⟩ ⟨rfl, rfl, ?_, ?_, trivial⟩ ⟨fun j => rfl, trivial⟩ ⟨rfl, Nat.zero_le _, rfl⟩ ?_
   ·show AV.ref (.n 57) 0 (sleep.map encN).length = .ref (.n 57) 0 (sleep ++ []).length
    simp
   ·show some (Ob.vs 78 [i64 (codeL p r.s r.tr.length b), _, _, _, _, _, _]) = some (Ob.vs 78 [i64 0, _, _, _, _, _, _])
    rw [hcc]; rfl
   ·show some (Ob.ds 3 1 (sleep.map encN)) = some (Ob.ds 3 1 ((sleep ++ []).map encN))
    simp
   rintro ⟨k, ⟨acc, tried, okk⟩⟩ τ H ⟨hk0, hk, hXe⟩
   have hk0 : okk = true := hk0
   subst hk0
   have hk : k ≤ (enabledL p r.s).length := hk
   have hXe : xloop p slp (yS p) (xgo p b slp (yS p) n) r sleep xs k = ⟨acc, tried, true⟩ := hXe
   have hXl := xloop_len (p := p) (b := b) (sl := slp) (K := yS p) (n := n) (r := r) (sleep := sleep) hx k
   have hXt := xloop_tried (p := p) (sl := slp) (K := yS p) (f := xgo p b slp (yS p) n) (r := r) (sleep := sleep) (acc := xs) k hk
   rw [hXe] at hXl hXt
   have ha4 : acc.length ≤ 400 := hXl rfl
   clear hXl
   conv => whnf
   refine kbi (fun h => ?_) (fun h => ?_)
   ·have hlt : k < (enabledL p r.s).length := by simpa using h
    have hnx := xloop.eq_2 p slp (yS p) (xgo p b slp (yS p) n) r sleep xs k
    rw [hXe] at hnx
    have hm := XR.mem (b := b) hlt
    have hwl := en_lt hm
    have hnext := hr.step hg hv hc hlt
    have hst := stepI_ok kJ 78 (i64 0) (.d .nil) (.d .nil) (iZ _) (iZ _) (iZ _) p r.s (enAt p r k) hp hwl hsm.2 hsm.1 (hri.ready r.s hin _ hm hwl) (hri.awake r.s hin _ hm hwl) (hri.flt r.s hin _ (List.getElem_mem hwl)) (hri.joins r.s hin _ hm hwl)
    have hhas : CallsTo EE 146 [sl (sleep.map encN), i64 (enAt p r k : Nat)] (· = bp (((enAt p r k : Nat) : Int) ∈ natI sleep)) := by
     rw [natI_enc]; exact ContS_ok (natI sleep) _ (by simp [natI]; omega)
    have hmem : ((enAt p r k : Nat) : Int) ∈ natI sleep ↔ enAt p r k ∈ sleep := (kU (by omega)).trans (by simp)
    have hcE := CloneE_ok r.tr (by omega)
    have hcT := Clone_ok r.tk (by omega)
    have hLu : ∀ u ∈ tried, u ∈ enabledL p r.s := hXt.2
    have htl : tried.length ≤ k := hXt.1
    have hLb : (sleep ++ tried).length ≤ 5 * r.tr.length + 5 := by simp; omega
    conv => whnf
    refine ⟨encN (enAt p r k), ⟨by omega, en_get hlt, rfl⟩, ?_⟩
    obtain ⟨sq, hsq⟩ : ∃ sq : Bool, sq = slp := ⟨slp, rfl⟩
    cases slp
    case' true =>
     conv => whnf
     refine ocase hhas (fun hin' => ?_) (fun hin' => ?_)
    case true.refine_1 =>
     rw [if_pos (.inr ⟨rfl, hmem.1 hin'⟩)] at hnx
     conv => whnf
     refine ⟨(k + 1, ⟨acc, tried, true⟩), _, Weak.refl, ⟨rfl, hlt, hnx⟩, by show (enabledL p r.s).length - (k + 1) < (enabledL p r.s).length - k; omega, ⟨rfl, rfl, rfl, rfl, rfl, rfl, rfl, rfl, next_i64 hlt (by omega), trivial⟩, ⟨rfl, rfl, rfl, rfl, trivial⟩, ⟨fun j => rfl, trivial⟩⟩
    case' true.refine_2 => rw [if_neg (by rintro (e | ⟨_, e⟩); exact absurd e (by simp); exact hin' (hmem.2 e))] at hnx
    case' false => rw [if_neg (by rintro (e | ⟨e, _⟩); exact absurd e (by simp); exact absurd e (by simp))] at hnx
    all_goals
     conv => whnf
     refine ⟨_, eJ r.s hsm.1, ?_⟩
     rintro q rfl
     conv => whnf
     refine .inr (.inl ⟨11, 0, wT, _, hst _ ⟨?_, rfl, ?_, fun j => ?_, ?_, ?_⟩, rfl, ?_⟩)
     ·show some (Ob.vs 78 [i64 0, .d .nil, .d .nil, .dref (.n 900) (r.s.ths.map gR).length, .ref (.n 901) 0 (r.s.cells.map encF).length, .ref (.n 902) 0 (r.s.owner.map encInt).length, i64 r.s.fault]) = some (Ob.vs 78 [i64 0, .d .nil, .d .nil, .dref (.n 900) r.s.ths.length, .ref (.n 901) 0 r.s.cells.length, .ref (.n 902) 0 r.s.owner.length, i64 r.s.fault])
      rw [List.length_map, List.length_map, List.length_map]
     ·show some (Ob.rs 123 6 ((((thRows 900 r.s.ths).map (scrPL (isK (.n 11)))).map (renL (swp (.n 11) (.l 0)))).map (scrPL fun o => !wT o))) = _
      rw [zN (fun _ _ => rfl), yX]
      exact congrArg (fun x => some (Ob.rs 123 6 x)) (zN fun _ _ => rfl)
     ·refine (congrArg (fun x => Option.map (scrPO (fun o => !wT o)) (Option.map (renO (swp (.n 11) (.l 0))) (Option.map (scrPO (isK (.n 11))) x))) (lL r.s j)).trans ?_
      show Option.map _ (Option.map _ (Option.map _ (zM r.s.ths j))) = _
      rw [zS, thFam_ren, zS]
     ·rfl
     ·rfl
     rintro q H1 ⟨rfl, rfl⟩
     refine ⟨jB, fun n hn => ?_, ?_⟩
     ·have : n = 0 := by simpa [wT] using hn
      subst this
      exact ⟨78, _, _, rfl, rfl⟩
     conv => whnf
     refine .inr (.inl ⟨16, [], ?_⟩)
     conv => whnf
     refine ⟨_, hcE, ?_⟩
     refine .inr ⟨_, rfl, ?_⟩
     conv => whnf
     refine ⟨⟨by simp [encEv], by simp; omega, by simp; omega⟩, ?_⟩
     conv => whnf
     refine ⟨_, hcT, ?_⟩
     refine .inr ⟨_, rfl, ?_⟩
     conv => whnf
     refine ⟨⟨rfl, by simp; omega, by simp; omega⟩, ?_⟩
     conv => whnf
     refine ⟨by kernel_rfl, ?_⟩
     conv => whnf
     generalize hLe : sleep ++ tried = L at *
     refine aloopF (fun j : Nat => [(0, .ptr (.l 0) 0), (2, sl (sleep.map encN)), (4, .ptr (.n 4) 0), (6, bv false), (7, sl ((enabledL p r.s).map encN)), (8, .ref (.n 57) 0 L.length), (9, i64 k), (10, i64 (enAt p r k : Nat)), (11, .ptr (.n 11) 0), (12, .ptr (.n 12) 0), (13, .ref (.n 99) 0 (keptBy (yS p) r.s (L.take j) (stepL p r.s (enAt p r k)).2).length), (58, sl ((enabledL p r.s).map encN)), (59, i64 ((enabledL p r.s).map encN).length), (60, i64 k), (100, .ref (.n 57) 0 L.length), (101, i64 L.length), (102, i64 j)])
      (fun j => wiO2 p b sq r acc L (keptBy (yS p) r.s (L.take j) (stepL p r.s (enAt p r k)).2) (runBy p r k) (stepL p r.s (enAt p r k)).2)
      (fun _ => [(900, zM (runBy p r k).s.ths)]) (fun j => L.length - j) (fun j => j ≤ L.length) 0 Weak.refl ⟨rfl, rfl, rfl, rfl, rfl, rfl, rfl, rfl, rfl, rfl, rfl, rfl, rfl, rfl, rfl, rfl, rfl, trivial⟩ ⟨by rw [hsq]; rfl, rfl, rfl, rfl, ?_, ?_, ?_, ?_, ?_, ?_, ?_, rfl, trivial⟩ ⟨fun j => ?_, trivial⟩ (Nat.zero_le _) ?_
     ·show some (Ob.vs 78 ([i64 0, .ref (.n 87) 0 ((r.tr.map encEv).length + 1), .ref (.n 93) 0 ((r.tk.map encInt).length + 1)] ++ stRef (stepL p r.s (enAt p r k)).1)) = some (Ob.vs 78 ([i64 0, .ref (.n 87) 0 (r.tr ++ [(stepL p r.s (enAt p r k)).2]).length, .ref (.n 93) 0 (r.tk ++ [(k : Int)]).length] ++ stRef (stepL p r.s (enAt p r k)).1))
      simp
     ·show some (Ob.ds 120 5 ((r.tr.map encEv).take (r.tr.map encEv).length ++ [encEv (stepL p r.s (enAt p r k)).2])) = some (Ob.ds 120 5 ((r.tr ++ [(stepL p r.s (enAt p r k)).2]).map encEv))
      rw [List.take_length, List.map_append]; rfl
     ·show some (Ob.ds 3 1 ((r.tk.map encInt).take (r.tk.map encInt).length ++ [[di (k : Int)]])) = some (Ob.ds 3 1 ((r.tk ++ [(k : Int)]).map encInt))
      rw [List.take_length, List.map_append]; rfl
     ·conv => lhs; whnf
      refine congrArg some ?_
      repeat (first | exact rfl | exact congrArg (Ob.rs 123 6) (yX 11 0 900 _) | refine yD ?_ (congrArg (Ob.rs 123 6) (zN fun _ _ => rfl)))
     ·rfl
     ·rfl
     ·rfl
     ·conv => lhs; whnf
      repeat (first | exact rfl | exact thFam_ren _ _ _ | (refine hscrO ?_ (zS _ _ _); conv => lhs; whnf))
     intro j τ H hj
     have hj : j ≤ L.length := hj
     have hkl : (keptBy (yS p) r.s (L.take j) (stepL p r.s (enAt p r k)).2).length ≤ j := Nat.le_trans (List.length_filter_le _ _) (by simp; omega)
     conv => whnf
     refine kbi (fun h => ?_) (fun h => ?_)
     ·have hjl : j < L.length := by have := of_decide_eq_true h; omega
      have hhg := hangI_ok (stepL p r.s L[j]).2 (stepL p r.s (enAt p r k)).2
      have hjt : L.take (j + 1) = L.take j ++ [L[j]] := List.take_succ_eq_append_getElem hjl
      have hkj : keptBy (yS p) r.s (L.take (j + 1)) (stepL p r.s (enAt p r k)).2 = keptBy (yS p) r.s (L.take j) (stepL p r.s (enAt p r k)).2 ++ keptBy (yS p) r.s [L[j]] (stepL p r.s (enAt p r k)).2 := by
       rw [hjt]; unfold keptBy; rw [List.filter_append]
      have hin3 : CallsTo EE 113 [sl ((enabledL p r.s).map encN), i64 (L[j] : Nat)] (· = bp (((L[j] : Nat) : Int) ∈ natI (enabledL p r.s))) := by
       rw [natI_enc]; exact ContA_ok (natI _) _ (by simp [natI]; omega)
      have hme : ((L[j] : Nat) : Int) ∈ natI (enabledL p r.s) ↔ L[j] ∈ enabledL p r.s := (kU (by omega)).trans (by simp)
      conv => whnf
      refine ⟨⟨by omega, by omega⟩, ?_⟩
      conv => whnf
      refine ⟨encN L[j], ⟨by simp [hjl], Nat.le_refl _⟩, ?_⟩
      conv => whnf
      refine ⟨by kernel_rfl, ?_⟩
      conv => whnf
      refine qcase hin3 (fun h3 => ?_) (fun h3 => ?_)
      ·have hev := iV p hp hg hv r.s hr.inv L[j] (hme.1 h3) b sq
       conv => whnf
       refine ⟨_, hev _, fun c hc' => ?_, ?_⟩
       ·obtain ⟨y, hy, rfl⟩ := List.mem_map.1 hc'
        simp only [encEv, List.mem_cons, List.not_mem_nil, or_false] at hy
        rcases hy with rfl | rfl | rfl | rfl | rfl <;> exact ⟨_, rfl, rfl⟩
       conv => whnf
       refine qcase hhg (fun hh => ?_) (fun hh => ?_)
       ·have hkn : keptBy (yS p) r.s [L[j]] (stepL p r.s (enAt p r k)).2 = [] := by simp [keptBy, yS, hh, hme.1 h3]
        rw [hkn, List.append_nil] at hkj
        conv => whnf
        refine ⟨j + 1, _, Weak.refl, hjl, by show L.length - (j + 1) < L.length - j; omega, ⟨rfl, rfl, rfl, rfl, rfl, rfl, rfl, rfl, rfl, rfl, ?_, rfl, rfl, rfl, rfl, rfl, next_i64 hjl (by omega), trivial⟩, ⟨rfl, rfl, rfl, rfl, rfl, rfl, rfl, rfl, rfl, rfl, rfl, ?_, trivial⟩, ⟨fun j' => rfl, trivial⟩⟩
        ·show AV.ref (.n 99) 0 (keptBy (yS p) r.s (L.take j) _).length = .ref (.n 99) 0 (keptBy (yS p) r.s (L.take (j + 1)) _).length
         rw [hkj]
        ·show some (Ob.ds 3 1 ((keptBy (yS p) r.s (L.take j) _).map encN)) = some (Ob.ds 3 1 ((keptBy (yS p) r.s (L.take (j + 1)) _).map encN))
         rw [hkj]
       ·have hkp : yS p r.s L[j] (stepL p r.s (enAt p r k)).2 := fun e => hh e.2
        have hkn : keptBy (yS p) r.s [L[j]] (stepL p r.s (enAt p r k)).2 = [L[j]] := by simp [keptBy, hkp]
        rw [hkn] at hkj
        conv => whnf
        refine ⟨⟨rfl, by show (_ + 1) * 8 ≤ _; omega, by show _ + 1 ≤ _; omega⟩, ?_⟩
        conv => whnf
        refine ⟨j + 1, _, Weak.refl, hjl, by show L.length - (j + 1) < L.length - j; omega, ⟨rfl, rfl, rfl, rfl, rfl, rfl, rfl, rfl, rfl, rfl, ?_, rfl, rfl, rfl, rfl, rfl, next_i64 hjl (by omega), trivial⟩, ⟨rfl, rfl, rfl, rfl, rfl, rfl, rfl, ?_, rfl, rfl, rfl, ?_, trivial⟩, ⟨fun j' => ?_, trivial⟩⟩
        ·show AV.ref (.n 99) 0 ((keptBy (yS p) r.s (L.take j) (stepL p r.s (enAt p r k)).2).length + 1) = .ref (.n 99) 0 (keptBy (yS p) r.s (L.take (j + 1)) _).length
         rw [hkj, List.length_append]; rfl
        ·show some (Ob.rs 123 6 (((thRows 900 (runBy p r k).s.ths).map (scrPL (isK (.n 122)))).map (scrPL (isK (.n 99))))) = _
         rw [zN (fun _ _ => rfl)]
         exact congrArg (fun x => some (Ob.rs 123 6 x)) (zN fun _ _ => rfl)
        ·show some (Ob.ds 3 1 (((keptBy (yS p) r.s (L.take j) (stepL p r.s (enAt p r k)).2).map encN).take _ ++ [encN L[j]])) = some (Ob.ds 3 1 ((keptBy (yS p) r.s (L.take (j + 1)) (stepL p r.s (enAt p r k)).2).map encN))
         rw [hkj, List.take_of_length_le (by simp), List.map_append]; rfl
        ·show Option.map (scrPO (isK (.n 99))) (Option.map (scrPO (isK (.n 122))) (zM (runBy p r k).s.ths j')) = zM (runBy p r k).s.ths j'
         rw [zS, zS]
      ·have hkp : yS p r.s L[j] (stepL p r.s (enAt p r k)).2 := fun e => h3 (hme.2 e.1)
       have hkn : keptBy (yS p) r.s [L[j]] (stepL p r.s (enAt p r k)).2 = [L[j]] := by simp [keptBy, hkp]
       rw [hkn] at hkj
       conv => whnf
       refine ⟨⟨rfl, by show (_ + 1) * 8 ≤ _; omega, by show _ + 1 ≤ _; omega⟩, ?_⟩
       conv => whnf
       refine ⟨j + 1, _, Weak.refl, hjl, by show L.length - (j + 1) < L.length - j; omega, ⟨rfl, rfl, rfl, rfl, rfl, rfl, rfl, rfl, rfl, rfl, ?_, rfl, rfl, rfl, rfl, rfl, next_i64 hjl (by omega), trivial⟩, ⟨rfl, rfl, rfl, rfl, rfl, rfl, rfl, ?_, rfl, rfl, rfl, ?_, trivial⟩, ⟨fun j' => ?_, trivial⟩⟩
       ·show AV.ref (.n 99) 0 ((keptBy (yS p) r.s (L.take j) (stepL p r.s (enAt p r k)).2).length + 1) = .ref (.n 99) 0 (keptBy (yS p) r.s (L.take (j + 1)) _).length
        rw [hkj, List.length_append]; rfl
       ·show some (Ob.rs 123 6 (((thRows 900 (runBy p r k).s.ths).map (scrPL (isK (.n 122)))).map (scrPL (isK (.n 99))))) = _
        rw [zN (fun _ _ => rfl)]
        exact congrArg (fun x => some (Ob.rs 123 6 x)) (zN fun _ _ => rfl)
       ·show some (Ob.ds 3 1 (((keptBy (yS p) r.s (L.take j) (stepL p r.s (enAt p r k)).2).map encN).take _ ++ [encN L[j]])) = some (Ob.ds 3 1 ((keptBy (yS p) r.s (L.take (j + 1)) (stepL p r.s (enAt p r k)).2).map encN))
        rw [hkj, List.take_of_length_le (by simp), List.map_append]; rfl
       ·show Option.map (scrPO (isK (.n 99))) (Option.map (scrPO (isK (.n 122))) (zM (runBy p r k).s.ths j')) = zM (runBy p r k).s.ths j'
        rw [zS, zS]
     ·have hge : j = L.length := by
       have : ¬ (j : Int) < L.length := fun e => h (decide_eq_true e)
       omega
      subst hge
      have hon : keptBy (yS p) r.s (L.take L.length) (stepL p r.s (enAt p r k)).2 = keptBy (yS p) r.s L (stepL p r.s (enAt p r k)).2 := by rw [List.take_length]
      subst hsq
      have hkk : (keptBy (yS p) r.s L (stepL p r.s (enAt p r k)).2).length ≤ 5 * (runBy p r k).tr.length := by
       have : (keptBy (yS p) r.s L (stepL p r.s (enAt p r k)).2).length ≤ L.length := List.length_filter_le _ _
       have e : (runBy p r k).tr.length = r.tr.length + 1 := by simp [runBy]
       omega
      have hfu : b.toNat + 1 - (runBy p r k).tr.length = n := by
       have e : (runBy p r k).tr.length = r.tr.length + 1 := by simp [runBy]
       omega
      conv => whnf
      refine .inr (.inr (.inl ⟨_, 110, [], (weak_frz (fun κ => isSt κ || isK (.n 87) κ || isK (.n 93) κ || isK (.n 99) κ)).trans ((weak_cvt (.n 900) (e := 123) (sz := 6) (els := (runBy p r k).s.ths.map zE) ?_).trans (weak_frz (isK (.n 900)))), rfl, 999, 99, lV, _,
       io_congr (walk_ok p hp hg hv b hb _ n (runBy p r k) 0 (keptBy (yS p) r.s L (stepL p r.s (enAt p r k)).2) acc hnext hfu ha4 hkk _ ⟨rfl, rfl⟩) ?_, rfl, ?_⟩))
      ·exact congrArg (fun x => some (Ob.rs 123 6 x)) (rK (fun _ => rfl) fun j => rfl)
      ·show [AV.ptr (.l 0) 0, AV.agg [i64 0, sl _, sl _, sl _, sl _, sl _, i64 (runBy p r k).s.fault], sl _] = [AV.ptr (.l 0) 0, AV.agg [i64 0, sl _, sl _, sl _, sl _, sl _, i64 (runBy p r k).s.fault], sl _]
       refine args5 ?_ ?_ ?_ ?_ ?_ ?_
       all_goals simp [List.take_of_length_le]
      rintro q H1 ⟨rfl, rfl⟩
      refine ⟨rG, fun n hn => ?_, ?_⟩
      ·have : n = 0 := Nat.eq_of_beq_eq_true hn
       subst this
       exact ⟨143, _, _, rfl, rfl⟩
      generalize hX : xgo p b _ (yS p) n (runBy p r k) (keptBy (yS p) r.s L (stepL p r.s (enAt p r k)).2) acc = X at *
      obtain ⟨ys, okk⟩ := X
      cases okk with
      |false =>
       have hfin := (xloop_stay (k := k + 1) (by rw [hnx]) (enabledL p r.s).length (by omega)).trans hnx
       rw [hfin]
       conv => whnf
       refine ⟨_, Weak.refl, ?_⟩
       conv => whnf
       exact ⟨lV, rfl, rC ⟨rfl, rfl⟩⟩
      |true =>
       conv => whnf
       refine ⟨⟨rfl, by show (L.length + 1) * 8 ≤ _; omega, by show L.length + 1 ≤ _; omega⟩, ?_⟩
       conv => whnf
       refine ⟨(k + 1, ⟨ys, tried ++ [enAt p r k], true⟩), _, Weak.refl, ⟨rfl, hlt, hnx⟩, by show (enabledL p r.s).length - (k + 1) < (enabledL p r.s).length - k; omega, ⟨rfl, rfl, rfl, rfl, rfl, ?_, rfl, rfl, next_i64 hlt (by omega), trivial⟩, ⟨rfl, rfl, rfl, ?_, trivial⟩, ⟨fun j => rfl, trivial⟩⟩
       ·show AV.ref (.n 57) 0 (L.length + 1) = .ref (.n 57) 0 (sleep ++ (tried ++ [enAt p r k])).length
        rw [← List.append_assoc, hLe, List.length_append]; rfl
       ·show some (Ob.ds 3 1 ((L.map encN).take L.length ++ [encN (enAt p r k)])) = some (Ob.ds 3 1 ((sleep ++ (tried ++ [enAt p r k])).map encN))
        rw [List.take_of_length_le (by simp), ← List.append_assoc, hLe, List.map_append]; rfl
   ·have hge : k = (enabledL p r.s).length := by
     have : ¬ (k : Int) < ((enabledL p r.s).map encN).length := fun e => h (decide_eq_true e)
     simp at this; omega
    rw [← hge, hXe]
    conv => whnf
    refine ⟨_, Weak.refl, ?_⟩
    conv => whnf
    exact ⟨lV, rfl, rC ⟨rfl, rfl⟩⟩
end Ai
end
section
set_option maxRecDepth 100000
namespace Ai
open Go Go.Proofs Cyc
def oPre (p : ProgL) (x : RunT) (s : StL) : List (Key × Ob) := [(.n 2, .vs 31 ((encProg p).map .d)), (.n 3, .vs 78 ((vB x).map .d)), (.n 6, .vs 76 (stRef s)), (.n 900, .rs 123 6 (thRows 900 s.ths)), (.n 901, .ds 105 1 (s.cells.map encF)), (.n 902, .ds 3 1 (s.owner.map encInt))]
theorem fz_at {S : St} {s : StL} {k : Nat} (h8 : S.H (.n k) = some (.vs 76 (stRef s))) (h : StAt 900 s S) : FzA S (.ptr (.n k) 0) (.fp (encSt s)) := y9 h8 (fz_st h rfl rfl rfl)
theorem preI_ok (p : ProgL) (hp : p.wf) (hg : p.goodS) (hv : p.flt) (b : Int) (hb : b ≤ 1000) (x : RunT) (hx : XEnd p b x) : CallsTo EE 69 [agg (encProg p), agg (vB x)] (· = i64 (cF p x : Nat)) := by
 obtain ⟨b1, b2, b3, b4⟩ := hg.1
 have hok := runOK hg
 have hri := runI hg hv
 have hle : (x.tr.length : Int) ≤ b := hx.fin.le
 refine callsTo_of_AW (fn := Tryz.f69) Tryz.func69 rfl (by kernel_rfl) rfl ?_
 conv => whnf
 refine ⟨_, w6 p ⟨b1.1, by have := b1.2; omega⟩ ⟨b2.1, by have := b2.2; omega⟩, ?_⟩
 rintro r rfl
 conv => whnf
 refine aloopF (fun k : Nat => [(2, .ptr (.n 2) 0), (3, .ptr (.n 3) 0), (4, i64 0), (5, i64 (uQ p x.tr k : Nat)), (6, .ptr (.n 6) 0), (13, sl (x.tr.map encEv)), (14, i64 (x.tr.map encEv).length), (15, i64 k)])
  (fun k => oPre p x (xD p x.tr k)) (fun k => [(900, zM (xD p x.tr k).ths)]) (fun k => x.tr.length - k) (fun k => k ≤ x.tr.length) 0 .refl
  ⟨rfl, rfl, rfl, rfl, rfl, rfl, rfl, rfl, trivial⟩ ⟨rfl, rfl, ?_, ?_, ?_, ?_, trivial⟩ ⟨fun j => ?_, trivial⟩ (Nat.zero_le _) ?_
 ·show some (Ob.vs 76 [.dref (.n 900) ((xS p).ths.map gR).length, .ref (.n 901) 0 ((xS p).cells.map encF).length, .ref (.n 902) 0 ((xS p).owner.map encInt).length, i64 0]) = some (Ob.vs 76 [.dref (.n 900) (xS p).ths.length, .ref (.n 901) 0 (xS p).cells.length, .ref (.n 902) 0 (xS p).owner.length, i64 0])
  rw [List.length_map, List.length_map, List.length_map]
 ·conv => lhs; whnf
  refine congrArg some ?_
  repeat (first | exact rfl | refine yD ?_ (congrArg (Ob.rs 123 6) (zN fun _ _ => rfl)))
 ·rfl
 ·rfl
 ·conv => lhs; whnf
  repeat (first | exact lL (xS p) j | (refine hscrO ?_ (zS _ _ _); conv => lhs; whnf))
 rintro k τ H hk
 have hk : k ≤ x.tr.length := hk
 have hai := rN hg hv hx.en k hk
 have hin : SInv p (xD p x.tr k) ∧ (xD p x.tr k).flt := ⟨hai.si, hai.fl⟩
 have hsm := hok.small _ hai.si
 have hen := pO kJ p (xD p x.tr k) hp hsm.1 (hok.seen _ hai.si)
 have h5 : (enabledL p (xD p x.tr k)).length ≤ 5 := Nat.le_trans (enabledTo_le) hai.si.len
 have hpl := rY p x.tr k
 conv => whnf
 refine kbi (fun h => ?_) (fun h => ?_)
 ·have hlt : k < x.tr.length := by simpa using h
  have hme := hx.en k hlt
  rw [vO hlt] at hme
  have hkl := en_lt hme.1
  have hst := fun H0 hH => cX kJ 76 p (xD p x.tr k) x.tr[k].th.toNat hp hkl hsm.2 hsm.1 (hri.ready _ hin _ hme.1 hkl) (hri.awake _ hin _ hme.1 hkl) (hri.flt _ hin _ (List.getElem_mem hkl)) (hri.joins _ hin _ hme.1 hkl) H0 hH
  rw [Int.toNat_of_nonneg hme.2] at hst
  have hS : xD p x.tr (k + 1) = (stepL p (xD p x.tr k) x.tr[k].th.toNat).1 := by rw [xD, vO hlt]
  have hP : uQ p x.tr (k + 1) = uQ p x.tr k + (if 0 < k ∧ (x.tr.getD (k - 1) vH).th ≠ x.tr[k].th ∧ (x.tr.getD (k - 1) vH).th.toNat ∈ enabledL p (xD p x.tr k) then 1 else 0) := by rw [uQ, vO hlt]
  generalize hs : xD p x.tr k = s at *
  generalize hs1 : xD p x.tr (k + 1) = s1 at *
  generalize hpk1 : uQ p x.tr (k + 1) = c1 at *
  generalize hpk : uQ p x.tr k = c at *
  conv => whnf
  refine ⟨encEv x.tr[k], yC encEv hlt rfl, ?_⟩
  conv => whnf
  refine kbi (fun h0 => ?_) (fun h0 => ?_)
  ·have h0 : 0 < k := by have : (k : Int) > 0 := of_decide_eq_true h0; omega
   have hl1 : k - 1 < x.tr.length := by omega
   rw [vO hl1] at hP
   have hth := (hx.en (k - 1) hl1).2
   rw [vO hl1] at hth
   have hhas : CallsTo EE 113 [sl ((enabledL p s).map encN), i64 x.tr[k-1].th] (· = bp (x.tr[k-1].th ∈ natI (enabledL p s))) := by
    rw [natI_enc]; exact ContA_ok (natI _) _ (by simp [natI]; omega)
   have hwr : IntKind.i64.wrap ((k : Int) - 1) = ((k - 1 : Nat) : Int) := by rw [zH (by omega) (by omega)]; omega
   conv => whnf
   refine ⟨encEv x.tr[k - 1], ⟨by rw [hwr]; omega, by rw [hwr]; simp [hl1], rfl⟩, ?_⟩
   conv => whnf
   refine kbi (fun h1 => ?_) (fun h1 => ?_)
   ·have h1 : x.tr[k - 1].th ≠ x.tr[k].th := by simpa using h1
    conv => whnf
    refine .inl ⟨[.fp (encSt s), agg (encProg p)], [], _, ⟨_, _, rfl, fz_at rfl ⟨congrArg (fun x => some (Ob.rs 123 6 x)) (zN fun _ _ => rfl), fun j hj => (congrArg (Option.map (scrPO (isK (.n 8)))) (thFam_self hj)).trans rfl, rfl, rfl⟩, _, _, rfl, fz_prog p, rfl⟩, rfl, hen, ?_⟩
    rintro r rfl
    refine ⟨?_, .inl ?_⟩
    ·intro c hc
     obtain ⟨y, _, rfl⟩ := List.mem_map.1 hc
     rfl
    conv => whnf
    refine ocase hhas (fun h2 => ?_) (fun h2 => ?_)
    ·rw [if_pos ⟨h0, h1, (kU hth).1 h2⟩] at hP
     conv => whnf
     refine ⟨_, wR true, ?_⟩
     rintro r rfl
     conv => whnf
     refine .inr (.inl ⟨6, 0, wT, _, hst _ ⟨rfl, rfl, ?_, fun j => ?_, rfl, rfl⟩, rfl, ?_⟩)
     ·show some (Ob.rs 123 6 ((((thRows 900 s.ths).map (scrPL (isK (.n 8)))).map (renL (swp (.n 6) (.l 0)))).map (scrPL fun o => !wT o))) = _
      rw [zN (fun _ _ => rfl), yX]
      exact congrArg (fun x => some (Ob.rs 123 6 x)) (zN fun _ _ => rfl)
     ·show Option.map (scrPO (fun o => !wT o)) (Option.map (renO (swp (.n 6) (.l 0))) (Option.map (scrPO (isK (.n 8))) (zM s.ths j))) = zM s.ths j
      rw [zS, thFam_ren, zS]
     rintro q H1 ⟨rfl, rfl⟩
     refine ⟨jB, fun n hn => ?_, ?_⟩
     ·have : n = 0 := by simpa [wT] using hn
      subst this
      exact ⟨76, _, _, rfl, rfl⟩
     conv => whnf
     refine ⟨k + 1, _, Weak.refl, hlt, by show x.tr.length - (k + 1) < x.tr.length - k; omega, ⟨rfl, rfl, rfl, ?_, rfl, rfl, rfl, next_i64 hlt (by omega), trivial⟩, ⟨rfl, rfl, ?_, ?_, ?_, ?_, trivial⟩, ⟨fun j => ?_, trivial⟩⟩
     ·show _ = i64 (uQ p x.tr (k + 1) : Nat)
      rw [hpk1, hP]
      exact next_i64 (n := 1048576) (by omega) (by omega)
     ·show _ = some (Ob.vs 76 (stRef (xD p x.tr (k + 1))))
      rw [hs1, hS]; rfl
     ·show _ = some (Ob.rs 123 6 (thRows 900 (xD p x.tr (k + 1)).ths))
      rw [hs1, hS]
      exact congrArg (fun x => some (Ob.rs 123 6 x)) (yX 6 0 900 _)
     ·show _ = some (Ob.ds 105 1 ((xD p x.tr (k + 1)).cells.map encF))
      rw [hs1, hS]; rfl
     ·show _ = some (Ob.ds 3 1 ((xD p x.tr (k + 1)).owner.map encInt))
      rw [hs1, hS]; rfl
     ·show _ = zM (xD p x.tr (k + 1)).ths j
      rw [hs1, hS]
      exact thFam_ren (swp (.n 6) (.l 0)) _ j
    ·rw [if_neg (fun e => h2 ((kU hth).2 e.2.2)), Nat.add_zero] at hP
     conv => whnf
     refine ⟨_, wR false, ?_⟩
     rintro r rfl
     conv => whnf
     refine .inr (.inl ⟨6, 0, wT, _, hst _ ⟨rfl, rfl, ?_, fun j => ?_, rfl, rfl⟩, rfl, ?_⟩)
     ·show some (Ob.rs 123 6 ((((thRows 900 s.ths).map (scrPL (isK (.n 8)))).map (renL (swp (.n 6) (.l 0)))).map (scrPL fun o => !wT o))) = _
      rw [zN (fun _ _ => rfl), yX]
      exact congrArg (fun x => some (Ob.rs 123 6 x)) (zN fun _ _ => rfl)
     ·show Option.map (scrPO (fun o => !wT o)) (Option.map (renO (swp (.n 6) (.l 0))) (Option.map (scrPO (isK (.n 8))) (zM s.ths j))) = zM s.ths j
      rw [zS, thFam_ren, zS]
     rintro q H1 ⟨rfl, rfl⟩
     refine ⟨jB, fun n hn => ?_, ?_⟩
     ·have : n = 0 := by simpa [wT] using hn
      subst this
      exact ⟨76, _, _, rfl, rfl⟩
     conv => whnf
     refine ⟨k + 1, _, Weak.refl, hlt, by show x.tr.length - (k + 1) < x.tr.length - k; omega, ⟨rfl, rfl, rfl, ?_, rfl, rfl, rfl, next_i64 hlt (by omega), trivial⟩, ⟨rfl, rfl, ?_, ?_, ?_, ?_, trivial⟩, ⟨fun j => ?_, trivial⟩⟩
     ·show _ = i64 (uQ p x.tr (k + 1) : Nat)
      rw [hpk1, hP]
      show AV.d (.int .i64 (IntKind.i64.wrap ((c : Int) + 0))) = _; rw [Int.add_zero, zH (by omega) (by omega)]
     ·show _ = some (Ob.vs 76 (stRef (xD p x.tr (k + 1))))
      rw [hs1, hS]; rfl
     ·show _ = some (Ob.rs 123 6 (thRows 900 (xD p x.tr (k + 1)).ths))
      rw [hs1, hS]
      exact congrArg (fun x => some (Ob.rs 123 6 x)) (yX 6 0 900 _)
     ·show _ = some (Ob.ds 105 1 ((xD p x.tr (k + 1)).cells.map encF))
      rw [hs1, hS]; rfl
     ·show _ = some (Ob.ds 3 1 ((xD p x.tr (k + 1)).owner.map encInt))
      rw [hs1, hS]; rfl
     ·show _ = zM (xD p x.tr (k + 1)).ths j
      rw [hs1, hS]
      exact thFam_ren (swp (.n 6) (.l 0)) _ j
   ·have h1 : x.tr[k - 1].th = x.tr[k].th := by simpa using h1
    rw [if_neg (fun e => e.2.1 h1), Nat.add_zero] at hP
    conv => whnf
    refine ⟨_, wR false, ?_⟩
    rintro r rfl
    conv => whnf
    refine .inr (.inl ⟨6, 0, wT, _, hst _ ⟨rfl, rfl, ?_, fun j => ?_, rfl, rfl⟩, rfl, ?_⟩)
    ·show some (Ob.rs 123 6 ((((thRows 900 s.ths).map (scrPL (isK (.n 8)))).map (renL (swp (.n 6) (.l 0)))).map (scrPL fun o => !wT o))) = _
     rw [zN (fun _ _ => rfl), yX]
     exact congrArg (fun x => some (Ob.rs 123 6 x)) (zN fun _ _ => rfl)
    ·show Option.map (scrPO (fun o => !wT o)) (Option.map (renO (swp (.n 6) (.l 0))) (Option.map (scrPO (isK (.n 8))) (zM s.ths j))) = zM s.ths j
     rw [zS, thFam_ren, zS]
    rintro q H1 ⟨rfl, rfl⟩
    refine ⟨jB, fun n hn => ?_, ?_⟩
    ·have : n = 0 := by simpa [wT] using hn
     subst this
     exact ⟨76, _, _, rfl, rfl⟩
    conv => whnf
    refine ⟨k + 1, _, Weak.refl, hlt, by show x.tr.length - (k + 1) < x.tr.length - k; omega, ⟨rfl, rfl, rfl, ?_, rfl, rfl, rfl, next_i64 hlt (by omega), trivial⟩, ⟨rfl, rfl, ?_, ?_, ?_, ?_, trivial⟩, ⟨fun j => ?_, trivial⟩⟩
    ·show _ = i64 (uQ p x.tr (k + 1) : Nat)
     rw [hpk1, hP]
     show AV.d (.int .i64 (IntKind.i64.wrap ((c : Int) + 0))) = _; rw [Int.add_zero, zH (by omega) (by omega)]
    ·show _ = some (Ob.vs 76 (stRef (xD p x.tr (k + 1))))
     rw [hs1, hS]; rfl
    ·show _ = some (Ob.rs 123 6 (thRows 900 (xD p x.tr (k + 1)).ths))
     rw [hs1, hS]
     exact congrArg (fun x => some (Ob.rs 123 6 x)) (yX 6 0 900 _)
    ·show _ = some (Ob.ds 105 1 ((xD p x.tr (k + 1)).cells.map encF))
     rw [hs1, hS]; rfl
    ·show _ = some (Ob.ds 3 1 ((xD p x.tr (k + 1)).owner.map encInt))
     rw [hs1, hS]; rfl
    ·show _ = zM (xD p x.tr (k + 1)).ths j
     rw [hs1, hS]
     exact thFam_ren (swp (.n 6) (.l 0)) _ j
  ·have h0 : ¬ 0 < k := by
    intro e; apply h0; apply decide_eq_true; show (k : Int) > 0; omega
   rw [if_neg (fun e => h0 e.1), Nat.add_zero] at hP
   conv => whnf
   refine .inr (.inl ⟨6, 0, wT, _, hst _ ⟨rfl, rfl, ?_, fun j => ?_, rfl, rfl⟩, rfl, ?_⟩)
   ·show some (Ob.rs 123 6 ((((thRows 900 s.ths).map (scrPL (isK (.n 8)))).map (renL (swp (.n 6) (.l 0)))).map (scrPL fun o => !wT o))) = _
    rw [zN (fun _ _ => rfl), yX]
    exact congrArg (fun x => some (Ob.rs 123 6 x)) (zN fun _ _ => rfl)
   ·show Option.map (scrPO (fun o => !wT o)) (Option.map (renO (swp (.n 6) (.l 0))) (Option.map (scrPO (isK (.n 8))) (zM s.ths j))) = zM s.ths j
    rw [zS, thFam_ren, zS]
   rintro q H1 ⟨rfl, rfl⟩
   refine ⟨jB, fun n hn => ?_, ?_⟩
   ·have : n = 0 := by simpa [wT] using hn
    subst this
    exact ⟨76, _, _, rfl, rfl⟩
   conv => whnf
   refine ⟨k + 1, _, Weak.refl, hlt, by show x.tr.length - (k + 1) < x.tr.length - k; omega, ⟨rfl, rfl, rfl, ?_, rfl, rfl, rfl, next_i64 hlt (by omega), trivial⟩, ⟨rfl, rfl, ?_, ?_, ?_, ?_, trivial⟩, ⟨fun j => ?_, trivial⟩⟩
   ·show _ = i64 (uQ p x.tr (k + 1) : Nat)
    rw [hpk1, hP]
    rfl
   ·show _ = some (Ob.vs 76 (stRef (xD p x.tr (k + 1))))
    rw [hs1, hS]; rfl
   ·show _ = some (Ob.rs 123 6 (thRows 900 (xD p x.tr (k + 1)).ths))
    rw [hs1, hS]
    exact congrArg (fun x => some (Ob.rs 123 6 x)) (yX 6 0 900 _)
   ·show _ = some (Ob.ds 105 1 ((xD p x.tr (k + 1)).cells.map encF))
    rw [hs1, hS]; rfl
   ·show _ = some (Ob.ds 3 1 ((xD p x.tr (k + 1)).owner.map encInt))
    rw [hs1, hS]; rfl
   ·show _ = zM (xD p x.tr (k + 1)).ths j
    rw [hs1, hS]
    exact thFam_ren (swp (.n 6) (.l 0)) _ j
 ·have hge : k = x.tr.length := by
   have : ¬ (k : Int) < (x.tr.map encEv).length := fun e => h (decide_eq_true e)
   simp at this; omega
  subst hge
  conv => whnf
  rfl
end Ai
end
section
set_option maxRecDepth 100000
namespace Ai
open Go Go.Proofs Cyc
theorem allI_eq (p : ProgL) (b : Int) : xgo p b false (yS p) (b.toNat + 1) ⟨0, [], [], xS p⟩ [] [] = uO p b := allR_of p b _ _
theorem allI_ok (p : ProgL) (hp : p.wf) (hs : p.rs.length ≤ 1048576 ∧ ∀ x ∈ p.rs, x.length ≤ 1048576) (hv : p.flt) (b : Int) :
  CallsTo EE 65 [agg (encProg p), i64 b] (fun r => (OkX p b ∧ r = .tup [sl ((uO p b).1.map vB), bv (uO p b).2]) ∨ (¬ OkX p b ∧ r = .tup [sl [], bv false])) := by
 refine callsTo_of_AW (fn := Tryz.f65) Tryz.func65 rfl (by kernel_rfl) rfl ?_
 conv => whnf
 refine ocase (y8 p hs) (fun hg => ?_) (fun hg => ?_)
 rotate_left 1
 ·conv => whnf
  refine .inl ?_
  conv => whnf
  exact .inr ⟨fun e => hg ((aF p).1 e.1), rfl⟩
 have hg : p.goodS := (aF p).2 hg
 conv => whnf
 refine ocase (in_ok b 0 14) (fun hk => ?_) (fun hk => ?_)
 rotate_left 1
 ·conv => whnf
  refine .inl ?_
  conv => whnf
  exact .inr ⟨fun e => hk e.2, rfl⟩
 obtain ⟨b1, b2, b3, b4⟩ := hg.1
 have hr0 : XR p b ⟨0, [], [], xS p⟩ := XR.new hg hk.1
 conv => whnf
 refine ⟨_, w6 p ⟨b1.1, by have := b1.2; omega⟩ ⟨b2.1, by have := b2.2; omega⟩, ?_⟩
 rintro r rfl
 conv => whnf
 refine .inr (.inr (.inl ⟨_, 110, [], (weak_frz (fun κ => isSt κ || isK (.n 21) κ || isK (.n 22) κ)).trans ((weak_cvt (.n 900) (e := 123) (sz := 6) (els := (xS p).ths.map zE) ?_).trans ((weak_frz (isK (.n 900))).trans
  ((vC (.n 19) (.n 950) 143 78 7 5 [i64 p.cells, i64 p.locks, i64 p.conds, .d (.sl (p.rs.map zW)), i64 b, .d .nil, bv false] (by intro n h; cases h) (by intro h; cases h) ?_ rfl).trans (weak_cvt (.n 950) (e := 78) (sz := 7) (els := []) ?_)))), rfl, 19, 0, lV, _,
   io_nil (io_congr (walk_ok p hp hg hv b ⟨hk.1, by have := hk.2; omega⟩ false (b.toNat + 1) ⟨0, [], [], xS p⟩ 0 [] [] hr0 (by simp) (by simp) (by simp) _ ?_) ?_), rfl, ?_⟩))
 ·exact congrArg (fun x => some (Ob.rs 123 6 x)) (rK (fun _ => rfl) fun j => lL (xS p) j)
 ·rfl
 ·rfl
 ·exact ⟨rfl, rfl⟩
 ·show [AV.ptr (.l 0) 0, AV.agg [i64 0, sl _, sl _, sl _, sl _, sl _, i64 (xS p).fault], sl []] = [AV.ptr (.l 0) 0, AV.agg [i64 0, sl _, sl _, sl _, sl _, sl _, i64 (xS p).fault], sl []]
  refine args5 ?_ ?_ ?_ ?_ ?_ rfl
  all_goals simp [List.take_of_length_le]
 rintro q H1 ⟨rfl, rfl⟩
 refine ⟨rG, fun n hn => ?_, ?_⟩
 ·have : n = 0 := Nat.eq_of_beq_eq_true hn
  subst this
  exact ⟨143, _, _, rfl, rfl⟩
 rw [allI_eq]
 conv => whnf
 refine .inl ?_
 conv => whnf
 refine .inl ⟨⟨hg, hk⟩, ?_⟩
 show AV.tup [sl ((((uO p b).1.map vB).drop 0).take (uO p b).1.length), bv (uO p b).2] = _
 rw [List.drop_zero, List.take_of_length_le (by simp)]
end Ai
end
section
set_option maxRecDepth 100000
namespace Ai
open Go Go.Proofs Cyc
theorem LeastI_ok (p : ProgL) (hp : p.wf) (hs : p.rs.length ≤ 1048576 ∧ ∀ x ∈ p.rs, x.length ≤ 1048576) (hv : p.flt) (b : Int) (sign : List UInt8) :
  CallsTo EE 32 [agg (encProg p), i64 b, sv sign] (· = .tup [i64 (uX p b sign).1, bv (uX p b sign).2]) := by
 classical
 refine callsTo_of_AW (fn := Tryz.f32) Tryz.func32 rfl (by kernel_rfl) rfl ?_
 conv => whnf
 refine ⟨_, allI_ok p hp hs hv b, ?_⟩
 rintro r (⟨hA, rfl⟩ | ⟨hn, rfl⟩)
 ·have hall := s5 hA.1 hv hA.2.1
  have hl := r9 p b
  have hg := hA.1
  have hb := hA.2
  have hR : uX p b sign = if (uO p b).2 = true ∧ ¬ yW p sign (uO p b).1 (uO p b).1.length < 0 then (yW p sign (uO p b).1 (uO p b).1.length, true) else (0, false) := by
   unfold uX OkA
   simp only [hA, true_and]
  rw [hR]
  clear hR hA
  generalize uO p b = X at *
  obtain ⟨xs, okk⟩ := X
  have hall : ∀ x ∈ xs, XEnd p b x := hall
  have hl : xs.length ≤ 401 := hl
  cases okk with
  |false =>
   rw [if_neg (by simp)]
   conv => whnf
  |true =>
  conv => whnf
  refine yU (fun k : Nat => [(1, i64 b), (2, sv sign), (3, .ptr (.n 3) 0), (10, i64 (yW p sign xs k)), (22, sl (xs.map vB)), (23, i64 (xs.map vB).length), (24, i64 k)])
   (fun k => [(.n 3, .vs 31 ((encProg p).map .d))]) (fun k => xs.length - k) (fun k => k ≤ xs.length) 0 .refl
   ⟨rfl, rfl, rfl, rfl, rfl, rfl, rfl, trivial⟩ ⟨rfl, trivial⟩ (Nat.zero_le _) ?_
  rintro k τ H hk
  have hk : k ≤ xs.length := hk
  conv => whnf
  refine kbi (fun h => ?_) (fun h => ?_)
  ·have hlt : k < xs.length := by simpa using h
   have hx := hall _ (List.getElem_mem hlt)
   have hbs := r6 (p := p) (sign := sign) hlt
   conv => whnf
   refine ⟨vB xs[k], yC vB hlt rfl, ?_⟩
   conv => whnf
   refine ⟨_, signOf_ok p hp hg b _ hx.fin (by have := hb.2; omega), ?_⟩
   rintro r rfl
   conv => whnf
   refine kbi (fun h1 => ?_) (fun h1 => ?_)
   ·have h1 : fB p xs[k] ≠ sign := by simpa using h1
    rw [if_neg h1] at hbs
    conv => whnf
    refine ⟨k + 1, hlt, by show xs.length - (k + 1) < xs.length - k; omega, ⟨rfl, rfl, rfl, ?_, rfl, rfl, next_i64 hlt (by omega), trivial⟩, ⟨rfl, trivial⟩⟩
    rw [hbs]; rfl
   ·have h1 : fB p xs[k] = sign := by simpa using h1
    rw [if_pos h1] at hbs
    conv => whnf
    refine ⟨_, preI_ok p hp hg hv b (by have := hb.2; omega) _ hx, ?_⟩
    rintro r rfl
    conv => whnf
    refine kbi (fun h2 => ?_) (fun h2 => ?_)
    ·have h2 : yW p sign xs k < 0 := by simpa using h2
     rw [if_pos (.inl h2)] at hbs
     conv => whnf
     refine ⟨k + 1, hlt, by show xs.length - (k + 1) < xs.length - k; omega, ⟨rfl, rfl, rfl, ?_, rfl, rfl, next_i64 hlt (by omega), trivial⟩, ⟨rfl, trivial⟩⟩
     rw [hbs]; rfl
    ·have h2 : ¬ yW p sign xs k < 0 := by simpa using h2
     conv => whnf
     refine kbi (fun h3 => ?_) (fun h3 => ?_)
     ·have h3 : (cF p xs[k] : Int) < yW p sign xs k := by simpa using h3
      rw [if_pos (.inr h3)] at hbs
      conv => whnf
      refine ⟨k + 1, hlt, by show xs.length - (k + 1) < xs.length - k; omega, ⟨rfl, rfl, rfl, ?_, rfl, rfl, next_i64 hlt (by omega), trivial⟩, ⟨rfl, trivial⟩⟩
      rw [hbs]; rfl
     ·have h3 : ¬ (cF p xs[k] : Int) < yW p sign xs k := by simpa using h3
      rw [if_neg (fun e => e.elim h2 h3)] at hbs
      conv => whnf
      refine ⟨k + 1, hlt, by show xs.length - (k + 1) < xs.length - k; omega, ⟨rfl, rfl, rfl, ?_, rfl, rfl, next_i64 hlt (by omega), trivial⟩, ⟨rfl, trivial⟩⟩
      rw [hbs]; rfl
  ·have hge : k = xs.length := by
    have : ¬ (k : Int) < (xs.map vB).length := fun e => h (decide_eq_true e)
    simp at this; omega
   show bH _ _ _ _ _ _
   conv => whnf
   refine kbi (fun h2 => ?_) (fun h2 => ?_)
   ·have h2 : yW p sign xs k < 0 := by simpa using h2
    conv => whnf
    rw [if_neg (fun e => e.2 (by rw [hge] at h2; exact h2))]
   ·have h2 : ¬ yW p sign xs k < 0 := by simpa using h2
    conv => whnf
    rw [if_pos ⟨rfl, by rw [hge] at h2; exact h2⟩, hge]
 ·have hR : uX p b sign = (0, false) := by unfold uX; rw [if_neg (fun e => hn e.1.1)]
  rw [hR]
  conv => whnf
end Ai
end
section
set_option maxRecDepth 100000
namespace Ai
open Go Go.Proofs Cyc
theorem lawLeast (p : ProgL) (hp : p.wf) (hv : p.flt) (b : Int) (sign : List UInt8) (hsl : sign.length ≤ 9223372036854775807) : CallsTo EE 9 [agg (encProg p), i64 b, sv sign] (· = bv true) := by
 refine callsTo_of_AW (fn := Tryz.f9) Tryz.func9 rfl (by kernel_rfl) rfl ?_
 conv => whnf
 refine kbi (fun _ => ?_) (fun h1 => ?_)
 ·conv => whnf
  try rfl
 conv => whnf
 refine ⟨_, szProg_ok p 1048576 (by omega) (by omega) hp, ?_⟩
 rintro r ⟨n, rfl, hn1, hn2, hn3⟩
 conv => whnf
 refine kbi (fun _ => ?_) (fun h => ?_)
 ·conv => whnf
  try rfl
 have hsz : p.size ≤ 1048576 := by
  have := hn3 (by simp at h; omega)
  simp at h
  omega
 have hs := size_le List.length p.rs 1048576 hsz
 have cS := LeastS_ok p hp hs hv b sign
 have cI := LeastI_ok p hp hs hv b sign
 generalize uX p b sign = X at cS cI
 obtain ⟨c, f⟩ := X
 conv => whnf
 refine ⟨_, mO p hs, ?_⟩
 rintro r rfl
 conv => whnf
 refine ⟨_, cS, ?_⟩
 rintro r rfl
 conv => whnf
 refine ⟨_, mO p hs, ?_⟩
 rintro r rfl
 conv => whnf
 refine ⟨_, cI, ?_⟩
 rintro r rfl
 conv => whnf
 refine kbi (fun h => absurd h (by simp)) (fun _ => ?_)
 conv => whnf
 cases f
 all_goals
  conv => whnf
  refine kbi (fun h => absurd h (by simp)) (fun _ => ?_)
  conv => whnf
  refine ⟨by kernel_rfl, ?_⟩
  conv => whnf
  refine ⟨_, mO p hs, ?_⟩
  conv => whnf
  refine ⟨_, eqProg_ok p hs, ?_⟩
  conv => whnf
  try rfl
end Ai
end
