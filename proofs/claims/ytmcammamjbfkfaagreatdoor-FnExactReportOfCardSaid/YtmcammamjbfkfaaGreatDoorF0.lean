import Derived.Test.YtmcammamjbfkfaaGreatDoorAiEnv
set_option maxHeartbeats 1000000
set_option linter.unusedVariables false
set_option maxRecDepth 100000
namespace Ai
open Go Go.Proofs

theorem i64_eq {a b : Int} (h : a = b) : AV.d (.int .i64 a) = i64 b := by rw [h]
theorem next_i64 {k n : Nat} (h : k < n) (hn : n ≤ 9223372036854775807) : AV.d (.int .i64 (IntKind.i64.wrap ((k : Int) + 1))) = i64 ((k + 1 : Nat) : Int) :=
  i64_eq (by rw [wrap_id (by omega) (by omega)]; rfl)
theorem lt_of_dec {k n : Nat} (h : decide ((k : Int) < (n : Int)) = true) : k < n := by simpa using h
theorem ge_of_dec {k n : Nat} (h : decide ((k : Int) < (n : Int)) = false) : n ≤ k := by simpa using h
theorem map_at {α : Type} {xs : List α} {enc : α → List D} {k : Nat} (h : k < xs.length) : 0 ≤ (k : Int) ∧ (xs.map enc)[(k : Int).toNat]? = some (enc xs[k]) := by
  refine ⟨by omega, ?_⟩
  simp [h]
theorem map_get {α : Type} {xs : List α} (enc : α → List D) {k n : Nat} (h : k < xs.length) (hl : (enc xs[k]).length = n) : 0 ≤ (k : Int) ∧ (xs.map enc)[(k : Int).toNat]? = some (enc xs[k]) ∧ (enc xs[k]).length = n := ⟨by omega, by simp [h], hl⟩
theorem lt_map {α : Type} {xs : List α} {enc : α → List D} {k : Nat} (h : decide ((k : Int) < ((xs.map enc).length : Int)) = true) : k < xs.length := by simpa using h
theorem ge_map {α : Type} {xs : List α} {enc : α → List D} {k : Nat} (h : decide ((k : Int) < ((xs.map enc).length : Int)) = false) : xs.length ≤ k := by simpa using h

def sizeSS {α : Type} (f : α → Nat) (xs : List α) : Nat := xs.length + (xs.map f).sum
theorem sum_take_succ (l : List Nat) (k : Nat) (h : k < l.length) : (l.take (k + 1)).sum = (l.take k).sum + l[k] := by
  rw [List.take_add_one, List.sum_append, List.getElem?_eq_getElem h]; simp

/-! ### the data -/
structure OpL where
  code : Int
  a : Int
  b : Int
  v : Nat
structure PctL where
  ranks : List Int
  changes : List Int
structure PairL where
  cell : Int
  one : Int
  two : Int
structure FoundL where
  sign : List UInt8
  picks : List Int
structure ProgL where
  cells : Int
  locks : Int
  conds : Int
  rs : List (List OpL)
structure HuntL where
  p : ProgL
  kept : List PctL
  cov : List PairL
  finds : List FoundL
  tried : Int
def encInt (n : Int) : List D := [di n]
def encOp (o : OpL) : List D := [di o.code, di o.a, di o.b, .flt o.v]
def encRow (l : List OpL) : List D := [.sl (l.map encOp)]
def encPct (s : PctL) : List D := [.sl (s.ranks.map encInt), .sl (s.changes.map encInt)]
def encPair (x : PairL) : List D := [di x.cell, di x.one, di x.two]
def encFound (f : FoundL) : List D := [.str f.sign, .sl (f.picks.map encInt)]
def encProg (p : ProgL) : List D := [di p.cells, di p.locks, di p.conds, .sl (p.rs.map encRow)]
def encHunt (h : HuntL) : List D := [di h.p.cells, di h.p.locks, di h.p.conds, .sl (h.p.rs.map encRow), .sl (h.kept.map encPct), .sl (h.cov.map encPair), .sl (h.finds.map encFound), di h.tried]
def agg (l : List D) : AV := .agg (l.map .d)
/-- all lengths are such as Go has -/
def ProgL.wf (p : ProgL) : Prop := p.rs.length ≤ 9223372036854775807 ∧ ∀ r ∈ p.rs, r.length ≤ 9223372036854775807
def PctL.wf (s : PctL) : Prop := s.ranks.length ≤ 9223372036854775807 ∧ s.changes.length ≤ 9223372036854775807
def FoundL.wf (f : FoundL) : Prop := f.sign.length ≤ 9223372036854775807 ∧ f.picks.length ≤ 9223372036854775807
def HuntL.wf (h : HuntL) : Prop := h.p.wf ∧ h.kept.length ≤ 9223372036854775807 ∧ (∀ s ∈ h.kept, s.wf) ∧ h.cov.length ≤ 9223372036854775807 ∧ h.finds.length ≤ 9223372036854775807 ∧ ∀ f ∈ h.finds, f.wf
def PctL.size (s : PctL) : Nat := s.ranks.length + s.changes.length
def FoundL.size (f : FoundL) : Nat := f.sign.length + f.picks.length
def ProgL.size (p : ProgL) : Nat := sizeSS List.length p.rs
def HuntL.size (h : HuntL) : Nat := h.p.size + sizeSS PctL.size h.kept + h.cov.length + sizeSS FoundL.size h.finds
/-- what is told of a size -/
def szR (left : Int) (size : Nat) (r : AV) : Prop := ∃ n : Int, r = i64 n ∧ -1 ≤ n ∧ n ≤ left ∧ (0 ≤ n → (size : Int) + n ≤ left)
end Ai
namespace Ai
open Go
theorem nt {c : Bool} (h : c = false) : ¬ c = true := by simp [h]
theorem bvt {c : Bool} (h : c = true) : AV.d (.bool true) = bv c := by rw [h]
theorem bvf {c : Bool} (h : c = false) : AV.d (.bool false) = bv c := by rw [h]
theorem fcmp_ne (x y : Nat) : fcmp .neq x y = !fcmp .eql x y := rfl
end Ai
namespace Ai
theorem kbi {c : Bool} {A B : Prop} (h1 : c = true → A) (h2 : ¬ c = true → B) : (c = true → A) ∧ (c = false → B) := ⟨h1, fun h => h2 (by simp [h])⟩
end Ai
namespace Ai
open Go
noncomputable def pb (P : Prop) : Bool := @decide P (Classical.propDecidable P)
theorem pb_t {P : Prop} (h : P) : pb P = true := by simp [pb, h]
theorem pb_f {P : Prop} (h : ¬ P) : pb P = false := by simp [pb, h]
noncomputable abbrev bp (P : Prop) : AV := bv (pb P)
theorem bpt {P : Prop} (h : P) : AV.d (.bool true) = bp P := by simp only [bp, pb_t h]
theorem bpf {P : Prop} (h : ¬ P) : AV.d (.bool false) = bp P := by simp only [bp, pb_f h]
theorem bp_cases {P : Prop} {G : AV → Prop} (h1 : P → G (bv true)) (h2 : ¬ P → G (bv false)) : G (bp P) := by
  by_cases h : P
  · have : bp P = bv true := by simp only [bp, pb_t h]
    rw [this]; exact h1 h
  · have : bp P = bv false := by simp only [bp, pb_f h]
    rw [this]; exact h2 h
theorem qcase {E : Env} {g : FuncId} {ar : List AV} {P : Prop} {G : AV → Prop} (h : CallsTo E g ar (· = bp P)) (h1 : P → G (bv true)) (h2 : ¬ P → G (bv false)) : ∃ r, CallsTo E g ar (· = r) ∧ G r := ⟨_, h, bp_cases h1 h2⟩
theorem ocase {E : Env} {g : FuncId} {ar : List AV} {P : Prop} {G : AV → Prop} (h : CallsTo E g ar (· = bp P)) (h1 : P → G (bv true)) (h2 : ¬ P → G (bv false)) : ∃ R, CallsTo E g ar R ∧ ∀ r, R r → G r :=
  ⟨_, h, fun r hr => by subst hr; exact bp_cases h1 h2⟩
theorem fcase {E : Env} {g : FuncId} {ar : List AV} {P : Prop} {G : AV → Prop} (h : CallsTo E g ar (· = bp P)) (h1 : P → G (bv true)) (h2 : ¬ P → G (bv false)) : ∃ R, CallsTo E g ar R ∧ ∀ r, R r → Flat r ∧ G r :=
  ⟨_, h, fun r hr => ⟨by subst hr; rfl, by subst hr; exact bp_cases h1 h2⟩⟩
theorem qcaseF {E : Env} {g : FuncId} {ar : List AV} {P : Prop} {G : AV → Prop} (h : CallsTo E g ar (· = bp P)) (h1 : P → G (bv true)) (h2 : ¬ P → G (bv false)) : ∃ r, CallsTo E g ar (· = r) ∧ Flat r ∧ G r := ⟨_, h, rfl, bp_cases h1 h2⟩

theorem tk_step {α : Type} {xs : List α} {p : α → Prop} {k : Nat} (h : ∀ x ∈ xs.take k, p x) (hk : k < xs.length) (hp : p xs[k]) : ∀ x ∈ xs.take (k + 1), p x := by
  intro x hx
  rw [List.take_add_one, List.getElem?_eq_getElem hk] at hx
  simp only [Option.toList, List.mem_append, List.mem_singleton] at hx
  rcases hx with hx | hx
  · exact h x hx
  · subst hx; exact hp
theorem tk_end {α : Type} {xs : List α} {p : α → Prop} {k : Nat} (h : ∀ x ∈ xs.take k, p x) (hk : xs.length ≤ k) : ∀ x ∈ xs, p x := by
  rw [List.take_of_length_le hk] at h; exact h
theorem tk_zero {α : Type} {xs : List α} {p : α → Prop} : ∀ x ∈ xs.take 0, p x := by simp
end Ai
