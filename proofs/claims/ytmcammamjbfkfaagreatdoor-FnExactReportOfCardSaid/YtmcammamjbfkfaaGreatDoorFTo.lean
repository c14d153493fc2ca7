import Derived.Test.YtmcammamjbfkfaaGreatDoorF0
set_option maxHeartbeats 1000000
set_option linter.unusedVariables false
set_option maxRecDepth 100000
namespace Ai
open Go Go.Proofs

theorem set_step {α : Type} (xs : List α) (enc : α → List D) (z : List D) (k sz : Nat) (h : k < xs.length) (hs : (enc xs[k]).length = sz) :
    setEl ((xs.take k).map enc ++ List.replicate (xs.length - k) z) sz (0 + (k : Int).toNat) 0 (enc xs[k]) = (xs.take (k + 1)).map enc ++ List.replicate (xs.length - (k + 1)) z := by
  have e : setEl ((xs.take k).map enc ++ List.replicate (xs.length - k) z) sz (0 + (k : Int).toNat) 0 (enc xs[k]) = ((xs.take k).map enc ++ List.replicate (xs.length - k) z).set k (enc xs[k]) := by
    unfold setEl
    rw [hs, nbeq_self, nbeq_self]
    simp
  rw [e, List.set_append]
  have hl : ((xs.take k).map enc).length = k := by simp; omega
  rw [if_neg (by omega), hl, Nat.sub_self]
  have : xs.length - k = (xs.length - (k + 1)) + 1 := by omega
  rw [this, List.replicate_succ, List.set_cons_zero, List.take_add_one, List.getElem?_eq_getElem h, List.map_append]
  simp only [Option.toList, List.map_cons, List.map_nil, List.append_assoc, List.singleton_append]
theorem set_end {α : Type} (xs : List α) (enc : α → List D) (z : List D) (k n : Nat) (h : xs.length ≤ k) (hk : k ≤ xs.length) (hn : n = xs.length) : ((xs.take k).map enc ++ List.replicate (xs.length - k) z).take n = xs.map enc := by
  have : k = xs.length := by omega
  subst this; subst hn
  simp
  exact List.take_of_length_le (by simp)

theorem toIntS_ok (xs : List Int) (hx : xs.length ≤ 1048576) : CallsTo EE 13 [sl (xs.map encInt)] (· = .uq 3 1 (xs.map encInt)) := by
  refine callsTo_of_AW (fn := Tryz.f13) Tryz.func13 rfl (by kernel_rfl) rfl ?_
  conv => whnf
  refine ⟨by simp; omega, ?_⟩
  conv => whnf
  refine aloop (fun k : Nat => [(0, sl (xs.map encInt)), (3, .ref 7 0 (xs.map encInt).length), (4, i64 k)]) (fun k => [(7, .ds 3 1 ((xs.take k).map encInt ++ List.replicate (xs.length - k) [di 0]))]) (fun k => xs.length - k) (fun k => k ≤ xs.length) 0 .refl ⟨rfl, by simp [put, St.new, St.setH, St.kill]; rfl, rfl, trivial⟩ ⟨?_, trivial⟩ (Nat.zero_le _) ?_
  · simp [put, St.new, St.setH, St.kill, scrO]
  intro k τ H hk
  conv => whnf
  refine ⟨fun h => ?_, fun h => ?_⟩
  · have hlt := lt_map h
    conv => whnf
    refine ⟨encInt xs[k], map_get encInt hlt rfl, ?_⟩
    conv => whnf
    refine ⟨⟨by omega, by simp; omega⟩, ?_⟩
    conv => whnf
    refine ⟨k + 1, by omega, by show xs.length - (k + 1) < xs.length - k; omega, ⟨rfl, rfl, next_i64 hlt (by omega), trivial⟩, ⟨?_, trivial⟩⟩
    exact congrArg (fun l => some (Ob.ds 3 1 l)) (set_step xs encInt [di 0] k 1 hlt rfl)
  · have hge := ge_map h
    conv => whnf
    exact congrArg (AV.uq 3 1) (set_end xs encInt [di 0] k _ hge hk (by simp))
theorem toOp_ok (x : OpL) : CallsTo EE 102 [agg (encOp x)] (· = agg (encOp x)) := by
  refine callsTo_of_AW (fn := Tryz.f102) Tryz.func102 rfl (by kernel_rfl) rfl ?_
  conv => whnf
  rfl
theorem toPair_ok (x : PairL) : CallsTo EE 50 [agg (encPair x)] (· = agg (encPair x)) := by
  refine callsTo_of_AW (fn := Tryz.f50) Tryz.func50 rfl (by kernel_rfl) rfl ?_
  conv => whnf
  rfl
theorem toPct_ok (x : PctL) (h : x.ranks.length ≤ 1048576 ∧ x.changes.length ≤ 1048576) : CallsTo EE 49 [agg (encPct x)] (· = agg (encPct x)) := by
  refine callsTo_of_AW (fn := Tryz.f49) Tryz.func49 rfl (by kernel_rfl) rfl ?_
  conv => whnf
  refine ⟨_, toIntS_ok _ h.1, ?_⟩
  rintro r rfl
  refine .inl ?_
  conv => whnf
  refine ⟨_, toIntS_ok _ h.2, ?_⟩
  rintro r rfl
  refine .inl ?_
  conv => whnf
  rfl
theorem toFound_ok (x : FoundL) (h : x.picks.length ≤ 1048576) : CallsTo EE 51 [agg (encFound x)] (· = agg (encFound x)) := by
  refine callsTo_of_AW (fn := Tryz.f51) Tryz.func51 rfl (by kernel_rfl) rfl ?_
  conv => whnf
  refine ⟨_, toIntS_ok _ h, ?_⟩
  rintro r rfl
  refine .inl ?_
  conv => whnf
  rfl
theorem toOpS_ok (xs : List OpL) (hx : xs.length ≤ 1048576) : CallsTo EE 69 [sl (xs.map encOp)] (· = .uq 104 4 (xs.map encOp)) := by
  refine callsTo_of_AW (fn := Tryz.f69) Tryz.func69 rfl (by kernel_rfl) rfl ?_
  conv => whnf
  refine ⟨by simp; omega, ?_⟩
  conv => whnf
  refine aloop (fun k : Nat => [(0, sl (xs.map encOp)), (3, .ref 7 0 (xs.map encOp).length), (4, i64 k)]) (fun k => [(7, .ds 104 4 ((xs.take k).map encOp ++ List.replicate (xs.length - k) [di 0, di 0, di 0, .flt 0]))]) (fun k => xs.length - k) (fun k => k ≤ xs.length) 0 .refl ⟨rfl, by simp [put, St.new, St.setH, St.kill]; rfl, rfl, trivial⟩ ⟨?_, trivial⟩ (Nat.zero_le _) ?_
  · simp [put, St.new, St.setH, St.kill, scrO]
  intro k τ H hk
  conv => whnf
  refine ⟨fun h => ?_, fun h => ?_⟩
  · have hlt := lt_map h
    conv => whnf
    refine ⟨encOp xs[k], map_get encOp hlt rfl, ?_⟩
    conv => whnf
    refine ⟨_, toOp_ok xs[k], ?_⟩
    rintro r rfl
    conv => whnf
    refine ⟨⟨by omega, by simp; omega⟩, ?_⟩
    conv => whnf
    refine ⟨k + 1, by omega, by show xs.length - (k + 1) < xs.length - k; omega, ⟨rfl, rfl, next_i64 hlt (by omega), trivial⟩, ⟨?_, trivial⟩⟩
    exact congrArg (fun l => some (Ob.ds 104 4 l)) (set_step xs encOp [di 0, di 0, di 0, .flt 0] k 4 hlt rfl)
  · have hge := ge_map h
    conv => whnf
    exact congrArg (AV.uq 104 4) (set_end xs encOp [di 0, di 0, di 0, .flt 0] k _ hge hk (by simp))
theorem toOpSS_ok (xs : List (List OpL)) (hx : xs.length ≤ 1048576) (hx2 : ∀ x ∈ xs, x.length ≤ 1048576) : CallsTo EE 36 [sl (xs.map encRow)] (· = .uq 101 1 (xs.map encRow)) := by
  refine callsTo_of_AW (fn := Tryz.f36) Tryz.func36 rfl (by kernel_rfl) rfl ?_
  conv => whnf
  refine ⟨by simp; omega, ?_⟩
  conv => whnf
  refine aloop (fun k : Nat => [(0, sl (xs.map encRow)), (3, .ref 7 0 (xs.map encRow).length), (4, i64 k)]) (fun k => [(7, .ds 101 1 ((xs.take k).map encRow ++ List.replicate (xs.length - k) [.nil]))]) (fun k => xs.length - k) (fun k => k ≤ xs.length) 0 .refl ⟨rfl, by simp [put, St.new, St.setH, St.kill]; rfl, rfl, trivial⟩ ⟨?_, trivial⟩ (Nat.zero_le _) ?_
  · simp [put, St.new, St.setH, St.kill, scrO]
  intro k τ H hk
  conv => whnf
  refine ⟨fun h => ?_, fun h => ?_⟩
  · have hlt := lt_map h
    conv => whnf
    refine ⟨encRow xs[k], map_get encRow hlt rfl, ?_⟩
    conv => whnf
    refine ⟨_, toOpS_ok xs[k] (hx2 _ (List.getElem_mem hlt)), ?_⟩
    rintro r rfl
    conv => whnf
    refine .inl ?_
    conv => whnf
    refine ⟨⟨by omega, by simp; omega⟩, ?_⟩
    conv => whnf
    refine ⟨k + 1, by omega, by show xs.length - (k + 1) < xs.length - k; omega, ⟨rfl, rfl, next_i64 hlt (by omega), trivial⟩, ⟨?_, trivial⟩⟩
    exact congrArg (fun l => some (Ob.ds 101 1 l)) (set_step xs encRow [.nil] k 1 hlt rfl)
  · have hge := ge_map h
    conv => whnf
    exact congrArg (AV.uq 101 1) (set_end xs encRow [.nil] k _ hge hk (by simp))
theorem toPctS_ok (xs : List PctL) (hx : xs.length ≤ 1048576) (hx2 : ∀ x ∈ xs, x.ranks.length ≤ 1048576 ∧ x.changes.length ≤ 1048576) : CallsTo EE 22 [sl (xs.map encPct)] (· = .uq 80 2 (xs.map encPct)) := by
  refine callsTo_of_AW (fn := Tryz.f22) Tryz.func22 rfl (by kernel_rfl) rfl ?_
  conv => whnf
  refine ⟨by simp; omega, ?_⟩
  conv => whnf
  refine aloop (fun k : Nat => [(0, sl (xs.map encPct)), (3, .ref 7 0 (xs.map encPct).length), (4, i64 k)]) (fun k => [(7, .ds 80 2 ((xs.take k).map encPct ++ List.replicate (xs.length - k) [.nil, .nil]))]) (fun k => xs.length - k) (fun k => k ≤ xs.length) 0 .refl ⟨rfl, by simp [put, St.new, St.setH, St.kill]; rfl, rfl, trivial⟩ ⟨?_, trivial⟩ (Nat.zero_le _) ?_
  · simp [put, St.new, St.setH, St.kill, scrO]
  intro k τ H hk
  conv => whnf
  refine ⟨fun h => ?_, fun h => ?_⟩
  · have hlt := lt_map h
    conv => whnf
    refine ⟨encPct xs[k], map_get encPct hlt rfl, ?_⟩
    conv => whnf
    refine ⟨_, toPct_ok xs[k] (hx2 _ (List.getElem_mem hlt)), ?_⟩
    rintro r rfl
    conv => whnf
    refine ⟨⟨by omega, by simp; omega⟩, ?_⟩
    conv => whnf
    refine ⟨k + 1, by omega, by show xs.length - (k + 1) < xs.length - k; omega, ⟨rfl, rfl, next_i64 hlt (by omega), trivial⟩, ⟨?_, trivial⟩⟩
    exact congrArg (fun l => some (Ob.ds 80 2 l)) (set_step xs encPct [.nil, .nil] k 2 hlt rfl)
  · have hge := ge_map h
    conv => whnf
    exact congrArg (AV.uq 80 2) (set_end xs encPct [.nil, .nil] k _ hge hk (by simp))
theorem toPairS_ok (xs : List PairL) (hx : xs.length ≤ 1048576) : CallsTo EE 23 [sl (xs.map encPair)] (· = .uq 87 3 (xs.map encPair)) := by
  refine callsTo_of_AW (fn := Tryz.f23) Tryz.func23 rfl (by kernel_rfl) rfl ?_
  conv => whnf
  refine ⟨by simp; omega, ?_⟩
  conv => whnf
  refine aloop (fun k : Nat => [(0, sl (xs.map encPair)), (3, .ref 7 0 (xs.map encPair).length), (4, i64 k)]) (fun k => [(7, .ds 87 3 ((xs.take k).map encPair ++ List.replicate (xs.length - k) [di 0, di 0, di 0]))]) (fun k => xs.length - k) (fun k => k ≤ xs.length) 0 .refl ⟨rfl, by simp [put, St.new, St.setH, St.kill]; rfl, rfl, trivial⟩ ⟨?_, trivial⟩ (Nat.zero_le _) ?_
  · simp [put, St.new, St.setH, St.kill, scrO]
  intro k τ H hk
  conv => whnf
  refine ⟨fun h => ?_, fun h => ?_⟩
  · have hlt := lt_map h
    conv => whnf
    refine ⟨encPair xs[k], map_get encPair hlt rfl, ?_⟩
    conv => whnf
    refine ⟨_, toPair_ok xs[k], ?_⟩
    rintro r rfl
    conv => whnf
    refine ⟨⟨by omega, by simp; omega⟩, ?_⟩
    conv => whnf
    refine ⟨k + 1, by omega, by show xs.length - (k + 1) < xs.length - k; omega, ⟨rfl, rfl, next_i64 hlt (by omega), trivial⟩, ⟨?_, trivial⟩⟩
    exact congrArg (fun l => some (Ob.ds 87 3 l)) (set_step xs encPair [di 0, di 0, di 0] k 3 hlt rfl)
  · have hge := ge_map h
    conv => whnf
    exact congrArg (AV.uq 87 3) (set_end xs encPair [di 0, di 0, di 0] k _ hge hk (by simp))
theorem toFoundS_ok (xs : List FoundL) (hx : xs.length ≤ 1048576) (hx2 : ∀ x ∈ xs, x.picks.length ≤ 1048576) : CallsTo EE 24 [sl (xs.map encFound)] (· = .uq 63 2 (xs.map encFound)) := by
  refine callsTo_of_AW (fn := Tryz.f24) Tryz.func24 rfl (by kernel_rfl) rfl ?_
  conv => whnf
  refine ⟨by simp; omega, ?_⟩
  conv => whnf
  refine aloop (fun k : Nat => [(0, sl (xs.map encFound)), (3, .ref 7 0 (xs.map encFound).length), (4, i64 k)]) (fun k => [(7, .ds 63 2 ((xs.take k).map encFound ++ List.replicate (xs.length - k) [.str [], .nil]))]) (fun k => xs.length - k) (fun k => k ≤ xs.length) 0 .refl ⟨rfl, by simp [put, St.new, St.setH, St.kill]; rfl, rfl, trivial⟩ ⟨?_, trivial⟩ (Nat.zero_le _) ?_
  · simp [put, St.new, St.setH, St.kill, scrO]
  intro k τ H hk
  conv => whnf
  refine ⟨fun h => ?_, fun h => ?_⟩
  · have hlt := lt_map h
    conv => whnf
    refine ⟨encFound xs[k], map_get encFound hlt rfl, ?_⟩
    conv => whnf
    refine ⟨_, toFound_ok xs[k] (hx2 _ (List.getElem_mem hlt)), ?_⟩
    rintro r rfl
    conv => whnf
    refine ⟨⟨by omega, by simp; omega⟩, ?_⟩
    conv => whnf
    refine ⟨k + 1, by omega, by show xs.length - (k + 1) < xs.length - k; omega, ⟨rfl, rfl, next_i64 hlt (by omega), trivial⟩, ⟨?_, trivial⟩⟩
    exact congrArg (fun l => some (Ob.ds 63 2 l)) (set_step xs encFound [.str [], .nil] k 2 hlt rfl)
  · have hge := ge_map h
    conv => whnf
    exact congrArg (AV.uq 63 2) (set_end xs encFound [.str [], .nil] k _ hge hk (by simp))
theorem toProg_ok (p : ProgL) (h : p.rs.length ≤ 1048576 ∧ ∀ x ∈ p.rs, x.length ≤ 1048576) : CallsTo EE 12 [agg (encProg p)] (· = agg (encProg p)) := by
  refine callsTo_of_AW (fn := Tryz.f12) Tryz.func12 rfl (by kernel_rfl) rfl ?_
  conv => whnf
  refine ⟨_, toOpSS_ok _ h.1 h.2, ?_⟩
  rintro r rfl
  refine .inl ?_
  conv => whnf
  rfl
def HuntL.small (h : HuntL) : Prop := (h.p.rs.length ≤ 1048576 ∧ ∀ x ∈ h.p.rs, x.length ≤ 1048576) ∧ (h.kept.length ≤ 1048576 ∧ ∀ x ∈ h.kept, x.ranks.length ≤ 1048576 ∧ x.changes.length ≤ 1048576) ∧ h.cov.length ≤ 1048576 ∧ (h.finds.length ≤ 1048576 ∧ ∀ x ∈ h.finds, x.picks.length ≤ 1048576)
theorem toHunt_ok (h : HuntL) (hs : h.small) : CallsTo EE 7 [agg (encHunt h)] (· = agg (encHunt h)) := by
  obtain ⟨h1, h2, h3, h4⟩ := hs
  refine callsTo_of_AW (fn := Tryz.f7) Tryz.func7 rfl (by kernel_rfl) rfl ?_
  conv => whnf
  refine ⟨_, toProg_ok h.p h1, ?_⟩
  rintro r rfl
  conv => whnf
  refine ⟨_, toPctS_ok _ h2.1 h2.2, ?_⟩
  rintro r rfl
  refine .inl ?_
  conv => whnf
  refine ⟨_, toPairS_ok _ h3, ?_⟩
  rintro r rfl
  refine .inl ?_
  conv => whnf
  refine ⟨_, toFoundS_ok _ h4.1 h4.2, ?_⟩
  rintro r rfl
  refine .inl ?_
  conv => whnf
  rfl
end Ai
