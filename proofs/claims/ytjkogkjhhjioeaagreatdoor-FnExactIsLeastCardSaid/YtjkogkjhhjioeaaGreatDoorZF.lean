import Derived.Test.YtjkogkjhhjioeaaGreatDoorZE
import Derived.WalkKit
set_option maxHeartbeats 8000000
set_option linter.unusedVariables false
set_option linter.unusedSimpArgs false
section
set_option maxRecDepth 100000
namespace Ai
open Go Go.Proofs Cyc
theorem foldE_ok {goal cur : Nat} : ∀ (es : List (Nat × Nat)) (st : BS) (m : Nat), (∀ e ∈ es, e.1 < 100) → BSok goal st m → BSok goal (es.foldl (bsE goal cur) st) (m + es.length)
  | [], st, m, he, h => h
  | e :: es, st, m, he, h => by
    have := foldE_ok (cur := cur) es (bsE goal cur st e) (m + 1) (fun x hx => he x (List.mem_cons_of_mem _ hx)) (bsE_ok h (he e List.mem_cons_self))
    rw [List.foldl_cons, List.length_cons, show m + (es.length + 1) = m + 1 + es.length by omega]
    exact this
theorem bsRun_len {goal : Nat} {edges : List (Nat × Nat)} (he : ∀ e ∈ edges, e.1 < 100) : ∀ (f i m : Nat) (st fin : BS), BSok goal st m → bsRun goal edges f i st = some fin → fin.out.length = 100
  | 0, i, m, st, fin, h, hr => by cases hr
  | f + 1, i, m, st, fin, h, hr => by
    unfold bsRun at hr
    split at hr
    · exact bsRun_len he f (i + 1) _ _ fin (foldE_ok edges st m he h) hr
    · obtain rfl := Option.some.inj hr
      exact h.len
theorem foldE_out {goal cur : Nat} : ∀ (es : List (Nat × Nat)) (st : BS) (m : Nat), (∀ e ∈ es, e.1 < 100) → BSok goal st m → (∀ x ∈ st.out, x ≤ m) → ∀ x ∈ (es.foldl (bsE goal cur) st).out, x ≤ m + es.length
  | [], st, m, he, h, ho => ho
  | e :: es, st, m, he, h, ho => by
    have h1 : ∀ x ∈ (bsE goal cur st e).out, x ≤ m + 1 := by
      intro x hx
      unfold bsE at hx
      split at hx
      · exact Nat.le_succ_of_le (ho x hx)
      · split at hx
        · rcases List.mem_or_eq_of_mem_set hx with h2 | h2
          · exact Nat.le_succ_of_le (ho x h2)
          · subst h2; exact Nat.succ_le_succ (getF_le h)
        · rcases List.mem_or_eq_of_mem_set hx with h2 | h2
          · exact Nat.le_succ_of_le (ho x h2)
          · subst h2; exact Nat.succ_le_succ (getF_le h)
    have := foldE_out (cur := cur) es (bsE goal cur st e) (m + 1) (fun x hx => he x (List.mem_cons_of_mem _ hx)) (bsE_ok h (he e List.mem_cons_self)) h1
    rw [List.foldl_cons, List.length_cons, show m + (es.length + 1) = m + 1 + es.length by omega]
    exact this
theorem bsRun_out {goal : Nat} {edges : List (Nat × Nat)} (hl : edges.length ≤ 5) (he : ∀ e ∈ edges, e.1 < 100) : ∀ (f i m : Nat) (st fin : BS), BSok goal st m → (∀ x ∈ st.out, x ≤ m) → bsRun goal edges f i st = some fin → ∀ x ∈ fin.out, x ≤ m + 5 * f
  | 0, i, m, st, fin, h, ho, hr => by cases hr
  | f + 1, i, m, st, fin, h, ho, hr => by
    unfold bsRun at hr
    split at hr
    · intro x hx
      have := bsRun_out hl he f (i + 1) _ _ fin (foldE_ok edges st m he h) (foldE_out edges st m he h ho) hr x hx
      omega
    · obtain rfl := Option.some.inj hr
      intro x hx
      have := ho x hx
      omega
theorem range_form {l : List Nat} (h : l.length = 100) : ∃ g : Nat → Nat, l = (List.range 100).map g := ⟨fun i => l.getD i 0, by
  apply List.ext_getElem?
  intro k
  by_cases hk : k < 100
  · have : k < l.length := by omega
    rw [List.getElem?_map, List.getElem?_range hk, List.getElem?_eq_getElem this]
    simp [List.getD_eq_getElem?_getD, this]
  · rw [List.getElem?_eq_none (by omega), List.getElem?_eq_none (by simp; omega)]⟩
def cycOf (edges : List (Nat × Nat)) : List Nat := ((List.range 100).findSome? fun n => match cycI edges n with | some (x :: xs) => some (x :: xs) | _ => none).getD []
theorem cycOf_at {edges : List (Nat × Nat)} {n : Nat} {o : List Nat} (h : n < 100) (hno : ∀ k, k < n → cycI edges k = some []) (ho : cycI edges n = some o) (hne : o ≠ []) : cycOf edges = o := by
  unfold cycOf
  have hs : List.range 100 = (List.range 100).take n ++ n :: (List.range 100).drop (n + 1) := by
    have := (List.take_append_drop n (List.range 100)).symm
    rw [List.drop_eq_getElem_cons (by simp; omega), List.getElem_range] at this
    exact this
  have hf : (List.range 100).findSome? (fun n => match cycI edges n with | some (x :: xs) => some (x :: xs) | _ => none) = some o := by
    rw [List.findSome?_eq_some_iff]
    refine ⟨_, n, _, hs, ?_, fun x hx => ?_⟩
    · rw [ho]
      cases o with
      | nil => exact absurd rfl hne
      | cons x xs => rfl
    · obtain ⟨i, hi, rfl⟩ := List.mem_iff_getElem.1 hx
      have hi2 : i < n := by
        have := hi
        simp at this
        omega
      rw [List.getElem_take, List.getElem_range, hno i hi2]
  rw [hf]
  rfl
theorem cycleI_ok (edges : List (Nat × Nat)) (hl : edges.length ≤ 5) (he : ∀ e ∈ edges, e.1 < 100 ∧ e.2 < 100) (hr : ∀ n, n < 100 → (bsRun n edges 7 0 (bs0 n)).isSome = true) :
    CallsTo EE 98 [sl (edges.map encG)] (· = .tup [sl ((cycOf edges).map encQ), bv (!(cycOf edges).isEmpty)]) := by
  refine callsTo_of_AW (fn := Tryz.f98) Tryz.func98 rfl (by kernel_rfl) rfl ?_
  conv => whnf
  refine aloop (fun n : Nat => [(0, sl (edges.map encG)), (12, i64 n)]) (fun n => []) (fun n => 100 - n) (fun n => n ≤ 100 ∧ ∀ k, k < n → cycI edges k = some []) 0
    Weak.refl ⟨rfl, rfl, trivial⟩ trivial ⟨Nat.zero_le _, fun k hk => by omega⟩ ?_
  rintro n τ H ⟨hn, hno⟩
  conv => whnf
  refine kbi (fun h => ?_) (fun h => ?_)
  · have h : n < 100 := by
      have := of_decide_eq_true h
      omega
    obtain ⟨fin, hfin⟩ := Option.isSome_iff_exists.1 (hr n h)
    have hlen := bsRun_len (fun e h => (he e h).1) 7 0 0 (bs0 n) fin (bs0_ok n) hfin
    have hcy : cycI edges n = if fin.out.getD n 0 = 0 then some [] else some (wayI edges fin.out n (fin.out.getD n 0 - 1) [n] n) := by
      unfold cycI; rw [hfin]
    conv => whnf
    refine ⟨_, backSteps_ok edges n hl (fun e h => (he e h).1) fin hfin, ?_⟩
    rintro r rfl
    obtain ⟨out, queue, far⟩ := fin
    have hlen : out.length = 100 := hlen
    obtain ⟨g, hg⟩ := range_form hlen
    subst hg
    conv => whnf
    have hnl : n < ((List.range 100).map g).length := by simp; omega
    refine ⟨⟨by omega, by show (n : Int) < 100; omega⟩, ?_⟩
    conv => whnf
    split
    rotate_left 1
    · rename_i hld
      exact absurd (hld.symm.trans (ldArr (out := (List.range 100).map g) (k := n) rfl rfl hnl)) (by simp)
    rename_i cs hld
    obtain rfl := Option.some.inj (hld.symm.trans (ldArr (out := (List.range 100).map g) (k := n) rfl rfl hnl))
    clear hld
    have hcy : cycI edges n = if ((List.range 100).map g).getD n 0 = 0 then some [] else some (wayI edges ((List.range 100).map g) n (((List.range 100).map g).getD n 0 - 1) [n] n) := hcy
    generalize hfn : ((List.range 100).map g).getD n 0 = fn at *
    conv => whnf
    refine kbi (fun h0 => ?_) (fun h0 => ?_)
    · have h0 : fn = 0 := by
        have h1 : ((fn : Int) == 0) = true := h0
        rw [beq_iff_eq] at h1
        omega
      rw [if_pos h0] at hcy
      conv => whnf
      refine ⟨n + 1, ⟨by omega, fun k hk => ?_⟩, by show 100 - (n + 1) < 100 - n; omega, ⟨rfl, ?_, trivial⟩, trivial⟩
      · by_cases hkn : k = n
        · rw [hkn]; exact hcy
        · exact hno k (by omega)
      · show AV.d (.int .i64 (IntKind.i64.wrap ((n : Int) + 1))) = i64 ((n + 1 : Nat) : Int)
        rw [wrap_id (by omega) (by omega)]
        rfl
    have h0 : fn ≠ 0 := by
      intro e
      subst e
      exact h0 rfl
    rw [if_neg h0] at hcy
    have hfb : fn ≤ 35 := by
      have := bsRun_out hl (fun e h => (he e h).1) 7 0 0 (bs0 n) _ (bs0_ok n) (by intro x hx; simp [bs0] at hx; omega) hfin fn (by
        rw [← hfn, List.getD_eq_getElem?_getD, List.getElem?_eq_getElem hnl]
        exact List.getElem_mem hnl)
      omega
    conv => whnf
    refine ⟨⟨by omega, by show (n : Int) < 100; omega⟩, ?_⟩
    conv => whnf
    split
    rotate_left 1
    · rename_i hld
      exact absurd (hld.symm.trans (ldArr (out := (List.range 100).map g) (k := n) rfl rfl hnl)) (by simp)
    rename_i cs hld
    obtain rfl := Option.some.inj (hld.symm.trans (ldArr (out := (List.range 100).map g) (k := n) rfl rfl hnl))
    clear hld
    rw [hfn]
    conv => whnf
    have ew : IntKind.i64.wrap ((fn : Int) - 1) = ((fn - 1 : Nat) : Int) := by rw [wrap_id (by omega) (by omega)]; omega
    refine aloop (fun y : Nat × List Nat × Nat => [(0, sl (edges.map encG)), (4, i64 n), (5, .ptr (.n 5) 0), (6, .ref (.n 23) 0 y.2.1.length), (7, i64 y.2.2), (8, i64 y.1), (12, i64 n)])
      (fun y => [(.n 5, .vs 168 ((arr ((List.range 100).map g)).map .d)), (.n 23, .ds 3 1 (y.2.1.map encQ))]) (fun y => y.1)
      (fun y => wayI edges ((List.range 100).map g) n y.1 y.2.1 y.2.2 = wayI edges ((List.range 100).map g) n (fn - 1) [n] n ∧ y.1 + y.2.1.length = fn ∧ y.2.1.length ≥ 1) (fn - 1, [n], n)
      Weak.refl ?_ ?_ ⟨rfl, by show fn - 1 + 1 = fn; omega, Nat.le_refl _⟩ ?_
    · refine ⟨rfl, rfl, rfl, rfl, rfl, ?_, rfl, trivial⟩
      show AV.d (.int .i64 (IntKind.i64.wrap ((fn : Int) - 1))) = i64 ((fn - 1 : Nat) : Int)
      rw [ew]
    · exact ⟨rfl, rfl, trivial⟩
    rintro ⟨left, o, a⟩ τ2 H2 ⟨hw, hlo, ho1⟩
    have hw : wayI edges ((List.range 100).map g) n left o a = wayI edges ((List.range 100).map g) n (fn - 1) [n] n := hw
    have hlo : left + o.length = fn := hlo
    conv => whnf
    refine kbi (fun h5 => ?_) (fun h5 => ?_)
    · have h5 : 0 < left := by
        have := of_decide_eq_true h5
        omega
      obtain ⟨l, rfl⟩ : ∃ l, left = l + 1 := ⟨left - 1, by omega⟩
      conv => whnf
      refine aloop (fun z : Nat × Nat => [(0, sl (edges.map encG)), (4, i64 n), (5, .ptr (.n 5) 0), (6, .ref (.n 23) 0 o.length), (7, i64 a), (8, i64 (l + 1 : Nat)), (9, i64 z.2), (12, i64 n), (33, sl (edges.map encG)), (34, i64 (edges.map encG).length), (35, i64 z.1)])
        (fun z => [(.n 5, .vs 168 ((arr ((List.range 100).map g)).map .d)), (.n 23, .ds 3 1 (o.map encQ))]) (fun z => edges.length - z.1)
        (fun z => z.1 ≤ edges.length ∧ z.2 = (edges.take z.1).foldl (fun nx e => if (e.1 == a && e.2 != n && ((List.range 100).map g).getD e.2 0 == l + 1) = true then min nx e.2 else nx) 100) (0, 100)
        Weak.refl ⟨rfl, rfl, rfl, rfl, rfl, rfl, rfl, rfl, rfl, rfl, rfl, trivial⟩ ⟨rfl, rfl, trivial⟩ ⟨Nat.zero_le _, rfl⟩ ?_
      rintro ⟨j, nx⟩ τ3 H3 ⟨hj, hnx⟩
      have hj : j ≤ edges.length := hj
      have hnx : nx = (edges.take j).foldl (fun nx e => if (e.1 == a && e.2 != n && ((List.range 100).map g).getD e.2 0 == l + 1) = true then min nx e.2 else nx) 100 := hnx
      conv => whnf
      refine kbi (fun h6 => ?_) (fun h6 => ?_)
      · have hje : j < edges.length := by simpa using h6
        obtain ⟨he1, he2⟩ := he _ (List.getElem_mem hje)
        have hnext : (edges.take (j + 1)).foldl (fun nx e => if (e.1 == a && e.2 != n && ((List.range 100).map g).getD e.2 0 == l + 1) = true then min nx e.2 else nx) 100 = if (edges[j].1 == a && edges[j].2 != n && ((List.range 100).map g).getD edges[j].2 0 == l + 1) = true then min nx edges[j].2 else nx := by
          rw [List.take_succ_eq_append_getElem hje, List.foldl_append, ← hnx]; rfl
        conv => whnf
        refine ⟨encG edges[j], ⟨by omega, by simp [hje], rfl⟩, ?_⟩
        conv => whnf
        refine ⟨[di edges[j].1], ⟨by decide, rfl, rfl⟩, ?_⟩
        conv => whnf
        refine kbi (fun h7 => ?_) (fun h7 => ?_)
        · have h7 : edges[j].1 = a := by
            have h8 : ((edges[j].1 : Int) == (a : Int)) = true := h7
            rw [beq_iff_eq] at h8
            omega
          conv => whnf
          refine ⟨[di edges[j].2], ⟨by decide, rfl, rfl⟩, ?_⟩
          conv => whnf
          refine kbi (fun h9 => ?_) (fun h9 => ?_)
          · have h9 : edges[j].2 ≠ n := by
              have h8 : ((edges[j].2 : Int) != (n : Int)) = true := h9
              rw [bne_iff_ne] at h8
              omega
            conv => whnf
            refine ⟨[di edges[j].2], ⟨by decide, rfl, rfl⟩, ?_⟩
            conv => whnf
            have he2l : edges[j].2 < ((List.range 100).map g).length := by simp; omega
            refine ⟨⟨by omega, by show (edges[j].2 : Int) < 100; omega⟩, ?_⟩
            conv => whnf
            split
            rotate_left 1
            · rename_i hld
              exact absurd (hld.symm.trans (ldArr (out := (List.range 100).map g) (k := edges[j].2) rfl rfl he2l)) (by simp)
            rename_i cs hld
            obtain rfl := Option.some.inj (hld.symm.trans (ldArr (out := (List.range 100).map g) (k := edges[j].2) rfl rfl he2l))
            clear hld
            conv => whnf
            refine kbi (fun h10 => ?_) (fun h10 => ?_)
            · have h10 : ((List.range 100).map g).getD edges[j].2 0 = l + 1 := by
                have h8 : (((((List.range 100).map g).getD edges[j].2 0 : Nat) : Int) == ((l + 1 : Nat) : Int)) = true := h10
                rw [beq_iff_eq] at h8
                omega
              conv => whnf
              refine ⟨[di edges[j].2], ⟨by decide, rfl, rfl⟩, ?_⟩
              conv => whnf
              refine ⟨(j + 1, min nx edges[j].2), ⟨by show j + 1 ≤ edges.length; omega, by rw [hnext, if_pos (by simp only [Bool.and_eq_true, beq_iff_eq, bne_iff_ne]; exact ⟨⟨h7, h9⟩, h10⟩)]⟩, by show edges.length - (j + 1) < edges.length - j; omega, ⟨rfl, rfl, rfl, rfl, rfl, rfl, ?_, rfl, rfl, rfl, ?_, trivial⟩, ⟨rfl, rfl, trivial⟩⟩
              · show AV.d (.int .i64 (if (edges[j].2 : Int) < (nx : Int) then (edges[j].2 : Int) else (nx : Int))) = i64 ((min nx edges[j].2 : Nat) : Int)
                by_cases hlt : edges[j].2 < nx
                · rw [if_pos (by omega), Nat.min_eq_right (by omega)]
                · rw [if_neg (by omega), Nat.min_eq_left (by omega)]
              · show AV.d (.int .i64 (IntKind.i64.wrap ((j : Int) + 1))) = i64 ((j + 1 : Nat) : Int)
                rw [wrap_id (by omega) (by omega)]
                rfl
            · have h10 : ((List.range 100).map g).getD edges[j].2 0 ≠ l + 1 := by
                intro e
                apply h10
                show (((((List.range 100).map g).getD edges[j].2 0 : Nat) : Int) == ((l + 1 : Nat) : Int)) = true
                rw [beq_iff_eq, e]
              conv => whnf
              refine ⟨(j + 1, nx), ⟨by show j + 1 ≤ edges.length; omega, by rw [hnext]; rw [if_neg (by simp only [Bool.and_eq_true, beq_iff_eq, bne_iff_ne]; rintro ⟨⟨q1, q2⟩, q3⟩; exact h10 q3)]⟩, by show edges.length - (j + 1) < edges.length - j; omega, ⟨rfl, rfl, rfl, rfl, rfl, rfl, rfl, rfl, rfl, rfl, ?_, trivial⟩, ⟨rfl, rfl, trivial⟩⟩
              show AV.d (.int .i64 (IntKind.i64.wrap ((j : Int) + 1))) = i64 ((j + 1 : Nat) : Int)
              rw [wrap_id (by omega) (by omega)]
              rfl
          · have h9 : edges[j].2 = n := by
              have h8 : ¬ ((edges[j].2 : Int) != (n : Int)) = true := h9
              rw [bne_iff_ne, ne_eq, Classical.not_not] at h8
              omega
            conv => whnf
            refine ⟨(j + 1, nx), ⟨by show j + 1 ≤ edges.length; omega, by rw [hnext]; rw [if_neg (by simp only [Bool.and_eq_true, beq_iff_eq, bne_iff_ne]; rintro ⟨⟨q1, q2⟩, q3⟩; exact q2 h9)]⟩, by show edges.length - (j + 1) < edges.length - j; omega, ⟨rfl, rfl, rfl, rfl, rfl, rfl, rfl, rfl, rfl, rfl, ?_, trivial⟩, ⟨rfl, rfl, trivial⟩⟩
            show AV.d (.int .i64 (IntKind.i64.wrap ((j : Int) + 1))) = i64 ((j + 1 : Nat) : Int)
            rw [wrap_id (by omega) (by omega)]
            rfl
        · have h7 : edges[j].1 ≠ a := by
            intro e
            apply h7
            show ((edges[j].1 : Int) == (a : Int)) = true
            rw [beq_iff_eq, e]
          conv => whnf
          refine ⟨(j + 1, nx), ⟨by show j + 1 ≤ edges.length; omega, by rw [hnext]; rw [if_neg (by simp only [Bool.and_eq_true, beq_iff_eq, bne_iff_ne]; rintro ⟨⟨q1, q2⟩, q3⟩; exact h7 q1)]⟩, by show edges.length - (j + 1) < edges.length - j; omega, ⟨rfl, rfl, rfl, rfl, rfl, rfl, rfl, rfl, rfl, rfl, ?_, trivial⟩, ⟨rfl, rfl, trivial⟩⟩
          show AV.d (.int .i64 (IntKind.i64.wrap ((j : Int) + 1))) = i64 ((j + 1 : Nat) : Int)
          rw [wrap_id (by omega) (by omega)]
          rfl
      · have hje : edges.length ≤ j := by simpa using h6
        have hjj : j = edges.length := by omega
        rw [hjj, List.take_length] at hnx
        have hnx : nx = nextI edges ((List.range 100).map g) n a (l + 1) := hnx
        conv => whnf
        refine ⟨⟨rfl, by show (o.length + 1) * 8 ≤ _; omega, by show o.length + 1 ≤ _; omega⟩, ?_⟩
        conv => whnf
        refine ⟨(l, o ++ [nx], nx), ⟨by show wayI edges ((List.range 100).map g) n l (o ++ [nx]) nx = _; rw [← hw, hnx]; rfl, by show l + (o ++ [nx]).length = fn; simp; omega, by show (o ++ [nx]).length ≥ 1; simp⟩, by show l < l + 1; omega, ⟨rfl, rfl, rfl, ?_, rfl, ?_, rfl, trivial⟩, ⟨rfl, ?_, trivial⟩⟩
        · show AV.ref (.n 23) 0 (o.length + 1) = .ref (.n 23) 0 (o ++ [nx]).length
          rw [List.length_append]; rfl
        · show AV.d (.int .i64 (IntKind.i64.wrap (((l + 1 : Nat) : Int) - 1))) = i64 ((l : Nat) : Int)
          rw [wrap_id (by omega) (by omega)]
          congr 2
          omega
        · show some (Ob.ds 3 1 ((o.map encQ).take o.length ++ [encQ nx])) = some (Ob.ds 3 1 ((o ++ [nx]).map encQ))
          rw [List.take_of_length_le (by simp)]
          simp
    · have h5 : left = 0 := by
        have : ¬ (left : Int) > 0 := fun e => h5 (decide_eq_true e)
        omega
      subst h5
      conv => whnf
      refine .inl ?_
      conv => whnf
      have hoe : cycI edges n = some o := by rw [hcy, ← hw]; rfl
      rw [cycOf_at h hno hoe (by have : 1 ≤ o.length := ho1; intro e; rw [e] at this; simp at this)]
      have ho1 : 1 ≤ o.length := ho1
      show AV.tup [AV.d (.sl ((o.map encQ).take o.length)), bv true] = _
      rw [List.take_of_length_le (by simp)]
      cases o with
      | nil => simp at ho1
      | cons x xs => rfl
  · have h : n = 100 := by
      have : ¬ (n : Int) < 100 := fun e => h (decide_eq_true e)
      omega
    subst h
    have h0 : cycOf edges = [] := by
      unfold cycOf
      have : (List.range 100).findSome? (fun n => match cycI edges n with | some (x :: xs) => some (x :: xs) | _ => none) = none := by
        rw [List.findSome?_eq_none_iff]
        intro k hk
        rw [hno k (by simpa using hk)]
      rw [this]; rfl
    conv => whnf
    rw [h0]
    refine .inl ?_
    conv => whnf
    rfl
end Ai
end
section
namespace Ai.Cyc
theorem fold_none {goal cur : Nat} : ∀ (es : List (Nat × Nat)) (st : BS), (∀ e ∈ es, e.2 ≠ cur) → es.foldl (bsE goal cur) st = st
  | [], st, h => rfl
  | e :: es, st, h => by
    have : bsE goal cur st e = st := by
      unfold bsE
      rw [if_pos (by rw [Bool.or_eq_true]; exact .inl (bne_iff_ne.2 (h e List.mem_cons_self)))]
    rw [List.foldl_cons, this]
    exact fold_none es st fun x hx => h x (List.mem_cons_of_mem _ hx)
theorem run_far {n : Nat} {edges : List (Nat × Nat)} (h : ∀ e ∈ edges, e.2 ≠ n) : bsRun n edges 7 0 (bs0 n) = some (bs0 n) := by
  unfold bsRun
  rw [if_pos (by simp [bs0])]
  rw [show (bs0 n).queue.getD 0 0 = n from rfl, fold_none edges _ h]
  unfold bsRun
  rw [if_neg (by simp [bs0])]
theorem cycI_far {n : Nat} {edges : List (Nat × Nat)} (h : ∀ e ∈ edges, e.2 ≠ n) : cycI edges n = some [] := by
  unfold cycI
  rw [run_far h]
  have : (bs0 n).out.getD n 0 = 0 := by
    simp only [bs0, List.getD_eq_getElem?_getD, List.getElem?_replicate]
    split <;> rfl
  show (if (bs0 n).out.getD n 0 = 0 then some [] else _) = _
  rw [if_pos this]
theorem cycS_far {n : Nat} {edges : List (Nat × Nat)} (h : ∀ e ∈ edges, e.1 ≠ n) : cycS edges n = some [] := by
  have hf : edges.find? (fun e => e.1 == n) = none := by
    rw [List.find?_eq_none]
    intro e he
    simpa using h e he
  unfold cycS wayS
  rw [if_pos (by simp)]
  have : (([[n]] : List (List Nat)).getD 0 []).getLastD 0 = n := rfl
  rw [this, hf]
  unfold wayS
  rw [if_neg (by simp)]
structure Graph (edges : List (Nat × Nat)) : Prop where
  g : ∃ a b c d e : Option Nat, (a ∈ opts ∧ b ∈ opts ∧ c ∈ opts ∧ d ∈ opts ∧ e ∈ opts) ∧ edges = ed 0 a ++ ed 1 b ++ ed 2 c ++ ed 3 d ++ ed 4 e
theorem ed_in {k : Nat} {o : Option Nat} (ho : o ∈ opts) (hk : k < 5) : ∀ e ∈ ed k o, e.1 < 5 ∧ e.2 < 5 := by
  intro e he
  simp only [opts, List.mem_cons, List.not_mem_nil, or_false] at ho
  rcases ho with rfl | rfl | rfl | rfl | rfl | rfl <;> simp [ed] at he <;> subst he <;> exact ⟨hk, by simp⟩
theorem Graph.small {edges : List (Nat × Nat)} (h : Graph edges) : ∀ e ∈ edges, e.1 < 5 ∧ e.2 < 5 := by
  obtain ⟨a, b, c, d, e, ⟨ha, hb, hc, hd, he⟩, rfl⟩ := h.g
  intro x hx
  simp only [List.mem_append] at hx
  rcases hx with (((hx | hx) | hx) | hx) | hx
  · exact ed_in ha (by decide) x hx
  · exact ed_in hb (by decide) x hx
  · exact ed_in hc (by decide) x hx
  · exact ed_in hd (by decide) x hx
  · exact ed_in he (by decide) x hx
theorem ed_len (k : Nat) (o : Option Nat) : (ed k o).length ≤ 1 := by cases o <;> simp [ed]
theorem Graph.len {edges : List (Nat × Nat)} (h : Graph edges) : edges.length ≤ 5 := by
  obtain ⟨a, b, c, d, e, -, rfl⟩ := h.g
  simp only [List.length_append]
  have := ed_len 0 a; have := ed_len 1 b; have := ed_len 2 c; have := ed_len 3 d; have := ed_len 4 e
  omega
theorem Graph.same {edges : List (Nat × Nat)} (h : Graph edges) (n : Nat) : (cycI edges n).isSome = true ∧ cycI edges n = cycS edges n := by
  by_cases hn : n < 5
  · obtain ⟨a, b, c, d, e, ⟨ha, hb, hc, hd, he⟩, rfl⟩ := h.g
    have := ok_all a b c d e ha hb hc hd he
    simp only [ok, List.all_eq_true, List.mem_range, Bool.and_eq_true, beq_iff_eq] at this
    exact this n hn
  · have h1 : cycI edges n = some [] := cycI_far fun e he => by have := h.small e he; omega
    have h2 : cycS edges n = some [] := cycS_far fun e he => by have := h.small e he; omega
    rw [h1, h2]
    exact ⟨rfl, rfl⟩
theorem Graph.run {edges : List (Nat × Nat)} (h : Graph edges) (n : Nat) : (bsRun n edges 7 0 (bs0 n)).isSome = true := by
  have := (h.same n).1
  unfold cycI at this
  cases hr : bsRun n edges 7 0 (bs0 n) with
  | none => rw [hr] at this; cases this
  | some x => rfl
end Ai.Cyc
end
section
set_option maxRecDepth 100000
namespace Ai
open Go Go.Proofs Cyc
def cycSOf (edges : List (Nat × Nat)) : List Nat := ((List.range 100).findSome? fun n => match cycS edges n with | some (x :: xs) => some (x :: xs) | _ => none).getD []
theorem cyc_same {edges : List (Nat × Nat)} (h : Graph edges) : cycOf edges = cycSOf edges := by
  unfold cycOf cycSOf
  refine congrArg (fun f => ((List.range 100).findSome? f).getD []) (funext fun n => ?_)
  have e := (h.same n).2
  generalize cycI edges n = a at e ⊢
  subst e
  cases cycS edges n with
  | none => rfl
  | some l => cases l <;> rfl
theorem cycS_at {edges : List (Nat × Nat)} {n : Nat} {o : List Nat} (h : n < 100) (hno : ∀ k, k < n → cycS edges k = some []) (ho : cycS edges n = some o) (hne : o ≠ []) : cycSOf edges = o := by
  unfold cycSOf
  have hs : List.range 100 = (List.range 100).take n ++ n :: (List.range 100).drop (n + 1) := by
    have := (List.take_append_drop n (List.range 100)).symm
    rw [List.drop_eq_getElem_cons (by simp; omega), List.getElem_range] at this
    exact this
  have hf : (List.range 100).findSome? (fun n => match cycS edges n with | some (x :: xs) => some (x :: xs) | _ => none) = some o := by
    rw [List.findSome?_eq_some_iff]
    refine ⟨_, n, _, hs, ?_, fun x hx => ?_⟩
    · rw [ho]
      cases o with
      | nil => exact absurd rfl hne
      | cons x xs => rfl
    · obtain ⟨i, hi, rfl⟩ := List.mem_iff_getElem.1 hx
      have hi2 : i < n := by
        have := hi
        simp at this
        omega
      rw [List.getElem_take, List.getElem_range, hno i hi2]
  rw [hf]
  rfl
theorem l3Cycle_ok (edges : List (Nat × Nat)) (hG : Graph edges) (hW : ∀ n w, n < 100 → cycS edges n = some w → CallsTo EE 162 [sl (edges.map encG), i64 n, i64 n] (· = sl (w.map encQ))) :
    CallsTo EE 129 [sl (edges.map encG)] (· = sl ((cycSOf edges).map encQ)) := by
  refine callsTo_of_AW (fn := Tryz.f129) Tryz.func129 rfl (by kernel_rfl) rfl ?_
  conv => whnf
  refine aloop (fun n : Nat => [(0, sl (edges.map encG)), (3, i64 n)]) (fun n => []) (fun n => 100 - n) (fun n => n ≤ 100 ∧ ∀ k, k < n → cycS edges k = some []) 0
    Weak.refl ⟨rfl, rfl, trivial⟩ trivial ⟨Nat.zero_le _, fun k hk => by omega⟩ ?_
  rintro n τ H ⟨hn, hno⟩
  conv => whnf
  refine kbi (fun h => ?_) (fun h => ?_)
  · have h : n < 100 := by
      have := of_decide_eq_true h
      omega
    obtain ⟨w, hw⟩ : ∃ w, cycS edges n = some w := by
      have := (hG.same n).1
      rw [(hG.same n).2] at this
      exact Option.isSome_iff_exists.1 this
    conv => whnf
    refine ⟨_, hW n w h hw, ?_⟩
    rintro r rfl
    conv => whnf
    refine kbi (fun h0 => ?_) (fun h0 => ?_)
    · have h0 : 0 < w.length := by
        have := of_decide_eq_true h0
        simpa using this
      conv => whnf
      rw [cycS_at h hno hw (by intro e; rw [e] at h0; simp at h0)]
      try rfl
    · have h0 : w = [] := by
        have h1 : ¬ ((w.map encQ).length : Int) > 0 := fun e => h0 (decide_eq_true e)
        have : w.length = 0 := by simp at h1; simpa using h1
        exact List.length_eq_zero_iff.1 this
      subst h0
      conv => whnf
      refine ⟨n + 1, ⟨by omega, fun k hk => ?_⟩, by show 100 - (n + 1) < 100 - n; omega, ⟨rfl, ?_, trivial⟩, trivial⟩
      · by_cases hkn : k = n
        · rw [hkn]; exact hw
        · exact hno k (by omega)
      · show AV.d (.int .i64 (IntKind.i64.wrap ((n : Int) + 1))) = i64 ((n + 1 : Nat) : Int)
        rw [wrap_id (by omega) (by omega)]
        rfl
  · have h : n = 100 := by
      have : ¬ (n : Int) < 100 := fun e => h (decide_eq_true e)
      omega
    subst h
    have h0 : cycSOf edges = [] := by
      unfold cycSOf
      have : (List.range 100).findSome? (fun n => match cycS edges n with | some (x :: xs) => some (x :: xs) | _ => none) = none := by
        rw [List.findSome?_eq_none_iff]
        intro k hk
        rw [hno k (by simpa using hk)]
      rw [this]; rfl
    conv => whnf
    rw [h0]
    exact .inl rfl
end Ai
end
section
set_option maxRecDepth 100000
namespace Ai
open Go Go.Proofs
theorem dash_ok (l : List UInt8) : CallsTo EE 100 [sv l] (· = sv (if l = [] then [45] else l)) := by
  refine callsTo_of_AW (fn := Tryz.f100) Tryz.func100 rfl (by kernel_rfl) rfl ?_
  conv => whnf
  refine kbi (fun h => ?_) (fun h => ?_)
  · have h : l = [] := by simpa using h
    conv => whnf
    rw [if_pos h]
    try rfl
  · have h : ¬ l = [] := by simpa using h
    conv => whnf
    rw [if_neg h]
    try rfl
theorem joinNumbers_ok (xs : List Nat) (hl : xs.length ≤ 1000) (hx : ∀ x ∈ xs, x ≤ 1000000) (hlen : (Lib.join (xs.map fun x => Lib.itoa ((x : Nat) : Int)) [44]).length ≤ 140737488355328) :
    CallsTo EE 101 [sl (xs.map encQ)] (· = sv (Lib.join (xs.map fun x => Lib.itoa ((x : Nat) : Int)) [44])) := by
  refine callsTo_of_AW (fn := Tryz.f101) Tryz.func101 rfl (by kernel_rfl) rfl ?_
  conv => whnf
  refine aloop (fun k : Nat => [(0, sl (xs.map encQ)), (3, .ref (.n 6) 0 k), (7, sl (xs.map encQ)), (8, i64 (xs.map encQ).length), (9, i64 k)]) (fun k => [(.n 6, .ds 9 1 (((xs.take k).map fun x => Lib.itoa ((x : Nat) : Int)).map encStr))]) (fun k => xs.length - k) (fun k => k ≤ xs.length) 0
    Weak.refl ⟨rfl, rfl, rfl, rfl, rfl, trivial⟩ ⟨rfl, trivial⟩ (Nat.zero_le _) ?_
  intro k τ H hk
  have hk : k ≤ xs.length := hk
  conv => whnf
  refine kbi (fun h => ?_) (fun h => ?_)
  · have hlt : k < xs.length := by simpa using h
    have hxk := hx _ (List.getElem_mem hlt)
    conv => whnf
    refine ⟨encQ xs[k], ⟨by omega, by simp [hlt], rfl⟩, ?_⟩
    conv => whnf
    refine ⟨_, Itoa_ok ((xs[k] : Nat) : Int) (by omega) (by omega), ?_⟩
    rintro r rfl
    conv => whnf
    refine ⟨⟨rfl, by show (k + 1) * 16 ≤ _; omega, by show k + 1 ≤ _; omega⟩, ?_⟩
    conv => whnf
    refine ⟨k + 1, by show k + 1 ≤ xs.length; omega, by show xs.length - (k + 1) < xs.length - k; omega, ⟨rfl, rfl, rfl, rfl, ?_, trivial⟩, ⟨?_, trivial⟩⟩
    · show AV.d (.int .i64 (IntKind.i64.wrap ((k : Int) + 1))) = i64 ((k + 1 : Nat) : Int)
      rw [wrap_id (by omega) (by omega)]
      rfl
    · show some (Ob.ds 9 1 ((((xs.take k).map fun x => Lib.itoa ((x : Nat) : Int)).map encStr).take k ++ [encStr (Lib.itoa ((xs[k] : Nat) : Int))])) = some (Ob.ds 9 1 (((xs.take (k + 1)).map fun x => Lib.itoa ((x : Nat) : Int)).map encStr))
      have e0 : (((xs.take k).map fun x => Lib.itoa ((x : Nat) : Int)).map encStr).take k = ((xs.take k).map fun x => Lib.itoa ((x : Nat) : Int)).map encStr := List.take_of_length_le (by simp; omega)
      rw [e0, List.take_succ_eq_append_getElem hlt, List.map_append, List.map_append]
      rfl
  · have hge : xs.length ≤ k := by simpa using h
    have hkk : k = xs.length := by omega
    subst hkk
    conv => whnf
    have e : ((((xs.take xs.length).map fun x => Lib.itoa ((x : Nat) : Int)).map encStr).drop 0).take xs.length = (xs.map fun x => Lib.itoa ((x : Nat) : Int)).map encStr := by
      rw [List.drop_zero, List.take_length, List.take_of_length_le (by simp)]
    refine .inl ⟨_, Eq.mp (congrArg (fun x => CallsTo EE 139 [sl x, sv [44]] _) e.symm) (Join_ok (xs.map fun x => Lib.itoa ((x : Nat) : Int)) [44] (by simp; omega) hlen), ?_⟩
    rintro r rfl
    refine ⟨rfl, ?_⟩
    conv => whnf
    try rfl
end Ai
end
section
set_option maxRecDepth 100000
namespace Ai
open Go Go.Proofs Cyc
theorem l1Put0_ok (n : Int) : CallsTo EE 195 [sl [], i64 n] (· = .uq 3 1 [[di n]]) := by
  refine callsTo_of_AW (fn := Tryz.f195) Tryz.func195 rfl (by kernel_rfl) rfl ?_
  conv => whnf
  refine aloop (fun _ : Unit => [(0, sl []), (1, i64 n), (5, i64 0)]) (fun _ => []) (fun _ => 0) (fun _ => True) ()
    Weak.refl ⟨rfl, rfl, rfl, trivial⟩ trivial trivial ?_
  rintro ⟨⟩ τ H -
  conv => whnf
  refine kbi (fun h => absurd h (by decide)) (fun h => ?_)
  conv => whnf
  refine kbi (fun h2 => absurd h2 (by decide)) (fun h2 => ?_)
  conv => whnf
  refine ⟨⟨Int.le_refl _, Int.le_refl _, Int.le_refl _, fun c hc => (by cases hc)⟩, ?_⟩
  conv => whnf
  refine ⟨⟨rfl, by decide, by decide⟩, ?_⟩
  conv => whnf
  refine ⟨⟨rfl, by show (8 : Nat) ≤ _; decide, by show (1 : Nat) ≤ _; decide⟩, ?_⟩
  conv => whnf
  refine ⟨⟨Int.le_refl _, Int.le_refl _, Int.le_refl _, fun c hc => (by cases hc)⟩, ?_⟩
  conv => whnf
  refine ⟨⟨rfl, by show (8 : Nat) ≤ _; decide, by show (1 : Nat) ≤ _; decide⟩, ?_⟩
  conv => whnf
  try rfl
end Ai
end
section
set_option maxRecDepth 100000
namespace Ai
open Go Go.Proofs Cyc
def encW (w : List Nat) : List D := [.sl (w.map encQ)]
def OneEach (edges : List (Nat × Nat)) : Prop := ∀ i j (hi : i < edges.length) (hj : j < edges.length), edges[i].1 = edges[j].1 → i = j
def nxv : Option Nat → AV
  | none => .d .nil
  | some b => .d (.sl [[di (b : Int)]])
theorem l3Way_ok (edges : List (Nat × Nat)) (n : Nat) (w : List Nat) (hl : edges.length ≤ 5) (ho : OneEach edges) (hw : wayS edges n 8 0 [[n]] [] = some w) :
    CallsTo EE 162 [sl (edges.map encG), i64 n, i64 n] (· = sl (w.map encQ)) := by
  refine callsTo_of_AW (fn := Tryz.f162) Tryz.func162 rfl (by kernel_rfl) rfl ?_
  conv => whnf
  refine .inl ?_
  conv => whnf
  refine aloop (fun x : Nat × List (List Nat) × List Nat => [(0, sl (edges.map encG)), (1, i64 n), (2, i64 n), (6, .d .nil), (7, .ref (.n 18) 0 x.2.1.length), (8, .ref (.n 68) 0 x.2.2.length), (9, i64 x.1)])
    (fun x => [(.n 18, .ds 25 1 (x.2.1.map encW)), (.n 68, .ds 3 1 (x.2.2.map encQ))]) (fun x => 8 - x.1)
    (fun x => ∃ f, f + x.1 = 8 ∧ wayS edges n f x.1 x.2.1 x.2.2 = some w ∧ x.2.1.length ≤ x.1 + 1 ∧ (∀ v ∈ x.2.1, 1 ≤ v.length ∧ v.length ≤ x.1 + 1) ∧ x.2.2.length ≤ x.1) (0, [[n]], [])
    (weak_nil 8 (.n 68) 3 1 rfl) ?_ ?_ ⟨8, rfl, hw, by simp, by simp, by simp⟩ ?_
  · exact ⟨rfl, rfl, rfl, rfl, rfl, rfl, rfl, trivial⟩
  · exact ⟨rfl, rfl, trivial⟩
  rintro ⟨i, ways, seen⟩ τ H ⟨f, hf, hrun, hwl, hne, hsl⟩
  cases f with
  | zero => cases hrun
  | succ f =>
  have hf : f + 1 + i = 8 := hf
  have hrun : wayS edges n (f + 1) i ways seen = some w := hrun
  have hwl : ways.length ≤ i + 1 := hwl
  have hne : ∀ v ∈ ways, 1 ≤ v.length ∧ v.length ≤ i + 1 := hne
  have hsl : seen.length ≤ i := hsl
  conv => whnf
  refine kbi (fun hi => ?_) (fun hi => ?_)
  · have hi : i < ways.length := by
      have := of_decide_eq_true hi
      simpa using this
    have hwi := hne _ (List.getElem_mem hi)
    have hgd : ways.getD i [] = ways[i] := by simp [List.getD_eq_getElem?_getD, hi]
    unfold wayS at hrun
    rw [if_pos hi, hgd] at hrun
    generalize hv : ways[i] = v at *
    have hvl : v.getLastD 0 = v.getD (v.length - 1) 0 := by
      rw [List.getLastD_eq_getLast?, List.getLast?_eq_getElem?, List.getD_eq_getElem?_getD]
    conv => whnf
    refine ⟨⟨by omega, by show (i : Int) < ways.length; omega⟩, ?_⟩
    conv => whnf
    refine ⟨encW v, ⟨by rw [Nat.zero_add]; show (ways.map encW)[i]? = _; rw [List.getElem?_map, List.getElem?_eq_getElem hi, hv]; rfl, by show 0 + 1 ≤ 1; omega⟩, ?_⟩
    conv => whnf
    have ewl : IntKind.i64.wrap ((v.length : Int) - 1) = ((v.length - 1 : Nat) : Int) := by rw [wrap_id (by omega) (by omega)]; omega
    generalize hlast : v.getLastD 0 = last at *
    refine aloop (fun y : Nat × Option Nat => [(0, sl (edges.map encG)), (1, i64 n), (2, i64 n), (6, .d .nil), (7, .ref (.n 18) 0 ways.length), (8, .ref (.n 68) 0 seen.length), (9, i64 i), (10, sl (v.map encQ)), (11, nxv y.2), (29, sl (edges.map encG)), (30, i64 (edges.map encG).length), (31, i64 y.1)])
      (fun y => [(.n 18, .ds 25 1 (ways.map encW)), (.n 68, .ds 3 1 (seen.map encQ))]) (fun y => edges.length - y.1)
      (fun y => y.1 ≤ edges.length ∧ y.2 = ((edges.take y.1).find? (fun e => e.1 == last)).map (·.2)) (0, none)
      Weak.refl ⟨rfl, rfl, rfl, rfl, rfl, rfl, rfl, rfl, rfl, rfl, rfl, rfl, trivial⟩ ⟨rfl, rfl, trivial⟩ ⟨Nat.zero_le _, rfl⟩ ?_
    rintro ⟨j, q⟩ τ2 H2 ⟨hj, hq⟩
    have hj : j ≤ edges.length := hj
    have hq : q = ((edges.take j).find? (fun e => e.1 == last)).map (·.2) := hq
    conv => whnf
    refine kbi (fun hje => ?_) (fun hje => ?_)
    · have hje : j < edges.length := by simpa using hje
      have hnext : (edges.take (j + 1)).find? (fun e => e.1 == last) = ((edges.take j).find? (fun e => e.1 == last)).or (if edges[j].1 == last then some edges[j] else none) := by
        rw [List.take_succ_eq_append_getElem hje, List.find?_append]
        congr 1
        simp only [List.find?_cons]
        cases (edges[j].1 == last) <;> rfl
      conv => whnf
      refine ⟨encG edges[j], ⟨by omega, by simp [hje], rfl⟩, ?_⟩
      conv => whnf
      refine ⟨by kernel_rfl, ?_⟩
      conv => whnf
      refine ⟨[di edges[j].1], ⟨by decide, rfl, rfl⟩, ?_⟩
      conv => whnf
      refine ⟨encQ last, ⟨?_, ?_, rfl⟩, ?_⟩
      · show (0 : Int) ≤ IntKind.i64.wrap (((v.map encQ).length : Int) - 1)
        rw [List.length_map, ewl]; omega
      · show (v.map encQ)[(IntKind.i64.wrap (((v.map encQ).length : Int) - 1)).toNat]? = _
        rw [List.length_map, ewl, hvl, List.getElem?_map, List.getD_eq_getElem?_getD]
        show (v[v.length - 1]?).map encQ = _
        rw [List.getElem?_eq_getElem (by omega)]
        rfl
      conv => whnf
      refine kbi (fun h7 => ?_) (fun h7 => ?_)
      · have h7 : edges[j].1 = last := by
          have h8 : ((edges[j].1 : Int) == (last : Int)) = true := h7
          rw [beq_iff_eq] at h8
          omega
        have hnone : (edges.take j).find? (fun e => e.1 == last) = none := by
          rw [List.find?_eq_none]
          intro e he
          obtain ⟨k, hk, rfl⟩ := List.mem_take_iff_getElem.1 he
          intro e2
          have e2 : edges[k].1 = last := by simpa using e2
          have := ho k j (by omega) hje (by rw [e2, h7])
          omega
        rw [hnone] at hq hnext
        have hq : q = none := hq
        subst hq
        conv => whnf
        refine ⟨[di edges[j].2], ⟨by decide, rfl, rfl⟩, ?_⟩
        conv => whnf
        refine ⟨_, l1Put0_ok (edges[j].2 : Int), ?_⟩
        rintro r rfl
        refine .inl ?_
        conv => whnf
        refine ⟨(j + 1, some edges[j].2), ⟨by show j + 1 ≤ edges.length; omega, by show some edges[j].2 = _; rw [hnext, h7]; simp⟩, by show edges.length - (j + 1) < edges.length - j; omega, ⟨rfl, rfl, rfl, rfl, rfl, rfl, rfl, rfl, rfl, rfl, rfl, ?_, trivial⟩, ⟨rfl, rfl, trivial⟩⟩
        show AV.d (.int .i64 (IntKind.i64.wrap ((j : Int) + 1))) = i64 ((j + 1 : Nat) : Int)
        rw [wrap_id (by omega) (by omega)]
        rfl
      · have h7 : edges[j].1 ≠ last := by
          intro e
          apply h7
          show ((edges[j].1 : Int) == (last : Int)) = true
          rw [beq_iff_eq, e]
        conv => whnf
        refine ⟨(j + 1, q), ⟨by show j + 1 ≤ edges.length; omega, by show q = _; rw [hnext, hq]; simp [h7]⟩, by show edges.length - (j + 1) < edges.length - j; omega, ⟨rfl, rfl, rfl, rfl, rfl, rfl, rfl, rfl, rfl, rfl, rfl, ?_, trivial⟩, ⟨rfl, rfl, trivial⟩⟩
        show AV.d (.int .i64 (IntKind.i64.wrap ((j : Int) + 1))) = i64 ((j + 1 : Nat) : Int)
        rw [wrap_id (by omega) (by omega)]
        rfl
    · have hje : edges.length ≤ j := by simpa using hje
      have hjj : j = edges.length := by omega
      rw [hjj, List.take_length] at hq
      cases hfd : edges.find? (fun e => e.1 == last) with
      | none =>
        rw [hfd] at hq hrun
        have hq : q = none := hq
        subst hq
        conv => whnf
        refine aloop (fun _ : Unit => [(0, sl (edges.map encG)), (1, i64 n), (2, i64 n), (6, .d .nil), (7, .ref (.n 18) 0 ways.length), (8, .ref (.n 68) 0 seen.length), (9, i64 i), (52, i64 0), (53, i64 0)])
          (fun _ => [(.n 18, .ds 25 1 (ways.map encW)), (.n 68, .ds 3 1 (seen.map encQ))]) (fun _ => 0) (fun _ => True) ()
          Weak.refl ⟨rfl, rfl, rfl, rfl, rfl, rfl, rfl, rfl, rfl, trivial⟩ ⟨rfl, rfl, trivial⟩ trivial ?_
        rintro ⟨⟩ τ3 H3 -
        conv => whnf
        refine kbi (fun h8 => absurd h8 (by decide)) (fun h8 => ?_)
        conv => whnf
        refine ⟨(i + 1, ways, seen), ⟨f, by show f + (i + 1) = 8; omega, hrun, by show ways.length ≤ i + 1 + 1; omega, fun v hv => ⟨(hne v hv).1, Nat.le_succ_of_le (hne v hv).2⟩, Nat.le_succ_of_le hsl⟩, by show 8 - (i + 1) < 8 - i; omega, ⟨rfl, rfl, rfl, rfl, rfl, rfl, ?_, trivial⟩, ⟨rfl, rfl, trivial⟩⟩
        show AV.d (.int .i64 (IntKind.i64.wrap ((i : Int) + 1))) = i64 ((i + 1 : Nat) : Int)
        rw [wrap_id (by omega) (by omega)]
        rfl
      | some e =>
        rw [hfd] at hq hrun
        have hq : q = some e.2 := hq
        subst hq
        conv => whnf
        have hrun : (if e.2 = n then some v else if seen.contains e.2 = true then wayS edges n f (i + 1) ways seen else wayS edges n f (i + 1) (ways ++ [v ++ [e.2]]) (seen ++ [e.2])) = some w := hrun
        refine aloop (fun z : Nat × List (List Nat) × List Nat => [(0, sl (edges.map encG)), (1, i64 n), (2, i64 n), (6, .d .nil), (7, .ref (.n 18) 0 z.2.1.length), (8, .ref (.n 68) 0 z.2.2.length), (9, i64 i), (10, sl (v.map encQ)), (51, .d (.sl [[di (e.2 : Int)]])), (52, i64 1), (53, i64 z.1)])
          (fun z => [(.n 18, .ds 25 1 (z.2.1.map encW)), (.n 68, .ds 3 1 (z.2.2.map encQ))]) (fun z => 1 - z.1)
          (fun z => (z.1 = 0 ∧ z.2.1 = ways ∧ z.2.2 = seen) ∨ (z.1 = 1 ∧ wayS edges n f (i + 1) z.2.1 z.2.2 = some w ∧ z.2.1.length ≤ i + 2 ∧ (∀ v ∈ z.2.1, 1 ≤ v.length ∧ v.length ≤ i + 2) ∧ z.2.2.length ≤ i + 1)) (0, ways, seen)
          Weak.refl ⟨rfl, rfl, rfl, rfl, rfl, rfl, rfl, rfl, rfl, rfl, rfl, trivial⟩ ⟨rfl, rfl, trivial⟩ (.inl ⟨rfl, rfl, rfl⟩) ?_
        rintro ⟨k, W, Sn⟩ τ3 H3 hz
        rcases hz with ⟨hk, hW, hS⟩ | ⟨hk, hrun2, hWl, hWn, hSl⟩
        · obtain rfl : k = 0 := hk
          obtain rfl : W = ways := hW
          obtain rfl : Sn = seen := hS
          conv => whnf
          refine kbi (fun _ => ?_) (fun h8 => absurd (show decide ((0 : Int) < 1) = true from rfl) h8)
          conv => whnf
          refine ⟨[di (e.2 : Int)], ⟨Int.le_refl _, rfl, rfl⟩, ?_⟩
          conv => whnf
          refine kbi (fun h9 => ?_) (fun h9 => ?_)
          · have h9 : e.2 = n := by
              have h8 : ((e.2 : Int) == (n : Int)) = true := h9
              rw [beq_iff_eq] at h8
              omega
            rw [if_pos h9] at hrun
            obtain rfl := Option.some.inj hrun
            conv => whnf
            try rfl
          have h9 : e.2 ≠ n := by
            intro q
            apply h9
            show ((e.2 : Int) == (n : Int)) = true
            rw [beq_iff_eq, q]
          rw [if_neg h9] at hrun
          conv => whnf
          have hsn : ((Sn.map encQ).drop 0).take Sn.length = (Sn.map fun x => ((x : Nat) : Int)).map encInt := by
            rw [List.drop_zero, List.take_of_length_le (by simp), List.map_map]; rfl
          refine .inl ⟨_, l1Has_at _ (Sn.map fun x => ((x : Nat) : Int)) (e.2 : Int) hsn (by simp; omega), ?_⟩
          rintro r rfl
          refine ⟨rfl, ?_⟩
          by_cases hc : e.2 ∈ Sn
          · rw [if_pos (by simpa using hc)] at hrun
            simp only [bp, pb_t (show ((e.2 : Nat) : Int) ∈ Sn.map fun x => ((x : Nat) : Int) from List.mem_map.2 ⟨e.2, hc, rfl⟩)]
            conv => whnf
            refine ⟨(1, W, Sn), .inr ⟨rfl, hrun, by show W.length ≤ i + 2; omega, fun v hv => ⟨(hne v hv).1, Nat.le_succ_of_le (hne v hv).2⟩, by show Sn.length ≤ i + 1; omega⟩, by show 1 - 1 < 1 - 0; omega, ⟨rfl, rfl, rfl, rfl, rfl, rfl, rfl, rfl, rfl, rfl, rfl, trivial⟩, ⟨rfl, rfl, trivial⟩⟩
          · rw [if_neg (by simpa using hc)] at hrun
            have hm2 : ¬ ((e.2 : Nat) : Int) ∈ Sn.map fun x => ((x : Nat) : Int) := by
              intro hm
              obtain ⟨x, hx, hx2⟩ := List.mem_map.1 hm
              have hxe : x = e.2 := by omega
              rw [hxe] at hx
              exact hc hx
            simp only [bp, pb_f hm2]
            conv => whnf
            refine ⟨⟨rfl, by show (Sn.length + 1) * 8 ≤ _; omega, by show Sn.length + 1 ≤ _; omega⟩, ?_⟩
            conv => whnf
            have hvq : v.map encQ = (v.map fun x => ((x : Nat) : Int)).map encInt := by rw [List.map_map]; rfl
            refine ⟨_, Eq.mp (congrArg (fun x => CallsTo EE 83 [sl x] _) hvq.symm) (l1Own_ok (v.map fun x => ((x : Nat) : Int)) (by simp; omega)), ?_⟩
            rintro r rfl
            rw [← hvq]
            refine .inr ⟨71, rfl, ?_⟩
            conv => whnf
            refine ⟨⟨rfl, by show ((v.map encQ).length + 1) * 8 ≤ _; simp; omega, by show (v.map encQ).length + 1 ≤ _; simp; omega⟩, ?_⟩
            conv => whnf
            refine .inl ?_
            conv => whnf
            have evw : (((v.map encQ).take (v.map encQ).length ++ [[di (e.2 : Int)]]).drop 0).take ((v.map encQ).length + 1) = (v ++ [e.2]).map encQ := by
              rw [List.take_length, List.drop_zero, List.take_of_length_le (by simp), List.map_append]; rfl
            refine ⟨⟨rfl, by show (W.length + 1) * 24 ≤ _; omega, by show W.length + 1 ≤ _; omega⟩, ?_⟩
            conv => whnf
            refine ⟨(1, W ++ [v ++ [e.2]], Sn ++ [e.2]), .inr ⟨rfl, hrun, by show (W ++ [v ++ [e.2]]).length ≤ i + 2; simp; omega, fun u hu => ?_, by show (Sn ++ [e.2]).length ≤ i + 1; simp; omega⟩, by show 1 - 1 < 1 - 0; omega, ⟨rfl, rfl, rfl, rfl, ?_, ?_, rfl, rfl, rfl, rfl, rfl, trivial⟩, ⟨?_, ?_, trivial⟩⟩
            · rcases List.mem_append.1 hu with hu | hu
              · exact ⟨(hne u hu).1, Nat.le_succ_of_le (hne u hu).2⟩
              · simp only [List.mem_cons, List.not_mem_nil, or_false] at hu
                subst hu
                simp; omega
            · show AV.ref (.n 18) 0 (W.length + 1) = .ref (.n 18) 0 (W ++ [v ++ [e.2]]).length
              rw [List.length_append]; rfl
            · show AV.ref (.n 68) 0 (Sn.length + 1) = .ref (.n 68) 0 (Sn ++ [e.2]).length
              rw [List.length_append]; rfl
            · show some (Ob.ds 25 1 ((W.map encW).take W.length ++ [[.sl ((((v.map encQ).take (v.map encQ).length ++ [[di (e.2 : Int)]]).drop 0).take ((v.map encQ).length + 1))]])) = some (Ob.ds 25 1 ((W ++ [v ++ [e.2]]).map encW))
              have e2 : (W ++ [v ++ [e.2]]).map encW = W.map encW ++ [encW (v ++ [e.2])] := by rw [List.map_append]; rfl
              rw [evw, List.take_of_length_le (by simp), e2]; rfl
            · show some (Ob.ds 3 1 ((Sn.map encQ).take Sn.length ++ [[di (e.2 : Int)]])) = some (Ob.ds 3 1 ((Sn ++ [e.2]).map encQ))
              rw [List.take_of_length_le (by simp), List.map_append]; rfl
        · obtain rfl : k = 1 := hk
          conv => whnf
          refine kbi (fun h8 => absurd h8 (show ¬ decide ((1 : Int) < 1) = true from by decide)) (fun h8 => ?_)
          conv => whnf
          refine ⟨(i + 1, W, Sn), ⟨f, by show f + (i + 1) = 8; omega, hrun2, hWl, hWn, hSl⟩, by show 8 - (i + 1) < 8 - i; omega, ⟨rfl, rfl, rfl, rfl, rfl, rfl, ?_, trivial⟩, ⟨rfl, rfl, trivial⟩⟩
          show AV.d (.int .i64 (IntKind.i64.wrap ((i : Int) + 1))) = i64 ((i + 1 : Nat) : Int)
          rw [wrap_id (by omega) (by omega)]
          rfl
  · have hi : ¬ i < ways.length := by
      have := fun e => hi (decide_eq_true e)
      intro e
      apply this
      show (i : Int) < ways.length
      omega
    unfold wayS at hrun
    rw [if_neg hi] at hrun
    obtain rfl := Option.some.inj hrun
    conv => whnf
    exact .inl rfl
end Ai
end
section
set_option maxRecDepth 100000
namespace Ai
open Go Go.Proofs Cyc
theorem one_each {edges : List (Nat × Nat)} (h : Graph edges) : OneEach edges := by
  have hn : edges.Pairwise fun x y => x.1 ≠ y.1 := by
    obtain ⟨a, b, c, d, e, -, rfl⟩ := h.g
    cases a <;> cases b <;> cases c <;> cases d <;> cases e <;> simp [ed]
  rw [List.pairwise_iff_getElem] at hn
  intro i j hi hj e
  rcases Nat.lt_trichotomy i j with h1 | h1 | h1
  · exact absurd e (hn i j hi hj h1)
  · exact h1
  · exact absurd e.symm (hn j i hj hi h1)
theorem l3CycleG_ok (edges : List (Nat × Nat)) (hG : Graph edges) : CallsTo EE 129 [sl (edges.map encG)] (· = sl ((cycSOf edges).map encQ)) :=
  l3Cycle_ok edges hG fun n w hn hw => l3Way_ok edges n w hG.len (one_each hG) hw
theorem cycleG_ok (edges : List (Nat × Nat)) (hG : Graph edges) : CallsTo EE 98 [sl (edges.map encG)] (· = .tup [sl ((cycSOf edges).map encQ), bv (!(cycSOf edges).isEmpty)]) := by
  rw [← cyc_same hG]
  exact cycleI_ok edges hG.len (fun e he => by have := hG.small e he; omega) fun n _ => hG.run n
end Ai
end
section
set_option maxRecDepth 100000
namespace Ai
open Go Go.Proofs Cyc
def OInv (s : StL) : Prop := ∀ x ∈ s.owner, -1 ≤ x ∧ x < s.ths.length
theorem oinv_put {s : StL} {k : Nat} {t : Th} (h : OInv s) : OInv (s.put k t) := by
  intro x hx
  have := h x hx
  simpa [StL.put] using this
theorem oinv_set {s : StL} {i : Nat} {v : Int} (h : OInv s) (hv : -1 ≤ v ∧ v < s.ths.length) : OInv { s with owner := s.owner.set i v } := by
  intro x hx
  rcases List.mem_or_eq_of_mem_set hx with e | e
  · exact h x e
  · subst e; exact hv
theorem oinv_do {s : StL} {k : Nat} {o : OpL} {e : Ev} (hk : k < s.ths.length) (h : OInv s) : OInv (doL s k o e).1 := by
  unfold doL
  simp only
  generalize s.ths.getD k th0 = t at *
  by_cases n1 : o.code = 1
  · rw [if_pos n1]; exact oinv_put h
  rw [if_neg n1]
  by_cases n2 : o.code = 2
  · rw [if_pos n2]; exact oinv_put h
  rw [if_neg n2]
  by_cases n3 : o.code = 3
  · rw [if_pos n3]; exact oinv_put (s := { s with cells := _ }) h
  rw [if_neg n3]
  by_cases n10 : o.code = 10
  · rw [if_pos n10]; exact oinv_put h
  rw [if_neg n10]
  by_cases n11 : o.code = 11
  · rw [if_pos n11]; exact oinv_put h
  rw [if_neg n11]
  by_cases n12 : o.code = 12
  · rw [if_pos n12]; exact oinv_put (oinv_set h ⟨by omega, by omega⟩)
  rw [if_neg n12]
  by_cases n13 : o.code = 13
  · rw [if_pos n13]; exact oinv_put (oinv_set h ⟨by omega, by omega⟩)
  rw [if_neg n13]
  by_cases n14 : o.code = 14
  · rw [if_pos n14]
    refine oinv_put (s := { s with ths := _ }) fun x hx => ?_
    have := h x hx
    refine ⟨this.1, ?_⟩
    show x < ((s.ths ++ [newTh o.a]).length : Int)
    simp; omega
  rw [if_neg n14]
  by_cases n15 : o.code = 15
  · rw [if_pos n15]; exact oinv_put h
  rw [if_neg n15]
  by_cases n16 : o.code = 16
  · rw [if_pos n16]; exact oinv_put (oinv_set h ⟨by omega, by omega⟩)
  rw [if_neg n16]
  by_cases n17 : o.code = 17
  · rw [if_pos n17]
    cases wakeIx s.ths o.a with
    | none => exact oinv_put h
    | some j =>
      refine oinv_put (s := { s with ths := _ }) fun x hx => ?_
      have := h x hx
      refine ⟨this.1, ?_⟩
      show x < ((s.ths.modify j fun u => { u with st := 4 }).length : Int)
      simp; omega
  rw [if_neg n17]
  exact oinv_put h
theorem oinv_step {p : ProgL} {s : StL} {k : Nat} (hk : k < s.ths.length) (h : OInv s) : OInv (stepL p s k).1 := by
  unfold stepL
  simp only
  split
  · exact oinv_put (oinv_set h ⟨by omega, by omega⟩)
  · split
    · exact oinv_put h
    · split
      · exact oinv_do hk h
      · exact h
theorem oinv_new (p : ProgL) : OInv (newL p) := by
  intro x hx
  obtain ⟨_, rfl⟩ := List.mem_replicate.1 hx
  simp [newL]
end Ai
end
section
set_option maxRecDepth 100000
namespace Ai
open Go Go.Proofs Cyc
theorem owner_lt {s : StL} (h : OInv s) (h1 : 1 ≤ s.ths.length) (i : Nat) : s.owner.getD i 0 < s.ths.length := by
  rw [List.getD_eq_getElem?_getD]
  cases hg : s.owner[i]? with
  | none => show (0 : Int) < _; omega
  | some x => exact (h x (List.mem_of_getElem? hg)).2
theorem blocks_lt {p : ProgL} {s : StL} (h : OInv s) (h1 : 1 ≤ s.ths.length) (t : Th) : blocksOf p s t < s.ths.length := by
  unfold blocksOf
  split
  · exact owner_lt h h1 _
  · split
    · omega
    · split
      · split
        · exact owner_lt h h1 _
        · split
          · split
            · rename_i k hk
              split
              · omega
              · exact (joins_range idxRange hk).2
            · omega
          · omega
      · omega
end Ai
end
section
set_option maxRecDepth 100000
namespace Ai
open Go Go.Proofs Cyc
noncomputable def edgesN (p : ProgL) (s : StL) : List (Nat × Nat) := (edgesL p s).map fun e => (e.1, e.2.toNat)
theorem edges_nn {p : ProgL} {s : StL} : ∀ e ∈ edgesL p s, 0 ≤ e.2 := by
  intro e he
  obtain ⟨k, hk, rfl⟩ := List.mem_map.1 he
  simpa using (List.mem_filter.1 hk).2
theorem edges_enc (p : ProgL) (s : StL) : (edgesL p s).map encE = (edgesN p s).map encG := by
  unfold edgesN
  rw [List.map_map]
  refine List.map_congr_left fun e he => ?_
  have := edges_nn e he
  show [D.sl [[di e.1], [di e.2]]] = [D.sl [[di e.1], [di ((e.2.toNat : Nat) : Int)]]]
  rw [Int.toNat_of_nonneg this]
noncomputable def waitO (p : ProgL) (s : StL) (k : Nat) : Option Nat := if 0 ≤ blocksOf p s (s.ths.getD k th0) then some (blocksOf p s (s.ths.getD k th0)).toNat else none
theorem wait_ed (p : ProgL) (s : StL) (k : Nat) : ((if 0 ≤ blocksOf p s (s.ths.getD k th0) then [(k, blocksOf p s (s.ths.getD k th0))] else []).map fun e : Nat × Int => (e.1, e.2.toNat)) = ed k (waitO p s k) := by
  unfold waitO
  split <;> rfl
theorem opts_lt {o : Option Nat} (h : ∀ b, o = some b → b < 5) : o ∈ opts := by
  cases o with
  | none => simp [opts]
  | some b =>
    have := h b rfl
    have : b = 0 ∨ b = 1 ∨ b = 2 ∨ b = 3 ∨ b = 4 := by omega
    rcases this with rfl | rfl | rfl | rfl | rfl <;> simp [opts]
theorem edges_graph {p : ProgL} {s : StL} (h : OInv s) (h1 : 1 ≤ s.ths.length) (h5 : s.ths.length ≤ 5) : Graph (edgesN p s) := by
  have hw : ∀ k, waitO p s k ∈ opts := fun k => opts_lt fun b hb => by
    unfold waitO at hb
    split at hb
    · rename_i h0
      have := blocks_lt (p := p) h h1 (s.ths.getD k th0)
      simp only [Option.some.injEq] at hb
      omega
    · cases hb
  have hn : (none : Option Nat) ∈ opts := by simp [opts]
  have e0 : edgesTo p s 0 = [] := rfl
  unfold edgesN edgesL
  have : s.ths.length = 1 ∨ s.ths.length = 2 ∨ s.ths.length = 3 ∨ s.ths.length = 4 ∨ s.ths.length = 5 := by omega
  rcases this with e | e | e | e | e <;> rw [e]
  · exact ⟨_, none, none, none, none, ⟨hw 0, hn, hn, hn, hn⟩, by rw [edgesTo_succ, e0, List.map_append, wait_ed]; simp [ed]⟩
  · exact ⟨_, _, none, none, none, ⟨hw 0, hw 1, hn, hn, hn⟩, by rw [edgesTo_succ, edgesTo_succ, e0, List.map_append, List.map_append, wait_ed, wait_ed]; simp [ed]⟩
  · exact ⟨_, _, _, none, none, ⟨hw 0, hw 1, hw 2, hn, hn⟩, by rw [edgesTo_succ, edgesTo_succ, edgesTo_succ, e0, List.map_append, List.map_append, List.map_append, wait_ed, wait_ed, wait_ed]; simp [ed]⟩
  · exact ⟨_, _, _, _, none, ⟨hw 0, hw 1, hw 2, hw 3, hn⟩, by rw [edgesTo_succ, edgesTo_succ, edgesTo_succ, edgesTo_succ, e0, List.map_append, List.map_append, List.map_append, List.map_append, wait_ed, wait_ed, wait_ed, wait_ed]; simp [ed]⟩
  · exact ⟨_, _, _, _, _, ⟨hw 0, hw 1, hw 2, hw 3, hw 4⟩, by rw [edgesTo_succ, edgesTo_succ, edgesTo_succ, edgesTo_succ, edgesTo_succ, e0, List.map_append, List.map_append, List.map_append, List.map_append, List.map_append, wait_ed, wait_ed, wait_ed, wait_ed, wait_ed]; simp⟩
end Ai
end
section
namespace Ai
open Go Go.RowKit
section
variable {E : Env} {N : Nat} {A : Fr} {w0 w w' : World} {m m' : Own} {s s' s1 : St} {a : Act}
def plainOf : AV → Option AV
  | .uq _ _ els => some (.d (.sl els))
  | .ownF _ _ => none
  | r => some r
theorem io_of_calls {g : FuncId} {xs : List AV} {R : AV → Prop} (h : CallsTo E g xs R) : IOCall E g xs (fun _ => none) (fun r H1 => (∃ r0, R r0 ∧ (plainOf r0 = none ∨ plainOf r0 = some r)) ∧ H1 = fun _ => none) := by
  intro w0 A m w vs hH hl hrel
  have hI : E.I w := E.Imono _ _ hH.inv hH.below
  have hA : ∀ b, w.heap.size ≤ b → A b := fun b hb => by
    rcases hH.hA b (Nat.le_trans hH.below.size hb) with h | h
    · exact h
    · have := (hH.fr b h).1; omega
  refine (h w A vs hI ⟨hl, fun i a v ha hv => ?_⟩).mono ?_
  · refine (hrel i a v ha hv).mono (fun b hb => ⟨⟨hb.1, hb.2.2⟩, rfl⟩) ⟨fun o e cs h => (absurd (show (none : Option Ob) = some _ from h) (by simp)), fun o e sz els h => (absurd (show (none : Option Ob) = some _ from h) (by simp)), fun o e sz rows h => (absurd (show (none : Option Ob) = some _ from h) (by simp)), fun o ag ps h => (absurd (show (none : Option Ob) = some _ from h) (by simp))⟩
  · rintro v w' ⟨r0, hr, hb, hv⟩
    have hb0 : Below w0.heap.size w0 w' := hH.below.trans (hb.mono hH.below.size)
    have hH' : HRel E A w0 m (fun _ => none) w' := ⟨hb0, hH.inv, fun o ob h => (by cases h), fun o o' p p' h => absurd rfl h, hH.hA, fun b hx => by
      obtain ⟨h1, h2, h3⟩ := hH.fr b hx
      exact ⟨Nat.lt_of_lt_of_le h1 hb.size, h2, by rw [hb.block b h1]; exact h3⟩, fun n hn e cs h => (by cases h)⟩
    have hok : ∀ x, (x < w'.heap.size ∧ (A x ∨ w.heap.size ≤ x)) → okB A (fun _ => none) m w' x := fun x hx => ⟨hx.1, fun o ho => absurd rfl ho, hx.2.elim id (hA x)⟩
    have plain : VRel w' (fun x => x < w'.heap.size ∧ (A x ∨ w.heap.size ≤ x)) noM noH r0 v → plainOf r0 = some r0 → ∃ r H1 m1, ((∃ r0, R r0 ∧ (plainOf r0 = none ∨ plainOf r0 = some r)) ∧ H1 = fun _ => none) ∧ HRel E A w0 m1 H1 w' ∧ VRel w' (okB A H1 m1 w') m1 H1 r v :=
      fun h hp => ⟨r0, _, m, ⟨⟨r0, hr, .inr hp⟩, rfl⟩, hH', h.lift hok⟩
    unfold RRel at hv
    cases r0 with
    | uq e sz els =>
      simp only [RRok] at hv
      refine ⟨.d (.sl els), _, m, ⟨⟨_, hr, .inr rfl⟩, rfl⟩, hH', ?_⟩
      rcases hv with ⟨rfl, rfl⟩ | ⟨b, full, cur, rfl, hbb, hcur, hle, hmax, hsz, hc⟩
      · exact .d _ _ (.sl0 _ _)
      · refine .d _ _ (.sl els sz b 0 full (fun q => (cur[q]?).getD undef) (hok b ⟨(Array.getElem?_eq_some_iff.1 hcur).1, .inr hbb⟩) hle (fun j c hj => ⟨(hc j c hj).1, fun i d hi => ?_⟩) (fun j c hj i d hi => ?_))
        · obtain ⟨u, hu, _⟩ := (hc j c hj).2 i d hi
          simp [World.cell?, hcur, hu]
        · obtain ⟨u, hu, hr⟩ := (hc j c hj).2 i d hi
          rw [hu]
          exact hr.mono fun x hx => ⟨hok x hx.1, rfl⟩
    | ownF f cs => exact ⟨.junk, _, m, ⟨⟨_, hr, .inl rfl⟩, rfl⟩, hH', .junk _⟩
    | _ => exact plain hv rfl
end
end Ai
end
section
set_option maxRecDepth 100000
namespace Ai
open Go Go.Proofs Cyc
theorem signOf_stuck (p : ProgL) (s : StL) (c : Int) (tr : List Ev) (tk : List Int) (hp : p.wf) (hs : s.small) (hv : ∀ t ∈ s.ths, t.seen p s) (hG : Graph (edgesN p s)) (hc : c = 3) (hj1 : (cycSOf (edgesN p s)).length ≤ 1000) (hj2 : ∀ x ∈ cycSOf (edgesN p s), x ≤ 1000000) (hj3 : (Lib.join ((cycSOf (edgesN p s)).map fun x => Lib.itoa ((x : Nat) : Int)) [44]).length ≤ 140737488355328) :
    CallsTo EE 59 [agg (encProg p), agg (encRun c tr tk s)] (· = sv ([115, 116, 117, 99, 107, 32] ++ (if Lib.join ((cycSOf (edgesN p s)).map fun x => Lib.itoa ((x : Nat) : Int)) [44] = [] then [45] else Lib.join ((cycSOf (edgesN p s)).map fun x => Lib.itoa ((x : Nat) : Int)) [44]))) := by
  refine callsTo_of_AW (fn := Tryz.f59) Tryz.func59 rfl (by kernel_rfl) rfl ?_
  subst hc
  conv => whnf
  refine kbi (fun h => absurd h (by decide)) (fun _ => ?_)
  conv => whnf
  refine kbi (fun h => absurd h (by decide)) (fun _ => ?_)
  conv => whnf
  refine kbi (fun _ => ?_) (fun h => absurd rfl h)
  conv => whnf
  refine .inr (.inr (.inr (.inl ⟨_, 99, [], weak_frz (isK (.n 3)), rfl, 999, 99, fun _ => false, _, io_of_calls (waitsForI_ok toIndexI p s hp hs hv), rfl, ?_⟩)))
  rintro r H1 ⟨⟨r0, rfl, hr⟩, rfl⟩
  have hr : r = sl ((edgesL p s).map encE) := by
    rcases hr with hr | hr
    · cases hr
    · exact (Option.some.inj hr).symm
  subst hr
  refine ⟨fun _ _ => rfl, fun n hn => (by cases hn), ?_⟩
  conv => whnf
  rw [edges_enc]
  refine ⟨_, cycleG_ok (edgesN p s) hG, ?_⟩
  rintro r rfl
  conv => whnf
  refine ⟨_, joinNumbers_ok (cycSOf (edgesN p s)) hj1 hj2 hj3, ?_⟩
  rintro r rfl
  conv => whnf
  refine ⟨_, dash_ok _, ?_⟩
  rintro r rfl
  conv => whnf
  refine ⟨?_, ?_⟩
  · show 6 + (if Lib.join ((cycSOf (edgesN p s)).map fun x => Lib.itoa ((x : Nat) : Int)) [44] = [] then [45] else Lib.join ((cycSOf (edgesN p s)).map fun x => Lib.itoa ((x : Nat) : Int)) [44]).length ≤ _
    split
    · show 6 + 1 ≤ _; omega
    · omega
  conv => whnf
  try rfl
end Ai
end
section
set_option maxRecDepth 100000
namespace Ai
open Go Go.Proofs Cyc
theorem signOf_done (p : ProgL) (s : StL) (tr : List Ev) (tk : List Int) : CallsTo EE 59 [agg (encProg p), agg (encRun 1 tr tk s)] (· = sv [100, 111, 110, 101]) := by
  refine callsTo_of_AW (fn := Tryz.f59) Tryz.func59 rfl (by kernel_rfl) rfl ?_
  conv => whnf
  refine kbi (fun _ => ?_) (fun h => absurd rfl h)
  conv => whnf
  try rfl
theorem signOf_budget (p : ProgL) (s : StL) (tr : List Ev) (tk : List Int) : CallsTo EE 59 [agg (encProg p), agg (encRun 4 tr tk s)] (· = sv [98, 117, 100, 103, 101, 116]) := by
  refine callsTo_of_AW (fn := Tryz.f59) Tryz.func59 rfl (by kernel_rfl) rfl ?_
  conv => whnf
  refine kbi (fun h => absurd h (by decide)) (fun _ => ?_)
  conv => whnf
  refine kbi (fun _ => ?_) (fun h => absurd rfl h)
  conv => whnf
  try rfl
end Ai
end
section
set_option maxRecDepth 100000
namespace Ai
open Go Go.Proofs Cyc
def GTh (p : ProgL) (t : Th) : Prop := ((t.st = 1 ∨ t.st = 2) ∧ t.cond = -1 ∧ t.lock = -1) ∨ ((t.st = 3 ∨ t.st = 4) ∧ 0 ≤ t.cond ∧ t.cond < p.conds ∧ 0 ≤ t.lock ∧ t.lock < p.locks)
structure GInv (p : ProgL) (s : StL) : Prop where
  ths : ∀ t ∈ s.ths, GTh p t
  ne : 1 ≤ s.ths.length
  fault : InR s.fault 0 4
theorem ginv_put {p : ProgL} {s : StL} {k : Nat} {t : Th} (h : GInv p s) (ht : GTh p t) : GInv p (s.put k t) := by
  refine ⟨fun u hu => ?_, by simpa [StL.put] using h.ne, h.fault⟩
  rcases List.mem_or_eq_of_mem_set hu with e | e
  · exact h.ths u e
  · subst e; exact ht
theorem fault_in (s : StL) (k : Nat) (o : OpL) : InR (faultOf s k o) 0 4 := by
  unfold faultOf InR
  simp only
  split
  · omega
  split
  · omega
  split
  · omega
  split <;> omega
theorem ginv_do {p : ProgL} (hg : p.goodS) {s : StL} (hi : SInv p s) {k : Nat} (h : k < s.ths.length) {o : OpL} (hn : nextOp p s.ths[k] = some o) (e : Ev) (hG : GInv p s) (h1 : s.ths[k].st = 1) : GInv p (doL s k o e).1 := by
  have hT := hi.ths _ (List.getElem_mem h)
  have hgd : s.ths.getD k th0 = s.ths[k] := by simp [List.getD_eq_getElem?_getD, h]
  obtain ⟨⟨g1, g2⟩, hlt⟩ := row_good hg hT hn
  obtain ⟨c1, c2, c3, _⟩ := g1
  obtain ⟨a1, a2, a3, a4, a5, a6⟩ := g2
  have ht := hG.ths _ (List.getElem_mem h)
  generalize s.ths[k] = t at *
  unfold doL
  simp only [hgd]
  have hp : GTh p (popT t o) := ht
  have hpush : ∀ v, GTh p (pushT (popT t o) v) := fun v => ht
  have hpc : ∀ a, GTh p { popT t o with pc := a } := fun a => ht
  by_cases n1 : o.code = 1
  · rw [if_pos n1]; exact ginv_put hG (hpush _)
  rw [if_neg n1]
  by_cases n2 : o.code = 2
  · rw [if_pos n2]; exact ginv_put hG (hpush _)
  rw [if_neg n2]
  by_cases n3 : o.code = 3
  · rw [if_pos n3]; exact ginv_put (s := { s with cells := _ }) ⟨hG.ths, hG.ne, hG.fault⟩ hp
  rw [if_neg n3]
  by_cases n10 : o.code = 10
  · rw [if_pos n10]; exact ginv_put hG (hpc _)
  rw [if_neg n10]
  by_cases n11 : o.code = 11
  · rw [if_pos n11]
    refine ginv_put hG ?_
    split
    · exact hpc _
    · exact hp
  rw [if_neg n11]
  by_cases n12 : o.code = 12
  · rw [if_pos n12]; exact ginv_put (s := { s with owner := _ }) ⟨hG.ths, hG.ne, hG.fault⟩ hp
  rw [if_neg n12]
  by_cases n13 : o.code = 13
  · rw [if_pos n13]; exact ginv_put (s := { s with owner := _ }) ⟨hG.ths, hG.ne, hG.fault⟩ hp
  rw [if_neg n13]
  by_cases n14 : o.code = 14
  · rw [if_pos n14]
    refine ginv_put (s := { s with ths := _ }) ⟨fun u hu => ?_, by show 1 ≤ (s.ths ++ [newTh o.a]).length; simp, hG.fault⟩ (hpush _)
    rcases List.mem_append.1 hu with e | e
    · exact hG.ths u e
    · simp only [List.mem_cons, List.not_mem_nil, or_false] at e
      subst e; exact .inl ⟨.inl rfl, rfl, rfl⟩
  rw [if_neg n14]
  by_cases n15 : o.code = 15
  · rw [if_pos n15]; exact ginv_put hG hp
  rw [if_neg n15]
  by_cases n16 : o.code = 16
  · rw [if_pos n16]
    exact ginv_put (s := { s with owner := _ }) ⟨hG.ths, hG.ne, hG.fault⟩ (.inr ⟨.inl rfl, c2.1, (a5 n16).1, c3.1, (a5 n16).2⟩)
  rw [if_neg n16]
  by_cases n17 : o.code = 17
  · rw [if_pos n17]
    cases hw : wakeIx s.ths o.a with
    | none => exact ginv_put hG hp
    | some j =>
      refine ginv_put (s := { s with ths := _ }) ⟨fun u hu => ?_, by simpa using hG.ne, hG.fault⟩ hp
      obtain ⟨i, hi2, rfl⟩ := List.mem_iff_getElem.1 hu
      have hil : i < s.ths.length := by simpa using hi2
      have hU := hG.ths _ (List.getElem_mem hil)
      rw [List.getElem_modify]
      split
      · rename_i hji
        subst hji
        unfold wakeIx at hw
        rw [List.findIdx?_eq_some_iff_getElem] at hw
        obtain ⟨_, hpw, _⟩ := hw
        simp only [Bool.and_eq_true, beq_iff_eq] at hpw
        rcases hU with ⟨h9, _⟩ | ⟨_, h9⟩
        · have := hpw.1; omega
        · exact .inr ⟨.inr rfl, h9⟩
      · exact hU
  rw [if_neg n17]
  exact ginv_put hG (hpush _)
theorem ginv_step {p : ProgL} (hg : p.goodS) {s : StL} (hi : SInv p s) {k : Nat} (h : k < s.ths.length) (hk : k ∈ enabledL p s) (hG : GInv p s) : GInv p (stepL p s k).1 := by
  have ht := hG.ths _ (List.getElem_mem h)
  have hgo := goes_st hk h
  have hgd : s.ths.getD k th0 = s.ths[k] := by simp [List.getD_eq_getElem?_getD, h]
  unfold stepL
  simp only [hgd]
  split
  · exact ginv_put (s := { s with owner := _ }) ⟨hG.ths, hG.ne, hG.fault⟩ (.inl ⟨.inl rfl, rfl, rfl⟩)
  · rename_i h4
    have h1 : s.ths[k].st = 1 := by omega
    split
    · refine ginv_put hG (.inl ⟨.inr rfl, ?_⟩)
      rcases ht with ⟨_, h9⟩ | ⟨h9, _⟩
      · exact h9
      · omega
    · rename_i o hn
      split
      · exact ginv_do hg hi h hn _ hG h1
      · exact ⟨hG.ths, hG.ne, fault_in s k o⟩
theorem ginv_new (p : ProgL) : GInv p (newL p) := by
  refine ⟨fun t ht => ?_, by simp [newL], by simp [newL, InR]⟩
  have : t = newTh 0 := by simpa [newL] using ht
  subst this
  exact .inl ⟨.inl rfl, rfl, rfl⟩
structure AInv (p : ProgL) (s : StL) : Prop where
  si : SInv p s
  fl : s.flt
  ow : OInv s
  gi : GInv p s
theorem en_lt {p : ProgL} {s : StL} {k : Nat} (hk : k ∈ enabledL p s) : k < s.ths.length := by have := (List.mem_filter.1 hk).1; simpa using this
theorem ainv_step {p : ProgL} (hg : p.goodS) (hv : p.flt) {s : StL} {k : Nat} (hk : k ∈ enabledL p s) (h : AInv p s) : AInv p (stepL p s k).1 :=
  ⟨inv_step hg h.si (en_lt hk), flt_step hv (en_lt hk) h.fl, oinv_step (en_lt hk) h.ow, ginv_step hg h.si (en_lt hk) hk h.gi⟩
theorem ainv_new {p : ProgL} (hg : p.goodS) : AInv p (newL p) := ⟨inv_new hg, flt_new p, oinv_new p, ginv_new p⟩
theorem do_lev (s : StL) (k : Nat) (o : OpL) (e : Ev) : s.ths.length ≤ (doL s k o e).1.ths.length ∧ (doL s k o e).2.th = e.th ∧ (doL s k o e).2.pc = e.pc := by
  have hput : ∀ (s : StL) (t : Th), (s.put k t).ths.length = s.ths.length := fun s t => by simp [StL.put]
  have hle : ∀ (s2 : StL) (t : Th), s.ths.length ≤ s2.ths.length → s.ths.length ≤ (s2.put k t).ths.length := fun s2 t h => by rw [hput]; exact h
  unfold doL
  simp only
  by_cases n1 : o.code = 1
  · rw [if_pos n1]; exact ⟨hle _ _ (Nat.le_refl _), rfl, rfl⟩
  rw [if_neg n1]
  by_cases n2 : o.code = 2
  · rw [if_pos n2]; exact ⟨hle _ _ (Nat.le_refl _), rfl, rfl⟩
  rw [if_neg n2]
  by_cases n3 : o.code = 3
  · rw [if_pos n3]; exact ⟨hle _ _ (Nat.le_refl _), rfl, rfl⟩
  rw [if_neg n3]
  by_cases n10 : o.code = 10
  · rw [if_pos n10]; exact ⟨hle _ _ (Nat.le_refl _), rfl, rfl⟩
  rw [if_neg n10]
  by_cases n11 : o.code = 11
  · rw [if_pos n11]; exact ⟨hle _ _ (Nat.le_refl _), rfl, rfl⟩
  rw [if_neg n11]
  by_cases n12 : o.code = 12
  · rw [if_pos n12]; exact ⟨hle _ _ (Nat.le_refl _), rfl, rfl⟩
  rw [if_neg n12]
  by_cases n13 : o.code = 13
  · rw [if_pos n13]; exact ⟨hle _ _ (Nat.le_refl _), rfl, rfl⟩
  rw [if_neg n13]
  by_cases n14 : o.code = 14
  · rw [if_pos n14]; exact ⟨hle _ _ (by show _ ≤ (s.ths ++ [newTh o.a]).length; simp), rfl, rfl⟩
  rw [if_neg n14]
  by_cases n15 : o.code = 15
  · rw [if_pos n15]; exact ⟨hle _ _ (Nat.le_refl _), rfl, rfl⟩
  rw [if_neg n15]
  by_cases n16 : o.code = 16
  · rw [if_pos n16]; exact ⟨hle _ _ (Nat.le_refl _), rfl, rfl⟩
  rw [if_neg n16]
  by_cases n17 : o.code = 17
  · rw [if_pos n17]
    cases wakeIx s.ths o.a with
    | none => exact ⟨hle _ _ (Nat.le_refl _), rfl, rfl⟩
    | some j => exact ⟨hle _ _ (by show _ ≤ (s.ths.modify j _).length; simp), rfl, rfl⟩
  rw [if_neg n17]
  exact ⟨hle _ _ (Nat.le_refl _), rfl, rfl⟩
theorem step_len (p : ProgL) (s : StL) (k : Nat) : s.ths.length ≤ (stepL p s k).1.ths.length := by
  have hput : ∀ (s : StL) (t : Th), (s.put k t).ths.length = s.ths.length := fun s t => by simp [StL.put]
  unfold stepL
  simp only
  split
  · rw [hput]; exact Nat.le_refl _
  · split
    · rw [hput]; exact Nat.le_refl _
    · split
      · exact (do_lev _ _ _ _).1
      · exact Nat.le_refl _
theorem step_ev (p : ProgL) (s : StL) (k : Nat) : (stepL p s k).2.th = k ∧ (stepL p s k).2.pc = (s.ths.getD k th0).pc := by
  unfold stepL
  simp only
  split
  · exact ⟨rfl, rfl⟩
  · split
    · exact ⟨rfl, rfl⟩
    · split
      · exact (do_lev _ _ _ _).2
      · exact ⟨rfl, rfl⟩
structure TrOK (s : StL) (tr : List Ev) : Prop where
  ev : ∀ e ∈ tr, 0 ≤ e.th ∧ e.th < s.ths.length ∧ 0 ≤ e.pc ∧ e.pc ≤ 24
  ne : s.fault ≠ 0 → tr ≠ []
theorem tr_step {p : ProgL} (hg : p.goodS) {s : StL} {k : Nat} (hk : k ∈ enabledL p s) (h : AInv p s) {tr : List Ev} (ht : TrOK s tr) : TrOK (stepL p s k).1 (tr ++ [(stepL p s k).2]) := by
  have hl := en_lt hk
  have hgd : s.ths.getD k th0 = s.ths[k] := by simp [List.getD_eq_getElem?_getD, hl]
  have hT := h.si.ths _ (List.getElem_mem hl)
  have hr : s.ths[k].rt.toNat < p.rs.length := by have := hT.rt; omega
  have e24 : (p.rs.getD s.ths[k].rt.toNat []).length ≤ 24 := by
    rw [List.getD_eq_getElem?_getD, List.getElem?_eq_getElem hr]
    exact (hg.2 _ (List.getElem_mem hr)).2
  have h2 := step_len p s k
  refine ⟨fun e he => ?_, fun _ => by simp⟩
  rcases List.mem_append.1 he with e1 | e1
  · have := ht.ev e e1
    omega
  · simp only [List.mem_cons, List.not_mem_nil, or_false] at e1
    subst e1
    obtain ⟨e1, e2⟩ := step_ev p s k
    rw [e1, e2, hgd]
    have := hT.pc
    omega
structure RunT where
  c : Int
  tr : List Ev
  tk : List Int
  s : StL
noncomputable def runT (p : ProgL) (picks : List Int) (budget : Int) : Nat → StL → List Ev → List Int → RunT
  | 0, s, tr, tk => ⟨0, tr, tk, s⟩
  | n + 1, s, tr, tk =>
    if 0 < codeL p s tr.length budget then ⟨codeL p s tr.length budget, tr, tk, s⟩
    else
      let k := pickOf picks tk (enabledL p s).length
      let w := (enabledL p s).getD k.toNat 0
      runT p picks budget n (stepL p s w).1 (tr ++ [(stepL p s w).2]) (tk ++ [k])
def encRT (x : RunT) : List D := encRun x.c x.tr x.tk x.s
theorem runL_eq (p : ProgL) (picks : List Int) (budget : Int) : ∀ n s tr tk, runL p picks budget n s tr tk = encRT (runT p picks budget n s tr tk)
  | 0, s, tr, tk => rfl
  | n + 1, s, tr, tk => by
    unfold runL runT
    split
    · rfl
    · exact runL_eq p picks budget n _ _ _
structure REnd (p : ProgL) (budget : Int) (x : RunT) : Prop where
  inv : AInv p x.s
  tr : TrOK x.s x.tr
  code : x.c = codeL p x.s x.tr.length budget
  pos : 0 < x.c
  len : x.tr.length = x.tk.length
  le : (x.tr.length : Int) ≤ budget
  tk : ∀ i ∈ x.tk, 0 ≤ i ∧ i < 5
theorem pick_lt (p : ProgL) (s : StL) (picks tk : List Int) (hpk : ∀ i ∈ picks, 0 ≤ i) (h : 0 < (enabledL p s).length) : 0 ≤ pickOf picks tk (enabledL p s).length ∧ pickOf picks tk (enabledL p s).length < (enabledL p s).length := by
  unfold pickOf
  split
  · rename_i h1
    have h2 : 0 ≤ picks.getD tk.length 0 := by
      rw [List.getD_eq_getElem?_getD, List.getElem?_eq_getElem h1]
      exact hpk _ (List.getElem_mem h1)
    exact ⟨Int.tmod_nonneg _ h2, Int.tmod_lt_of_pos _ (by omega)⟩
  · omega
theorem en_ne {p : ProgL} {s : StL} {a b : Int} (h : ¬ 0 < codeL p s a b) : 0 < (enabledL p s).length ∧ a ≠ b := by
  have hen : enabledL p s ≠ [] := by
    intro he
    apply h
    unfold codeL
    by_cases hf : s.fault ≠ 0
    · rw [if_pos hf]; decide
    · rw [if_neg hf, if_pos he]; split <;> decide
  refine ⟨List.length_pos_iff.2 hen, fun he => h ?_⟩
  unfold codeL
  by_cases hf : s.fault ≠ 0
  · rw [if_pos hf]; decide
  · rw [if_neg hf, if_neg hen, if_pos he]; decide
theorem run_end {p : ProgL} (hg : p.goodS) (hv : p.flt) (picks : List Int) (budget : Int) (hpk : ∀ i ∈ picks, 0 ≤ i) : ∀ n s tr tk, AInv p s → TrOK s tr → tr.length = tk.length → (tr.length : Int) ≤ budget → budget.toNat + 1 - tr.length ≤ n → (∀ i ∈ tk, 0 ≤ i ∧ i < 5) → REnd p budget (runT p picks budget n s tr tk)
  | 0, s, tr, tk, hi, ht, hl, hb, hn, hk => by omega
  | n + 1, s, tr, tk, hi, ht, hl, hb, hn, hk => by
    unfold runT
    split
    · rename_i h
      exact ⟨hi, ht, rfl, h, hl, hb, hk⟩
    · rename_i h
      obtain ⟨h1, h2⟩ := en_ne h
      have h3 := pick_lt p s picks tk hpk h1
      have hkl : (pickOf picks tk (enabledL p s).length).toNat < (enabledL p s).length := by omega
      have hmem : (enabledL p s).getD (pickOf picks tk (enabledL p s).length).toNat 0 ∈ enabledL p s := by rw [List.getD_eq_getElem?_getD, List.getElem?_eq_getElem hkl]; exact List.getElem_mem hkl
      have h5 : (enabledL p s).length ≤ 5 := Nat.le_trans (enabledTo_le) hi.si.len
      refine run_end hg hv picks budget hpk n _ _ _ (ainv_step hg hv hmem hi) (tr_step hg hmem hi ht) (by simp; exact hl) (by simp; omega) (by simp; omega) fun i hx => ?_
      rcases List.mem_append.1 hx with e | e
      · exact hk i e
      · simp only [List.mem_cons, List.not_mem_nil, or_false] at e
        subst e
        omega
noncomputable def runOf (p : ProgL) (picks : List Int) (budget : Int) : RunT := runT p picks budget (budget.toNat + 1) (newL p) [] []
theorem runOf_end {p : ProgL} (hg : p.goodS) (hv : p.flt) (picks : List Int) (budget : Int) (hpk : ∀ i ∈ picks, 0 ≤ i) (hb : 0 ≤ budget) : REnd p budget (runOf p picks budget) :=
  run_end hg hv picks budget hpk _ _ _ _ (ainv_new hg) ⟨fun e he => (by cases he), fun h => absurd rfl h⟩ rfl hb (by simp) fun i hi => (by cases hi)
theorem l4Run_of (p : ProgL) (hp : p.wf) (hg : p.goodS) (picks : List Int) (budget : Int) (hpk : ∀ i ∈ picks, 0 ≤ i) (hl : picks.length ≤ 1048576) (hb : InR budget 0 1048576) :
    CallsTo EE 67 [agg (encProg p), sl (picks.map encInt), i64 budget] (· = agg (encRT (runOf p picks budget))) := by
  have := l4Run_good p hp hg picks budget hpk hl hb
  rwa [runL_eq] at this
theorem runPicks_of (p : ProgL) (hp : p.wf) (hg : p.goodS) (hv : p.flt) (picks : List Int) (budget : Int) (hpk : ∀ i ∈ picks, 0 ≤ i) (hl : picks.length ≤ 1048576) (hb : InR budget 0 1048576) :
    CallsTo EE 81 [agg (encProg p), sl (picks.map encInt), i64 budget] (· = agg (encRT (runOf p picks budget))) := by
  have := runPicks_good p hp hg hv picks budget hpk hl hb
  rwa [runL_eq] at this
end Ai
end
section
set_option maxRecDepth 100000
namespace Ai
open Go Go.Proofs Cyc
theorem wayS_ok {edges : List (Nat × Nat)} {to : Nat} (he : ∀ e ∈ edges, e.2 < 100) : ∀ (f i L : Nat) (ways : List (List Nat)) (seen : List Nat) (w : List Nat), (∀ w ∈ ways, w.length ≤ L ∧ ∀ x ∈ w, x < 100) → wayS edges to f i ways seen = some w → w.length ≤ L + f ∧ ∀ x ∈ w, x < 100
  | 0, _, _, _, _, _, _, h => by simp [wayS] at h
  | f + 1, i, L, ways, seen, w, hw, h => by
    unfold wayS at h
    split at h
    · rename_i hi
      have hgw : ways.getD i [] ∈ ways := by rw [List.getD_eq_getElem?_getD, List.getElem?_eq_getElem hi]; exact List.getElem_mem hi
      split at h
      · obtain ⟨h1, h2⟩ := wayS_ok he f (i + 1) L ways seen w hw h
        exact ⟨by omega, h2⟩
      · rename_i e hf
        have he2 := he e (List.mem_of_find?_eq_some hf)
        split at h
        · simp only [Option.some.injEq] at h
          subst h
          exact ⟨by have := (hw _ hgw).1; omega, (hw _ hgw).2⟩
        · split at h
          · obtain ⟨h1, h2⟩ := wayS_ok he f (i + 1) L ways seen w hw h
            exact ⟨by omega, h2⟩
          · obtain ⟨h1, h2⟩ := wayS_ok he f (i + 1) (L + 1) _ _ w (fun v hv => by
              rcases List.mem_append.1 hv with e1 | e1
              · have := hw v e1
                exact ⟨by omega, this.2⟩
              · simp only [List.mem_cons, List.not_mem_nil, or_false] at e1
                subst e1
                refine ⟨by have := (hw _ hgw).1; rw [List.length_append]; show _ + 1 ≤ _; omega, fun x hx => ?_⟩
                rcases List.mem_append.1 hx with e2 | e2
                · exact (hw _ hgw).2 x e2
                · simp only [List.mem_cons, List.not_mem_nil, or_false] at e2
                  subst e2; exact he2) h
            exact ⟨by omega, h2⟩
    · simp only [Option.some.injEq] at h
      subst h
      simp
theorem cyc_ok {edges : List (Nat × Nat)} (hG : Graph edges) : (cycSOf edges).length ≤ 9 ∧ ∀ x ∈ cycSOf edges, x < 100 := by
  unfold cycSOf
  cases h : (List.range 100).findSome? (fun n => match cycS edges n with | some (x :: xs) => some (x :: xs) | _ => none) with
  | none => simp
  | some o =>
    obtain ⟨n, hn, ho⟩ := List.exists_of_findSome?_eq_some h
    have hn : n < 100 := by simpa using hn
    cases hc : cycS edges n with
    | none => rw [hc] at ho; cases ho
    | some l =>
      rw [hc] at ho
      cases l with
      | nil => cases ho
      | cons x xs =>
        simp only [Option.some.injEq] at ho
        subst ho
        exact wayS_ok (fun e he => by have := hG.small e he; omega) 8 0 1 _ _ _ (fun w hw => by
          simp only [List.mem_cons, List.not_mem_nil, or_false] at hw
          subst hw
          simpa using hn) hc
noncomputable def deadL (p : ProgL) (s : StL) : List Int := (cycSOf (edgesN p s)).map fun x => ((x : Nat) : Int)
theorem ainv_graph {p : ProgL} {s : StL} (h : AInv p s) : Graph (edgesN p s) := edges_graph h.ow h.gi.ne h.si.len
theorem dead_enc (p : ProgL) (s : StL) : (cycSOf (edgesN p s)).map encQ = (deadL p s).map encInt := by
  unfold deadL
  rw [List.map_map]
  rfl
theorem dead_picks {p : ProgL} {s : StL} (h : AInv p s) : Picks (deadL p s) := by
  obtain ⟨h1, h2⟩ := cyc_ok (ainv_graph h)
  refine ⟨by simp [deadL]; omega, fun x hx => ?_⟩
  obtain ⟨y, hy, rfl⟩ := List.mem_map.1 hx
  have := h2 y hy
  unfold InR; omega
theorem dead_txt {p : ProgL} {s : StL} : Lib.join ((cycSOf (edgesN p s)).map fun x => Lib.itoa ((x : Nat) : Int)) [44] = txt (deadL p s) := by
  unfold txt deadL
  rw [List.map_map]
  refine congrArg (fun l => Lib.join l [44]) (List.map_congr_left fun x _ => ?_)
  show Lib.itoa ((x : Nat) : Int) = Lib.decDigits ((x : Nat) : Int).toNat
  unfold Lib.itoa
  rw [if_neg (by omega)]
def ev00 : Ev := ⟨0, 0, 0, 0, 0⟩
def faultT (s : StL) (e : Ev) : List UInt8 := [102, 97, 117, 108, 116, 32] ++ Lib.decDigits s.fault.toNat ++ [32] ++ Lib.decDigits e.th.toNat ++ [32] ++ Lib.decDigits (s.ths.getD e.th.toNat th0).rt.toNat ++ [32] ++ Lib.decDigits e.pc.toNat
noncomputable def signL (p : ProgL) (x : RunT) : List UInt8 :=
  if x.c = 1 then [100, 111, 110, 101] else if x.c = 4 then [98, 117, 100, 103, 101, 116] else if x.c = 3 then [115, 116, 117, 99, 107, 32] ++ dashT (txt (deadL p x.s)) else faultT x.s (x.tr.getLastD ev00)
theorem code_cases {p : ProgL} {s : StL} {a b : Int} (h : 0 < codeL p s a b) : (codeL p s a b = 1 ∨ codeL p s a b = 3 ∨ codeL p s a b = 4) ∨ (codeL p s a b = 2 ∧ s.fault ≠ 0) := by
  unfold codeL at h ⊢
  by_cases hf : s.fault ≠ 0
  · rw [if_pos hf]; exact .inr ⟨rfl, hf⟩
  · rw [if_neg hf] at h ⊢
    split
    · split <;> simp
    · split
      · simp
      · rename_i h1 h2
        rw [if_neg h1, if_neg h2] at h
        exact absurd h (by decide)
end Ai
end
section
set_option maxRecDepth 100000
namespace Ai
open Go Go.Proofs
theorem arePicks_ok (xs : List Int) (most : Nat) (hx : xs.length ≤ 1048576) : CallsTo EE 80 [sl (xs.map encInt), i64 most] (· = bp (xs.length ≤ most ∧ AllIn xs 0 999)) := by
  refine callsTo_of_AW (fn := Tryz.f80) Tryz.func80 rfl (by kernel_rfl) rfl ?_
  conv => whnf
  refine kbi (fun h => ?_) (fun h => ?_)
  · simp at h
    conv => whnf
    refine ocase (containsInt_ok xs hx 125 (fun n => ¬ InR n 0 999) (fun n _ => arePicks1_ok n)) (fun h2 => ?_) (fun h2 => ?_)
    · conv => whnf
      refine bpf fun hm => ?_
      obtain ⟨x, hx1, hx2⟩ := h2
      exact hx2 (hm.2 x hx1)
    · conv => whnf
      refine bpt ⟨by omega, fun x hx1 => ?_⟩
      exact Classical.byContradiction fun hb => h2 ⟨x, hx1, hb⟩
  · simp at h
    conv => whnf
    exact bpf fun hm => by have := hm.1; omega
end Ai
end
section
set_option maxRecDepth 100000
namespace Ai
open Go Go.Proofs Cyc
theorem l1In_yes {n lo hi : Int} (h : InR n lo hi) : CallsTo EE 52 [i64 n, i64 lo, i64 hi] (· = bv true) := by
  have := l1In_ok n lo hi
  simp only [bp, pb_t h] at this
  exact this
theorem l1All_yes {xs : List Int} {lo hi : Int} (hx : xs.length ≤ 1048576) (h : AllIn xs lo hi) : CallsTo EE 75 [sl (xs.map encInt), i64 lo, i64 hi] (· = bv true) := by
  have := l1All_ok xs lo hi hx
  simp only [bp, pb_t h] at this
  exact this
theorem GoodProg_yes {p : ProgL} (hs : p.rs.length ≤ 1048576 ∧ ∀ x ∈ p.rs, x.length ≤ 1048576) (hv : p.flt) (h : p.goodS) : CallsTo EE 39 [agg (encProg p)] (· = bv true) := by
  have := GoodProgS_ok p hs hv
  simp only [bp, pb_t h] at this
  exact this
theorem l3Thread_ok (p : ProgL) (hp : p.headS) (t : Th) (hT : TInv p t) (hG : GTh p t) : CallsTo EE 214 [agg (encProg p), agg (encTh t)] (· = bv true) := by
  obtain ⟨a1, a2, a3, a4⟩ := hp
  unfold InR at a1 a2 a3 a4
  have hr := hT.rt
  have hpc := hT.pc
  have hst := hT.st
  have e4 : IntKind.i64.wrap (((p.rs.map encRow).length : Int) - 1) = (p.rs.length : Int) - 1 := by rw [List.length_map]; exact wrap_id (by omega) (by omega)
  have e2 : IntKind.i64.wrap (p.locks - 1) = p.locks - 1 := wrap_id (by omega) (by omega)
  have e3 : IntKind.i64.wrap (p.conds - 1) = p.conds - 1 := wrap_id (by omega) (by omega)
  refine callsTo_of_AW (fn := Tryz.f214) Tryz.func214 rfl (by kernel_rfl) rfl ?_
  conv => whnf
  refine ⟨_, l1In_yes (by rw [e4]; unfold InR; omega), ?_⟩
  rintro r rfl
  conv => whnf
  refine ⟨_, l1In_yes (by unfold InR; rcases hG with h | h <;> omega), ?_⟩
  rintro r rfl
  conv => whnf
  refine kbi (fun h => ?_) (fun _ => ?_)
  · simp at h; omega
  conv => whnf
  refine ⟨by kernel_rfl, ?_⟩
  conv => whnf
  have hrl : t.rt.toNat < p.rs.length := by omega
  refine ⟨encRow p.rs[t.rt.toNat], ⟨hr.1, by simp [hrl], rfl⟩, ?_⟩
  conv => whnf
  have e5 : p.rs.getD t.rt.toNat [] = p.rs[t.rt.toNat] := by simp [List.getD_eq_getElem?_getD, hrl]
  rw [e5] at hpc
  refine ⟨_, l1In_yes (by unfold InR; rw [List.length_map]; omega), ?_⟩
  conv => whnf
  refine kbi (fun h3 => ?_) (fun h3 => ?_)
  · have h3 : t.st = 3 := by simpa using h3
    conv => whnf
    refine ⟨_, l1In_yes (by rw [e3]; unfold InR; rcases hG with h | h <;> omega), ?_⟩
    rintro r rfl
    conv => whnf
    refine ⟨_, l1In_yes (by rw [e2]; unfold InR; rcases hG with h | h <;> omega), ?_⟩
    rintro r rfl
    conv => whnf
    try rfl
  · have h3 : ¬ t.st = 3 := by simpa using h3
    conv => whnf
    refine kbi (fun h4 => ?_) (fun h4 => ?_)
    · have h4 : t.st = 4 := by simpa using h4
      conv => whnf
      refine ⟨_, l1In_yes (by rw [e3]; unfold InR; rcases hG with h | h <;> omega), ?_⟩
      rintro r rfl
      conv => whnf
      refine ⟨_, l1In_yes (by rw [e2]; unfold InR; rcases hG with h | h <;> omega), ?_⟩
      rintro r rfl
      conv => whnf
      try rfl
    · have h4 : ¬ t.st = 4 := by simpa using h4
      obtain ⟨_, hc, hl⟩ : (t.st = 1 ∨ t.st = 2) ∧ t.cond = -1 ∧ t.lock = -1 := by
        rcases hG with h | h
        · exact h
        · omega
      conv => whnf
      refine kbi (fun _ => ?_) (fun h => absurd (beq_iff_eq.2 hc) h)
      conv => whnf
      refine kbi (fun _ => ?_) (fun h => absurd (beq_iff_eq.2 hl) h)
      conv => whnf
      try rfl
theorem ainv_small {p : ProgL} (hg : p.goodS) {s : StL} (h : AInv p s) : s.small := ((runOK hg).small s h.si).1
theorem prog_len {p : ProgL} (h : p.goodS) : p.rs.length ≤ 1048576 ∧ ∀ x ∈ p.rs, x.length ≤ 1048576 := by
  obtain ⟨b1, b2, b3, b4⟩ := h.1
  exact ⟨by have := b4.2; omega, fun x hx => by have := (h.2 x hx).2; omega⟩
theorem l3Good_ok (p : ProgL) (hg : p.goodS) (s : StL) (h : AInv p s) : CallsTo EE 194 [agg (encProg p), agg (encSt s)] (· = bv true) := by
  have hi := h.si
  have hl5 := hi.len
  have hne := h.gi.ne
  have hsm := ainv_small hg h
  have hgt := h.gi.ths
  have hown := h.ow
  refine callsTo_of_AW (fn := Tryz.f194) Tryz.func194 rfl (by kernel_rfl) rfl ?_
  conv => whnf
  refine ⟨_, l1In_yes (by unfold InR; rw [List.length_map]; omega), ?_⟩
  rintro r rfl
  conv => whnf
  refine kbi (fun h1 => absurd (show ((s.cells.map encF).length : Int) = p.cells by rw [List.length_map]; exact hi.cells) (by simpa using h1)) (fun _ => ?_)
  conv => whnf
  refine kbi (fun h1 => absurd (show ((s.owner.map encInt).length : Int) = p.locks by rw [List.length_map]; exact hi.owner) (by simpa using h1)) (fun _ => ?_)
  conv => whnf
  refine ⟨_, l1In_yes h.gi.fault, ?_⟩
  rintro r rfl
  conv => whnf
  refine aloop (fun k : Nat => [(2, .ptr (.n 2) 0), (3, .ptr (.n 3) 0), (35, sl (s.ths.map encTh)), (36, i64 (s.ths.map encTh).length), (37, i64 k)])
    (fun k => [(.n 2, .vs 31 ((encProg p).map .d)), (.n 3, .vs 76 ((encSt s).map .d))]) (fun k => s.ths.length - k) (fun k => k ≤ s.ths.length) 0
    Weak.refl ⟨rfl, rfl, rfl, rfl, rfl, trivial⟩ ⟨rfl, rfl, trivial⟩ (Nat.zero_le _) ?_
  intro k τ H hk
  have hk : k ≤ s.ths.length := hk
  conv => whnf
  refine kbi (fun h => ?_) (fun h => ?_)
  · have hlt := lt_map h
    conv => whnf
    refine ⟨encTh s.ths[k], map_get encTh hlt rfl, ?_⟩
    conv => whnf
    refine ⟨_, l3Thread_ok p hg.1 s.ths[k] (hi.ths _ (List.getElem_mem hlt)) (hgt _ (List.getElem_mem hlt)), ?_⟩
    rintro r rfl
    conv => whnf
    exact ⟨k + 1, by show k + 1 ≤ s.ths.length; omega, by show s.ths.length - (k + 1) < s.ths.length - k; omega, ⟨rfl, rfl, rfl, rfl, next_i64 hlt (by omega), trivial⟩, ⟨rfl, rfl, trivial⟩⟩
  · conv => whnf
    have e1 : IntKind.i64.wrap (((s.ths.map encTh).length : Int) - 1) = (s.ths.length : Int) - 1 := by rw [List.length_map]; exact wrap_id (by omega) (by omega)
    rw [e1]
    refine ⟨_, l1All_yes hsm.2.2.2 (fun x hx => by have := hown x hx; unfold InR; omega), ?_⟩
    rintro r rfl
    conv => whnf
    try rfl
theorem GoodState_ok (p : ProgL) (hg : p.goodS) (hv : p.flt) (s : StL) (h : AInv p s) : CallsTo EE 161 [agg (encProg p), agg (encSt s)] (· = bv true) := by
  refine callsTo_of_AW (fn := Tryz.f161) Tryz.func161 rfl (by kernel_rfl) rfl ?_
  conv => whnf
  refine ⟨_, GoodProg_yes (prog_len hg) hv hg, ?_⟩
  rintro r rfl
  conv => whnf
  refine ⟨_, l3Good_ok p hg s h, ?_⟩
  rintro r rfl
  conv => whnf
  try rfl
end Ai
end
section
set_option maxRecDepth 100000
namespace Ai
open Go Go.Proofs Cyc
theorem ainv_seen {p : ProgL} (hg : p.goodS) {s : StL} (h : AInv p s) : ∀ t ∈ s.ths, t.seen p s := (runOK hg).seen s h.si
theorem WaitsFor_ok (p : ProgL) (hp : p.wf) (hg : p.goodS) (hv : p.flt) (s : StL) (h : AInv p s) : CallsTo EE 128 [agg (encProg p), agg (encSt s)] (· = .tup [sl ((edgesL p s).map encE), bv true]) := by
  have hs := ainv_small hg h
  have hn := h.si.len
  have hse := ainv_seen hg h
  refine callsTo_of_AW (fn := Tryz.f128) Tryz.func128 rfl (by kernel_rfl) rfl ?_
  conv => whnf
  refine ⟨_, GoodState_ok p hg hv s h, ?_⟩
  rintro r rfl
  conv => whnf
  refine aloop (fun k : Nat => [(2, .ptr (.n 2) 0), (3, .ptr (.n 3) 0), (6, .ref (.n 6) 0 (edgesTo p s k).length), (15, sl (s.ths.map encTh)), (16, i64 (s.ths.map encTh).length), (17, i64 k)])
    (fun k => [(.n 2, .vs 31 ((encProg p).map .d)), (.n 3, .vs 76 ((encSt s).map .d)), (.n 6, .ds 25 1 ((edgesTo p s k).map encE))]) (fun k => s.ths.length - k) (fun k => k ≤ s.ths.length) 0
    (weak_nil 6 (.n 6) 25 1 rfl) ⟨rfl, rfl, rfl, rfl, rfl, rfl, trivial⟩ ⟨rfl, rfl, rfl, trivial⟩ (Nat.zero_le _) ?_
  intro k τ H hk
  have hk : k ≤ s.ths.length := hk
  conv => whnf
  refine kbi (fun h => ?_) (fun h => ?_)
  · have hlt := lt_map h
    conv => whnf
    refine ⟨encTh s.ths[k], map_get encTh hlt rfl, ?_⟩
    conv => whnf
    have hgd : s.ths.getD k th0 = s.ths[k] := by simp [List.getD_eq_getElem?_getD, hlt]
    have hle : (edgesTo p s k).length ≤ k := edgesTo_le
    refine ⟨_, l3Blocks_ok toIndexS idxRange p s s.ths[k] hp (hs.2.1 _ (List.getElem_mem hlt)) (hse _ (List.getElem_mem hlt)), ?_⟩
    rintro r rfl
    conv => whnf
    refine kbi (fun hb => ?_) (fun hb => ?_)
    · have hb : 0 ≤ blocksOf p s s.ths[k] := by simpa using hb
      have hsk : edgesTo p s (k + 1) = edgesTo p s k ++ [(k, blocksOf p s s.ths[k])] := by rw [edgesTo_succ, hgd, if_pos hb]
      conv => whnf
      refine .inl ?_
      conv => whnf
      refine ⟨⟨rfl, by show ((edgesTo p s k).length + 1) * 24 ≤ _; omega, by show (edgesTo p s k).length + 1 ≤ _; omega⟩, ?_⟩
      conv => whnf
      refine ⟨k + 1, by show k + 1 ≤ s.ths.length; omega, by show s.ths.length - (k + 1) < s.ths.length - k; omega, ⟨rfl, rfl, ?_, rfl, rfl, next_i64 hlt (by omega), trivial⟩, ⟨rfl, rfl, ?_, trivial⟩⟩
      · rw [hsk]
        show AV.ref (.n 6) 0 ((edgesTo p s k).length + 1) = _
        simp
      · rw [hsk]
        show some (Ob.ds 25 1 (((edgesTo p s k).map encE).take (edgesTo p s k).length ++ [encE (k, blocksOf p s s.ths[k])])) = _
        rw [List.take_of_length_le (by simp)]
        simp
    · have hb : ¬ 0 ≤ blocksOf p s s.ths[k] := by simpa using hb
      conv => whnf
      have hsk : edgesTo p s (k + 1) = edgesTo p s k := by rw [edgesTo_succ, hgd, if_neg hb]; simp
      refine ⟨k + 1, by show k + 1 ≤ s.ths.length; omega, by show s.ths.length - (k + 1) < s.ths.length - k; omega, ⟨rfl, rfl, ?_, rfl, rfl, next_i64 hlt (by omega), trivial⟩, ⟨rfl, rfl, ?_, trivial⟩⟩
      · rw [hsk]; rfl
      · rw [hsk]; rfl
  · have hge : s.ths.length ≤ k := by simpa using h
    have hkk : k = s.ths.length := by omega
    subst hkk
    conv => whnf
    refine .inl ?_
    conv => whnf
    have e : (((edgesTo p s s.ths.length).map encE).drop 0).take (edgesTo p s s.ths.length).length = (edgesL p s).map encE := by rw [List.drop_zero, List.take_of_length_le (by simp)]; rfl
    first | exact congrArg (fun x => AV.tup [sl x, bv true]) e | (rw [← e]; rfl) | trace_state
theorem l4Dead_ok (p : ProgL) (hp : p.wf) (hg : p.goodS) (hv : p.flt) (c : Int) (tr : List Ev) (tk : List Int) (s : StL) (h : AInv p s) : CallsTo EE 89 [agg (encProg p), agg (encRun c tr tk s)] (· = sl ((deadL p s).map encInt)) := by
  refine callsTo_of_AW (fn := Tryz.f89) Tryz.func89 rfl (by kernel_rfl) rfl ?_
  conv => whnf
  refine ⟨_, WaitsFor_ok p hp hg hv s h, ?_⟩
  rintro r rfl
  conv => whnf
  rw [edges_enc]
  refine ⟨_, l3CycleG_ok (edgesN p s) (ainv_graph h), ?_⟩
  rintro r rfl
  conv => whnf
  rw [dead_enc]
theorem last_at {tr : List Ev} (h : tr ≠ []) (hl : (tr.length : Int) ≤ 1048576) : 0 ≤ IntKind.i64.wrap (((tr.map encEv).length : Int) - 1) ∧ (tr.map encEv)[(IntKind.i64.wrap (((tr.map encEv).length : Int) - 1)).toNat]? = some (encEv (tr.getLastD ev00)) ∧ tr.getLastD ev00 ∈ tr := by
  have hp : 0 < tr.length := List.length_pos_iff.2 h
  have e : IntKind.i64.wrap (((tr.map encEv).length : Int) - 1) = ((tr.length - 1 : Nat) : Int) := by
    rw [List.length_map, wrap_id (by omega) (by omega)]; omega
  have e2 : tr.getLastD ev00 = tr[tr.length - 1] := by
    rw [List.getLastD_eq_getLast?, List.getLast?_eq_getElem?, List.getElem?_eq_getElem (by omega)]; rfl
  rw [e, e2]
  refine ⟨by omega, ?_, List.getElem_mem _⟩
  rw [Int.toNat_natCast, List.getElem?_map, List.getElem?_eq_getElem (by omega)]; rfl
theorem dec_ne (n : Nat) : Lib.decDigits n ≠ [] := by
  rw [Lib.decDigits]
  split <;> simp
theorem txt_ne {l : List Int} (h : l ≠ []) : txt l ≠ [] := by
  cases l with
  | nil => exact absurd rfl h
  | cons x xs =>
    unfold txt
    rw [List.map_cons, Lib.join_cons]
    intro e
    exact dec_ne _ (List.append_eq_nil_iff.1 e).1
theorem l4Sign_ok (p : ProgL) (hp : p.wf) (hg : p.goodS) (hv : p.flt) (budget : Int) (x : RunT) (h : REnd p budget x) (hb : budget ≤ 1048576) : CallsTo EE 54 [agg (encProg p), agg (encRT x)] (· = sv (signL p x)) := by
  obtain ⟨c, tr, tk, s⟩ := x
  have hcode : c = codeL p s tr.length budget := h.code
  have hpos : 0 < c := h.pos
  have hcs := code_cases (show 0 < codeL p s tr.length budget by rw [← hcode]; exact hpos)
  rw [← hcode] at hcs
  have hi : AInv p s := h.inv
  have hT : TrOK s tr := h.tr
  have hle : (tr.length : Int) ≤ budget := h.le
  unfold signL
  show CallsTo EE 54 [agg (encProg p), agg (encRun c tr tk s)] (· = sv (if c = 1 then [100, 111, 110, 101] else if c = 4 then [98, 117, 100, 103, 101, 116] else if c = 3 then [115, 116, 117, 99, 107, 32] ++ dashT (txt (deadL p s)) else faultT s (tr.getLastD ev00)))
  refine callsTo_of_AW (fn := Tryz.f54) Tryz.func54 rfl (by kernel_rfl) rfl ?_
  conv => whnf
  refine kbi (fun h1 => ?_) (fun h1 => ?_)
  · have h1 : c = 1 := by simpa using h1
    rw [if_pos h1]
    conv => whnf
    try rfl
  have h1 : ¬ c = 1 := by simpa using h1
  rw [if_neg h1]
  conv => whnf
  refine kbi (fun h4 => ?_) (fun h4 => ?_)
  · have h4 : c = 4 := by simpa using h4
    rw [if_pos h4]
    conv => whnf
    try rfl
  have h4 : ¬ c = 4 := by simpa using h4
  rw [if_neg h4]
  conv => whnf
  refine kbi (fun h2 => ?_) (fun h2 => ?_)
  · have h2 : c = 2 := by simpa using h2
    rw [if_neg (by omega)]
    conv => whnf
    have hf : s.fault ≠ 0 := by
      rcases hcs with h | h
      · omega
      · exact h.2
    have hne := hT.ne hf
    have hpt : 0 < tr.length := List.length_pos_iff.2 hne
    obtain ⟨e1, e2, e3⟩ := last_at hne (by omega)
    have hev := hT.ev _ e3
    refine ⟨encEv (tr.getLastD ev00), ⟨e1, e2, rfl⟩, ?_⟩
    generalize tr.getLastD ev00 = e at *
    conv => whnf
    refine ⟨by kernel_rfl, ?_⟩
    conv => whnf
    have hfa := hi.gi.fault
    unfold InR at hfa
    refine ⟨_, l1Num_ok s.fault hfa.1 (by omega), ?_⟩
    conv => whnf
    have hev1 : e.th.toNat < s.ths.length := by omega
    have hrt := (hi.si.ths _ (List.getElem_mem hev1)).rt
    have hn4 := hg.1.2.2.2
    unfold InR at hn4
    have d1 : (Lib.decDigits s.fault.toNat).length ≤ 1 := digits_len _ 1 (by omega) (by omega)
    have hl5 := hi.si.len
    have d2 : (Lib.decDigits e.th.toNat).length ≤ 1 := digits_len _ 1 (by omega) (by omega)
    have d3 : (Lib.decDigits s.ths[e.th.toNat].rt.toNat).length ≤ 1 := digits_len _ 1 (by omega) (by omega)
    have d4 : (Lib.decDigits e.pc.toNat).length ≤ 2 := digits_len _ 2 (by omega) (by omega)
    have hgd : s.ths.getD e.th.toNat th0 = s.ths[e.th.toNat] := by simp [List.getD_eq_getElem?_getD, hev1]
    refine ⟨by simp; omega, ?_⟩
    conv => whnf
    refine ⟨by simp; omega, ?_⟩
    conv => whnf
    refine ⟨_, l1Num_ok e.th hev.1 (by omega), ?_⟩
    conv => whnf
    refine ⟨by simp; omega, ?_⟩
    conv => whnf
    refine ⟨by simp; omega, ?_⟩
    conv => whnf
    refine ⟨encTh s.ths[e.th.toNat], ⟨hev.1, by simp [hev1], rfl⟩, ?_⟩
    conv => whnf
    refine ⟨_, l1Num_ok s.ths[e.th.toNat].rt hrt.1 (by omega), ?_⟩
    conv => whnf
    refine ⟨by simp; omega, ?_⟩
    conv => whnf
    refine ⟨by simp; omega, ?_⟩
    conv => whnf
    refine ⟨_, l1Num_ok e.pc hev.2.2.1 (by omega), ?_⟩
    conv => whnf
    refine ⟨by simp; omega, ?_⟩
    conv => whnf
    unfold faultT
    rw [hgd]
    try rfl
  · have h2 : ¬ c = 2 := by simpa using h2
    rw [if_pos (by omega)]
    conv => whnf
    refine ⟨_, l4Dead_ok p hp hg hv c tr tk s hi, ?_⟩
    rintro r rfl
    conv => whnf
    have hd := dead_picks hi
    refine kbi (fun h3 => ?_) (fun h3 => ?_)
    · have h3 : 0 < (deadL p s).length := by simpa using h3
      conv => whnf
      refine ⟨_, l4List_ok (deadL p s) hd, ?_⟩
      rintro r rfl
      conv => whnf
      have htl := txt_len (deadL p s) hd.2 (deadL p s).length (Nat.le_refl _)
      rw [List.take_length] at htl
      have h200 := hd.1
      refine ⟨by show 6 + _ ≤ _; omega, ?_⟩
      conv => whnf
      have hne : txt (deadL p s) ≠ [] := txt_ne (by intro e; rw [e] at h3; simp at h3)
      unfold dashT
      rw [if_neg hne]
      try rfl
    · have h3 : deadL p s = [] := by
        have : ¬ 0 < (deadL p s).length := by simpa using h3
        exact List.length_eq_zero_iff.1 (by omega)
      conv => whnf
      rw [h3]
      try rfl
end Ai
end
section
set_option maxRecDepth 100000
namespace Ai
open Go Go.Proofs Cyc
def fNums (s : StL) (e : Ev) : List Int := [s.fault, e.th, (s.ths.getD e.th.toNat th0).rt, e.pc]
def fText (s : StL) (e : Ev) (k : Nat) : List UInt8 := [102, 97, 117, 108, 116] ++ (((fNums s e).take k).map fun n => 32 :: Lib.decDigits n.toNat).flatten
theorem fText_succ (s : StL) (e : Ev) (k : Nat) (h : k < (fNums s e).length) : fText s e (k + 1) = fText s e k ++ 32 :: Lib.decDigits ((fNums s e)[k]).toNat := by
  unfold fText
  rw [List.take_add_one, List.getElem?_eq_getElem h]
  simp only [Option.toList, List.map_append, List.flatten_append, List.map_cons, List.map_nil, List.flatten_cons, List.flatten_nil, List.append_nil, List.append_assoc]
theorem fText_end (s : StL) (e : Ev) : fText s e 4 = faultT s e := by
  simp [fText, fNums, faultT]
theorem fText_len (s : StL) (e : Ev) (h : ∀ n ∈ fNums s e, InR n 0 999) : ∀ k, k ≤ 4 → (fText s e k).length ≤ 5 + 4 * k
  | 0, _ => by simp [fText]
  | k + 1, hk => by
    have hl : k < (fNums s e).length := by show k < 4; omega
    have h1 := fText_len s e h k (by omega)
    have h2 := h _ (List.getElem_mem hl)
    unfold InR at h2
    have d1 : (Lib.decDigits ((fNums s e)[k]).toNat).length ≤ 3 := digits_len _ 3 (by omega) (by omega)
    rw [fText_succ s e k hl, List.length_append, List.length_cons]
    omega
theorem itoaL_nat {n : Int} (h : 0 ≤ n) : Lib.itoa n = Lib.decDigits n.toNat := by unfold Lib.itoa; rw [if_neg (by omega)]
theorem signOf_fault (p : ProgL) (hg : p.goodS) (s : StL) (tr : List Ev) (tk : List Int) (hi : AInv p s) (hT : TrOK s tr) (hne : tr ≠ []) (hl : (tr.length : Int) ≤ 1048576) : CallsTo EE 59 [agg (encProg p), agg (encRun 2 tr tk s)] (· = sv (faultT s (tr.getLastD ev00))) := by
  obtain ⟨e1, e2, e3⟩ := last_at hne (by omega)
  have hev := hT.ev _ e3
  refine callsTo_of_AW (fn := Tryz.f59) Tryz.func59 rfl (by kernel_rfl) rfl ?_
  conv => whnf
  refine kbi (fun h => absurd h (by decide)) (fun _ => ?_)
  conv => whnf
  refine kbi (fun h => absurd h (by decide)) (fun _ => ?_)
  conv => whnf
  refine kbi (fun h => absurd h (by decide)) (fun _ => ?_)
  conv => whnf
  refine ⟨encEv (tr.getLastD ev00), ⟨e1, e2, rfl⟩, ?_⟩
  generalize tr.getLastD ev00 = e at *
  conv => whnf
  refine ⟨by kernel_rfl, ?_⟩
  conv => whnf
  have hev1 : e.th.toNat < s.ths.length := by omega
  refine ⟨encTh s.ths[e.th.toNat], ⟨hev.1, by simp [hev1], rfl⟩, ?_⟩
  conv => whnf
  have hrt := (hi.si.ths _ (List.getElem_mem hev1)).rt
  have hgd : s.ths.getD e.th.toNat th0 = s.ths[e.th.toNat] := by simp [List.getD_eq_getElem?_getD, hev1]
  have hl5 := hi.si.len
  have hn4 := hg.1.2.2.2
  have hfa := hi.gi.fault
  unfold InR at hn4 hfa
  have hin : ∀ n ∈ fNums s e, InR n 0 999 := by
    intro n hn
    unfold fNums at hn
    rw [hgd] at hn
    simp only [List.mem_cons, List.not_mem_nil, or_false] at hn
    unfold InR
    rcases hn with h | h | h | h <;> omega
  refine aloop (fun k : Nat => [(8, sv (fText s e k)), (53, sl ((fNums s e).map encInt)), (54, i64 4), (55, i64 k)]) (fun k => []) (fun k => 4 - k) (fun k => k ≤ 4) 0
    Weak.refl ⟨rfl, ?_, rfl, rfl, trivial⟩ trivial (Nat.zero_le _) ?_
  · unfold fNums; rw [hgd]; rfl
  intro k τ H hk
  have hk : k ≤ 4 := hk
  conv => whnf
  refine kbi (fun h => ?_) (fun h => ?_)
  · have hk4 : k < 4 := by
      have := of_decide_eq_true h
      omega
    have hlt : k < (fNums s e).length := hk4
    have hr := hin _ (List.getElem_mem hlt)
    unfold InR at hr
    have d1 : (Lib.decDigits ((fNums s e)[k]).toNat).length ≤ 3 := digits_len _ 3 (by omega) (by omega)
    have hfl := fText_len s e hin k hk
    have hit := itoaL_nat hr.1
    conv => whnf
    refine ⟨encInt (fNums s e)[k], map_get encInt hlt rfl, ?_⟩
    conv => whnf
    refine ⟨_, Itoa_ok (fNums s e)[k] (by omega) (by omega), ?_⟩
    rintro r rfl
    conv => whnf
    rw [hit]
    refine ⟨by show 1 + _ ≤ _; omega, ?_⟩
    conv => whnf
    refine ⟨by simp; omega, ?_⟩
    conv => whnf
    refine ⟨k + 1, by show k + 1 ≤ 4; omega, by show 4 - (k + 1) < 4 - k; omega, ⟨?_, rfl, rfl, ?_, trivial⟩, trivial⟩
    · exact congrArg sv (fText_succ s e k hlt).symm
    · show AV.d (.int .i64 (IntKind.i64.wrap ((k : Int) + 1))) = i64 ((k + 1 : Nat) : Int)
      rw [wrap_id (by omega) (by omega)]
      rfl
  · have hk4 : k = 4 := by
      have : ¬ (k : Int) < 4 := fun e => h (decide_eq_true e)
      omega
    subst hk4
    conv => whnf
    rw [fText_end]
    try rfl
theorem signOf_ok (p : ProgL) (hp : p.wf) (hg : p.goodS) (budget : Int) (x : RunT) (h : REnd p budget x) (hb : budget ≤ 1048576) : CallsTo EE 59 [agg (encProg p), agg (encRT x)] (· = sv (signL p x)) := by
  obtain ⟨c, tr, tk, s⟩ := x
  have hcode : c = codeL p s tr.length budget := h.code
  have hpos : 0 < c := h.pos
  have hcs := code_cases (show 0 < codeL p s tr.length budget by rw [← hcode]; exact hpos)
  rw [← hcode] at hcs
  have hi : AInv p s := h.inv
  have hT : TrOK s tr := h.tr
  have hle : (tr.length : Int) ≤ budget := h.le
  unfold signL
  show CallsTo EE 59 [agg (encProg p), agg (encRun c tr tk s)] (· = sv (if c = 1 then [100, 111, 110, 101] else if c = 4 then [98, 117, 100, 103, 101, 116] else if c = 3 then [115, 116, 117, 99, 107, 32] ++ dashT (txt (deadL p s)) else faultT s (tr.getLastD ev00)))
  rcases hcs with (rfl | rfl | rfl) | ⟨rfl, hf⟩
  · exact signOf_done p s tr tk
  · have hd := dead_picks hi
    have hc := cyc_ok (ainv_graph hi)
    have htl := txt_len (deadL p s) hd.2 (deadL p s).length (Nat.le_refl _)
    rw [List.take_length] at htl
    have := signOf_stuck p s 3 tr tk hp (ainv_small hg hi) (ainv_seen hg hi) (ainv_graph hi) rfl (by omega) (fun x hx => by have := hc.2 x hx; omega) (by rw [dead_txt]; have := hd.1; omega)
    rw [dead_txt] at this
    exact this
  · exact signOf_budget p s tr tk
  · exact signOf_fault p hg s tr tk hi hT (hT.ne hf) (by omega)
end Ai
end
section
set_option maxRecDepth 100000
namespace Ai
open Go Go.Proofs
theorem szOpS_ok (xs : List (List D)) (left : Int) (h0 : 0 ≤ left) (h1 : left ≤ 1048576) (hx : xs.length ≤ 9223372036854775807) :
    CallsTo EE 73 [sl xs, i64 left] (szR left xs.length) := by
  refine callsTo_of_AW (fn := Tryz.f73) Tryz.func73 rfl (by kernel_rfl) rfl ?_
  conv => whnf
  rw [wrap_id (by omega) (by omega)]
  refine ⟨fun h => ?_, fun h => ?_⟩
  · conv => whnf
    exact ⟨-1, rfl, by omega, by omega, by omega⟩
  · conv => whnf
    simp at h
    exact ⟨_, rfl, by omega, by omega, by omega⟩
theorem szOpSS_ok (xs : List (List OpL)) (left : Int) (h0 : 0 ≤ left) (h1 : left ≤ 1048576) (hx : xs.length ≤ 9223372036854775807) (hx2 : ∀ x ∈ xs, x.length ≤ 9223372036854775807) :
    CallsTo EE 38 [sl (xs.map encRow), i64 left] (szR left (sizeSS List.length xs)) := by
  refine callsTo_of_AW (fn := Tryz.f38) Tryz.func38 rfl (by kernel_rfl) rfl ?_
  conv => whnf
  rw [wrap_id (by simp; omega) (by simp; omega), List.length_map]
  refine ⟨fun h => ?_, fun h => ?_⟩
  · conv => whnf
    exact ⟨-1, rfl, by omega, by omega, by omega⟩
  · simp at h
    conv => whnf
    refine aloop (fun x : Nat × Int => [(0, sl (xs.map encRow)), (5, i64 x.1), (1, i64 x.2)]) (fun _ => []) (fun x => xs.length - x.1)
      (fun x => x.1 ≤ xs.length ∧ 0 ≤ x.2 ∧ (xs.length : Int) + ((xs.map List.length).take x.1).sum + x.2 ≤ left) (0, left - xs.length) .refl ⟨rfl, rfl, rfl, trivial⟩ trivial ⟨by omega, by omega, by simp; omega⟩ ?_
    rintro ⟨k, l⟩ τ H ⟨hk, hl, hs⟩
    dsimp only at hk hl hs
    conv => whnf
    refine ⟨fun h => ?_, fun h => ?_⟩
    · have hlt := lt_map h
      conv => whnf
      refine ⟨encRow xs[k], map_get encRow hlt rfl, ?_⟩
      conv => whnf
      refine ⟨_, szOpS_ok _ l hl (by omega) (by simpa using hx2 _ (List.getElem_mem hlt)), ?_⟩
      rintro r ⟨n, rfl, hn1, hn2, hn3⟩
      conv => whnf
      refine ⟨fun h => ?_, fun h => ?_⟩
      · conv => whnf
        exact ⟨-1, rfl, by omega, by omega, by omega⟩
      · simp at h
        conv => whnf
        refine ⟨(k + 1, n), ⟨by omega, by omega, ?_⟩, by show xs.length - (k + 1) < xs.length - k; omega, ⟨rfl, next_i64 hlt hx, rfl, trivial⟩, trivial⟩
        have hm : k < (xs.map List.length).length := by simpa using hlt
        rw [sum_take_succ _ _ hm]
        have := hn3 h
        simp at this ⊢
        omega
    · have hge := ge_map h
      conv => whnf
      have hkk : k = xs.length := by omega
      subst hkk
      refine ⟨_, rfl, by omega, ?_, ?_⟩
      · omega
      · intro _
        simp only [sizeSS]
        rw [List.take_of_length_le (by simp)] at hs
        simp at hs ⊢
        omega
theorem szProg_ok (p : ProgL) (left : Int) (h0 : 0 ≤ left) (h1 : left ≤ 1048576) (hs : p.wf) : CallsTo EE 11 [agg (encProg p), i64 left] (szR left p.size) := by
  refine callsTo_of_AW (fn := Tryz.f11) Tryz.func11 rfl (by kernel_rfl) rfl ?_
  conv => whnf
  refine ⟨_, szOpSS_ok _ left h0 h1 hs.1 hs.2, ?_⟩
  rintro r ⟨n, rfl, hn1, hn2, hn3⟩
  conv => whnf
  refine ⟨fun h => ?_, fun h => ?_⟩
  · conv => whnf
    exact ⟨-1, rfl, by omega, by omega, by omega⟩
  · simp at h
    conv => whnf
    exact ⟨_, rfl, by omega, by omega, hn3⟩
end Ai
end
section
set_option maxRecDepth 100000
namespace Ai
open Go Go.Proofs
theorem ne_self_int (n : Int) (h : (n != n) = true) : False := by simp at h
theorem eqIntS_ok (xs : List Int) (hx : xs.length ≤ 1048576) : CallsTo EE 17 [sl (xs.map encInt), sl (xs.map encInt)] (· = bv true) := by
  refine callsTo_of_AW (fn := Tryz.f17) Tryz.func17 rfl (by kernel_rfl) rfl ?_
  conv => whnf
  refine ⟨fun h => (ne_self_int _ h).elim, fun _ => ?_⟩
  conv => whnf
  refine aloop (fun k : Nat => [(0, sl (xs.map encInt)), (1, sl (xs.map encInt)), (5, i64 k)]) (fun k => []) (fun k => xs.length - k) (fun k => k ≤ xs.length) 0 .refl ⟨rfl, rfl, rfl, trivial⟩ trivial (Nat.zero_le _) ?_
  intro k τ H hk
  conv => whnf
  refine ⟨fun h => ?_, fun h => ?_⟩
  · have hlt := lt_map h
    conv => whnf
    refine ⟨by kernel_rfl, ?_⟩
    conv => whnf
    refine ⟨encInt xs[k], map_get encInt hlt rfl, ?_⟩
    conv => whnf
    refine ⟨encInt xs[k], map_get encInt hlt rfl, ?_⟩
    conv => whnf
    refine ⟨fun h => (ne_self_int _ h).elim, fun _ => ?_⟩
    conv => whnf
    refine ⟨k + 1, by omega, by show xs.length - (k + 1) < xs.length - k; omega, ⟨rfl, rfl, next_i64 hlt (by omega), trivial⟩, trivial⟩
  · conv => whnf
theorem sameFloat_ok (x : Nat) : CallsTo EE 160 [.d (.flt x), .d (.flt x)] (· = bv true) := by
  refine callsTo_of_AW (fn := Tryz.f160) Tryz.func160 rfl (by kernel_rfl) rfl ?_
  conv => whnf
  repeat' (refine kbi (fun h => ?_) (fun h => ?_) <;> first | contradiction | conv => whnf)
  all_goals simp [fcmp_ne] at *
  all_goals simp_all
theorem eqOp_ok (x : OpL) : CallsTo EE 127 [agg (encOp x), agg (encOp x)] (· = bv true) := by
  refine callsTo_of_AW (fn := Tryz.f127) Tryz.func127 rfl (by kernel_rfl) rfl ?_
  conv => whnf
  refine ⟨fun h => (ne_self_int _ h).elim, fun _ => ?_⟩
  conv => whnf
  refine ⟨fun h => (ne_self_int _ h).elim, fun _ => ?_⟩
  conv => whnf
  refine ⟨fun h => (ne_self_int _ h).elim, fun _ => ?_⟩
  conv => whnf
  refine ⟨_, sameFloat_ok x.v, ?_⟩
  rintro r rfl
  conv => whnf
theorem eqOpS_ok (xs : List OpL) (hx : xs.length ≤ 1048576) : CallsTo EE 82 [sl (xs.map encOp), sl (xs.map encOp)] (· = bv true) := by
  refine callsTo_of_AW (fn := Tryz.f82) Tryz.func82 rfl (by kernel_rfl) rfl ?_
  conv => whnf
  refine ⟨fun h => (ne_self_int _ h).elim, fun _ => ?_⟩
  conv => whnf
  refine aloop (fun k : Nat => [(0, sl (xs.map encOp)), (1, sl (xs.map encOp)), (5, i64 k)]) (fun k => []) (fun k => xs.length - k) (fun k => k ≤ xs.length) 0 .refl ⟨rfl, rfl, rfl, trivial⟩ trivial (Nat.zero_le _) ?_
  intro k τ H hk
  conv => whnf
  refine ⟨fun h => ?_, fun h => ?_⟩
  · have hlt := lt_map h
    conv => whnf
    refine ⟨by kernel_rfl, ?_⟩
    conv => whnf
    refine ⟨encOp xs[k], map_get encOp hlt rfl, ?_⟩
    conv => whnf
    refine ⟨encOp xs[k], map_get encOp hlt rfl, ?_⟩
    conv => whnf
    refine ⟨_, eqOp_ok xs[k], ?_⟩
    conv => whnf
    refine ⟨k + 1, by omega, by show xs.length - (k + 1) < xs.length - k; omega, ⟨rfl, rfl, next_i64 hlt (by omega), trivial⟩, trivial⟩
  · conv => whnf
theorem eqOpSS_ok (xs : List (List OpL)) (hx : xs.length ≤ 1048576) (hx2 : ∀ x ∈ xs, x.length ≤ 1048576) : CallsTo EE 46 [sl (xs.map encRow), sl (xs.map encRow)] (· = bv true) := by
  refine callsTo_of_AW (fn := Tryz.f46) Tryz.func46 rfl (by kernel_rfl) rfl ?_
  conv => whnf
  refine ⟨fun h => (ne_self_int _ h).elim, fun _ => ?_⟩
  conv => whnf
  refine aloop (fun k : Nat => [(0, sl (xs.map encRow)), (1, sl (xs.map encRow)), (5, i64 k)]) (fun k => []) (fun k => xs.length - k) (fun k => k ≤ xs.length) 0 .refl ⟨rfl, rfl, rfl, trivial⟩ trivial (Nat.zero_le _) ?_
  intro k τ H hk
  conv => whnf
  refine ⟨fun h => ?_, fun h => ?_⟩
  · have hlt := lt_map h
    conv => whnf
    refine ⟨by kernel_rfl, ?_⟩
    conv => whnf
    refine ⟨encRow xs[k], map_get encRow hlt rfl, ?_⟩
    conv => whnf
    refine ⟨encRow xs[k], map_get encRow hlt rfl, ?_⟩
    conv => whnf
    refine ⟨_, eqOpS_ok xs[k] (hx2 _ (List.getElem_mem hlt)), ?_⟩
    conv => whnf
    refine ⟨k + 1, by omega, by show xs.length - (k + 1) < xs.length - k; omega, ⟨rfl, rfl, next_i64 hlt (by omega), trivial⟩, trivial⟩
  · conv => whnf
theorem eqProg_ok (p : ProgL) (h : p.rs.length ≤ 1048576 ∧ ∀ x ∈ p.rs, x.length ≤ 1048576) : CallsTo EE 16 [agg (encProg p), agg (encProg p)] (· = bv true) := by
  refine callsTo_of_AW (fn := Tryz.f16) Tryz.func16 rfl (by kernel_rfl) rfl ?_
  conv => whnf
  refine ⟨fun h => (ne_self_int _ h).elim, fun _ => ?_⟩
  conv => whnf
  refine ⟨fun h => (ne_self_int _ h).elim, fun _ => ?_⟩
  conv => whnf
  refine ⟨fun h => (ne_self_int _ h).elim, fun _ => ?_⟩
  conv => whnf
  refine ⟨_, eqOpSS_ok _ h.1 h.2, ?_⟩
  rintro r rfl
  conv => whnf
end Ai
end
section
set_option maxRecDepth 100000
namespace Ai
open Go Go.Proofs Cyc
def Still (p : ProgL) (picks : List Int) (sign : List UInt8) : Prop := signL p (runOf p picks 200) = sign
theorem l12Still_ok (p : ProgL) (hp : p.wf) (hg : p.goodS) (hv : p.flt) (picks : List Int) (sign : List UInt8) (hpk : ∀ i ∈ picks, 0 ≤ i) (hl : picks.length ≤ 1048576) : CallsTo EE 41 [agg (encProg p), sl (picks.map encInt), sv sign] (· = bp (Still p picks sign)) := by
  refine callsTo_of_AW (fn := Tryz.f41) Tryz.func41 rfl (by kernel_rfl) rfl ?_
  conv => whnf
  refine ⟨by kernel_rfl, ?_⟩
  conv => whnf
  refine ⟨_, l4Run_of p hp hg picks 200 hpk hl (by unfold InR; omega), ?_⟩
  conv => whnf
  refine ⟨_, l4Sign_ok p hp hg hv 200 _ (runOf_end hg hv picks 200 hpk (by omega)) (by omega), ?_⟩
  conv => whnf
  refine ⟨fun h => ?_, fun h => ?_⟩
  · conv => whnf
    exact bpt (eq_of_beq h)
  · conv => whnf
    exact bpf (fun e => by rw [Still] at e; simp [e] at h)
theorem still_ok (p : ProgL) (hp : p.wf) (hg : p.goodS) (hv : p.flt) (picks : List Int) (sign : List UInt8) (hpk : ∀ i ∈ picks, 0 ≤ i) (hl : picks.length ≤ 1048576) : CallsTo EE 45 [agg (encProg p), sl (picks.map encInt), sv sign] (· = bp (Still p picks sign)) := by
  refine callsTo_of_AW (fn := Tryz.f45) Tryz.func45 rfl (by kernel_rfl) rfl ?_
  conv => whnf
  refine ⟨by kernel_rfl, ?_⟩
  conv => whnf
  refine ⟨_, runPicks_of p hp hg hv picks 200 hpk hl (by unfold InR; omega), ?_⟩
  conv => whnf
  refine ⟨_, signOf_ok p hp hg 200 _ (runOf_end hg hv picks 200 hpk (by omega)) (by omega), ?_⟩
  conv => whnf
  refine ⟨fun h => ?_, fun h => ?_⟩
  · conv => whnf
    exact bpt (eq_of_beq h)
  · conv => whnf
    exact bpf (fun e => by rw [Still] at e; simp [e] at h)
def Picks6 (xs : List Int) : Prop := xs.length ≤ 60 ∧ AllIn xs 0 999
theorem Picks6.nn {xs : List Int} (h : Picks6 xs) : ∀ i ∈ xs, 0 ≤ i := fun i hi => (h.2 i hi).1
theorem l12Picks_ok (xs : List Int) (hx : xs.length ≤ 1048576) : CallsTo EE 40 [sl (xs.map encInt)] (· = bp (Picks6 xs)) := by
  refine callsTo_of_AW (fn := Tryz.f40) Tryz.func40 rfl (by kernel_rfl) rfl ?_
  conv => whnf
  refine kbi (fun h4 => ?_) (fun h4 => ?_)
  · simp at h4
    conv => whnf
    refine ocase (l1All_ok xs 0 999 hx) (fun h5 => ?_) (fun h5 => ?_)
    · conv => whnf
      exact bpt ⟨by omega, h5⟩
    · conv => whnf
      exact bpf fun hm => h5 hm.2
  · simp at h4
    conv => whnf
    exact bpf fun hm => by have := hm.1; omega
theorem areShort_ok (xs : List Int) (hx : xs.length ≤ 1048576) : CallsTo EE 44 [sl (xs.map encInt)] (· = bp (Picks6 xs)) := by
  refine callsTo_of_AW (fn := Tryz.f44) Tryz.func44 rfl (by kernel_rfl) rfl ?_
  conv => whnf
  refine ⟨_, arePicks_ok xs 60 hx, ?_⟩
  rintro r rfl
  conv => whnf
  try rfl
theorem StillSoS_ok (p : ProgL) (hp : p.wf) (hs : p.rs.length ≤ 1048576 ∧ ∀ x ∈ p.rs, x.length ≤ 1048576) (hv : p.flt) (picks : List Int) (sign : List UInt8) (hl : picks.length ≤ 1048576) :
    CallsTo EE 12 [agg (encProg p), sl (picks.map encInt), sv sign] (· = .tup [bp ((p.goodS ∧ Picks6 picks) ∧ Still p picks sign), bp (p.goodS ∧ Picks6 picks)]) := by
  refine callsTo_of_AW (fn := Tryz.f12) Tryz.func12 rfl (by kernel_rfl) rfl ?_
  conv => whnf
  refine ocase (GoodProgS_ok p hs hv) (fun hg => ?_) (fun hg => ?_)
  rotate_left
  · conv => whnf
    rw [show bp ((p.goodS ∧ Picks6 picks) ∧ Still p picks sign) = bv false from (bpf fun e => hg e.1.1).symm, show bp (p.goodS ∧ Picks6 picks) = bv false from (bpf fun e => hg e.1).symm]
    try rfl
  conv => whnf
  refine ocase (l12Picks_ok picks hl) (fun h6 => ?_) (fun h6 => ?_)
  rotate_left
  · conv => whnf
    rw [show bp ((p.goodS ∧ Picks6 picks) ∧ Still p picks sign) = bv false from (bpf fun e => h6 e.1.2).symm, show bp (p.goodS ∧ Picks6 picks) = bv false from (bpf fun e => h6 e.2).symm]
    try rfl
  conv => whnf
  rw [show bp (p.goodS ∧ Picks6 picks) = bv true from (bpt ⟨hg, h6⟩).symm]
  refine ocase (l12Still_ok p hp hg hv picks sign h6.nn hl) (fun h => ?_) (fun h => ?_)
  · conv => whnf
    rw [show bp ((p.goodS ∧ Picks6 picks) ∧ Still p picks sign) = bv true from (bpt ⟨⟨hg, h6⟩, h⟩).symm]
    try rfl
  · conv => whnf
    rw [show bp ((p.goodS ∧ Picks6 picks) ∧ Still p picks sign) = bv false from (bpf fun e => h e.2).symm]
    try rfl
end Ai
end
section
set_option maxRecDepth 100000
namespace Ai
open Go Go.Proofs Go.Shelf Go.Sort Go.RowKit
theorem ent84 : ∀ args w, (callFunc 84 args).run Tryz.prog w = .ok (.enter 84 args) w := enters_of Tryz.func84 (by kernel_rfl) rfl
theorem ent48 : ∀ args w, (callFunc 48 args).run Tryz.prog w = .ok (.enter 48 args) w := enters_of Tryz.func48 (by kernel_rfl) rfl
def dropL (xs : List Int) (i j : Nat) : List Int := xs.take i ++ xs.drop j
theorem putRow_at (w : World) (g : Nat) (d : Array Int) (cur : Array Value) (h : w.heap[g]? = some (.cells cur 3 (0, 0))) :
    (putRow (Value.int .i64) w g 0 d).heap[g]? = some (.cells (putCells (Value.int .i64) 0 d cur) 3 (0, 0)) := by
  simp only [putRow, mapBlock, Array.getElem?_modify, if_true, h, Option.map_some, onCells]
theorem putCells_get (d : Array Int) (cur : Array Value) (t : Nat) (h1 : t < d.size) (h2 : t < cur.size) : (putCells (Value.int .i64) 0 d cur)[t]? = some (.int .i64 d[t]) := by
  simp only [putCells, Array.getElem?_mapIdx, Array.getElem?_eq_getElem h2, Option.map_some, Nat.zero_le, true_and, Nat.zero_add, h1, if_true, Nat.sub_zero]
  rw [getElem!_pos d t h1]
def Left (w w' : World) (v : Value) (xs : List Int) : Prop :=
  Below w.heap.size w w' ∧ ∃ (g cap : Nat) (cur : Array Value), v = .slice (some ⟨g, 0, none⟩) xs.length cap ∧ w.heap.size ≤ g ∧ w'.heap[g]? = some (.cells cur 3 (0, 0)) ∧ xs.length ≤ cap ∧ cap ≤ maxLen ∧ cur.size = cap ∧
    ∀ (t : Nat) (x : Int), xs[t]? = some x → cur[t]? = some (.int .i64 x)
theorem del_left {w w1 : World} {g cap : Nat} {cur : Array Value} {zs : List Int} {i j : Nat} (hb : Below w.heap.size w w1) (hg : w.heap.size ≤ g) (hcur : w1.heap[g]? = some (.cells cur 3 (0, 0))) (hn : zs.length ≤ cap) (hm : cap ≤ maxLen) (hs : cur.size = cap * 1)
    (ht : cur.toList.take (zs.length * 1) = zs.map (Value.int .i64)) (hij : i ≤ j) (hj : j ≤ zs.length) :
    Calls Tryz.prog 84 #[.slice (some ⟨g, 0, none⟩) zs.length cap, .int .i64 i, .int .i64 j] w1 fun e w' => ∃ v, e = .returned v ∧ Left w w' v (dropL zs i j) := by
  have hgl : g < w1.heap.size := (Array.getElem?_eq_some_iff.1 hcur).1
  have hc : ∀ t, t < zs.length → cur[t]? = some (.int .i64 (zs.getD t 0)) := by
    intro t ht2
    have h3 : (cur.toList.take (zs.length * 1))[t]? = some (Value.int .i64 (zs.getD t 0)) := by rw [ht]; simp [List.getD_eq_getElem?_getD, ht2]
    rw [List.getElem?_take_of_lt (by omega)] at h3
    simpa using h3
  have hH : Holds (Value.int .i64) w1 g 0 zs.toArray := by
    intro t ht2
    have ht2 : t < zs.length := by simpa using ht2
    constructor
    · simp only [World.cell?, hcur, Nat.zero_add, hc t ht2]
      simp [List.getD_eq_getElem?_getD, ht2]
    · simp [World.frozen?, hcur]
  have hml : maxLen = 9223372036854775807 := rfl
  refine Calls.mono (show Calls Tryz.prog 84 _ _ _ from Any.slices_Delete_int Tryz.laysDelete g 0 cap i j zs w1 hH hn (by omega) hij hj) ?_
  rintro e w' ⟨rfl, q, rfl⟩
  have hcur2 : (Sort.ahead w1 q).heap[g]? = some (.cells cur 3 (0, 0)) := hcur
  have hlen : (dropL zs i j).length = zs.length - (j - i) := by simp [dropL]; omega
  have hd : (zs.take i ++ zs.drop j ++ List.replicate (j - i) 0).toArray.size = zs.length := by simp; omega
  refine ⟨_, rfl, ⟨?_, ?_, ?_, ?_, fun k hk => ?_⟩, g, cap, _, by rw [hlen], hg, putRow_at _ _ _ _ hcur2, by omega, hm, ?_, fun t x hx => ?_⟩
  · exact hb.os
  · exact hb.tape
  · exact hb.output
  · rw [size_putRow]; exact hb.size
  · rw [putRow_heap _ _ _ _ _ _ (by omega)]; exact hb.block k hk
  · simp [putCells, hs]
  · have htl := (List.getElem?_eq_some_iff.1 hx).1
    rw [putCells_get _ _ _ (by omega) (by omega)]
    simp only [List.getElem_toArray]
    rw [List.getElem_append_left (by rw [show (zs.take i ++ zs.drop j) = dropL zs i j from rfl]; omega)]
    rw [List.getElem?_eq_getElem htl] at hx
    injection hx with hx
    subst hx
    rfl
theorem drop_calls (b off cap i j : Nat) (zs : List Int) (w : World) (hc : ∀ j, j < zs.length → w.cell? ⟨b, off + j, none⟩ = some (.int .i64 (zs.getD j 0))) (hz : zs.length ≤ 1048576) (hij : i ≤ j) (hj : j ≤ zs.length) :
    Calls Tryz.prog 48 #[.slice (some ⟨b, off, none⟩) zs.length cap, .int .i64 i, .int .i64 j] w fun e w' => ∃ v, e = .returned v ∧ Left w w' v (dropL zs i j) := by
  have hS : Calls Tryz.prog 50 #[.slice (some ⟨b, off, none⟩) zs.length cap] w fun e w1 => ∃ g cap2 cur, e = .returned (.slice (some ⟨g, 0, none⟩) zs.length cap2) ∧ Below w.heap.size w w1 ∧ w.heap.size ≤ g ∧ w1.heap[g]? = some (.cells cur 3 (0, 0)) ∧ zs.length ≤ cap2 ∧ cap2 ≤ maxLen ∧ cur.size = cap2 * 1 ∧ cur.toList.take (zs.length * 1) = zs.map (Value.int .i64) := by
    refine Calls.mono (show Calls Tryz.prog 50 _ _ _ from Any.slices_Clone_int Tryz.laysClone b off zs.length cap zs w (Nat.le_refl _) (by omega) hc) ?_
    rintro e w1 ⟨v, rfl, ⟨h1, h2⟩, hne, hb⟩
    rcases h2 with ⟨rfl, _⟩ | ⟨g, cap2, cur, rfl, hg, hcur, hn, hm, hs, ht⟩
    · exact absurd rfl hne
    · rw [List.take_length] at ht
      exact ⟨g, cap2, cur, rfl, hb, hg, hcur, hn, hm, hs, ht⟩
  clear hc
  have e50 : ∀ args w, (callFunc 50 args).run Tryz.prog w = .ok (.enter 50 args) w := ent50
  have e84 : ∀ args w, (callFunc 84 args).run Tryz.prog w = .ok (.enter 84 args) w := ent84
  go_enter Tryz.func48, Tryz.ntmps48
  go_wp2_with (first
    | (go_at_call 50; refine hS.mono ?_; rintro e w1 ⟨g, cap2, cur, rfl, hb, hg, hcur, hn, hm, hs, ht⟩)
    | (go_at_call 84; refine (del_left hb hg hcur hn hm hs ht hij hj).mono ?_; rintro e w' ⟨v, rfl, hL⟩))
  go_ret
  exact ⟨_, rfl, hL⟩
theorem left_uq {w w' : World} {A : Nat → Prop} {v : Value} {xs : List Int} (h : Left w w' v xs) : RRel w w' A (.uq 3 1 (xs.map encInt)) v := by
  obtain ⟨hb, g, cap, cur, rfl, hg, hcur, hn, hm, hsz, ht⟩ := h
  right
  refine ⟨g, cap, cur, by simp, hg, hcur, by simpa using hn, hm, by omega, fun j c hj => ?_⟩
  rw [List.getElem?_map, Option.map_eq_some_iff] at hj
  obtain ⟨x, hx, rfl⟩ := hj
  refine ⟨rfl, fun i d hi => ?_⟩
  match i, hi with
  | 0, hi =>
    simp only [encInt, List.getElem?_cons_zero, Option.some.injEq] at hi
    subst hi
    exact ⟨.int .i64 x, by rw [Nat.mul_one, Nat.add_zero]; exact ht j x hx, .int _ _⟩
  | i + 1, hi => simp [encInt] at hi
theorem dropI_ok (xs : List Int) (i j : Nat) (hx : xs.length ≤ 1048576) (h0 : xs ≠ []) (hij : i ≤ j) (hj : j ≤ xs.length) : CallsTo EE 48 [sl (xs.map encInt), i64 i, i64 j] (· = .uq 3 1 ((dropL xs i j).map encInt)) := by
  intro w A vs hI hA
  obtain ⟨hl, hr⟩ := hA
  have h1 : vs.size = 3 := hl.symm
  obtain ⟨v, u1, u2, rfl⟩ : ∃ v u1 u2, vs = #[v, u1, u2] := ⟨vs[0], vs[1], vs[2], by
    apply Array.ext (by simp [h1])
    intro i h2 h3
    simp at h3
    match i, h3 with
    | 0, _ => rfl
    | 1, _ => rfl
    | 2, _ => rfl⟩
  have g0 := hr 0 _ v rfl rfl
  have g1 := hr 1 _ u1 rfl rfl
  have g2 := hr 2 _ u2 rfl rfl
  cases g1 with
  | d _ _ hd1 =>
    have := intInv hd1
    subst this
    cases g2 with
    | d _ _ hd2 =>
      have := intInv hd2
      subst this
      cases g0 with
      | d _ _ hd =>
        unfold Invokes
        rw [show Sem.run EE.P (callFunc 48 _) w = _ from ent48 _ w]
        rcases row1 (d := D.int .i64) (xs := xs) hd with ⟨rfl, a, cap, rfl⟩ | ⟨b, off, cap, us, rfl, hok, hcap, hc⟩
        · exact absurd rfl h0
        · have hcells : ∀ j, j < xs.length → w.cell? ⟨b, off + j, none⟩ = some (.int .i64 (xs.getD j 0)) := by
            intro j hj
            obtain ⟨g1, g2⟩ := hc j xs[j] (List.getElem?_eq_getElem hj)
            rw [g1, intInv g2]
            simp [List.getD_eq_getElem?_getD, List.getElem?_eq_getElem hj]
          refine Calls.mono (show Calls Tryz.prog 48 _ _ _ from drop_calls b off cap i j xs w hcells hx hij hj) ?_
          rintro e w' ⟨v, rfl, hL⟩
          exact ⟨_, rfl, _, rfl, hL.1, left_uq hL⟩
end Ai
end
section
set_option maxRecDepth 100000
namespace Ai
open Go Go.Proofs Cyc
theorem l12Drop_ok (xs : List Int) (i j : Nat) (hx : xs.length ≤ 1048576) (hij : i ≤ j) (hj : j ≤ xs.length) : CallsTo EE 47 [sl (xs.map encInt), i64 i, i64 j] (· = .uq 3 1 ((dropL xs i j).map encInt)) := by
  refine callsTo_of_AW (fn := Tryz.f47) Tryz.func47 rfl (by kernel_rfl) rfl ?_
  conv => whnf
  refine .inr (.inl ⟨7, [], ?_⟩)
  conv => whnf
  refine ⟨⟨by omega, by omega, by simp; omega, fun c hc => by obtain ⟨x, _, rfl⟩ := List.mem_map.1 hc; rfl⟩, ?_⟩
  conv => whnf
  have e1 : (((xs.map encInt).drop 0).take ((i : Int) - 0).toNat) = (xs.take i).map encInt := by simp [List.map_take]
  have ho := l1Own_ok (xs.take i) (by simp; omega)
  rw [show (((xs.map encInt).drop (Int.toNat 0)).take ((i : Int).toNat - Int.toNat 0)) = (xs.take i).map encInt by simp [List.map_take]]
  refine ⟨_, ho, ?_⟩
  conv => whnf
  refine .inr ⟨_, rfl, ?_⟩
  conv => whnf
  refine ⟨⟨by omega, by simp; omega, by simp, fun c hc => by obtain ⟨x, _, rfl⟩ := List.mem_map.1 hc; rfl⟩, ?_⟩
  conv => whnf
  refine ⟨by kernel_rfl, ?_⟩
  conv => whnf
  rw [show (((xs.map encInt).drop (j : Int).toNat).take ((((xs.map encInt).length : Int)).toNat - (j : Int).toNat)) = (xs.drop j).map encInt by
    simp [List.map_drop]; exact List.take_of_length_le (by simp)]
  refine ⟨⟨List.all_eq_true.2 fun c hc => by obtain ⟨x, _, rfl⟩ := List.mem_map.1 hc; rfl, ?_, ?_⟩, ?_⟩
  · show ((List.map encInt (List.take i xs)).length + (List.map encInt (List.drop j xs)).length) * 8 ≤ _
    simp; omega
  · simp; omega
  conv => whnf
  refine congrArg (AV.uq 3 1) ?_
  rw [List.take_of_length_le (l := (xs.take i).map encInt) (Nat.le_refl _), List.take_of_length_le (by simp), ← List.map_append]
  rfl
theorem bp_iff {P Q : Prop} (h : P ↔ Q) : bp P = bp Q := by rw [propext h]
def Least (p : ProgL) (picks : List Int) (sign : List UInt8) : Prop := Still p picks sign ∧ ∀ k, k < picks.length → ¬ Still p (dropL picks k (k + 1)) sign
def LeastTo (p : ProgL) (picks : List Int) (sign : List UInt8) (n : Nat) : Prop := Still p picks sign ∧ ∀ k, k < n → ¬ Still p (dropL picks k (k + 1)) sign
theorem drop_in {xs : List Int} {i j : Nat} (h : ∀ x ∈ xs, 0 ≤ x) : ∀ x ∈ dropL xs i j, 0 ≤ x := by
  intro x hx
  rcases List.mem_append.1 hx with h1 | h1
  · exact h x (List.mem_of_mem_take h1)
  · exact h x (List.mem_of_mem_drop h1)
theorem drop_le {xs : List Int} {i j : Nat} (h : i ≤ j) : (dropL xs i j).length ≤ xs.length := by simp [dropL]; omega
theorem leastTo_succ {p : ProgL} {picks : List Int} {sign : List UInt8} {n : Nat} : LeastTo p picks sign (n + 1) ↔ LeastTo p picks sign n ∧ ¬ Still p (dropL picks n (n + 1)) sign := by
  constructor
  · rintro ⟨h1, h2⟩
    exact ⟨⟨h1, fun k hk => h2 k (by omega)⟩, h2 n (by omega)⟩
  · rintro ⟨⟨h1, h2⟩, h3⟩
    refine ⟨h1, fun k hk => ?_⟩
    by_cases e : k = n
    · subst e; exact h3
    · exact h2 k (by omega)
theorem IsLeastS_ok (p : ProgL) (hp : p.wf) (hs : p.rs.length ≤ 1048576 ∧ ∀ x ∈ p.rs, x.length ≤ 1048576) (hv : p.flt) (picks : List Int) (sign : List UInt8) (hl : picks.length ≤ 1048576) :
    CallsTo EE 18 [agg (encProg p), sl (picks.map encInt), sv sign] (· = .tup [bp ((p.goodS ∧ Picks6 picks) ∧ Least p picks sign), bp (p.goodS ∧ Picks6 picks)]) := by
  have cS := StillSoS_ok p hp hs hv picks sign hl
  by_cases hG : p.goodS ∧ Picks6 picks
  rotate_left
  · have e1 : bp ((p.goodS ∧ Picks6 picks) ∧ Still p picks sign) = bv false := (bpf fun e => hG e.1).symm
    have e2 : bp (p.goodS ∧ Picks6 picks) = bv false := (bpf hG).symm
    have e3 : bp ((p.goodS ∧ Picks6 picks) ∧ Least p picks sign) = bv false := (bpf fun e => hG e.1).symm
    rw [e1, e2] at cS
    rw [e2, e3]
    refine callsTo_of_AW (fn := Tryz.f18) Tryz.func18 rfl (by kernel_rfl) rfl ?_
    conv => whnf
    refine ⟨_, cS, ?_⟩
    rintro r rfl
    conv => whnf
    try rfl
  have e1 : bp ((p.goodS ∧ Picks6 picks) ∧ Still p picks sign) = bp (LeastTo p picks sign 0) := bp_iff ⟨fun h => ⟨h.2, fun k hk => by omega⟩, fun h => ⟨hG, h.1⟩⟩
  have e2 : bp (p.goodS ∧ Picks6 picks) = bv true := (bpt hG).symm
  have e3 : bp ((p.goodS ∧ Picks6 picks) ∧ Least p picks sign) = bp (LeastTo p picks sign picks.length) := bp_iff ⟨fun h => h.2, fun h => ⟨hG, h⟩⟩
  rw [e1, e2] at cS
  rw [e2, e3]
  obtain ⟨hg, h6⟩ := hG
  have hnn := h6.nn
  refine callsTo_of_AW (fn := Tryz.f18) Tryz.func18 rfl (by kernel_rfl) rfl ?_
  conv => whnf
  refine ⟨_, cS, ?_⟩
  rintro r rfl
  conv => whnf
  refine aloop (fun k : Nat => [(1, sl (picks.map encInt)), (2, sv sign), (3, .ptr (.n 3) 0), (8, bp (LeastTo p picks sign k)), (21, i64 (picks.map encInt).length), (22, i64 k)]) (fun k => [(.n 3, .vs 31 ((encProg p).map .d))]) (fun k => picks.length - k) (fun k => k ≤ picks.length) 0
    Weak.refl ⟨rfl, rfl, rfl, rfl, rfl, rfl, trivial⟩ ⟨rfl, trivial⟩ (Nat.zero_le _) ?_
  intro k τ H hk
  have hk : k ≤ picks.length := hk
  conv => whnf
  refine kbi (fun h => ?_) (fun h => ?_)
  · have hlt := lt_map h
    conv => whnf
    have h60 := h6.1
    have hw : IntKind.i64.wrap ((k : Int) + 1) = ((k + 1 : Nat) : Int) := by rw [wrap_id (by omega) (by omega)]; rfl
    have hd := l12Drop_ok picks k (k + 1) hl (by omega) (by omega)
    rw [← hw] at hd
    have hst := l12Still_ok p hp hg hv (dropL picks k (k + 1)) sign (drop_in hnn) (Nat.le_trans (drop_le (by omega)) hl)
    by_cases hb : LeastTo p picks sign k
    · simp only [bp, pb_t hb]
      conv => whnf
      refine ⟨by kernel_rfl, ?_⟩
      conv => whnf
      refine ⟨_, hd, ?_⟩
      conv => whnf
      refine qcase hst (fun hq => ?_) (fun hq => ?_)
      · conv => whnf
        refine ⟨k + 1, by show k + 1 ≤ picks.length; omega, by show picks.length - (k + 1) < picks.length - k; omega, ⟨rfl, rfl, rfl, ?_, rfl, next_i64 hlt (by omega), trivial⟩, ⟨rfl, trivial⟩⟩
        exact bpf fun e => (leastTo_succ.1 e).2 hq
      · conv => whnf
        refine ⟨k + 1, by show k + 1 ≤ picks.length; omega, by show picks.length - (k + 1) < picks.length - k; omega, ⟨rfl, rfl, rfl, ?_, rfl, next_i64 hlt (by omega), trivial⟩, ⟨rfl, trivial⟩⟩
        exact bpt (leastTo_succ.2 ⟨hb, hq⟩)
    · simp only [bp, pb_f hb]
      conv => whnf
      refine ⟨by kernel_rfl, ?_⟩
      conv => whnf
      refine ⟨k + 1, by show k + 1 ≤ picks.length; omega, by show picks.length - (k + 1) < picks.length - k; omega, ⟨rfl, rfl, rfl, ?_, rfl, next_i64 hlt (by omega), trivial⟩, ⟨rfl, trivial⟩⟩
      exact bpf fun e => hb (leastTo_succ.1 e).1
  · have hge : picks.length ≤ k := by simpa using h
    have hkk : k = picks.length := by omega
    subst hkk
    conv => whnf
    try rfl
theorem IsLeastI_ok (p : ProgL) (hp : p.wf) (hs : p.rs.length ≤ 1048576 ∧ ∀ x ∈ p.rs, x.length ≤ 1048576) (hv : p.flt) (picks : List Int) (sign : List UInt8) (hl : picks.length ≤ 1048576) :
    CallsTo EE 19 [agg (encProg p), sl (picks.map encInt), sv sign] (· = .tup [bp ((p.goodS ∧ Picks6 picks) ∧ Least p picks sign), bp (p.goodS ∧ Picks6 picks)]) := by
  refine callsTo_of_AW (fn := Tryz.f19) Tryz.func19 rfl (by kernel_rfl) rfl ?_
  conv => whnf
  refine ocase (GoodProgI_ok p hs) (fun hg => ?_) (fun hg => ?_)
  rotate_left
  · have hg : ¬ p.goodS := fun e => hg ((prog_same p).1 e)
    conv => whnf
    rw [show bp ((p.goodS ∧ Picks6 picks) ∧ Least p picks sign) = bv false from (bpf fun e => hg e.1.1).symm, show bp (p.goodS ∧ Picks6 picks) = bv false from (bpf fun e => hg e.1).symm]
    try rfl
  have hg : p.goodS := (prog_same p).2 hg
  conv => whnf
  refine ocase (areShort_ok picks hl) (fun h6 => ?_) (fun h6 => ?_)
  rotate_left
  · conv => whnf
    rw [show bp ((p.goodS ∧ Picks6 picks) ∧ Least p picks sign) = bv false from (bpf fun e => h6 e.1.2).symm, show bp (p.goodS ∧ Picks6 picks) = bv false from (bpf fun e => h6 e.2).symm]
    try rfl
  have hnn := h6.nn
  have h60 := h6.1
  conv => whnf
  rw [show bp (p.goodS ∧ Picks6 picks) = bv true from (bpt ⟨hg, h6⟩).symm]
  refine ocase (still_ok p hp hg hv picks sign h6.nn hl) (fun hS => ?_) (fun hS => ?_)
  rotate_left
  · conv => whnf
    rw [show bp ((p.goodS ∧ Picks6 picks) ∧ Least p picks sign) = bv false from (bpf fun e => hS e.2.1).symm]
    try rfl
  conv => whnf
  refine aloop (fun k : Nat => [(1, sl (picks.map encInt)), (2, sv sign), (3, .ptr (.n 3) 0), (23, i64 (picks.map encInt).length), (24, i64 k)]) (fun k => [(.n 3, .vs 31 ((encProg p).map .d))]) (fun k => picks.length - k) (fun k => k ≤ picks.length ∧ LeastTo p picks sign k) 0
    Weak.refl ⟨rfl, rfl, rfl, rfl, rfl, trivial⟩ ⟨rfl, trivial⟩ ⟨Nat.zero_le _, hS, fun k hk => by omega⟩ ?_
  rintro k τ H ⟨hk, hL⟩
  have hk : k ≤ picks.length := hk
  conv => whnf
  refine kbi (fun h => ?_) (fun h => ?_)
  · have hlt := lt_map h
    have hw : IntKind.i64.wrap ((k : Int) + 1) = ((k + 1 : Nat) : Int) := by rw [wrap_id (by omega) (by omega)]; rfl
    have hd := dropI_ok picks k (k + 1) hl (by intro e; rw [e] at hlt; simp at hlt) (by omega) (by omega)
    rw [← hw] at hd
    have hst := still_ok p hp hg hv (dropL picks k (k + 1)) sign (drop_in hnn) (Nat.le_trans (drop_le (by omega)) hl)
    conv => whnf
    refine ⟨by kernel_rfl, ?_⟩
    conv => whnf
    refine ⟨_, hd, ?_⟩
    conv => whnf
    refine qcase hst (fun hq => ?_) (fun hq => ?_)
    · conv => whnf
      rw [show bp ((p.goodS ∧ Picks6 picks) ∧ Least p picks sign) = bv false from (bpf fun e => e.2.2 k hlt hq).symm]
      try rfl
    · conv => whnf
      refine ⟨k + 1, ⟨by show k + 1 ≤ picks.length; omega, leastTo_succ.2 ⟨hL, hq⟩⟩, by show picks.length - (k + 1) < picks.length - k; omega, ⟨rfl, rfl, rfl, rfl, next_i64 hlt (by omega), trivial⟩, ⟨rfl, trivial⟩⟩
  · have hge : picks.length ≤ k := by simpa using h
    have hkk : k = picks.length := by omega
    subst hkk
    conv => whnf
    rw [show bp ((p.goodS ∧ Picks6 picks) ∧ Least p picks sign) = bv true from (bpt ⟨⟨hg, h6⟩, hL⟩).symm]
    try rfl
end Ai
end
section
set_option maxRecDepth 100000
namespace Ai
open Go Go.Proofs Cyc
theorem lawIsLeast (p : ProgL) (hp : p.wf) (hv : p.flt) (picks : List Int) (sign : List UInt8) (hl : picks.length ≤ 9223372036854775807) (hsl : sign.length ≤ 9223372036854775807) : CallsTo EE 4 [agg (encProg p), sl (picks.map encInt), sv sign] (· = bv true) := by
  refine callsTo_of_AW (fn := Tryz.f4) Tryz.func4 rfl (by kernel_rfl) rfl ?_
  conv => whnf
  refine kbi (fun _ => ?_) (fun h1 => ?_)
  · conv => whnf
    try rfl
  have h1 : picks.length ≤ 1048576 := by simp at h1; omega
  conv => whnf
  refine kbi (fun _ => ?_) (fun h2 => ?_)
  · conv => whnf
    try rfl
  conv => whnf
  refine ⟨_, szProg_ok p 1048576 (by omega) (by omega) hp, ?_⟩
  rintro r ⟨n, rfl, hn1, hn2, hn3⟩
  conv => whnf
  refine kbi (fun _ => ?_) (fun h => ?_)
  · conv => whnf
    try rfl
  have hsz : p.size ≤ 1048576 := by
    have := hn3 (by simp at h; omega)
    simp at h
    omega
  have hs := size_le List.length p.rs 1048576 hsz
  have cS := IsLeastS_ok p hp hs hv picks sign h1
  have cI := IsLeastI_ok p hp hs hv picks sign h1
  simp only [bp] at cS cI
  generalize pb ((p.goodS ∧ Picks6 picks) ∧ Least p picks sign) = a at cS cI
  generalize pb (p.goodS ∧ Picks6 picks) = b at cS cI
  conv => whnf
  refine ⟨_, toProg_ok p hs, ?_⟩
  rintro r rfl
  conv => whnf
  refine ⟨_, toIntS_ok picks h1, ?_⟩
  rintro r rfl
  refine .inl ?_
  conv => whnf
  refine ⟨_, cS, ?_⟩
  rintro r rfl
  conv => whnf
  refine ⟨_, toProg_ok p hs, ?_⟩
  rintro r rfl
  conv => whnf
  refine ⟨_, toIntS_ok picks h1, ?_⟩
  rintro r rfl
  refine .inl ?_
  conv => whnf
  refine ⟨_, cI, ?_⟩
  rintro r rfl
  conv => whnf
  refine kbi (fun h => absurd h (by simp)) (fun _ => ?_)
  conv => whnf
  refine kbi (fun h => absurd h (by simp)) (fun _ => ?_)
  conv => whnf
  refine ⟨by kernel_rfl, ?_⟩
  conv => whnf
  refine ⟨_, toProg_ok p hs, ?_⟩
  conv => whnf
  refine ⟨_, eqProg_ok p hs, ?_⟩
  conv => whnf
  refine ⟨_, toIntS_ok picks h1, ?_⟩
  rintro r rfl
  refine .inl ?_
  conv => whnf
  refine ⟨_, eqIntS_ok picks h1, ?_⟩
  rintro r rfl
  conv => whnf
  try rfl
end Ai
end
