import Derived.Test.YtmcammamjbfkfaaGreatDoorAiOp
import Derived.Still
set_option maxHeartbeats 1000000
set_option linter.unusedVariables false
set_option linter.unusedSimpArgs false
namespace Ai
open Go Go.RowKit
section
variable {E : Env} {N : Nat} {A : Nat → Prop} {w0 w w' : World} {m m' : Own} {s s' : St} {a : Act} {dst : Option Tmp} {k : St → Prop}

theorem probe_put (K : AV → Prop) (v : AV) (s : St) : probe K (put (some 0) v s) = K v := by
  show kv v K = K v
  exact kv_eq v K

/-- What an operation yields hangs on its operands and on what is in memory alone. -/
def Local (G : Option Tmp → St → (St → Prop) → Prop) (s : St) : Prop := ∀ K, G (some 0) s (probe K) → ∃ v, K v ∧ ∀ dst τ' k', k' (put dst v ⟨τ', s.H⟩) → G dst ⟨τ', s.H⟩ k'

theorem local_kb {c : Bool} {K : AV → Prop} {s : St} (h : kb (some 0) s (probe K) c) : K (.d (.bool c)) := by
  cases c with
  | true => have := h.1 rfl; rwa [probe_put] at this
  | false => have := h.2 rfl; rwa [probe_put] at this
theorem kb_of {c : Bool} {dst : Option Tmp} {k : St → Prop} {s : St} (h : k (put dst (.d (.bool c)) s)) : kb dst s k c := by
  constructor
  · intro hc; subst hc; exact h
  · intro hc; subst hc; exact h

theorem local_int (op : BinOp) (kx : IntKind) (x y : Int) (s : St) : Local (fun dst s k => aInt op kx x y dst s k) s := by
  intro K h
  cases op <;> simp only [aInt, icmp, ibits] at h
  all_goals first
    | exact h.elim
    | exact ⟨_, by rwa [probe_put] at h, fun dst τ' k' h' => by simp only [aInt, ibits]; exact h'⟩
    | exact ⟨_, by have := h.2; rwa [probe_put] at this, fun dst τ' k' h' => by simp only [aInt]; exact ⟨h.1, h'⟩⟩
    | exact ⟨_, local_kb h, fun dst τ' k' h' => by simp only [aInt, icmp]; exact kb_of h'⟩
theorem local_flt (op : BinOp) (x y : Nat) (s : St) : Local (fun dst s k => aFlt op x y dst s k) s := by
  intro K h
  cases op <;> simp only [aFlt] at h
  all_goals first
    | exact h.elim
    | exact ⟨_, by rwa [probe_put] at h, fun dst τ' k' h' => by simp only [aFlt]; exact h'⟩
    | exact ⟨_, local_kb h, fun dst τ' k' h' => by simp only [aFlt]; exact kb_of h'⟩
theorem local_str (op : BinOp) (x y : List UInt8) (s : St) : Local (fun dst s k => aStr op x y dst s k) s := by
  intro K h
  cases op <;> simp only [aStr, scmp] at h
  all_goals first
    | exact h.elim
    | exact ⟨_, by have := h.2; rwa [probe_put] at this, fun dst τ' k' h' => by simp only [aStr]; exact ⟨h.1, h'⟩⟩
    | exact ⟨_, local_kb h, fun dst τ' k' h' => by simp only [aStr, scmp]; exact kb_of h'⟩
theorem local_bool (T : TypeId) (op : BinOp) (x y : Bool) (s : St) : Local (fun dst s k => aBool E T op x y dst s k) s := by
  intro K h
  simp only [aBool] at h ⊢
  split at h
  · rename_i ti hti
    split at h
    · rename_i hd
      split at h
      · exact ⟨_, local_kb h, fun dst τ' k' h' => kb_of h'⟩
      · exact ⟨_, local_kb h, fun dst τ' k' h' => kb_of h'⟩
      · exact h.elim
    · exact h.elim
  · exact h.elim
theorem local_bin (T : TypeId) (op : BinOp) (x y : AV) (s : St) : Local (fun dst s k => aBin E T op x y dst s k) s := by
  intro K h
  simp only [aBin] at h ⊢
  split at h
  · rename_i kx p ky q
    cases hb : decide (kx = ky) with
    | true =>
      rw [hb] at h
      simp only [cond_true] at h ⊢
      exact local_int op kx p q s K h
    | false => rw [hb] at h; exact h.elim
  · exact local_flt op _ _ s K h
  · exact local_str op _ _ s K h
  · exact local_bool T op _ _ s K h
  · exact h.elim
theorem local_un (op : UnOp) (x : AV) (s : St) : Local (fun dst s k => aUn op x dst s k) s := by
  intro K h
  simp only [aUn] at h ⊢
  split at h
  · exact ⟨_, by rwa [probe_put] at h, fun dst τ' k' h' => h'⟩
  · exact ⟨_, by rwa [probe_put] at h, fun dst τ' k' h' => h'⟩
  · exact ⟨_, by rwa [probe_put] at h, fun dst τ' k' h' => h'⟩
  · exact h.elim
theorem newsOf_H (s : St) (τ' : Nat → AV) (x : AV) : newsOf ⟨τ', s.H⟩ x = newsOf s x := by
  cases x with
  | d x => cases x <;> rfl
  | _ => rfl
theorem local_conv (S T : TypeId) (x : AV) (s : St) : Local (fun dst s k => aConv E S T x dst s k) s := by
  intro K h
  simp only [aConv, newsOf_H] at h ⊢
  split at h
  · rename_i si ti hS hT
    split at h
    · exact ⟨_, by rwa [probe_put] at h, fun dst τ' k' h' => h'⟩
    · exact ⟨_, by rwa [probe_put] at h, fun dst τ' k' h' => h'⟩
    · obtain ⟨n, hn, h⟩ := h
      exact ⟨_, by rwa [probe_put] at h, fun dst τ' k' h' => ⟨n, hn, h'⟩⟩
    · split at h
      · split at h
        · split at h
          · obtain ⟨ns, hn, h⟩ := h
            exact ⟨_, by rwa [probe_put] at h, fun dst τ' k' h' => ⟨ns, hn, h'⟩⟩
          · exact h.elim
        · exact h.elim
      · exact h.elim
    · exact h.elim
  · exact h.elim
theorem ldCells_H (s : St) (τ' : Nat → AV) (x : AV) (n : Nat) : ldCells ⟨τ', s.H⟩ x n = ldCells s x n := by
  cases x <;> rfl
theorem local_load (T : TypeId) (x : AV) (s : St) : Local (fun dst s k => aLoad E T x dst s k) s := by
  intro K h
  simp only [aLoad, ldCells_H] at h ⊢
  split at h
  · rename_i ti hti
    split at h
    · rename_i o j off
      split at h
      · obtain ⟨c, hc, h⟩ := h
        split at h
        · exact ⟨_, by rwa [probe_put] at h, fun dst τ' k' h' => ⟨c, hc, by simp only [*]; try exact h'⟩⟩
        · exact h.elim
      · exact h.elim
    · split at h
      · rename_i cs hcs
        split at h
        · rename_i v hv
          rw [kv_eq] at h
          exact ⟨v, by rwa [probe_put] at h, fun dst τ' k' h' => by simp only [kv_eq]; exact h'⟩
        · exact h.elim
      · exact h.elim
  · exact h.elim
theorem local_field (T : TypeId) (f : Nat) (x : AV) (s : St) : Local (fun dst s k => aField E T f x dst s k) s := by
  intro K h
  simp only [aField] at h ⊢
  split at h
  · split at h
    · split at h
      · split at h
        · rename_i fi hfi
          cases hb : Nat.beq fi.sz 0 with
          | true => rw [hb] at h; exact h.elim
          | false =>
            rw [hb] at h
            simp only [cond_false] at h ⊢
            split at h
            · exact ⟨_, by rwa [probe_put] at h, fun dst τ' k' h' => h'⟩
            · exact ⟨_, by rwa [probe_put] at h, fun dst τ' k' h' => h'⟩
            · exact ⟨_, by rwa [probe_put] at h, fun dst τ' k' h' => h'⟩
            · exact h.elim
        · exact h.elim
      · exact h.elim
    · exact h.elim
  · exact h.elim
theorem local_part (T : TypeId) (f : Nat) (x : AV) (s : St) : Local (fun dst s k => aPart E T f x dst s k) s := by
  intro K h
  simp only [aPart] at h ⊢
  split at h
  · split at h
    · split at h
      · split at h
        · rename_i off ft hf _ _ fi cs hfi
          cases hb : Nat.ble (off + fi.sz) cs.length with
          | false => rw [hb] at h; exact h.elim
          | true =>
            rw [hb] at h
            simp only [cond_true] at h ⊢
            split at h
            · rename_i v hv
              rw [kv_eq] at h
              exact ⟨v, by rwa [probe_put] at h, fun dst τ' k' h' => by simp only [kv_eq]; exact h'⟩
            · exact h.elim
        · exact h.elim
      · exact h.elim
    · exact h.elim
  · exact h.elim
theorem local_idx (T : TypeId) (x i : AV) (s : St) : Local (fun dst s k => aIdx E T x i dst s k) s := by
  intro K h
  simp only [aIdx] at h ⊢
  split at h
  · split at h
    · obtain ⟨c, hc, h⟩ := h
      exact ⟨_, by rwa [probe_put] at h, fun dst τ' k' h' => ⟨c, hc, h'⟩⟩
    · exact h.elim
  · exact h.elim
theorem local_idxAddr (T : TypeId) (x i : AV) (s : St) : Local (fun dst s k => aIdxAddr E T x i dst s k) s := by
  intro K h
  simp only [aIdxAddr] at h ⊢
  split at h
  · split at h
    · split at h
      · rename_i ei hei
        split at h
        · obtain ⟨c, hc, h⟩ := h
          exact ⟨_, by rwa [probe_put] at h, fun dst τ' k' h' => ⟨c, hc, h'⟩⟩
        · split at h
          · rename_i e2 sz els hH
            cases hb : Nat.beq sz ei.sz with
            | false => rw [hb] at h; exact h.elim
            | true =>
              rw [hb] at h
              simp only [cond_true] at h ⊢
              exact ⟨_, by have := h.2; rwa [probe_put] at this, fun dst τ' k' h' => ⟨h.1, h'⟩⟩
          · exact h.elim
        · exact h.elim
      · exact h.elim
    · split at h
      · rename_i len e hd _ ei hei
        cases hb : Nat.ble len 1 with
        | true => rw [hb] at h; exact h.elim
        | false =>
          rw [hb] at h
          simp only [cond_false] at h ⊢
          split at h
          · exact ⟨_, by have := h.2; rwa [probe_put] at this, fun dst τ' k' h' => ⟨h.1, h'⟩⟩
          · exact ⟨_, by have := h.2; rwa [probe_put] at this, fun dst τ' k' h' => ⟨h.1, h'⟩⟩
          · exact h.elim
      · exact h.elim
    · exact h.elim
  · exact h.elim
theorem local_build (T : TypeId) (parts : List (Nat × AV)) (s : St) : Local (fun dst s k => aBuild E T parts dst s k) s := by
  intro K h
  simp only [aBuild] at h ⊢
  split at h
  · split at h
    · rename_i fs hd
      cases hb : fs.all (fun p => (E.Θ p.2).isSome) with
      | false => rw [hb] at h; exact h.elim
      | true =>
        rw [hb] at h
        simp only [cond_true] at h ⊢
        split at h
        · exact ⟨_, by rwa [probe_put] at h, fun dst τ' k' h' => h'⟩
        · exact h.elim
    · exact h.elim
  · exact h.elim
theorem local_len (T : TypeId) (x : AV) (s : St) : Local (fun dst s k => aLen E T x dst s k) s := by
  intro K h
  simp only [aLen] at h ⊢
  split at h
  · split at h
    · exact ⟨_, by rwa [probe_put] at h, fun dst τ' k' h' => h'⟩
    · exact ⟨_, by rwa [probe_put] at h, fun dst τ' k' h' => h'⟩
    · exact ⟨_, by rwa [probe_put] at h, fun dst τ' k' h' => h'⟩
    · exact ⟨_, by rwa [probe_put] at h, fun dst τ' k' h' => h'⟩
    · exact h.elim
  · exact h.elim
theorem local_slice (T : TypeId) (x : AV) (lo hi mx : Option AV) (s : St) : Local (fun dst s k => aSlice E T x lo hi mx dst s k) s := by
  intro K h
  simp only [aSlice] at h ⊢
  split at h
  · split at h
    · split at h
      · exact ⟨_, by have := h.2; rwa [probe_put] at this, fun dst τ' k' h' => ⟨h.1, h'⟩⟩
      · exact h.elim
    · split at h
      · exact ⟨_, by have := h.2; rwa [probe_put] at this, fun dst τ' k' h' => ⟨h.1, h'⟩⟩
      · exact h.elim
    · split at h
      · rename_i ei e2 sz els hh hei hHo hbh
        cases hb : Nat.beq ei.sz sz with
        | false => rw [hb] at h; exact h.elim
        | true =>
          rw [hb] at h
          simp only [cond_true] at h ⊢
          exact ⟨_, by have := h.2; rwa [probe_put] at this, fun dst τ' k' h' => ⟨h.1, h'⟩⟩
      · exact h.elim
    · exact h.elim
  · exact h.elim

/-! ### one operation of a region that draws its order -/
theorem fz1s_H (s : St) (τ' : Nat → AV) : ∀ l, fz1s ⟨τ', s.H⟩ l = fz1s s l
  | [] => rfl
  | v :: vs => by
    have h1 : fz1 ⟨τ', s.H⟩ v = fz1 s v := by
      cases v with
      | d x => cases x <;> rfl
      | _ => rfl
    simp only [fz1s, fz1s_H s τ' vs, h1]
theorem fz1_H (s : St) (τ' : Nat → AV) (v : AV) : fz1 ⟨τ', s.H⟩ v = fz1 s v := by
  cases v with
  | d x => cases x <;> rfl
  | _ => rfl
theorem fzp_H (s : St) (τ' : Nat → AV) (v : AV) : fzp ⟨τ', s.H⟩ v = fzp s v := by
  cases v <;> simp only [fzp, fz1_H, fz1s_H]
theorem fzps_H (s : St) (τ' : Nat → AV) : ∀ l, fzps ⟨τ', s.H⟩ l = fzps s l
  | [] => rfl
  | v :: vs => by simp only [fzps, fzps_H s τ' vs, fzp_H]
theorem fz_H (s : St) (τ' : Nat → AV) (v : AV) : fz ⟨τ', s.H⟩ v = fz s v := by
  cases v <;> simp only [fz, fzp_H, fz1s_H, fzps_H]
theorem fzs_H (s : St) (τ' : Nat → AV) : ∀ l, fzs ⟨τ', s.H⟩ l = fzs s l
  | [] => rfl
  | v :: vs => by simp only [fzs, fzs_H s τ' vs, fz_H]
theorem fzk_H (s : St) (τ' : Nat → AV) : ∀ l, fzk ⟨τ', s.H⟩ l = fzk s l
  | [] => rfl
  | v :: vs => by simp only [fzk, fzk_H s τ' vs, fz1_H]
theorem fzkE_H (s : St) (τ' : Nat → AV) : ∀ l, fzkE ⟨τ', s.H⟩ l = fzkE s l
  | [] => rfl
  | v :: vs => by simp only [fzkE, fzkE_H s τ' vs, fzk_H]

theorem local_bs (T : TypeId) (len : Nat) (parts : List (Nat × AV)) (s : St) (K : AV → Prop) (h : aBS E T len parts s K) : ∃ v, K v ∧ ∀ τ' K', K' v → aBS E T len parts ⟨τ', s.H⟩ K' := by
  simp only [aBS, fzkE_H] at h ⊢
  split at h
  · split at h
    · split at h
      · rename_i ei hei
        cases hb : (Nat.beq ei.sz 0 || Nat.blt 4096 (len * ei.sz)) with
        | true => rw [hb] at h; exact h.elim
        | false =>
          rw [hb] at h
          simp only [cond_false] at h ⊢
          split at h
          · split at h
            · exact ⟨_, h, fun τ' K' h' => h'⟩
            · exact h.elim
          · exact h.elim
      · exact h.elim
    · exact h.elim
  · exact h.elim

theorem retQK_val {K : AV → Prop} {r : AV} (h : retQK K r) : ∃ v, K v ∧ ∀ K' : AV → Prop, K' v → retQK K' r := by
  cases r with
  | uq e sz els => exact ⟨_, h, fun K' h' => h'⟩
  | _ => exact ⟨_, h, fun K' h' => h'⟩


/-- The operands read alike. -/
def Alike (N : Nat) (op : Op) (s : St) (τ' : Nat → AV) : Prop := ∀ x ∈ op.operands, ev N ⟨τ', s.H⟩ x = ev N s x

theorem evs_alike {s : St} {τ' : Nat → AV} (xs : Array Operand) (h : ∀ x ∈ xs, ev N ⟨τ', s.H⟩ x = ev N s x) : evs N ⟨τ', s.H⟩ xs = evs N s xs := by
  unfold evs
  exact List.map_congr_left fun x hx => h x (by simpa using hx)
theorem pairs_alike {s : St} {τ' : Nat → AV} (xs : Array (Nat × Operand)) (h : ∀ x ∈ (xs.toList.map (·.2)).toArray, ev N ⟨τ', s.H⟩ x = ev N s x) :
    (xs.toList.map fun p => (p.1, ev N ⟨τ', s.H⟩ p.2)) = (xs.toList.map fun p => (p.1, ev N s p.2)) :=
  List.map_congr_left fun p hp => by rw [h p.2 (by simp only [List.mem_toArray, List.mem_map]; exact ⟨p, hp, rfl⟩)]
theorem opt_alike {s : St} {τ' : Nat → AV} (x : Option Operand) (h : ∀ y, x = some y → ev N ⟨τ', s.H⟩ y = ev N s y) : x.map (ev N ⟨τ', s.H⟩) = x.map (ev N s) := by
  cases x with
  | none => rfl
  | some y => simp [h y rfl]

theorem Local.use {G : Option Tmp → St → (St → Prop) → Prop} {s : St} (hl : Local G s) {K : AV → Prop} (h : G (some 0) s (probe K)) : ∃ v, K v ∧ ∀ τ' K', K' v → G (some 0) ⟨τ', s.H⟩ (probe K') := by
  obtain ⟨v, hv, h2⟩ := hl K h
  exact ⟨v, hv, fun τ' K' hK' => h2 (some 0) τ' (probe K') (by rw [probe_put]; exact hK')⟩

theorem AQv_local (op : Op) (s : St) (K : AV → Prop) (h : AQv E N op s K) : ∃ v, K v ∧ ∀ τ', Alike N op s τ' → ∀ K', K' v → AQv E N op ⟨τ', s.H⟩ K' := by
  cases op <;> simp only [AQv] at h <;> try exact h.elim
  case move x =>
    rw [kv_eq] at h
    exact ⟨_, h, fun τ' ha K' h' => by simp only [AQv]; rw [kv_eq, ha x (by simp [Op.operands])]; exact h'⟩
  case assign x =>
    rw [kv_eq] at h
    exact ⟨_, h, fun τ' ha K' h' => by simp only [AQv]; rw [kv_eq, ha x (by simp [Op.operands])]; exact h'⟩
  case pick c x y =>
    split at h
    · rename_i b hb
      cases b with
      | true =>
        simp only at h
        rw [kv_eq] at h
        exact ⟨_, h, fun τ' ha K' h' => by simp only [AQv]; rw [ha c (by simp [Op.operands]), hb, ha x (by simp [Op.operands])]; simp only; rw [kv_eq]; exact h'⟩
      | false =>
        simp only at h
        rw [kv_eq] at h
        exact ⟨_, h, fun τ' ha K' h' => by simp only [AQv]; rw [ha c (by simp [Op.operands]), hb, ha y (by simp [Op.operands])]; simp only; rw [kv_eq]; exact h'⟩
    · exact h.elim
  case load T x =>
    obtain ⟨v, h1, h2⟩ := (local_load T (ev N s x) s).use h
    exact ⟨v, h1, fun τ' ha K' h' => by simp only [AQv]; rw [ha x (by simp [Op.operands])]; exact h2 τ' K' h'⟩
  case binOp op T x y T' =>
    obtain ⟨v, h1, h2⟩ := (local_bin T op (ev N s x) (ev N s y) s).use h
    exact ⟨v, h1, fun τ' ha K' h' => by simp only [AQv]; rw [ha x (by simp [Op.operands]), ha y (by simp [Op.operands])]; exact h2 τ' K' h'⟩
  case unOp op T x =>
    obtain ⟨v, h1, h2⟩ := (local_un op (ev N s x) s).use h
    exact ⟨v, h1, fun τ' ha K' h' => by simp only [AQv]; rw [ha x (by simp [Op.operands])]; exact h2 τ' K' h'⟩
  case convert S T x =>
    obtain ⟨v, h1, h2⟩ := (local_conv S T (ev N s x) s).use h
    exact ⟨v, h1, fun τ' ha K' h' => by simp only [AQv]; rw [ha x (by simp [Op.operands])]; exact h2 τ' K' h'⟩
  case slice T x lo hi mx =>
    obtain ⟨v, h1, h2⟩ := (local_slice T (ev N s x) (lo.map (ev N s)) (hi.map (ev N s)) (mx.map (ev N s)) s).use h
    refine ⟨v, h1, fun τ' ha K' h' => ?_⟩
    simp only [AQv]
    rw [ha x (by simp [Op.operands]), opt_alike lo (fun y hy => ha y (by subst hy; simp [Op.operands])), opt_alike hi (fun y hy => ha y (by subst hy; simp [Op.operands])), opt_alike mx (fun y hy => ha y (by subst hy; simp [Op.operands]))]
    exact h2 τ' K' h'
  case fieldAddr T x f =>
    obtain ⟨v, h1, h2⟩ := (local_field T f (ev N s x) s).use h
    exact ⟨v, h1, fun τ' ha K' h' => by simp only [AQv]; rw [ha x (by simp [Op.operands])]; exact h2 τ' K' h'⟩
  case field T x f =>
    obtain ⟨v, h1, h2⟩ := (local_part T f (ev N s x) s).use h
    exact ⟨v, h1, fun τ' ha K' h' => by simp only [AQv]; rw [ha x (by simp [Op.operands])]; exact h2 τ' K' h'⟩
  case indexAddr T x i =>
    obtain ⟨v, h1, h2⟩ := (local_idxAddr T (ev N s x) (ev N s i) s).use h
    exact ⟨v, h1, fun τ' ha K' h' => by simp only [AQv]; rw [ha x (by simp [Op.operands]), ha i (by simp [Op.operands])]; exact h2 τ' K' h'⟩
  case index T x i =>
    obtain ⟨v, h1, h2⟩ := (local_idx T (ev N s x) (ev N s i) s).use h
    exact ⟨v, h1, fun τ' ha K' h' => by simp only [AQv]; rw [ha x (by simp [Op.operands]), ha i (by simp [Op.operands])]; exact h2 τ' K' h'⟩
  case build T parts =>
    obtain ⟨v, h1, h2⟩ := (local_build T (parts.toList.map fun p => (p.1, ev N s p.2)) s).use h
    exact ⟨v, h1, fun τ' ha K' h' => by simp only [AQv]; rw [pairs_alike parts ha]; exact h2 τ' K' h'⟩
  case buildSlice T len parts =>
    obtain ⟨v, h1, h2⟩ := local_bs T len (parts.toList.map fun p => (p.1, ev N s p.2)) s K h
    exact ⟨v, h1, fun τ' ha K' h' => by simp only [AQv]; rw [pairs_alike parts ha]; exact h2 τ' K' h'⟩
  case call c =>
    obtain ⟨cal, args, argT⟩ := c
    have hargs : ∀ τ', Alike N (.call ⟨cal, args, argT⟩) s τ' → evs N ⟨τ', s.H⟩ args = evs N s args := fun τ' ha => evs_alike args fun x hx => ha x (by simp [Op.operands, Call.operands, hx])
    cases cal with
    | invoke r nm => exact h.elim
    | builtin b =>
      simp only [aCallV] at h
      split at h
      · rename_i T TT x hT hx
        obtain ⟨v, h1, h2⟩ := (local_len T x s).use h
        exact ⟨v, h1, fun τ' ha K' h' => by simp only [AQv, aCallV]; rw [hargs τ' ha, hT, hx]; exact h2 τ' K' h'⟩
      · rename_i Ts k1 p k2 q hx
        exact ⟨_, h, fun τ' ha K' h' => by simp only [AQv, aCallV]; rw [hargs τ' ha, hx]; exact h'⟩
      · rename_i Ts k1 p k2 q hx
        exact ⟨_, h, fun τ' ha K' h' => by simp only [AQv, aCallV]; rw [hargs τ' ha, hx]; exact h'⟩
      · exact h.elim
    | value f =>
      simp only [aCallV] at h
      split at h
      · rename_i g caps as hev has
        split at h
        · rename_i cs hcs
          cases hB : (hasOwnL (evs N s args) || hasOwnL caps) with
          | true =>
            rw [hB] at h
            simp only [cond_true] at h
            obtain ⟨r, h1, h2, h3⟩ := h
            obtain ⟨v, hv1, hv2⟩ := retQK_val h3
            refine ⟨v, hv1, fun τ' ha K' h' => ?_⟩
            simp only [AQv, aCallV]
            rw [hargs τ' ha, ha f (by simp [Op.operands, Call.operands]), hev, fzs_H, has]
            simp only [fzps_H, hcs, hB, cond_true]
            exact ⟨r, h1, h2, hv2 K' h'⟩
          | false =>
            rw [hB] at h
            simp only [cond_false] at h
            obtain ⟨r, h1, h3⟩ := h
            obtain ⟨v, hv1, hv2⟩ := retQK_val h3
            refine ⟨v, hv1, fun τ' ha K' h' => ?_⟩
            simp only [AQv, aCallV]
            rw [hargs τ' ha, ha f (by simp [Op.operands, Call.operands]), hev, fzs_H, has]
            simp only [fzps_H, hcs, hB, cond_false]
            exact ⟨r, h1, hv2 K' h'⟩
        · exact h.elim
      · exact h.elim

end
end Ai
