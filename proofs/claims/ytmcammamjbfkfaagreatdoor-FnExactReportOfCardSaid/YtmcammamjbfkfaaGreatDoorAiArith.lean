import Derived.Test.YtmcammamjbfkfaaGreatDoorAiOps
import Derived.Laws.Small
set_option maxHeartbeats 1000000
set_option linter.unusedVariables false
set_option linter.unusedSimpArgs false
namespace Ai
open Go Go.RowKit
section
variable {E : Env} {N : Nat} {A : Nat → Prop} {w0 w w' : World} {m m' : Own} {s s' : St} {a : Act} {dst : Option Tmp} {k : St → Prop}

/-! ### floats: what they are like depends on no NaN's bits -/
theorem read_nanC : (Ieee.double.read nanC).isNaN = true := by decide +kernel
theorem canon_nan {b : Nat} (h : isNan b = true) : canon b = nanC := by simp [canon, h]
theorem canon_num {b : Nat} (h : isNan b = false) : canon b = b := by simp [canon, h]
theorem isNan_canon (b : Nat) : isNan (canon b) = isNan b := by
  cases h : isNan b
  · rw [canon_num h, h]
  · rw [canon_nan h]; exact read_nanC
theorem canon_canon (b : Nat) : canon (canon b) = canon b := by
  cases h : isNan b
  · rw [canon_num h, canon_num h]
  · rw [canon_nan h, canon_nan read_nanC]
theorem nan_form {b : Nat} (h : isNan b = true) : ∃ sg fr, Ieee.double.read b = .nan sg fr := by
  unfold isNan at h
  cases hr : Ieee.double.read b with
  | nan sg fr => exact ⟨sg, fr, rfl⟩
  | number sg mg pl => rw [hr] at h; simp [Ieee.Datum.isNaN] at h
  | infinity sg => rw [hr] at h; simp [Ieee.Datum.isNaN] at h
theorem order_canon (x y : Nat) : Ieee.double.order (canon x) (canon y) = Ieee.double.order x y := by
  unfold Ieee.Format.order
  cases hx : isNan x with
  | true =>
    obtain ⟨sg, fr, h1⟩ := nan_form hx
    obtain ⟨sg2, fr2, h2⟩ := nan_form (b := canon x) (by rw [isNan_canon, hx])
    rw [h1, h2]; cases Ieee.double.read y <;> cases Ieee.double.read (canon y) <;> rfl
  | false =>
    rw [canon_num hx]
    cases hy : isNan y with
    | true =>
      obtain ⟨sg, fr, h1⟩ := nan_form hy
      obtain ⟨sg2, fr2, h2⟩ := nan_form (b := canon y) (by rw [isNan_canon, hy])
      rw [h1, h2]; cases Ieee.double.read x <;> rfl
    | false => rw [canon_num hy]
theorem fcmp_canon (op : BinOp) (x y : Nat) : fcmp op (canon x) (canon y) = fcmp op x y := by
  unfold fcmp; rw [order_canon]

theorem write_not_nan (d : Ieee.Datum) (h : d.isNaN = false) : isNan (Ieee.double.write d) = false := by
  have hw : ∀ (neg : Bool) (r : Nat), r ≤ Ieee.double.infRung → (Ieee.double.read (Ieee.double.word neg r)).isNaN = false := by
    intro neg r hr
    have h1 : Ieee.double.infRung = 9218868437227405312 := by decide +kernel
    have h2 : Ieee.double.signWeight = 9223372036854775808 := by decide +kernel
    rw [h1] at hr
    have hmod : Ieee.double.word neg r % Ieee.double.signWeight = r := by
      unfold Ieee.Format.word
      rw [h2]
      cases neg <;> simp <;> omega
    unfold Ieee.Format.read
    simp only [hmod]
    rw [h1]
    split
    · rfl
    · split
      · rfl
      · split
        · rfl
        · omega
  cases d with
  | nan sg fr => simp [Ieee.Datum.isNaN] at h
  | infinity sg => exact hw sg _ (Nat.le_refl _)
  | number sg mg pl =>
    show (Ieee.double.read (Ieee.double.nearest sg mg pl)).isNaN = false
    unfold Ieee.Format.nearest
    split
    · exact hw sg 0 (Nat.zero_le _)
    · exact hw sg _ (Nat.min_le_right _ _)

theorem map_write_num {o : Option Ieee.Datum} (h : ∀ d, o = some d → d.isNaN = false) {r : Nat} (hr : o.map Ieee.double.write = some r) : isNan r = false := by
  cases o with
  | none => cases hr
  | some d => cases hr; exact write_not_nan d (h d rfl)
theorem sum_num (x y d : Ieee.Datum) (h : x.sum y = some d) : d.isNaN = false := by
  cases x <;> cases y <;> simp only [Ieee.Datum.sum] at h <;> first | (cases h; rfl) | cases h | skip
  all_goals (split at h <;> cases h <;> rfl)
theorem product_num (x y d : Ieee.Datum) (h : x.product y = some d) : d.isNaN = false := by
  cases x <;> cases y <;> simp only [Ieee.Datum.product] at h <;> first | (cases h; rfl) | cases h | skip
  all_goals (split at h <;> cases h <;> rfl)
theorem quotient_num (n : Nat) (x y d : Ieee.Datum) (h : x.quotient n y = some d) : d.isNaN = false := by
  cases x <;> cases y <;> simp only [Ieee.Datum.quotient] at h <;> first | (cases h; rfl) | cases h | skip
  repeat' split at h
  all_goals first | (cases h; done) | (cases h; rfl)
theorem floatBits_num {op : BinOp} {x y r : Nat} (h : floatBits op .f64 x y = some r) : isNan r = false := by
  unfold floatBits at h
  split at h
  · exact map_write_num (fun d hd => sum_num _ _ d hd) h
  · exact map_write_num (fun d hd => sum_num _ _ d hd) h
  · exact map_write_num (fun d hd => product_num _ _ d hd) h
  · exact map_write_num (fun d hd => quotient_num _ _ _ d hd) h
  · cases h
theorem floatBits_nan_left {op : BinOp} {x y : Nat} (h : isNan x = true) : floatBits op .f64 x y = none := by
  obtain ⟨sg, fr, hx⟩ := nan_form h
  unfold floatBits
  split
  · show (((Ieee.double.read x).sum (Ieee.double.read y)).map Ieee.double.write) = none
    rw [hx]; cases Ieee.double.read y <;> rfl
  · show (((Ieee.double.read x).sum (Ieee.double.read y).opposite).map Ieee.double.write) = none
    rw [hx]; cases (Ieee.double.read y).opposite <;> rfl
  · show (((Ieee.double.read x).product (Ieee.double.read y)).map Ieee.double.write) = none
    rw [hx]; cases Ieee.double.read y <;> rfl
  · show (((Ieee.double.read x).quotient _ (Ieee.double.read y)).map Ieee.double.write) = none
    rw [hx]; cases Ieee.double.read y <;> rfl
  · rfl
theorem floatBits_nan_right {op : BinOp} {x y : Nat} (h : isNan y = true) : floatBits op .f64 x y = none := by
  obtain ⟨sg, fr, hy⟩ := nan_form h
  unfold floatBits
  split
  · show (((Ieee.double.read x).sum (Ieee.double.read y)).map Ieee.double.write) = none
    rw [hy]; cases Ieee.double.read x <;> rfl
  · show (((Ieee.double.read x).sum (Ieee.double.read y).opposite).map Ieee.double.write) = none
    rw [hy]; cases Ieee.double.read x <;> rfl
  · show (((Ieee.double.read x).product (Ieee.double.read y)).map Ieee.double.write) = none
    rw [hy]; cases Ieee.double.read x <;> rfl
  · show (((Ieee.double.read x).quotient _ (Ieee.double.read y)).map Ieee.double.write) = none
    rw [hy]; cases Ieee.double.read x <;> rfl
  · rfl
theorem floatBits_canon (op : BinOp) (x y : Nat) : floatBits op .f64 (canon x) (canon y) = floatBits op .f64 x y := by
  cases hx : isNan x with
  | true => rw [floatBits_nan_left hx, floatBits_nan_left (by rw [isNan_canon, hx])]
  | false =>
    rw [canon_num hx]
    cases hy : isNan y with
    | true => rw [floatBits_nan_right hy, floatBits_nan_right (by rw [isNan_canon, hy])]
    | false => rw [canon_num hy]

theorem SRel.drew (h : SRel E N A w0 m s a w) : SRel E N A w0 m s a { w with drawn := w.drawn + 1 } := by
  have hok : ∀ b, okB A s.H m w b → okB A s.H m w.drew b ∧ w.drew.heap[b]? = w.heap[b]? := fun b hb => ⟨hb, rfl⟩
  refine ⟨h.size, h.defers, ⟨h.below.os, h.below.tape, h.below.output, h.below.size, h.below.block⟩, h.inv, fun i hi => (h.tmps i hi).mono (w' := w.drew) hok (Like.refl _ _), fun o ob ho => ?_, h.inj, h.hA⟩
  have := h.objs o ob ho
  cases ob with
  | vs e cs =>
    obtain ⟨b, full, cur, hm, hb, hcur, hsz, hc⟩ := this
    exact ⟨b, full, cur, hm, hb, hcur, hsz, fun i c hi => let ⟨u, hu, hv⟩ := hc i c hi; ⟨u, hu, hv.mono (w' := w.drew) hok (Like.refl _ _)⟩⟩
  | ds e sz els =>
    rcases this with hp | ⟨b, full, cur, hm, hb, hcur, h1, h2, h3, hc⟩
    · exact .inl hp
    · exact .inr ⟨b, full, cur, hm, hb, hcur, h1, h2, h3, fun j c hj => ⟨(hc j c hj).1, fun i d hi => let ⟨u, hu, hr⟩ := (hc j c hj).2 i d hi; ⟨u, hu, hr.mono (w' := w.drew) hok⟩⟩⟩

/-- The bits that the tape gives of a NaN are those of a NaN. -/
theorem nanBits_isNan (x y t : Nat) : isNan ((Question.nanBits .f64 x y).cut t) = true := by
  have hdef : (Question.nanBits .f64 x y).cut t = (t % 2) * 2 ^ 63 + 0x7ff0000000000000 + 1 + (t / 2) % (2 ^ 52 - 1) := rfl
  rw [hdef]
  unfold isNan Ieee.Format.read
  have h1 : Ieee.double.infRung = 9218868437227405312 := by decide +kernel
  have h2 : Ieee.double.signWeight = 9223372036854775808 := by decide +kernel
  have h3 : Ieee.double.binade = 4503599627370496 := by decide +kernel
  rw [h1, h2, h3]
  have h4 : (t % 2) * 2 ^ 63 + 0x7ff0000000000000 + 1 + (t / 2) % (2 ^ 52 - 1) = (t % 2) * 9223372036854775808 + (9218868437227405313 + (t / 2) % 4503599627370495) := by omega
  rw [h4]
  have h5 : ((t % 2) * 9223372036854775808 + (9218868437227405313 + (t / 2) % 4503599627370495)) % 9223372036854775808 = 9218868437227405313 + (t / 2) % 4503599627370495 := by omega
  simp only [h5]
  rw [if_neg (by omega), if_neg (by omega), if_neg (by omega)]
  rfl

theorem aFlt_sound (h : SRel E N A w0 m s a w) (op : BinOp) (T : TypeId) {x y : Nat} (ha : aFlt op (canon x) (canon y) dst s k) :
    Res E N A w0 a dst k ((Go.binOp op T (.float .f64 x) (.float .f64 y)).run E.P w) := by
  have arith : ∀ (hop : (Go.binOp op T (.float .f64 x) (.float .f64 y)) = Op.floatArith op .f64 x y) (hfb : ∀ r, floatBits op .f64 x y = some r → (Op.floatArith op .f64 x y).run E.P w = .ok (.float .f64 r) w)
      (hfn : floatBits op .f64 x y = none → (Op.floatArith op .f64 x y).run E.P w = .ok (.float .f64 ((Question.nanBits .f64 x y).cut (w.tape w.drawn (.nanBits .f64 x y)))) { w with drawn := w.drawn + 1 })
      (hk : k (put dst (.d (.flt (fop op (canon x) (canon y)))) s)), Res E N A w0 a dst k ((Go.binOp op T (.float .f64 x) (.float .f64 y)).run E.P w) := by
    intro hop hfb hfn hk
    rw [hop]
    unfold fop at hk
    rw [floatBits_canon] at hk
    cases hb : floatBits op .f64 x y with
    | some r =>
      rw [hb] at hk
      refine Res.same h (v := .d (.flt r)) (hfb r hb) (.d _ _ ?_) hk
      have := RepD.flt (w := w) (ok := okB A s.H m w) r
      rw [canon_num (floatBits_num hb)] at this
      exact this
    | none =>
      rw [hb] at hk
      refine ⟨_, _, hfn hb, m, _, h.drew.put dst (v := .d (.flt nanC)) (.d _ _ ?_), hk⟩
      have := RepD.flt (w := { w with drawn := w.drawn + 1 }) (ok := okB A s.H m { w with drawn := w.drawn + 1 }) ((Question.nanBits .f64 x y).cut (w.tape w.drawn (.nanBits .f64 x y)))
      rw [canon_nan (nanBits_isNan _ _ _)] at this
      exact this
  cases op <;> simp only [aFlt, kb, fcmp_canon] at ha <;> first
    | exact ha.elim
    | (refine arith rfl (fun r hr => ?_) (fun hn => ?_) ha
       · simp only [floatBits] at hr; simp [Op.floatArith, hr]
       · simp only [floatBits] at hn; simp [Op.floatArith, hn, Question.forced])
    | exact Res.kb h (by simp [Go.binOp, Op.floatCmp, fcmp, FloatKind.format]) ha

theorem aInt_sound (h : SRel E N A w0 m s a w) (op : BinOp) (T : TypeId) {kx : IntKind} {x y : Int} (ha : aInt op kx x y dst s k) :
    Res E N A w0 a dst k ((Go.binOp op T (.int kx x) (.int kx y)).run E.P w) := by
  have val : ∀ n, (Go.binOp op T (.int kx x) (.int kx y)).run E.P w = .ok (.int kx n) w → k (put dst (.d (.int kx n)) s) → Res E N A w0 a dst k ((Go.binOp op T (.int kx x) (.int kx y)).run E.P w) :=
    fun n hr hk => Res.same h (v := .d (.int kx n)) hr (.d _ _ (.int kx n)) hk
  have bits : ∀ n, (Go.binOp op T (.int kx x) (.int kx y)) = Op.intBits op kx x y → (Op.intBits op kx x y).run E.P w = .ok (.int kx n) w → k (put dst (.d (.int kx n)) s) → Res E N A w0 a dst k ((Go.binOp op T (.int kx x) (.int kx y)).run E.P w) :=
    fun n he hr hk => val n (by rw [he]; exact hr) hk
  cases op <;> simp only [aInt, icmp, ibits] at ha
  case and => exact bits _ (by simp [Go.binOp]) rfl ha
  case or => exact bits _ (by simp [Go.binOp]) rfl ha
  case xor => exact bits _ (by simp [Go.binOp]) rfl ha
  case andNot => exact bits _ (by simp [Go.binOp]) rfl ha
  case add => exact val _ (by simp [Go.binOp, Op.intArith]) ha
  case sub => exact val _ (by simp [Go.binOp, Op.intArith]) ha
  case mul => exact val _ (by simp [Go.binOp, Op.intArith]) ha
  case quo => exact val _ (by simp [Go.binOp, Op.intDiv, ha.1]) ha.2
  case rem => exact val _ (by simp [Go.binOp, Op.intDiv, ha.1]) ha.2
  all_goals exact Res.kb h (by simp [Go.binOp, Op.intCmp]) ha

theorem aStr_sound (h : SRel E N A w0 m s a w) (op : BinOp) (T : TypeId) {x y : ByteArray} (ha : aStr op x.data.toList y.data.toList dst s k) :
    Res E N A w0 a dst k ((Go.binOp op T (.string x) (.string y)).run E.P w) := by
  have hb : Go.binOp op T (.string x) (.string y) = Op.stringOp op x y := by cases op <;> rfl
  rw [hb]
  cases op <;> simp only [aStr, scmp] at ha
  case add =>
    have h1 := ha.1
    have hn : ¬ (((x.size + y.size : Nat) : Int) > IntKind.i64.max) := by
      have e1 : x.size = x.data.toList.length := rfl
      have e2 : y.size = y.data.toList.length := rfl
      have e3 : IntKind.i64.max = 9223372036854775807 := rfl
      rw [e1, e2, e3]; omega
    refine Res.same h (v := .d (.str (x.data.toList ++ y.data.toList))) (u := .string (x ++ y)) ?_ (.d _ _ ?_) ha.2
    · simp only [Op.stringOp, if_neg hn]; rfl
    · have hs := RepD.str (w := w) (ok := okB A s.H m w) (x ++ y)
      have : (x ++ y).data.toList = x.data.toList ++ y.data.toList := by simp
      rw [this] at hs; exact hs
  all_goals first
    | exact ha.elim
    | (refine Res.kb h ?_ ha; simp only [Op.stringOp, ByteArray.toList_eq]; rfl)

theorem aBool_sound (h : SRel E N A w0 m s a w) (op : BinOp) (T : TypeId) {x y : Bool} (ha : aBool E T op x y dst s k) :
    Res E N A w0 a dst k ((Go.binOp op T (.bool x) (.bool y)).run E.P w) := by
  unfold aBool at ha
  split at ha
  · rename_i ti hti
    split at ha
    · rename_i hd
      have hu : E.P.underlying T = some .bool := by
        have := (E.hΘ T ti hti).desc
        rw [hd] at this; exact this
      have heq : (Op.equal T (.bool x) (.bool y)).run E.P w = .ok (x == y) w := by
        exact run_equal_bool w T x y hu
      split at ha
      · exact Res.kb h (by simp [Go.binOp, heq]) ha
      · exact Res.kb h (by simp [Go.binOp, heq]) ha
      · exact ha.elim
    · exact ha.elim
  · exact ha.elim

theorem aBin_sound (h : SRel E N A w0 m s a w) (op : BinOp) (T : TypeId) {x y : AV} {vx vy : Value} (hx : VRel w (okB A s.H m w) m s.H x vx) (hy : VRel w (okB A s.H m w) m s.H y vy)
    (ha : aBin E T op x y dst s k) : Res E N A w0 a dst k ((Go.binOp op T vx vy).run E.P w) := by
  unfold aBin at ha
  split at ha
  · rename_i kx p ky q
    cases hx with
    | d _ _ hx => cases hx with
      | int => cases hy with
        | d _ _ hy => cases hy with
          | int =>
            by_cases hk : kx = ky
            · subst hk
              simp only [decide_true, cond_true] at ha
              exact aInt_sound h op T ha
            · simp [hk] at ha
  · cases hx with
    | d _ _ hx => cases hx with
      | flt => cases hy with
        | d _ _ hy => cases hy with
          | flt => exact aFlt_sound h op T ha
  · cases hx with
    | d _ _ hx => cases hx with
      | str => cases hy with
        | d _ _ hy => cases hy with
          | str => exact aStr_sound h op T ha
  · cases hx with
    | d _ _ hx => cases hx with
      | bool => cases hy with
        | d _ _ hy => cases hy with
          | bool => exact aBool_sound h op T ha
  · exact ha.elim


theorem negFloat_read (b : Nat) : isNan (Op.negFloat .f64 b) = isNan b := by
  have hx : Op.negFloat .f64 b = b ^^^ 2 ^ 63 := rfl
  rw [hx]
  have h1 : Ieee.double.signWeight = 2 ^ 63 := by decide +kernel
  have hm : (b ^^^ 2 ^ 63) % 2 ^ 63 = b % 2 ^ 63 := by
    apply Nat.eq_of_testBit_eq
    intro i
    simp only [Nat.testBit_mod_two_pow, Nat.testBit_xor, Nat.testBit_two_pow]
    by_cases hi : i < 63
    · have : ¬ 63 = i := by omega
      simp [hi, this]
    · simp [hi]
  unfold isNan Ieee.Format.read
  simp only [h1, hm]
  split
  · rfl
  · split
    · rfl
    · split <;> rfl
theorem fneg_canon (b : Nat) : canon (Op.negFloat .f64 b) = fneg (canon b) := by
  unfold fneg
  cases hb : isNan b with
  | true => rw [canon_nan (by rw [negFloat_read, hb]), isNan_canon, hb]; rfl
  | false => rw [canon_num (by rw [negFloat_read, hb]), isNan_canon, hb, canon_num hb]; rfl

theorem aUn_sound (h : SRel E N A w0 m s a w) (op : UnOp) {x : AV} {vx : Value} (hx : VRel w (okB A s.H m w) m s.H x vx)
    (ha : aUn op x dst s k) : Res E N A w0 a dst k ((Op.unary op vx).run E.P w) := by
  unfold aUn at ha
  split at ha
  · cases hx with
    | d _ _ hx => cases hx with
      | bool b => exact Res.same h (by simp [Op.unary]) (.d _ _ (.bool _)) ha
  · cases hx with
    | d _ _ hx => cases hx with
      | int kx n => exact Res.same h (by simp only [Op.unary, Op.intArith]; rfl) (.d _ _ (.int _ _)) ha
  · cases hx with
    | d _ _ hx => cases hx with
      | flt b =>
        refine Res.same h (v := .d (.flt (fneg (canon b)))) (u := .float .f64 (Op.negFloat .f64 b)) (by simp [Op.unary]) (.d _ _ ?_) ha
        have := RepD.flt (w := w) (ok := okB A s.H m w) (Op.negFloat .f64 b)
        rw [show canon (Op.negFloat .f64 b) = fneg (canon b) from ?_] at this
        · exact this
        · exact fneg_canon b
  · exact ha.elim

end
end Ai
