import Derived.Test.YtmomainjlncogaaBd4
import Derived.Test.YtmomainjlncogaaBd6
import Derived.Test.YtmomainjlncogaaBd8
section
/- Whole numbers as floats: sums and products are exact below 2^53. -/
namespace Go.Lk
open Ieee (Format Datum Toward)
set_option linter.unusedSimpArgs false
set_option linter.unusedVariables false
/-- The float x is the whole number z. -/
def IsW (x : Nat) (z : Int) : Prop := isFin x = true ∧ fx x = z * (U : Int)
theorem U_form : ∃ u, U = 2 ^ u := by obtain ⟨u, _, h⟩ := U_spec; exact ⟨u, h⟩
theorem rnd_w {s : Bool} {z : Int} (h : z.natAbs < 2 ^ 53) : IsW (rnd s (z * (U : Int))) z := by
  obtain ⟨u, hu⟩ := U_form
  obtain ⟨r1, r2, _⟩ := rnd_exact (z := s) (T := z * (U : Int)) (R := 4850376798678024192) (by decide) (by
    rw [Int.natAbs_mul, Int.natAbs_natCast, fxr_big]
    exact Nat.mul_le_mul_right _ (by omega)) ⟨z.natAbs, u, by rw [Int.natAbs_mul, Int.natAbs_natCast, hu], h⟩
  exact ⟨r1, r2⟩
theorem IsW.add {x y : Nat} {a b : Int} (hx : IsW x a) (hy : IsW y b) (h : (a + b).natAbs < 2 ^ 53) : IsW (fadd x y) (a + b) := by
  rw [fadd_fin hx.1 hy.1, hx.2, hy.2, ← Int.add_mul]
  exact rnd_w h
theorem IsW.sub {x y : Nat} {a b : Int} (hx : IsW x a) (hy : IsW y b) (h : (a - b).natAbs < 2 ^ 53) : IsW (fsub x y) (a - b) := by
  rw [fsub_fin hx.1 hy.1, hx.2, hy.2, ← Int.sub_mul]
  exact rnd_w h
theorem IsW.abs {x : Nat} {a : Int} (hx : IsW x a) : fxr (rg x) = a.natAbs * U := by
  have := fx_abs x
  rw [hx.2, Int.natAbs_mul, Int.natAbs_natCast] at this
  exact this.symm
theorem IsW.sg_of {x : Nat} {a : Int} (hx : IsW x a) (h : a ≠ 0) : sg x = decide (a < 0) := by
  have hU := U_pos
  have h1 : fx x ≠ 0 := by rw [hx.2]; exact Int.mul_ne_zero h (by omega)
  rw [sg_fx h1, hx.2]
  by_cases h0 : a < 0
  · rw [decide_eq_true h0]
    exact decide_eq_true (Int.mul_neg_of_neg_of_pos h0 (by omega))
  · rw [decide_eq_false h0]
    refine decide_eq_false fun h2 => ?_
    have : 0 ≤ a * (U : Int) := Int.mul_nonneg (by omega) (by omega)
    omega
theorem IsW.mul {x y : Nat} {a b : Int} (hx : IsW x a) (hy : IsW y b) (h : (a * b).natAbs < 2 ^ 53) : IsW (fmul x y) (a * b) := by
  obtain ⟨r, e, hr⟩ := fmul_near hx.1 hy.1
  have hU := U_pos
  obtain ⟨u, hu⟩ := U_form
  rw [hx.abs, hy.abs] at hr
  obtain ⟨l1, l2⟩ := rung_small (T := (a * b).natAbs * U) (r := 4850376798678024192) (by rw [fxr_big]; exact Nat.mul_le_mul_right _ (by omega)) (by decide) ⟨(a * b).natAbs, u, by rw [hu], h⟩
  have key : fxr (rung ((a * b).natAbs * U)) * U = a.natAbs * U * (b.natAbs * U) := by
    rw [l2, Int.natAbs_mul, Nat.mul_assoc, Nat.mul_assoc, Nat.mul_assoc, ← Nat.mul_assoc U, Nat.mul_comm U b.natAbs, Nat.mul_assoc]
  have e1 := hr.le_of (R := rung ((a * b).natAbs * U)) (by unfold infR; omega) (by omega)
  have e2 := hr.ge_of (R := rung ((a * b).natAbs * U)) (by unfold infR; omega) (by omega)
  have er : r = rung ((a * b).natAbs * U) := by omega
  rw [e, er]
  refine ⟨fin_wd l1, ?_⟩
  rw [fx_wd (rung_lt _), l2, sgn_mul]
  have hs : sgn (sg x ^^ sg y) (a * b).natAbs = a * b := by
    by_cases ha : a = 0
    · subst ha; simp [sgn]
    · by_cases hb : b = 0
      · subst hb; simp [sgn]
      · rw [hx.sg_of ha, hy.sg_of hb]
        unfold sgn
        rcases Int.lt_or_le a 0 with h1 | h1
        · rcases Int.lt_or_le b 0 with h2 | h2
          · rw [decide_eq_true h1, decide_eq_true h2]
            have : 0 < a * b := Int.mul_pos_of_neg_of_neg h1 h2
            simp; omega
          · rw [decide_eq_true h1, decide_eq_false (by omega)]
            have : a * b < 0 := Int.mul_neg_of_neg_of_pos h1 (by omega)
            simp; omega
        · rcases Int.lt_or_le b 0 with h2 | h2
          · rw [decide_eq_false (by omega), decide_eq_true h2]
            have : a * b < 0 := Int.mul_neg_of_pos_of_neg (by omega) h2
            simp; omega
          · rw [decide_eq_false (by omega), decide_eq_false (by omega)]
            have : 0 ≤ a * b := Int.mul_nonneg h1 h2
            simp; omega
  rw [hs]
theorem IsW.neg {x : Nat} {a : Int} (hl : x < 2 ^ 64) (hx : IsW x a) : IsW (fneg x) (-a) := by
  obtain ⟨n1, n2, _⟩ := fneg_fin hl hx.1
  exact ⟨n1, by rw [n2, hx.2, Int.neg_mul]⟩
theorem isW_near {n : Int} (h : n.natAbs < 2 ^ 53) : IsW (FloatKind.f64.nearest n) n := ⟨(near_fx h).1, (near_fx h).2.1⟩
/-! ### Sums -/
end Go.Lk
end

section
/- Floats as rational numbers: how far a result is from what it stands for. -/
namespace Go.Lk
set_option linter.unusedSimpArgs false
set_option linter.unusedVariables false

def UR : Rat := ((U : Nat) : Rat)
theorem UR_pos : 0 < UR := Rat.natCast_pos.2 U_pos
def eta : Rat := 1 / 4503599627370496
def tau : Rat := 1 / 1267650600228229401496703205376
theorem UR_big : (1267650600228229401496703205376 : Rat) ≤ UR := by
  obtain ⟨H, h1, _, _, Q, h2, _, h3, _⟩ := U_half
  have h4 : 1267650600228229401496703205376 ≤ U := by
    have : (2 : Nat) ^ 100 = 1267650600228229401496703205376 := by decide
    omega
  unfold UR
  exact_mod_cast h4
/-- What a float stands for. -/
def qv (x : Nat) : Rat := ((fx x : Int) : Rat) / UR
theorem qv_U (x : Nat) : qv x * UR = ((fx x : Int) : Rat) := by
  unfold qv
  exact Rat.div_mul_cancel (fun h => by have := UR_pos; rw [h] at this; exact absurd this (by decide))
/-- Between -A and A. -/
def Bd (r A : Rat) : Prop := -A ≤ r ∧ r ≤ A
theorem Bd.mono {r A B : Rat} (h : Bd r A) (hAB : A ≤ B) : Bd r B := ⟨by have := h.1; grind, by have := h.2; grind⟩
theorem Bd.add {r s A B : Rat} (h : Bd r A) (k : Bd s B) : Bd (r + s) (A + B) := ⟨by have := h.1; have := k.1; grind, by have := h.2; have := k.2; grind⟩
theorem Bd.sub {r s A B : Rat} (h : Bd r A) (k : Bd s B) : Bd (r - s) (A + B) := ⟨by have := h.1; have := k.2; grind, by have := h.2; have := k.1; grind⟩
theorem Bd.neg {r A : Rat} (h : Bd r A) : Bd (-r) A := ⟨by have := h.2; grind, by have := h.1; grind⟩
theorem Bd.nonneg {r A : Rat} (h : Bd r A) : 0 ≤ A := by have := h.1; have := h.2; grind
theorem Bd.mul {r s A B : Rat} (h : Bd r A) (k : Bd s B) : Bd (r * s) (A * B) := by
  obtain ⟨h1, h2⟩ := h
  obtain ⟨h3, h4⟩ := k
  have k1 := Rat.mul_nonneg (a := A - r) (b := B - s) (by grind) (by grind)
  have k2 := Rat.mul_nonneg (a := A + r) (b := B + s) (by grind) (by grind)
  have k3 := Rat.mul_nonneg (a := A - r) (b := B + s) (by grind) (by grind)
  have k4 := Rat.mul_nonneg (a := A + r) (b := B - s) (by grind) (by grind)
  constructor <;> grind
theorem Bd.of_eq {r s A : Rat} (h : Bd r A) (e : r = s) : Bd s A := e ▸ h
theorem Bd.zero : Bd 0 0 := ⟨by decide, by decide⟩
/-! ### Rounding, as whole multiples -/
theorem rnd_err {s : Bool} {T : Int} {R : Nat} (hR : R < 2047 * 2 ^ 52) (h : T.natAbs ≤ fxr R) :
    isFin (rnd s T) = true ∧ 4503599627370496 * (fx (rnd s T) - T).natAbs ≤ 4503599627370496 + T.natAbs := by
  refine ⟨(rnd_le hR h).1, ?_⟩
  unfold rnd
  split
  · rename_i h0
    subst h0
    have : fx (wd s 0) = 0 := by rw [fx_wd (by decide), fxr_zero, sgn_zero]
    rw [this]; decide
  · rename_i h0
    have hr : rung T.natAbs < infR := by have := rung_le_of h; unfold infR; omega
    obtain ⟨e1, e2⟩ := (near_rung T.natAbs).err (by decide) hr
    have hfx : (fx (wd (decide (T < 0)) (rung T.natAbs)) - T).natAbs ≤ fxr (rung T.natAbs) - T.natAbs + (T.natAbs - fxr (rung T.natAbs)) := by
      rw [fx_wd (rung_lt _)]
      unfold sgn
      by_cases hT : T < 0
      · rw [decide_eq_true hT, if_pos rfl]; omega
      · rw [decide_eq_false hT, if_neg (by decide)]; omega
    omega
/-- A sum of finite ones that is not too great. -/
theorem big54 {T : Int} {B : Rat} (hB : B ≤ 1125899906842624) (h : Bd (((T : Int) : Rat)) (B * UR)) : T.natAbs ≤ fxr 4850376798678024192 := by
  have hU := UR_pos
  have h1 : B * UR ≤ 1125899906842624 * UR := Rat.mul_le_mul_of_nonneg_right hB (by grind)
  have h2 : ((T : Int) : Rat) ≤ 1125899906842624 * UR := by have := h.2; grind
  have h3 : -(1125899906842624 * UR) ≤ ((T : Int) : Rat) := by have := h.1; grind
  have h4 : T ≤ 1125899906842624 * (U : Int) := by
    refine Rat.intCast_le_intCast.1 ?_
    rw [Rat.intCast_mul]
    exact h2
  have h5 : -(1125899906842624 * (U : Int)) ≤ T := by
    refine Rat.intCast_le_intCast.1 ?_
    rw [Rat.intCast_neg, Rat.intCast_mul]
    exact h3
  rw [fxr_big]
  have : (2 : Nat) ^ 54 = 18014398509481984 := by decide
  rw [this]
  have h6 : ((18014398509481984 * U : Nat) : Int) = 18014398509481984 * (U : Int) := by rw [Int.natCast_mul]; rfl
  omega
theorem abs_cast {T : Int} {B : Rat} (h : Bd (((T : Int) : Rat)) B) : ((T.natAbs : Nat) : Rat) ≤ B := by
  rcases Int.le_total 0 T with h0 | h0
  · have e : ((T.natAbs : Nat) : Int) = T := by omega
    have : ((T.natAbs : Nat) : Rat) = ((T : Int) : Rat) := by rw [← e]; rfl
    rw [this]; exact h.2
  · have e : ((T.natAbs : Nat) : Int) = -T := by omega
    have : ((T.natAbs : Nat) : Rat) = -((T : Int) : Rat) := by
      have : ((((T.natAbs : Nat) : Int)) : Rat) = ((-T : Int) : Rat) := by rw [e]
      rw [Rat.intCast_neg] at this
      exact this
    rw [this]; have := h.1; grind
theorem rnd_q {s : Bool} {T : Int} {v B : Rat} (hv : v * UR = ((T : Int) : Rat)) (h : Bd v B) (hB : B ≤ 1125899906842624) :
    isFin (rnd s T) = true ∧ Bd (qv (rnd s T) - v) (B * eta + tau) := by
  have hU := UR_pos
  have hT : Bd ((T : Int) : Rat) (B * UR) := by
    rw [← hv]
    exact ⟨by have := Rat.mul_le_mul_of_nonneg_right h.1 (c := UR) (by grind); grind, Rat.mul_le_mul_of_nonneg_right h.2 (by grind)⟩
  obtain ⟨h1, h2⟩ := rnd_err (s := s) (R := 4850376798678024192) (by decide) (big54 hB hT)
  refine ⟨h1, ?_⟩
  have h3 : ((4503599627370496 * (fx (rnd s T) - T).natAbs : Nat) : Rat) ≤ ((4503599627370496 + T.natAbs : Nat) : Rat) := Rat.natCast_le_natCast.2 h2
  have h4 := abs_cast hT
  rw [Rat.natCast_mul, Rat.natCast_add] at h3
  have hb := UR_big
  have hq := qv_U (rnd s T)
  have key : ∀ r : Rat, r ≤ (((fx (rnd s T) - T).natAbs : Nat) : Rat) → r ≤ (B * eta + tau) * UR := by
    intro r hr
    have e1 : (B * eta) * UR * 4503599627370496 = B * UR := by unfold eta; grind
    have e2 : (1 : Rat) ≤ tau * UR := by unfold tau; grind
    have e3 : ((4503599627370496 : Nat) : Rat) = 4503599627370496 := by rfl
    rw [e3] at h3
    grind
  have hd : (qv (rnd s T) - v) * UR = ((fx (rnd s T) - T : Int) : Rat) := by
    rw [Rat.intCast_sub, ← hq, ← hv]; grind
  have n1 : ((fx (rnd s T) - T : Int) : Rat) ≤ (((fx (rnd s T) - T).natAbs : Nat) : Rat) := by
    have : (fx (rnd s T) - T) ≤ (((fx (rnd s T) - T).natAbs : Nat) : Int) := by omega
    exact Rat.intCast_le_intCast.2 this
  have n2 : -((fx (rnd s T) - T : Int) : Rat) ≤ (((fx (rnd s T) - T).natAbs : Nat) : Rat) := by
    have : -(fx (rnd s T) - T) ≤ (((fx (rnd s T) - T).natAbs : Nat) : Int) := by omega
    have := Rat.intCast_le_intCast.2 this
    rw [Rat.intCast_neg] at this
    exact this
  constructor
  · refine Rat.le_of_mul_le_mul_right (c := UR) ?_ hU
    have := key _ n2
    rw [← hd] at this
    grind
  · refine Rat.le_of_mul_le_mul_right (c := UR) ?_ hU
    rw [hd]
    exact key _ n1
theorem add_q {x y : Nat} {B : Rat} (hx : isFin x = true) (hy : isFin y = true) (h : Bd (qv x + qv y) B) (hB : B ≤ 1125899906842624) : isFin (fadd x y) = true ∧ Bd (qv (fadd x y) - (qv x + qv y)) (B * eta + tau) := by
  rw [fadd_fin hx hy]
  refine rnd_q ?_ h hB
  rw [Rat.intCast_add, ← qv_U x, ← qv_U y]; grind
theorem sub_q {x y : Nat} {B : Rat} (hx : isFin x = true) (hy : isFin y = true) (h : Bd (qv x - qv y) B) (hB : B ≤ 1125899906842624) : isFin (fsub x y) = true ∧ Bd (qv (fsub x y) - (qv x - qv y)) (B * eta + tau) := by
  rw [fsub_fin hx hy]
  refine rnd_q ?_ h hB
  rw [Rat.intCast_sub, ← qv_U x, ← qv_U y]; grind
/-! ### Products -/
theorem mul_err {x y : Nat} (hx : isFin x = true) (hy : isFin y = true) (h : fxr (rg x) * fxr (rg y) ≤ fxr 4850376798678024192 * U) :
    isFin (fmul x y) = true ∧ 4503599627370496 * (fx (fmul x y) * (U : Int) - fx x * fx y).natAbs ≤ 4503599627370496 * U + fxr (rg x) * fxr (rg y) := by
  obtain ⟨r, e, hr⟩ := fmul_near hx hy
  have hr54 : r ≤ 4850376798678024192 := hr.le_of (by decide) h
  have hU := U_pos
  obtain ⟨e1, e2⟩ := hr.err hU (by unfold infR; omega)
  rw [e]
  refine ⟨fin_wd (by omega), ?_⟩
  have hs : fx (wd (sg x ^^ sg y) r) * (U : Int) - fx x * fx y = sgn (sg x ^^ sg y) (fxr r * U) - sgn (sg x ^^ sg y) (fxr (rg x) * fxr (rg y)) := by
    rw [fx_wd (by omega), sgn_mul]
    congr 1
    unfold fx
    generalize fxr (rg x) = a
    generalize fxr (rg y) = b
    cases sg x <;> cases sg y <;> simp [sgn, Int.neg_mul, Int.mul_neg]
  have hn : (sgn (sg x ^^ sg y) (fxr r * U) - sgn (sg x ^^ sg y) (fxr (rg x) * fxr (rg y))).natAbs ≤ fxr r * U - fxr (rg x) * fxr (rg y) + (fxr (rg x) * fxr (rg y) - fxr r * U) := by
    unfold sgn
    generalize fxr r * U = a
    generalize fxr (rg x) * fxr (rg y) = b
    cases (sg x ^^ sg y) <;> simp <;> omega
  rw [hs]
  have : (2 : Nat) ^ 52 = 4503599627370496 := by decide
  rw [this] at e1 e2
  generalize fxr r * U = a at *
  generalize fxr (rg x) * fxr (rg y) = b at *
  omega
theorem mul_q {x y : Nat} {B : Rat} (hx : isFin x = true) (hy : isFin y = true) (h : Bd (qv x * qv y) B) (hB : B ≤ 1125899906842624) : isFin (fmul x y) = true ∧ Bd (qv (fmul x y) - qv x * qv y) (B * eta + tau) := by
  have hU := UR_pos
  have hUU : 0 < UR * UR := Rat.mul_pos hU hU
  have hp : qv x * qv y * (UR * UR) = ((fx x * fx y : Int) : Rat) := by
    rw [Rat.intCast_mul, ← qv_U x, ← qv_U y]; grind
  have hT : Bd ((fx x * fx y : Int) : Rat) (B * (UR * UR)) := by
    rw [← hp]
    exact ⟨by have := Rat.mul_le_mul_of_nonneg_right h.1 (c := UR * UR) (by grind); grind, Rat.mul_le_mul_of_nonneg_right h.2 (by grind)⟩
  have hab := abs_cast hT
  have hna : (fx x * fx y).natAbs = fxr (rg x) * fxr (rg y) := by rw [Int.natAbs_mul, fx_abs, fx_abs]
  rw [hna] at hab
  have hle : fxr (rg x) * fxr (rg y) ≤ fxr 4850376798678024192 * U := by
    refine Rat.natCast_le_natCast.1 ?_
    refine Rat.le_trans hab ?_
    have h1 : B * (UR * UR) ≤ 1125899906842624 * (UR * UR) := Rat.mul_le_mul_of_nonneg_right hB (by grind)
    have h2 : 1125899906842624 * (UR * UR) ≤ 18014398509481984 * (UR * UR) := by grind
    refine Rat.le_trans h1 (Rat.le_trans h2 ?_)
    rw [fxr_big, show (2 : Nat) ^ 54 = 18014398509481984 by decide, Rat.natCast_mul, Rat.natCast_mul]
    have e3 : ((18014398509481984 : Nat) : Rat) = 18014398509481984 := by rfl
    rw [e3]
    show 18014398509481984 * (UR * UR) ≤ 18014398509481984 * UR * UR
    grind
  obtain ⟨f1, f2⟩ := mul_err hx hy hle
  refine ⟨f1, ?_⟩
  have h3 := Rat.natCast_le_natCast.2 f2
  rw [Rat.natCast_mul, Rat.natCast_add, Rat.natCast_mul] at h3
  have hq := qv_U (fmul x y)
  have hd : (qv (fmul x y) - qv x * qv y) * (UR * UR) = ((fx (fmul x y) * (U : Int) - fx x * fx y : Int) : Rat) := by
    rw [Rat.intCast_sub, Rat.intCast_mul, ← hq, ← hp]
    show _ = qv (fmul x y) * UR * UR - _
    grind
  generalize hD : fx (fmul x y) * (U : Int) - fx x * fx y = D at *
  have hb := UR_big
  have key : ∀ r : Rat, r ≤ ((D.natAbs : Nat) : Rat) → r ≤ (B * eta + tau) * (UR * UR) := by
    intro r hr
    have e1 : (B * eta) * (UR * UR) * 4503599627370496 = B * (UR * UR) := by unfold eta; grind
    have e2 : UR ≤ tau * (UR * UR) := by
      have : 1 ≤ tau * UR := by unfold tau; grind
      have := Rat.mul_le_mul_of_nonneg_right this (c := UR) (by grind)
      grind
    have e3 : ((4503599627370496 : Nat) : Rat) = 4503599627370496 := by rfl
    have e4 : ((U : Nat) : Rat) = UR := rfl
    rw [e3, e4] at h3
    grind
  have n1 : ((D : Int) : Rat) ≤ ((D.natAbs : Nat) : Rat) := by
    have : D ≤ ((D.natAbs : Nat) : Int) := by omega
    exact Rat.intCast_le_intCast.2 this
  have n2 : -((D : Int) : Rat) ≤ ((D.natAbs : Nat) : Rat) := by
    have : -D ≤ ((D.natAbs : Nat) : Int) := by omega
    have := Rat.intCast_le_intCast.2 this
    rw [Rat.intCast_neg] at this
    exact this
  constructor
  · refine Rat.le_of_mul_le_mul_right (c := UR * UR) ?_ hUU
    have := key _ n2
    rw [← hd] at this
    grind
  · refine Rat.le_of_mul_le_mul_right (c := UR * UR) ?_ hUU
    rw [hd]
    exact key _ n1
end Go.Lk
end

section
/- Quotients and roots as rational numbers; polynomials. -/
namespace Go.Lk
set_option linter.unusedSimpArgs false
set_option linter.unusedVariables false

theorem qv_nn {x : Nat} (h : sg x = false) : qv x * UR = ((fxr (rg x) : Nat) : Rat) ∧ 0 ≤ qv x := by
  have hU := UR_pos
  have e : qv x * UR = ((fxr (rg x) : Nat) : Rat) := by rw [qv_U, fx_rg h]; rfl
  refine ⟨e, ?_⟩
  refine Rat.le_of_mul_le_mul_right (c := UR) ?_ hU
  rw [e, Rat.zero_mul]
  exact Rat.natCast_nonneg
theorem tau_UR : 1 ≤ tau * UR := by have := UR_big; unfold tau; grind
/-- A quotient of what is not below nought. -/
theorem div_q {x y : Nat} (hx : isFin x = true) (hy : isFin y = true) (sx : sg x = false) (sy : sg y = false) (h0 : 0 < qv y) (hle : qv x ≤ qv y) :
    isFin (fdiv x y) = true ∧ sg (fdiv x y) = false ∧ Bd (qv (fdiv x y) * qv y - qv x) (qv x * eta + tau * qv y) := by
  have hU := UR_pos
  obtain ⟨ex, nx⟩ := qv_nn sx
  obtain ⟨ey, ny⟩ := qv_nn sy
  have hY : fxr (rg y) ≠ 0 := by
    intro h
    rw [h] at ey
    have : qv y * UR = 0 := ey
    rcases Rat.mul_eq_zero.1 this with h1 | h1 <;> grind
  obtain ⟨r, e, hr⟩ := fdiv_near hx hy hY
  rw [sx, sy] at e
  have hXY : fxr (rg x) ≤ fxr (rg y) := by
    refine Rat.natCast_le_natCast.1 ?_
    rw [← ex, ← ey]
    exact Rat.mul_le_mul_of_nonneg_right hle (by grind)
  have hone : r ≤ rg fone := hr.le_of (by have := rg_one_lt; unfold infR; omega) (by rw [fxr_one, Nat.mul_comm U]; exact Nat.mul_le_mul_right _ hXY)
  have ho := rg_one_lt
  obtain ⟨e1, e2⟩ := hr.err (by omega) (by unfold infR; omega)
  have hf : isFin (wd false r) = true := fin_wd (by omega)
  have hsg : sg (wd false r) = false := sg_wd (by omega)
  simp only [Bool.xor_self] at e
  rw [e]
  refine ⟨hf, hsg, ?_⟩
  obtain ⟨er, nr⟩ := qv_nn hsg
  rw [rg_wd (by omega)] at er
  have h52 : (2 : Nat) ^ 52 = 4503599627370496 := by decide
  rw [h52] at e1 e2
  have m1 : max (4503599627370496 * fxr (rg y)) (fxr (rg x) * U) ≤ 4503599627370496 * fxr (rg y) + fxr (rg x) * U := by omega
  have k1 : 4503599627370496 * (fxr r * fxr (rg y)) ≤ 4503599627370496 * (fxr (rg x) * U) + (4503599627370496 * fxr (rg y) + fxr (rg x) * U) := by omega
  have k2 : 4503599627370496 * (fxr (rg x) * U) ≤ 4503599627370496 * (fxr r * fxr (rg y)) + (4503599627370496 * fxr (rg y) + fxr (rg x) * U) := by omega
  have k1 := Rat.natCast_le_natCast.2 k1
  have k2 := Rat.natCast_le_natCast.2 k2
  simp only [Rat.natCast_mul, Rat.natCast_add] at k1 k2
  rw [← er, ← ex, ← ey] at k1 k2
  have e3 : ((4503599627370496 : Nat) : Rat) = 4503599627370496 := by rfl
  have e4 : ((U : Nat) : Rat) = UR := rfl
  rw [e3, e4] at k1 k2
  have ht := tau_UR
  have ht2 : qv y * UR ≤ tau * qv y * (UR * UR) := by
    have := Rat.mul_le_mul_of_nonneg_right ht (c := qv y * UR) (Rat.mul_nonneg ny (by grind))
    grind
  have e5 : qv x * eta * (UR * UR) * 4503599627370496 = qv x * (UR * UR) := by unfold eta; grind
  have hUU : 0 < UR * UR := Rat.mul_pos hU hU
  generalize qv (wd false r) = q at *
  constructor
  · refine Rat.le_of_mul_le_mul_right (c := UR * UR) ?_ hUU
    grind
  · refine Rat.le_of_mul_le_mul_right (c := UR * UR) ?_ hUU
    grind
/-- A root of what is not below nought, and not great. -/
theorem sqrt_q {x : Nat} (hx : isFin x = true) (sx : sg x = false) (hB : qv x ≤ 1048576) : isFin (fsqrt x) = true ∧ sg (fsqrt x) = false ∧ ∃ l : Rat, 0 ≤ l ∧ l * l ≤ qv x ∧ l ≤ qv (fsqrt x) ∧ qv (fsqrt x) ≤ l + l * eta + tau ∧ qv x ≤ (l + l * eta + tau) * (l + l * eta + tau) := by
  have hU := UR_pos
  obtain ⟨ex, nx⟩ := qv_nn sx
  obtain ⟨r, e, hr, hbr⟩ := fsqrt_near hx sx
  have hXU : ((fxr (rg x) * U : Nat) : Rat) = qv x * UR * UR := by rw [Rat.natCast_mul, ← ex]; rfl
  have hbig : fxr (rg x) * U < fxr 4850376798678024192 * fxr 4850376798678024192 := by
    have h1 : fxr (rg x) ≤ 1048576 * U := by
      refine Rat.natCast_le_natCast.1 ?_
      rw [← ex, Rat.natCast_mul]
      exact Rat.mul_le_mul_of_nonneg_right hB (by grind)
    have hU0 := U_pos
    rw [fxr_big]
    calc fxr (rg x) * U ≤ 1048576 * U * U := Nat.mul_le_mul_right _ h1
      _ < 2 ^ 54 * U * (2 ^ 54 * U) := by
        rw [show 2 ^ 54 * U * (2 ^ 54 * U) = 2 ^ 108 * (U * U) by rw [show (2 : Nat) ^ 108 = 2 ^ 54 * 2 ^ 54 by decide, Nat.mul_mul_mul_comm], Nat.mul_assoc]
        exact Nat.mul_lt_mul_of_pos_right (by decide) (Nat.mul_pos hU0 hU0)
  have hr54 : r ≤ 4850376798678024192 := (hbr _ (by decide)).2 (Nat.le_of_lt hbig)
  have hf : isFin (wd false r) = true := fin_wd (by omega)
  have hsg : sg (wd false r) = false := sg_wd (by omega)
  rw [e]
  refine ⟨hf, hsg, ?_⟩
  -- the greatest L with fxr L * fxr L ≤ XU
  have key : ∀ k, k ≤ 4850376798678024192 → fxr (4850376798678024192 - k) * fxr (4850376798678024192 - k) ≤ fxr (rg x) * U → ∃ L, L < 4850376798678024192 ∧ fxr L * fxr L ≤ fxr (rg x) * U ∧ fxr (rg x) * U < fxr (L + 1) * fxr (L + 1) := by
    intro k
    induction k with
    | zero => intro _ k; rw [Nat.sub_zero] at k; omega
    | succ k ih =>
      intro hk hL
      rcases Nat.lt_or_ge (fxr (rg x) * U) (fxr (4850376798678024192 - k) * fxr (4850376798678024192 - k)) with h1 | h1
      · refine ⟨4850376798678024192 - (k + 1), by omega, hL, ?_⟩
        rw [show 4850376798678024192 - (k + 1) + 1 = 4850376798678024192 - k by omega]
        exact h1
      · exact ih (by omega) h1
  obtain ⟨L, hL, h1, h2⟩ := key 4850376798678024192 (Nat.le_refl _) (by rw [Nat.sub_self, fxr_zero]; omega)
  have hge := (hbr L (by unfold infR; omega)).1 h1
  have hle := (hbr (L + 1) (by unfold infR; omega)).2 (Nat.le_of_lt h2)
  have hg := fxr_gap L
  have m1 : max (2 ^ 52) (fxr L) ≤ 2 ^ 52 + fxr L := by omega
  have hg2 : 4503599627370496 * fxr (L + 1) ≤ 4503599627370496 * fxr L + (4503599627370496 + fxr L) := by
    have h52 : (2 : Nat) ^ 52 = 4503599627370496 := by decide
    rw [h52] at hg m1; omega
  obtain ⟨er, nr⟩ := qv_nn hsg
  rw [rg_wd (by omega)] at er
  have a1 : fxr L ≤ fxr r := fxr_le.2 hge
  have a2 : fxr r ≤ fxr (L + 1) := fxr_le.2 hle
  -- as rational numbers
  have hl : ((fxr L : Nat) : Rat) / UR * UR = ((fxr L : Nat) : Rat) := by grind
  have hl' : ((fxr (L + 1) : Nat) : Rat) / UR * UR = ((fxr (L + 1) : Nat) : Rat) := by grind
  have hl0 : 0 ≤ ((fxr L : Nat) : Rat) / UR := by
    refine Rat.le_of_mul_le_mul_right (c := UR) ?_ hU
    rw [hl, Rat.zero_mul]; exact Rat.natCast_nonneg
  have b1 := Rat.natCast_le_natCast.2 h1
  have b2 := Rat.natCast_le_natCast.2 (Nat.le_of_lt h2)
  have b3 := Rat.natCast_le_natCast.2 hg2
  have b4 := Rat.natCast_le_natCast.2 a1
  have b5 := Rat.natCast_le_natCast.2 a2
  rw [hXU, Rat.natCast_mul] at b1 b2
  simp only [Rat.natCast_mul, Rat.natCast_add] at b3
  have e3 : ((4503599627370496 : Nat) : Rat) = 4503599627370496 := by rfl
  rw [e3] at b3
  rw [← hl, ← hl'] at b3
  rw [← hl] at b1 b4
  rw [← hl'] at b2 b5
  rw [← er] at b4 b5
  generalize ((fxr L : Nat) : Rat) / UR = l at *
  generalize ((fxr (L + 1) : Nat) : Rat) / UR = l2 at *
  have ht := tau_UR
  have hUU : 0 < UR * UR := Rat.mul_pos hU hU
  have c1 : l ≤ qv (wd false r) := Rat.le_of_mul_le_mul_right b4 hU
  have c2 : qv (wd false r) ≤ l2 := Rat.le_of_mul_le_mul_right b5 hU
  have c3 : l2 ≤ l + l * eta + tau := by
    refine Rat.le_of_mul_le_mul_right (c := UR) ?_ hU
    have e5 : l * eta * UR * 4503599627370496 = l * UR := by unfold eta; grind
    grind
  have c4 : l * l ≤ qv x := by
    refine Rat.le_of_mul_le_mul_right (c := UR * UR) ?_ hUU
    grind
  have c5 : qv x ≤ l2 * l2 := by
    refine Rat.le_of_mul_le_mul_right (c := UR * UR) ?_ hUU
    grind
  have c6 : 0 ≤ l2 := by grind
  refine ⟨l, hl0, c4, c1, by grind, Rat.le_trans c5 ?_⟩
  have d1 := Rat.mul_le_mul_of_nonneg_right c3 (c := l2) c6
  have d2 := Rat.mul_le_mul_of_nonneg_left c3 (c := l + l * eta + tau) (by grind)
  exact Rat.le_trans d1 d2
/-! ### Polynomials -/
def pe : List Rat → Rat → Rat
  | [], _ => 0
  | c :: l, z => c + z * pe l z
def padd : List Rat → List Rat → List Rat
  | [], m => m
  | l, [] => l
  | a :: l, b :: m => (a + b) :: padd l m
def pscale (k : Rat) : List Rat → List Rat
  | [] => []
  | a :: l => k * a :: pscale k l
def pmul : List Rat → List Rat → List Rat
  | [], _ => []
  | a :: l, m => padd (pscale a m) (0 :: pmul l m)
theorem pe_add (z : Rat) : ∀ l m, pe (padd l m) z = pe l z + pe m z
  | [], m => by simp only [padd, pe]; grind
  | a :: l, [] => by simp only [padd, pe]; grind
  | a :: l, b :: m => by simp only [padd, pe, pe_add z l m]; grind
theorem pe_scale (z k : Rat) : ∀ l, pe (pscale k l) z = k * pe l z
  | [] => by simp only [pscale, pe]; grind
  | a :: l => by simp only [pscale, pe, pe_scale z k l]; grind
theorem pe_mul (z : Rat) : ∀ l m, pe (pmul l m) z = pe l z * pe m z
  | [], m => by simp only [pmul, pe]; grind
  | a :: l, m => by simp only [pmul, pe, pe_add, pe_scale, pe_mul z l m]; grind
def rabs (r : Rat) : Rat := if r < 0 then -r else r
theorem bd_rabs (r : Rat) : Bd r (rabs r) := by
  unfold rabs Bd
  by_cases h : r < 0
  · rw [if_pos h]; constructor <;> grind
  · rw [if_neg h]; constructor <;> grind
theorem pe_bd {z Z : Rat} (h0 : 0 ≤ z) (h1 : z ≤ Z) : ∀ l, Bd (pe l z) (pe (l.map rabs) Z)
  | [] => Bd.zero
  | a :: l => (bd_rabs a).add (Bd.mul (⟨by grind, h1⟩ : Bd z Z) (pe_bd h0 h1 l))
end Go.Lk
end

section
/- Derivatives of functions of rational numbers. -/
namespace Go.Lk
set_option linter.unusedSimpArgs false
set_option linter.unusedVariables false
set_option maxHeartbeats 1000000

theorem rabs_nn (r : Rat) : 0 ≤ rabs r := by
  unfold rabs
  by_cases h : r < 0
  · rw [if_pos h]; grind
  · rw [if_neg h]; grind
/-- f has the derivative f' between a and b; all is bounded. -/
def Df (a b : Rat) (f f' : Rat → Rat) : Prop :=
  ∃ K : Rat, ∀ u v, a ≤ u → u ≤ b → a ≤ v → v ≤ b → Bd (f u) K ∧ Bd (f' u) K ∧ Bd (f u - f v) (K * rabs (u - v)) ∧ Bd (f u - f v - f' v * (u - v)) (K * (rabs (u - v) * rabs (u - v)))
variable {a b : Rat} {f f' g g' : Rat → Rat}
theorem Df.congr (h : Df a b f f') (e : ∀ u, f u = g u) (e' : ∀ u, f' u = g' u) : Df a b g g' := by
  obtain ⟨K, h⟩ := h
  refine ⟨K, fun u v h1 h2 h3 h4 => ?_⟩
  have := h u v h1 h2 h3 h4
  rwa [e, e, e', e'] at this
theorem Df.const (c : Rat) : Df a b (fun _ => c) (fun _ => 0) := by
  refine ⟨rabs c, fun u v _ _ _ _ => ?_⟩
  have k1 := rabs_nn c
  have k2 := rabs_nn (u - v)
  have k3 := Rat.mul_nonneg k1 k2
  have k4 := Rat.mul_nonneg k1 (Rat.mul_nonneg k2 k2)
  refine ⟨bd_rabs c, ⟨by grind, by grind⟩, ⟨by grind, by grind⟩, ⟨by grind, by grind⟩⟩
theorem Df.id (a b : Rat) : Df a b (fun u => u) (fun _ => 1) := by
  refine ⟨rabs a + rabs b + 1, fun u v h1 h2 _ _ => ?_⟩
  have ka := bd_rabs a
  have kb := bd_rabs b
  have k1 := rabs_nn a
  have k2 := rabs_nn b
  have k3 := rabs_nn (u - v)
  have k4 := Rat.mul_nonneg (a := rabs a + rabs b) (b := rabs (u - v)) (by grind) k3
  have k5 := Rat.mul_nonneg (a := rabs a + rabs b + 1) (b := rabs (u - v) * rabs (u - v)) (by grind) (Rat.mul_nonneg k3 k3)
  have k6 := bd_rabs (u - v)
  refine ⟨⟨by have := ka.1; grind, by have := kb.2; grind⟩, ⟨by grind, by grind⟩, ⟨by have := k6.1; grind, by have := k6.2; grind⟩, ⟨by grind, by grind⟩⟩
theorem Df.add (h : Df a b f f') (k : Df a b g g') : Df a b (fun u => f u + g u) (fun u => f' u + g' u) := by
  obtain ⟨K, h⟩ := h
  obtain ⟨L, k⟩ := k
  refine ⟨K + L, fun u v h1 h2 h3 h4 => ?_⟩
  obtain ⟨p1, p2, p3, p4⟩ := h u v h1 h2 h3 h4
  obtain ⟨q1, q2, q3, q4⟩ := k u v h1 h2 h3 h4
  exact ⟨p1.add q1, p2.add q2, ((p3.add q3).of_eq (by grind)).mono (by grind), ((p4.add q4).of_eq (by grind)).mono (by grind)⟩
theorem Df.mul (h : Df a b f f') (k : Df a b g g') : Df a b (fun u => f u * g u) (fun u => f' u * g u + f u * g' u) := by
  obtain ⟨K, h⟩ := h
  obtain ⟨L, k⟩ := k
  refine ⟨3 * (K * L), fun u v h1 h2 h3 h4 => ?_⟩
  obtain ⟨p1, p2, p3, p4⟩ := h u v h1 h2 h3 h4
  obtain ⟨q1, q2, q3, q4⟩ := k u v h1 h2 h3 h4
  obtain ⟨p1', p2', _, _⟩ := h v v h3 h4 h3 h4
  obtain ⟨q1', q2', _, _⟩ := k v v h3 h4 h3 h4
  have hK := p1.nonneg
  have hL := q1.nonneg
  have hKL := Rat.mul_nonneg hK hL
  have hr := rabs_nn (u - v)
  have hb := bd_rabs (u - v)
  have hKr := Rat.mul_nonneg hKL hr
  refine ⟨(p1.mul q1).mono (by grind), ((p2.mul q1).add (p1.mul q2)).mono (by grind), (((p1.mul q3).add (q1'.mul p3)).of_eq (by grind)).mono (by grind), ?_⟩
  exact (((p1.mul q4).add (q1'.mul p4)).add ((p3.mul q2').mul hb) |>.of_eq (by grind)).mono (by grind)
theorem inv_nn {m : Rat} (h : 0 < m) : 0 ≤ m⁻¹ ∧ m * m⁻¹ = 1 := ⟨Rat.le_of_lt (Rat.inv_pos.2 h), Rat.mul_inv_cancel _ (by grind)⟩
/-! ### Polynomials -/
def dl : List Rat → List Rat
  | [] => []
  | _ :: l => padd l (0 :: dl l)
theorem Df.pe (h : Df a b f f') : ∀ l, Df a b (fun u => pe l (f u)) (fun u => Lk.pe (dl l) (f u) * f' u)
  | [] => (Df.const 0).congr (fun _ => rfl) (fun u => by simp only [dl, Lk.pe]; grind)
  | c :: l => ((Df.const c).add (h.mul (Df.pe h l))).congr (fun _ => rfl) (fun u => by simp only [dl, pe_add, Lk.pe]; grind)
/-! ### The mean -/
theorem arch {X E D : Rat} (h : ∀ n : Nat, X ≤ E + D * ((n + 1 : Nat) : Rat)⁻¹) : X ≤ E := by
  rcases Rat.le_total (a := X) (b := E) with h1 | h1
  · exact h1
  by_cases h2 : X = E
  · rw [h2]; exact Rat.le_refl
  have h3 : 0 < X - E := by grind
  obtain ⟨n, hn⟩ : ∃ n : Nat, D < (X - E) * ((n + 1 : Nat) : Rat) := by
    refine ⟨(D / (X - E)).ceil.toNat, ?_⟩
    have h4 : D / (X - E) ≤ (((D / (X - E)).ceil : Int) : Rat) := Rat.le_ceil
    have h5 : (((D / (X - E)).ceil : Int) : Rat) ≤ (((D / (X - E)).ceil.toNat : Nat) : Rat) := by
      have : (D / (X - E)).ceil ≤ ((D / (X - E)).ceil.toNat : Int) := Int.self_le_toNat _
      exact_mod_cast this
    have h6 : D = (X - E) * (D / (X - E)) := (Rat.mul_comm _ _).trans (Rat.div_mul_cancel (by grind)) |>.symm
    have h7 := Rat.mul_le_mul_of_nonneg_left (Rat.le_trans h4 h5) (c := X - E) (by grind)
    have h8 : (((D / (X - E)).ceil.toNat + 1 : Nat) : Rat) = (((D / (X - E)).ceil.toNat : Nat) : Rat) + 1 := by
      exact_mod_cast rfl
    rw [h8]
    grind
  have h4 := h n
  have hp : (0 : Rat) < ((n + 1 : Nat) : Rat) := Rat.natCast_pos.2 (by omega)
  have h5 : ((n + 1 : Nat) : Rat) * ((n + 1 : Nat) : Rat)⁻¹ = 1 := Rat.mul_inv_cancel _ (by grind)
  have h6 := Rat.mul_le_mul_of_nonneg_right h4 (c := ((n + 1 : Nat) : Rat)) (by grind)
  generalize ((n + 1 : Nat) : Rat) = N at *
  have h7 : (E + D * N⁻¹) * N = E * N + D * (N * N⁻¹) := by grind
  rw [h7, h5] at h6
  grind
theorem Df.steps {ε σ : Rat} (h : Df a b f f') (hd : ∀ v, a ≤ v → v ≤ b → Bd (f' v - σ) ε) : ∃ K : Rat, 0 ≤ K ∧ ∀ (t : Rat), 0 ≤ t → ∀ n : Nat, a + (n : Rat) * t ≤ b → Bd (f (a + (n : Rat) * t) - f a - σ * ((n : Rat) * t)) ((n : Rat) * (ε * t + K * (t * t))) := by
  obtain ⟨K, h⟩ := h
  by_cases hab : a ≤ b
  · have hK := (h a a (by grind) hab (by grind) hab).1.nonneg
    refine ⟨K, hK, fun t ht n => ?_⟩
    induction n with
    | zero =>
      intro _
      have e : a + ((0 : Nat) : Rat) * t = a := by
        have : ((0 : Nat) : Rat) = 0 := rfl
        rw [this]; grind
      rw [e]
      have : ((0 : Nat) : Rat) = 0 := rfl
      rw [this]
      exact ⟨by grind, by grind⟩
    | succ n ih =>
      intro hn
      have e : ((n + 1 : Nat) : Rat) = (n : Rat) + 1 := by exact_mod_cast rfl
      rw [e] at hn ⊢
      have hn0 : (0 : Rat) ≤ (n : Rat) := by exact_mod_cast Nat.zero_le n
      have hnt := Rat.mul_nonneg hn0 ht
      have h1 : a + (n : Rat) * t ≤ b := by grind
      have h2 := ih h1
      obtain ⟨_, _, _, h3⟩ := h (a + ((n : Rat) + 1) * t) (a + (n : Rat) * t) (by grind) hn (by grind) h1
      have e2 : a + ((n : Rat) + 1) * t - (a + (n : Rat) * t) = t := by grind
      rw [e2] at h3
      have e3 : rabs t = t := by unfold rabs; rw [if_neg (by grind)]
      rw [e3] at h3
      have h4 := (hd (a + (n : Rat) * t) (by grind) h1).mul (⟨by grind, by grind⟩ : Bd t t)
      exact (((h2.add h4).add h3).of_eq (by grind)).mono (by grind)
  · exact ⟨0, by grind, fun t ht n hn => by
      have hn0 : (0 : Rat) ≤ (n : Rat) := by exact_mod_cast Nat.zero_le n
      have := Rat.mul_nonneg hn0 ht
      exact absurd hn (by grind)⟩
theorem Df.mean {ε σ : Rat} (h : Df a b f f') (hab : a ≤ b) (hd : ∀ v, a ≤ v → v ≤ b → Bd (f' v - σ) ε) : Bd (f b - f a - σ * (b - a)) (ε * (b - a)) := by
  obtain ⟨K, hK, h⟩ := h.steps hd
  have hN : ∀ n : Nat, Bd (f b - f a - σ * (b - a)) (ε * (b - a) + K * ((b - a) * (b - a)) * ((n + 1 : Nat) : Rat)⁻¹) := by
    intro n
    have hp : (0 : Rat) < ((n + 1 : Nat) : Rat) := Rat.natCast_pos.2 (by omega)
    have h5 : ((n + 1 : Nat) : Rat) * ((n + 1 : Nat) : Rat)⁻¹ = 1 := Rat.mul_inv_cancel _ (by grind)
    have h6 : 0 ≤ ((n + 1 : Nat) : Rat)⁻¹ := (inv_nn hp).1
    have h7 := h ((b - a) * ((n + 1 : Nat) : Rat)⁻¹) (Rat.mul_nonneg (by grind) h6) (n + 1)
    generalize ((n + 1 : Nat) : Rat) = N at *
    have e : N * ((b - a) * N⁻¹) = b - a := by
      have : N * ((b - a) * N⁻¹) = (b - a) * (N * N⁻¹) := by grind
      rw [this, h5]; grind
    rw [e, show a + (b - a) = b by grind] at h7
    refine (h7 Rat.le_refl).mono ?_
    have e2 : N * (ε * ((b - a) * N⁻¹) + K * ((b - a) * N⁻¹ * ((b - a) * N⁻¹))) = (ε * (b - a) + K * ((b - a) * (b - a)) * N⁻¹) * (N * N⁻¹) := by grind
    rw [e2, h5]; grind
  refine ⟨?_, arch fun n => (hN n).2⟩
  have := arch (X := -(f b - f a - σ * (b - a))) (E := ε * (b - a)) (D := K * ((b - a) * (b - a))) fun n => by have := (hN n).1; grind
  grind
end Go.Lk
end

section
/- The program's sine and cosine of an eighth of a turn: their squares' sum is near 1; magnitudes near 1. -/
namespace Go.Lk
set_option linter.unusedSimpArgs false
set_option linter.unusedVariables false
set_option maxRecDepth 10000

theorem qv_const {x : Nat} {n d : Int} (hd : d ≠ 0) (h : fx x * d = n * (U : Int)) : qv x = (n : Rat) / (d : Rat) := by
  have hU := UR_pos
  have h1 : ((fx x * d : Int) : Rat) = ((n * (U : Int) : Int) : Rat) := by rw [h]
  rw [Rat.intCast_mul, Rat.intCast_mul, ← qv_U] at h1
  have hd' : ((d : Int) : Rat) ≠ 0 := fun h => hd (by exact_mod_cast h)
  have h2 : qv x * UR * (d : Rat) = (n : Rat) * UR := h1
  have h3 : qv x * (d : Rat) * UR = (n : Rat) * UR := by grind
  have h4 : (qv x * (d : Rat) - n) * UR = 0 := by grind
  rcases Rat.mul_eq_zero.1 h4 with h5 | h5
  · have h6 : qv x * (d : Rat) = n := by grind
    rw [← h6, Rat.div_def, Rat.mul_assoc, Rat.mul_inv_cancel _ hd', Rat.mul_one]
  · rw [h5] at hU; exact absurd hU (by decide)
/-! ### Horner's way -/
def hn (z : Nat) : List Nat → Nat → Nat
  | [], p => p
  | c :: l, p => hn z l (fadd (fmul p z) c)
def hP (ζ : Rat) : List Rat → Rat → Rat
  | [], P => P
  | κ :: l, P => hP ζ l (κ + ζ * P)
def eStep (Z e A A' : Rat) : Rat := e * Z + (A + e) * Z * eta + tau + (A' + e * Z + (A + e) * Z * eta + tau) * eta + tau
def hE (Z : Rat) : List Rat → Rat → Rat → Option (Rat × Rat)
  | [], e, A => some (e, A)
  | κ :: l, e, A => if A + e ≤ 1000 ∧ rabs κ ≤ 1000 then hE Z l (eStep Z e A (rabs κ + Z * A)) (rabs κ + Z * A) else none
theorem eta_small : 0 ≤ eta ∧ eta ≤ 1 / 1000000 ∧ 0 ≤ tau ∧ tau ≤ eta / 1000000000000 := by decide +kernel
theorem h_step {p z c : Nat} {P e κ A A' Z : Rat} (hp : isFin p = true) (hz : isFin z = true) (hc : isFin c = true) (hκ : qv c = κ) (h0 : 0 ≤ qv z) (h1 : qv z ≤ Z) (hZ : Z ≤ 1) (hpe : Bd (qv p - P) e) (hA : Bd P A) (hA' : Bd (κ + qv z * P) A') (hAe : A + e ≤ 1000) (hA2 : A' ≤ 2000) :
    isFin (fadd (fmul p z) c) = true ∧ Bd (qv (fadd (fmul p z) c) - (κ + qv z * P)) (eStep Z e A A') := by
  obtain ⟨t1, t2, t3, t4⟩ := eta_small
  have hz' : Bd (qv z) Z := ⟨by grind, h1⟩
  have hp' : Bd (qv p) (A + e) := (hA.add hpe).of_eq (by grind)
  have hAe0 := hp'.nonneg
  have hZ0 : 0 ≤ Z := by grind
  have hpz : Bd (qv p * qv z) ((A + e) * Z) := hp'.mul hz'
  have hAZ : (A + e) * Z ≤ (A + e) * 1 := Rat.mul_le_mul_of_nonneg_left hZ hAe0
  obtain ⟨m1, m2⟩ := mul_q hp hz hpz (by grind)
  have he1 : Bd ((qv p - P) * qv z) (e * Z) := hpe.mul hz'
  have hd : Bd (qv (fmul p z) - qv z * P) (e * Z + ((A + e) * Z * eta + tau)) := (he1.add m2).of_eq (by grind)
  have hs : Bd (qv (fmul p z) + qv c) (A' + (e * Z + ((A + e) * Z * eta + tau))) := (hA'.add hd).of_eq (by rw [hκ]; grind)
  have he0 := hpe.nonneg
  have heZ : e * Z ≤ e * 1 := Rat.mul_le_mul_of_nonneg_left hZ he0
  have hAZ0 : 0 ≤ (A + e) * Z := Rat.mul_nonneg hAe0 hZ0
  have hAZe : (A + e) * Z * eta ≤ 1000 * (1 / 1000000) := by
    have h5 : (A + e) * Z * eta ≤ (A + e) * Z * (1 / 1000000) := Rat.mul_le_mul_of_nonneg_left t2 hAZ0
    grind
  have hA0 := hA.nonneg
  obtain ⟨s1, s2⟩ := add_q m1 hc hs (by grind)
  refine ⟨s1, ((hd.add s2).of_eq (by rw [hκ]; grind)).mono ?_⟩
  unfold eStep
  grind
theorem hn_err {z : Nat} {Z : Rat} (hz : isFin z = true) (h0 : 0 ≤ qv z) (h1 : qv z ≤ Z) (hZ : Z ≤ 1) : ∀ (l : List (Nat × Rat)) (p : Nat) (P e A e' A' : Rat), isFin p = true → Bd (qv p - P) e → Bd P A → (∀ c ∈ l, isFin c.1 = true ∧ qv c.1 = c.2) → hE Z (l.map (·.2)) e A = some (e', A') →
    isFin (hn z (l.map (·.1)) p) = true ∧ Bd (qv (hn z (l.map (·.1)) p) - hP (qv z) (l.map (·.2)) P) e' ∧ Bd (hP (qv z) (l.map (·.2)) P) A'
  | [], p, P, e, A, e', A', hp, hpe, hA, hl, h => by
    cases h; exact ⟨hp, hpe, hA⟩
  | (c, κ) :: l, p, P, e, A, e', A', hp, hpe, hA, hl, h => by
    simp only [List.map_cons, hE] at h
    split at h
    · rename_i hc
      obtain ⟨c1, c2⟩ := hl (c, κ) (by simp)
      have hA2 : Bd (κ + qv z * P) (rabs κ + Z * A) := (bd_rabs κ).add (Bd.mul ⟨by grind, h1⟩ hA)
      have hA0 := hA.nonneg
      have he0 := hpe.nonneg
      have hZA : Z * A ≤ 1 * A := Rat.mul_le_mul_of_nonneg_right hZ hA0
      obtain ⟨s1, s2⟩ := h_step hp hz c1 c2 h0 h1 hZ hpe hA hA2 hc.1 (by have := hc.1; have := hc.2; grind)
      exact hn_err hz h0 h1 hZ l _ _ _ _ _ _ s1 s2 hA2 (fun c hc => hl c (by simp [hc])) h
    · cases h
def ZZ : Rat := 6169 / 10000
def cosW : List Nat := [13666517717442657437, 4477122120089393304, 13732177094651715420, 4537941361671905306, 13787419979223755799, 4586165620538955093, 13826050856027422720]
def sinW : List Nat := [13648976655441704991, 4460272573143870729, 13716528800881525988, 4523617214285662004, 13774824197408792602, 4575957461383581969, 13818544856648471893]
def cosP (z : Nat) : Nat := hn z cosW 4407590220077447199
def sinP (z : Nat) : Nat := hn z sinW 4389130328383466826
def cosT : List Rat := [(-1 / 2), (6004799503160661 / 144115188075855872), (-6405119470038039 / 4611686018427387904), (3660068268593165 / 147573952589676412928), (-1301357606610903 / 4722366482869645213696), (630961263811347 / 302231454903657293676544), (-7100047627943069 / 618970019642690137449562112), (7573384136472607 / 158456325028528675187087900672)]
def sinT : List Rat := [(-6004799503160661 / 36028797018963968), (4803839602528529 / 576460752303423488), (-3660068268593165 / 18446744073709551616), (1626697008263629 / 590295810358705651712), (-1892883791434041 / 75557863725914323419136), (6212541674450185 / 38685626227668133590597632), (-7573384136472607 / 9903520314283042199192993792), (3563945475987109 / 1267650600228229401496703205376)]
def cosL : List (Nat × Rat) := [(13666517717442657437, (-7100047627943069 / 618970019642690137449562112)), (4477122120089393304, (630961263811347 / 302231454903657293676544)), (13732177094651715420, (-1301357606610903 / 4722366482869645213696)), (4537941361671905306, (3660068268593165 / 147573952589676412928)), (13787419979223755799, (-6405119470038039 / 4611686018427387904)), (4586165620538955093, (6004799503160661 / 144115188075855872)), (13826050856027422720, (-1 / 2))]
def cos8 : Rat := (7573384136472607 / 158456325028528675187087900672)
theorem cos_q0 : isFin 4407590220077447199 = true ∧ qv 4407590220077447199 = (7573384136472607 / 158456325028528675187087900672) := ⟨by decide, (qv_const (n := 7573384136472607) (d := 158456325028528675187087900672) (by decide) (by decide +kernel)).trans (by decide +kernel)⟩
theorem cos_q1 : isFin 13666517717442657437 = true ∧ qv 13666517717442657437 = (-7100047627943069 / 618970019642690137449562112) := ⟨by decide, (qv_const (n := -7100047627943069) (d := 618970019642690137449562112) (by decide) (by decide +kernel)).trans (by decide +kernel)⟩
theorem cos_q2 : isFin 4477122120089393304 = true ∧ qv 4477122120089393304 = (630961263811347 / 302231454903657293676544) := ⟨by decide, (qv_const (n := 630961263811347) (d := 302231454903657293676544) (by decide) (by decide +kernel)).trans (by decide +kernel)⟩
theorem cos_q3 : isFin 13732177094651715420 = true ∧ qv 13732177094651715420 = (-1301357606610903 / 4722366482869645213696) := ⟨by decide, (qv_const (n := -1301357606610903) (d := 4722366482869645213696) (by decide) (by decide +kernel)).trans (by decide +kernel)⟩
theorem cos_q4 : isFin 4537941361671905306 = true ∧ qv 4537941361671905306 = (3660068268593165 / 147573952589676412928) := ⟨by decide, (qv_const (n := 3660068268593165) (d := 147573952589676412928) (by decide) (by decide +kernel)).trans (by decide +kernel)⟩
theorem cos_q5 : isFin 13787419979223755799 = true ∧ qv 13787419979223755799 = (-6405119470038039 / 4611686018427387904) := ⟨by decide, (qv_const (n := -6405119470038039) (d := 4611686018427387904) (by decide) (by decide +kernel)).trans (by decide +kernel)⟩
theorem cos_q6 : isFin 4586165620538955093 = true ∧ qv 4586165620538955093 = (6004799503160661 / 144115188075855872) := ⟨by decide, (qv_const (n := 6004799503160661) (d := 144115188075855872) (by decide) (by decide +kernel)).trans (by decide +kernel)⟩
theorem cos_q7 : isFin 13826050856027422720 = true ∧ qv 13826050856027422720 = (-1 / 2) := ⟨by decide, (qv_const (n := -1) (d := 2) (by decide) (by decide +kernel)).trans (by decide +kernel)⟩
theorem cosL_ok : ∀ c ∈ cosL, isFin c.1 = true ∧ qv c.1 = c.2 := by
  intro c hc
  simp only [cosL, List.mem_cons, List.not_mem_nil, or_false] at hc
  rcases hc with rfl | rfl | rfl | rfl | rfl | rfl | rfl
  · exact cos_q1
  · exact cos_q2
  · exact cos_q3
  · exact cos_q4
  · exact cos_q5
  · exact cos_q6
  · exact cos_q7
def sinL : List (Nat × Rat) := [(13648976655441704991, (-7573384136472607 / 9903520314283042199192993792)), (4460272573143870729, (6212541674450185 / 38685626227668133590597632)), (13716528800881525988, (-1892883791434041 / 75557863725914323419136)), (4523617214285662004, (1626697008263629 / 590295810358705651712)), (13774824197408792602, (-3660068268593165 / 18446744073709551616)), (4575957461383581969, (4803839602528529 / 576460752303423488)), (13818544856648471893, (-6004799503160661 / 36028797018963968))]
def sin8 : Rat := (3563945475987109 / 1267650600228229401496703205376)
theorem sin_q0 : isFin 4389130328383466826 = true ∧ qv 4389130328383466826 = (3563945475987109 / 1267650600228229401496703205376) := ⟨by decide, (qv_const (n := 3563945475987109) (d := 1267650600228229401496703205376) (by decide) (by decide +kernel)).trans (by decide +kernel)⟩
theorem sin_q1 : isFin 13648976655441704991 = true ∧ qv 13648976655441704991 = (-7573384136472607 / 9903520314283042199192993792) := ⟨by decide, (qv_const (n := -7573384136472607) (d := 9903520314283042199192993792) (by decide) (by decide +kernel)).trans (by decide +kernel)⟩
theorem sin_q2 : isFin 4460272573143870729 = true ∧ qv 4460272573143870729 = (6212541674450185 / 38685626227668133590597632) := ⟨by decide, (qv_const (n := 6212541674450185) (d := 38685626227668133590597632) (by decide) (by decide +kernel)).trans (by decide +kernel)⟩
theorem sin_q3 : isFin 13716528800881525988 = true ∧ qv 13716528800881525988 = (-1892883791434041 / 75557863725914323419136) := ⟨by decide, (qv_const (n := -1892883791434041) (d := 75557863725914323419136) (by decide) (by decide +kernel)).trans (by decide +kernel)⟩
theorem sin_q4 : isFin 4523617214285662004 = true ∧ qv 4523617214285662004 = (1626697008263629 / 590295810358705651712) := ⟨by decide, (qv_const (n := 1626697008263629) (d := 590295810358705651712) (by decide) (by decide +kernel)).trans (by decide +kernel)⟩
theorem sin_q5 : isFin 13774824197408792602 = true ∧ qv 13774824197408792602 = (-3660068268593165 / 18446744073709551616) := ⟨by decide, (qv_const (n := -3660068268593165) (d := 18446744073709551616) (by decide) (by decide +kernel)).trans (by decide +kernel)⟩
theorem sin_q6 : isFin 4575957461383581969 = true ∧ qv 4575957461383581969 = (4803839602528529 / 576460752303423488) := ⟨by decide, (qv_const (n := 4803839602528529) (d := 576460752303423488) (by decide) (by decide +kernel)).trans (by decide +kernel)⟩
theorem sin_q7 : isFin 13818544856648471893 = true ∧ qv 13818544856648471893 = (-6004799503160661 / 36028797018963968) := ⟨by decide, (qv_const (n := -6004799503160661) (d := 36028797018963968) (by decide) (by decide +kernel)).trans (by decide +kernel)⟩
theorem sinL_ok : ∀ c ∈ sinL, isFin c.1 = true ∧ qv c.1 = c.2 := by
  intro c hc
  simp only [sinL, List.mem_cons, List.not_mem_nil, or_false] at hc
  rcases hc with rfl | rfl | rfl | rfl | rfl | rfl | rfl
  · exact sin_q1
  · exact sin_q2
  · exact sin_q3
  · exact sin_q4
  · exact sin_q5
  · exact sin_q6
  · exact sin_q7
theorem circ_q : isFin 4618760256179416344 = true ∧ qv 4618760256179416344 = 884279719003555 / 140737488355328 := ⟨by decide, (qv_const (n := 884279719003555) (d := 140737488355328) (by decide) (by decide +kernel)).trans (by decide +kernel)⟩
theorem one_q : isFin 4607182418800017408 = true ∧ qv 4607182418800017408 = 1 := ⟨by decide, (qv_const (n := 1) (d := 1) (by decide) (by decide +kernel)).trans (by decide +kernel)⟩
theorem cosP_err {z : Nat} (hz : isFin z = true) (h0 : 0 ≤ qv z) (h1 : qv z ≤ ZZ) : isFin (cosP z) = true ∧ Bd (qv (cosP z) - pe cosT (qv z)) ((58 / 100) * eta) ∧ Bd (pe cosT (qv z)) (527 / 1000) := by
  obtain ⟨p1, p2⟩ := cos_q0
  have hE0 : ∃ e A, hE ZZ (cosL.map (·.2)) 0 (rabs cos8) = some (e, A) ∧ e ≤ (58 / 100) * eta ∧ A ≤ 527 / 1000 := by
    have h : (match hE ZZ (cosL.map (·.2)) 0 (rabs cos8) with | some (e, A) => decide (e ≤ (58 / 100) * eta ∧ A ≤ 527 / 1000) | none => false) = true := by decide +kernel
    split at h
    · rename_i e A he
      exact ⟨e, A, he, of_decide_eq_true h⟩
    · cases h
  obtain ⟨e, A, he, hle, hA⟩ := hE0
  obtain ⟨r1, r2, r3⟩ := hn_err hz h0 h1 (by decide +kernel) cosL 4407590220077447199 cos8 0 (rabs cos8) e A p1 (by rw [p2]; show Bd (cos8 - cos8) 0; rw [Rat.sub_self]; exact Bd.zero) (bd_rabs _) cosL_ok he
  have hpe : hP (qv z) (cosL.map (·.2)) cos8 = pe cosT (qv z) := by
    simp only [cosL, List.map_cons, List.map_nil, hP, cosT, pe, cos8]
    grind
  rw [hpe] at r2 r3
  exact ⟨r1, r2.mono hle, r3.mono hA⟩
theorem sinP_err {z : Nat} (hz : isFin z = true) (h0 : 0 ≤ qv z) (h1 : qv z ≤ ZZ) : isFin (sinP z) = true ∧ Bd (qv (sinP z) - pe sinT (qv z)) ((183 / 1000) * eta) ∧ Bd (pe sinT (qv z)) (172 / 1000) := by
  obtain ⟨p1, p2⟩ := sin_q0
  have hE0 : ∃ e A, hE ZZ (sinL.map (·.2)) 0 (rabs sin8) = some (e, A) ∧ e ≤ (183 / 1000) * eta ∧ A ≤ 172 / 1000 := by
    have h : (match hE ZZ (sinL.map (·.2)) 0 (rabs sin8) with | some (e, A) => decide (e ≤ (183 / 1000) * eta ∧ A ≤ 172 / 1000) | none => false) = true := by decide +kernel
    split at h
    · rename_i e A he
      exact ⟨e, A, he, of_decide_eq_true h⟩
    · cases h
  obtain ⟨e, A, he, hle, hA⟩ := hE0
  obtain ⟨r1, r2, r3⟩ := hn_err hz h0 h1 (by decide +kernel) sinL 4389130328383466826 sin8 0 (rabs sin8) e A p1 (by rw [p2]; show Bd (sin8 - sin8) 0; rw [Rat.sub_self]; exact Bd.zero) (bd_rabs _) sinL_ok he
  have hpe : hP (qv z) (sinL.map (·.2)) sin8 = pe sinT (qv z) := by
    simp only [sinL, List.map_cons, List.map_nil, hP, sinT, pe, sin8]
    grind
  rw [hpe] at r2 r3
  exact ⟨r1, r2.mono hle, r3.mono hA⟩
end Go.Lk
end

section
/- The squares' sum of the program's sine and cosine is near 1. -/
namespace Go.Lk
set_option linter.unusedSimpArgs false
set_option linter.unusedVariables false
set_option maxRecDepth 10000
def cosE (z : Nat) : Nat := fadd (fmul (cosP z) z) 4607182418800017408
def sinE (z : Nat) : Nat := fadd (fmul (sinP z) z) 4607182418800017408
def cosR (ζ : Rat) : Rat := 1 + ζ * pe cosT ζ
def sinR (ζ : Rat) : Rat := 1 + ζ * pe sinT ζ
theorem neg_tail {ζ a : Rat} {l : List Rat} (h0 : 0 ≤ ζ) (h1 : ζ ≤ ZZ) (hl : pe (l.map rabs) ZZ ≤ 1 / 20) (ha : a ≤ -(1 / 10)) : pe (a :: l) ζ ≤ 0 := by
  have hb := pe_bd h0 h1 l
  have h2 : Bd (ζ * pe l ζ) (ZZ * pe (l.map rabs) ZZ) := Bd.mul (⟨by grind, h1⟩ : Bd ζ ZZ) hb
  have h3 : ZZ * pe (l.map rabs) ZZ ≤ ZZ * (1 / 20) := Rat.mul_le_mul_of_nonneg_left hl (by decide +kernel)
  have h4 : ZZ * (1 / 20) ≤ 1 / 10 := by decide +kernel
  show a + ζ * pe l ζ ≤ 0
  have := h2.2
  grind
theorem one_range {ζ P A : Rat} (h0 : 0 ≤ ζ) (h1 : ζ ≤ ZZ) (hP : Bd P A) (hn : P ≤ 0) (hA : A ≤ 527 / 1000) : 0 ≤ 1 + ζ * P ∧ 1 + ζ * P ≤ 1 ∧ 6 / 10 ≤ 1 + ζ * P := by
  have k1 := Rat.mul_nonneg (a := ζ) (b := -P) h0 (by grind)
  have h2 : Bd (ζ * P) (ZZ * A) := Bd.mul (⟨by grind, h1⟩ : Bd ζ ZZ) hP
  have h3 : ZZ * A ≤ ZZ * (527 / 1000) := Rat.mul_le_mul_of_nonneg_left hA (by decide +kernel)
  have h4 : ZZ * (527 / 1000) ≤ 4 / 10 := by decide +kernel
  have := h2.1
  refine ⟨by grind, by grind, by grind⟩
theorem cosE_err {z : Nat} (hz : isFin z = true) (h0 : 0 ≤ qv z) (h1 : qv z ≤ ZZ) : isFin (cosE z) = true ∧ Bd (qv (cosE z) - cosR (qv z)) (1684 / 1000 * eta) ∧ 0 ≤ cosR (qv z) ∧ cosR (qv z) ≤ 1 ∧ 6 / 10 ≤ cosR (qv z) := by
  obtain ⟨p1, p2, p3⟩ := cosP_err hz h0 h1
  have hneg : pe cosT (qv z) ≤ 0 := neg_tail h0 h1 (by decide +kernel) (by decide +kernel)
  obtain ⟨o1, o2, o3⟩ := one_range h0 h1 p3 hneg (by decide +kernel)
  obtain ⟨s1, s2⟩ := h_step p1 hz one_q.1 one_q.2 h0 h1 (by decide +kernel) p2 p3 (A' := 1) ⟨by grind, o2⟩ (by decide +kernel) (by decide +kernel)
  exact ⟨s1, s2.mono (by decide +kernel), o1, o2, o3⟩
theorem sinE_err {z : Nat} (hz : isFin z = true) (h0 : 0 ≤ qv z) (h1 : qv z ≤ ZZ) : isFin (sinE z) = true ∧ Bd (qv (sinE z) - sinR (qv z)) (1220 / 1000 * eta) ∧ 0 ≤ sinR (qv z) ∧ sinR (qv z) ≤ 1 ∧ 6 / 10 ≤ sinR (qv z) := by
  obtain ⟨p1, p2, p3⟩ := sinP_err hz h0 h1
  have hneg : pe sinT (qv z) ≤ 0 := neg_tail h0 h1 (by decide +kernel) (by decide +kernel)
  obtain ⟨o1, o2, o3⟩ := one_range h0 h1 p3 hneg (by decide +kernel)
  obtain ⟨s1, s2⟩ := h_step p1 hz one_q.1 one_q.2 h0 h1 (by decide +kernel) p2 p3 (A' := 1) ⟨by grind, o2⟩ (by decide +kernel) (by decide +kernel)
  exact ⟨s1, s2.mono (by decide +kernel), o1, o2, o3⟩
/-- cos² + sin², but for a little. -/
def sqD : List Rat := padd (padd (pmul (1 :: cosT) (1 :: cosT)) (0 :: pmul (1 :: sinT) (1 :: sinT))) [-1]
theorem sq_one {ζ : Rat} (h0 : 0 ≤ ζ) (h1 : ζ ≤ ZZ) : Bd (cosR ζ * cosR ζ + ζ * (sinR ζ * sinR ζ) - 1) (eta / 20) := by
  have h := (pe_bd h0 h1 sqD).mono (B := eta / 20) (by decide +kernel)
  have e : pe sqD ζ = cosR ζ * cosR ζ + ζ * (sinR ζ * sinR ζ) - 1 := by
    unfold sqD
    rw [pe_add, pe_add, pe_mul]
    have e1 : pe (0 :: pmul (1 :: sinT) (1 :: sinT)) ζ = ζ * (pe (1 :: sinT) ζ * pe (1 :: sinT) ζ) := by
      show 0 + ζ * pe (pmul (1 :: sinT) (1 :: sinT)) ζ = _
      rw [pe_mul]; grind
    have e2 : pe [-1] ζ = -1 := by show -1 + ζ * 0 = -1; grind
    rw [e1, e2]
    show (1 + ζ * pe cosT ζ) * (1 + ζ * pe cosT ζ) + ζ * ((1 + ζ * pe sinT ζ) * (1 + ζ * pe sinT ζ)) + -1 = _
    unfold cosR sinR
    grind
  exact h.of_eq e
theorem sq_bd {x y A e : Rat} (h : Bd (x - y) e) (hy : Bd y A) : Bd (x * x - y * y) (e * (2 * A + e)) := by
  have h2 : Bd (x + y) (2 * A + e) := ((h.add hy).add hy).of_eq (by grind) |>.mono (by grind)
  exact (h.mul h2).of_eq (by grind)
/-- The two of an eighth of a turn. -/
theorem eighth_near {a : Nat} (ha : isFin a = true) (sa : sg a = false) (h8 : qv a ≤ 1 / 8) :
    isFin (cosE (fmul (fmul a 4618760256179416344) (fmul a 4618760256179416344))) = true ∧ isFin (fmul (sinE (fmul (fmul a 4618760256179416344) (fmul a 4618760256179416344))) (fmul a 4618760256179416344)) = true ∧
    Bd (qv (cosE (fmul (fmul a 4618760256179416344) (fmul a 4618760256179416344))) * qv (cosE (fmul (fmul a 4618760256179416344) (fmul a 4618760256179416344))) +
      qv (fmul (sinE (fmul (fmul a 4618760256179416344) (fmul a 4618760256179416344))) (fmul a 4618760256179416344)) * qv (fmul (sinE (fmul (fmul a 4618760256179416344) (fmul a 4618760256179416344))) (fmul a 4618760256179416344)) - 1) (68 / 10 * eta) := by
  obtain ⟨t1, t2, t3, t4⟩ := eta_small
  obtain ⟨c1, c2⟩ := circ_q
  have na := (qv_nn sa).2
  have sc : sg 4618760256179416344 = false := by decide
  have sgm : ∀ {x y : Nat}, isFin x = true → isFin y = true → sg x = sg y → sg (fmul x y) = false := by
    intro x y hx hy hs
    obtain ⟨r, e, hr⟩ := fmul_near hx hy
    rw [e, sg_wd (by have := hr.1; unfold infR at this; omega), hs, Bool.xor_self]
  have hac : Bd (qv a * qv 4618760256179416344) (785398163398 / 1000000000000) := by
    rw [c2]
    have k1 := Rat.mul_nonneg (a := qv a) (b := 884279719003555 / 140737488355328) na (by decide +kernel)
    have k2 := Rat.mul_le_mul_of_nonneg_right h8 (c := 884279719003555 / 140737488355328) (by decide +kernel)
    have k3 : (1 / 8 : Rat) * (884279719003555 / 140737488355328) ≤ 785398163398 / 1000000000000 := by decide +kernel
    constructor <;> grind
  obtain ⟨y1, y2⟩ := mul_q ha c1 hac (by decide +kernel)
  have sy : sg (fmul a 4618760256179416344) = false := sgm ha c1 (by rw [sa, sc])
  generalize fmul a 4618760256179416344 = y at *
  have ny := (qv_nn sy).2
  have hy : qv y ≤ 78539817 / 100000000 := by
    have h1 := hac.2
    have h2 := y2.2
    have h3 : 785398163398 / 1000000000000 * eta + tau ≤ 1 / 1000000000 := by decide +kernel
    grind
  have by' : Bd (qv y) (78539817 / 100000000) := ⟨by grind, hy⟩
  have hyy := by'.mul by'
  obtain ⟨z1, z2⟩ := mul_q y1 y1 hyy (by decide +kernel)
  have sz : sg (fmul y y) = false := sgm y1 y1 rfl
  generalize fmul y y = z at *
  have nz := (qv_nn sz).2
  have hz : qv z ≤ ZZ := by
    have h1 := hyy.2
    have h2 := z2.2
    have h3 : (78539817 / 100000000 : Rat) * (78539817 / 100000000) + (78539817 / 100000000 * (78539817 / 100000000) * eta + tau) ≤ ZZ := by decide +kernel
    grind
  obtain ⟨C1, C2, C3, C4, C5⟩ := cosE_err z1 nz hz
  obtain ⟨S1, S2, S3, S4, S5⟩ := sinE_err z1 nz hz
  have hone := sq_one nz hz
  have bC : Bd (cosR (qv z)) 1 := ⟨by grind, C4⟩
  have bS : Bd (sinR (qv z)) 1 := ⟨by grind, S4⟩
  generalize cosR (qv z) = C at *
  generalize sinR (qv z) = S at *
  have q1 := sq_bd C2 bC
  have q2 := sq_bd S2 bS
  -- the sine itself
  have bS2 : Bd (qv (sinE z)) (1 + 1220 / 1000 * eta) := (bS.add S2).of_eq (by grind)
  have bσ := bS2.mul by'
  obtain ⟨s1, s2⟩ := mul_q S1 y1 bσ (by decide +kernel)
  refine ⟨C1, s1, ?_⟩
  have q3 := sq_bd s2 bσ
  generalize qv (fmul (sinE z) y) = s at *
  generalize qv (sinE z) = p at *
  generalize qv (cosE z) = c at *
  -- σ² - S² ζ
  have q4 : Bd ((p * p - S * S) * (qv y * qv y)) (1220 / 1000 * eta * (2 * 1 + 1220 / 1000 * eta) * (78539817 / 100000000 * (78539817 / 100000000))) := q2.mul hyy
  have q5 : Bd (S * S * (qv y * qv y - qv z)) (1 * 1 * (78539817 / 100000000 * (78539817 / 100000000) * eta + tau)) := (bS.mul bS).mul (z2.neg.of_eq (by grind))
  have hall := ((((q1.add q3).add q4).add q5).add hone).of_eq (s := c * c + s * s - 1) (by grind)
  exact hall.mono (by decide +kernel)
end Go.Lk
end

section
/- The arctangent's sum of powers, of sine over cosine, is the angle, but for a little. -/
namespace Go.Lk
set_option linter.unusedSimpArgs false
set_option linter.unusedVariables false
set_option maxRecDepth 10000
set_option maxHeartbeats 1000000
/-! ### Sine and cosine -/
def sL : List Rat := 1 :: sinT
def cL : List Rat := 1 :: cosT
def sD (y : Rat) : Rat := pe sL (y * y) + y * (pe (dl sL) (y * y) * (y + y))
def cD (y : Rat) : Rat := pe (dl cL) (y * y) * (y + y)
def sF (y : Rat) : Rat := y * pe sL (y * y)
def cF (y : Rat) : Rat := pe cL (y * y)
theorem Df.sq (a b : Rat) : Df a b (fun y => y * y) (fun y => y + y) := ((Df.id a b).mul (Df.id a b)).congr (fun _ => rfl) (fun u => by grind)
theorem Df.cF (a b : Rat) : Df a b cF cD := (Df.pe (Df.sq a b) cL).congr (fun _ => rfl) (fun _ => rfl)
theorem Df.sF (a b : Rat) : Df a b sF sD := ((Df.id a b).mul (Df.pe (Df.sq a b) sL)).congr (fun _ => rfl) (fun u => by unfold sD; grind)
theorem circle1 {y : Rat} (h : y * y ≤ ZZ) (h0 : 0 ≤ y * y) : Bd (cF y * cF y + sF y * sF y - 1) (eta / 20) := by
  refine (sq_one h0 h).of_eq ?_
  have e1 : cF y = cosR (y * y) := rfl
  have e2 : sF y = y * sinR (y * y) := rfl
  rw [e1, e2]; grind
/-! ### The arctangent -/
end Go.Lk
end

section
/- The arctangent's sum of powers, of sine over cosine and of its complement. -/
namespace Go.Lk
set_option linter.unusedSimpArgs false
set_option linter.unusedVariables false
set_option maxRecDepth 10000
set_option maxHeartbeats 1000000
theorem sq_nn (x : Rat) : 0 ≤ x * x := by
  rcases Rat.le_total (a := 0) (b := x) with h | h
  · exact Rat.mul_nonneg h h
  · have := Rat.mul_nonneg (a := -x) (b := -x) (by grind) (by grind); grind
theorem sqr_le {x y : Rat} (h0 : 0 ≤ x) (h : x ≤ y) : x * x ≤ y * y := by
  have h1 := Rat.mul_le_mul_of_nonneg_left h h0
  have h2 := Rat.mul_le_mul_of_nonneg_right h (c := y) (by grind)
  grind
theorem Bd.sqr {x A : Rat} (h : Bd x A) : x * x ≤ A * A := (h.mul h).2
/-- A whole circle, as the program has it; an eighth. -/
def cir : Rat := 884279719003555 / 140737488355328
def YY : Rat := cir / 8
theorem YY_sq : YY * YY ≤ ZZ := by decide +kernel
theorem pe_cons (c : Rat) (l : List Rat) (z : Rat) : pe (c :: l) z = c + z * pe l z := rfl
theorem low_tail {ζ a : Rat} {l : List Rat} (h0 : 0 ≤ ζ) (h1 : ζ ≤ ZZ) (hl : ZZ * pe (l.map rabs) ZZ ≤ 3 / 100) (ha : a ≤ -(1 / 2)) : pe (a :: l) ζ ≤ -(47 / 100) := by
  have h2 := (Bd.mul (⟨by grind, h1⟩ : Bd ζ ZZ) (pe_bd h0 h1 l)).2
  show a + ζ * pe l ζ ≤ -(47 / 100)
  grind
theorem cosT_bd {ζ : Rat} (h0 : 0 ≤ ζ) (h : ζ ≤ ZZ) : -(527 / 1000) ≤ pe cosT ζ ∧ pe cosT ζ ≤ -(47 / 100) := by
  refine ⟨((pe_bd h0 h cosT).mono (B := 527 / 1000) (by decide +kernel)).1, ?_⟩
  exact low_tail h0 h (by decide +kernel) (by decide +kernel)
theorem sinT_bd {ζ : Rat} (h0 : 0 ≤ ζ) (h : ζ ≤ ZZ) : -(172 / 1000) ≤ pe sinT ζ ∧ pe sinT ζ ≤ 0 := by
  refine ⟨((pe_bd h0 h sinT).mono (B := 172 / 1000) (by decide +kernel)).1, neg_tail h0 h (by decide +kernel) (by decide +kernel)⟩
theorem cs_range {y : Rat} (h0 : 0 ≤ y) (h : y ≤ YY) : 0 ≤ y * y ∧ y * y ≤ ZZ ∧ 1 - (527 / 1000) * (y * y) ≤ cF y ∧ cF y ≤ 1 - (47 / 100) * (y * y) ∧ (89 / 100) * y ≤ sF y ∧ sF y ≤ y ∧ 6 / 10 ≤ cF y := by
  have h1 := sq_nn y
  have h2 := Rat.le_trans (sqr_le h0 h) YY_sq
  obtain ⟨c1, c2⟩ := cosT_bd h1 h2
  obtain ⟨s1, s2⟩ := sinT_bd h1 h2
  have ec : cF y = 1 + (y * y) * pe cosT (y * y) := rfl
  have es : sF y = y * (1 + (y * y) * pe sinT (y * y)) := rfl
  have hz : ZZ ≤ 617 / 1000 := by decide +kernel
  generalize pe cosT (y * y) = C at *
  generalize pe sinT (y * y) = S at *
  have k1 := Rat.mul_nonneg h1 (show 0 ≤ C + 527 / 1000 by grind)
  have k2 := Rat.mul_nonneg h1 (show 0 ≤ -(47 / 100) - C by grind)
  have k3 := Rat.mul_nonneg h1 (show 0 ≤ S + 172 / 1000 by grind)
  have k4 := Rat.mul_nonneg h0 (Rat.mul_nonneg h1 (show 0 ≤ -S by grind))
  have k5 := Rat.mul_nonneg h0 (show 0 ≤ (y * y) * (S + 172 / 1000) + (172 / 1000) * (617 / 1000 - y * y) by grind)
  rw [ec, es]
  refine ⟨h1, h2, by grind, by grind, by grind, by grind, by grind⟩
end Go.Lk
end

section
/- Complex numbers of rationals, and their magnitudes by squares. -/
namespace Go.Lk
set_option linter.unusedSimpArgs false
set_option linter.unusedVariables false
set_option maxRecDepth 10000
set_option maxHeartbeats 1000000
structure Cq where
  re : Rat
  im : Rat
namespace Cq
def add (z w : Cq) : Cq := ⟨z.re + w.re, z.im + w.im⟩
def sub (z w : Cq) : Cq := ⟨z.re - w.re, z.im - w.im⟩
def mul (z w : Cq) : Cq := ⟨z.re * w.re - z.im * w.im, z.re * w.im + z.im * w.re⟩
def conj (z : Cq) : Cq := ⟨z.re, -z.im⟩
def zero : Cq := ⟨0, 0⟩
def one : Cq := ⟨1, 0⟩
instance : _root_.Add Cq := ⟨add⟩
instance : _root_.Sub Cq := ⟨sub⟩
instance : _root_.Mul Cq := ⟨mul⟩
theorem ext {z w : Cq} (h : z.re = w.re) (k : z.im = w.im) : z = w := by
  cases z; cases w; simp only at h k; rw [h, k]
end Cq
/-- The magnitude of z is at most r. -/
def Nb (z : Cq) (r : Rat) : Prop := 0 ≤ r ∧ z.re * z.re + z.im * z.im ≤ r * r
theorem le_of_sq {p q : Rat} (hq : 0 ≤ q) (h : p * p ≤ q * q) : p ≤ q := by
  refine Rat.not_lt.1 fun hlt => ?_
  have h1 := Rat.mul_lt_mul_of_pos_left hlt (show 0 < p by grind)
  have h2 := Rat.mul_le_mul_of_nonneg_right (Rat.le_of_lt hlt) hq
  grind
theorem Nb.mono {z : Cq} {r s : Rat} (h : Nb z r) (k : r ≤ s) : Nb z s := ⟨by have := h.1; grind, Rat.le_trans h.2 (sqr_le h.1 k)⟩
theorem Nb.re {z : Cq} {r : Rat} (h : Nb z r) : Bd z.re r := by
  have h1 := sq_nn z.im
  have h2 := h.2
  exact ⟨by have := le_of_sq (p := -z.re) h.1 (by grind); grind, le_of_sq h.1 (by grind)⟩
theorem Nb.im {z : Cq} {r : Rat} (h : Nb z r) : Bd z.im r := by
  have h1 := sq_nn z.re
  have h2 := h.2
  exact ⟨by have := le_of_sq (p := -z.im) h.1 (by grind); grind, le_of_sq h.1 (by grind)⟩
theorem Nb.of {z : Cq} {a b : Rat} (h : Bd z.re a) (k : Bd z.im b) : Nb z (a + b) := by
  have h1 := h.sqr
  have k1 := k.sqr
  have h2 := Rat.mul_nonneg h.nonneg k.nonneg
  exact ⟨by have := h.nonneg; have := k.nonneg; grind, by grind⟩
theorem cauchy {a b c d : Rat} : (a * c + b * d) * (a * c + b * d) ≤ (a * a + b * b) * (c * c + d * d) := by
  have := sq_nn (a * d - b * c)
  grind
theorem Nb.add {z w : Cq} {r s : Rat} (h : Nb z r) (k : Nb w s) : Nb (z + w) (r + s) := by
  refine ⟨by have := h.1; have := k.1; grind, ?_⟩
  have h1 := h.2
  have k1 := k.2
  have c := cauchy (a := z.re) (b := z.im) (c := w.re) (d := w.im)
  have n1 := sq_nn w.re
  have n2 := sq_nn w.im
  have n3 := sq_nn r
  have p1 : (z.re * z.re + z.im * z.im) * (w.re * w.re + w.im * w.im) ≤ (r * r) * (w.re * w.re + w.im * w.im) := Rat.mul_le_mul_of_nonneg_right h1 (by grind)
  have p2 : (r * r) * (w.re * w.re + w.im * w.im) ≤ (r * r) * (s * s) := Rat.mul_le_mul_of_nonneg_left k1 n3
  have e : (r * s) * (r * s) = (r * r) * (s * s) := by grind
  have q := le_of_sq (p := z.re * w.re + z.im * w.im) (q := r * s) (Rat.mul_nonneg h.1 k.1) (by rw [e]; exact Rat.le_trans c (Rat.le_trans p1 p2))
  show (z.re + w.re) * (z.re + w.re) + (z.im + w.im) * (z.im + w.im) ≤ (r + s) * (r + s)
  clear c p1 p2 e n1 n2 n3
  grind
theorem Nb.neg {w : Cq} {s : Rat} (k : Nb w s) : Nb ⟨-w.re, -w.im⟩ s := ⟨k.1, by have := k.2; show -w.re * -w.re + -w.im * -w.im ≤ s * s; grind⟩
theorem Nb.of_eq {z w : Cq} {r : Rat} (h : Nb z r) (e : z = w) : Nb w r := e ▸ h
theorem Nb.sub {z w : Cq} {r s : Rat} (h : Nb z r) (k : Nb w s) : Nb (z - w) (r + s) :=
  (h.add k.neg).of_eq (Cq.ext (by show z.re + -w.re = z.re - w.re; grind) (by show z.im + -w.im = z.im - w.im; grind))
theorem Nb.mul {z w : Cq} {r s : Rat} (h : Nb z r) (k : Nb w s) : Nb (z * w) (r * s) := by
  refine ⟨Rat.mul_nonneg h.1 k.1, ?_⟩
  have n1 := sq_nn w.re
  have n2 := sq_nn w.im
  have p1 : (z.re * z.re + z.im * z.im) * (w.re * w.re + w.im * w.im) ≤ (r * r) * (w.re * w.re + w.im * w.im) := Rat.mul_le_mul_of_nonneg_right h.2 (by grind)
  have p2 : (r * r) * (w.re * w.re + w.im * w.im) ≤ (r * r) * (s * s) := Rat.mul_le_mul_of_nonneg_left k.2 (sq_nn r)
  show (z.re * w.re - z.im * w.im) * (z.re * w.re - z.im * w.im) + (z.re * w.im + z.im * w.re) * (z.re * w.im + z.im * w.re) ≤ r * s * (r * s)
  have e : (z.re * w.re - z.im * w.im) * (z.re * w.re - z.im * w.im) + (z.re * w.im + z.im * w.re) * (z.re * w.im + z.im * w.re) = (z.re * z.re + z.im * z.im) * (w.re * w.re + w.im * w.im) := by grind
  have e2 : r * s * (r * s) = (r * r) * (s * s) := by grind
  rw [e, e2]
  exact Rat.le_trans p1 p2
theorem Nb.conj {w : Cq} {s : Rat} (k : Nb w s) : Nb w.conj s := ⟨k.1, by have := k.2; show w.re * w.re + -w.im * -w.im ≤ s * s; grind⟩
theorem Nb.zero : Nb Cq.zero 0 := ⟨by decide, by decide +kernel⟩
/-- Nearer than r: the difference's magnitude. -/
def Nd (z w : Cq) (r : Rat) : Prop := Nb (z - w) r
theorem Nd.mono {z w : Cq} {r s : Rat} (h : Nd z w r) (k : r ≤ s) : Nd z w s := Nb.mono h k
theorem Nd.trans {x y z : Cq} {r s : Rat} (h : Nd x y r) (k : Nd y z s) : Nd x z (r + s) :=
  (Nb.add h k).of_eq (Cq.ext (by show x.re - y.re + (y.re - z.re) = x.re - z.re; grind) (by show x.im - y.im + (y.im - z.im) = x.im - z.im; grind))
theorem Nd.symm {x y : Cq} {r : Rat} (h : Nd x y r) : Nd y x r :=
  (Nb.neg h).of_eq (Cq.ext (by show -(x.re - y.re) = y.re - x.re; grind) (by show -(x.im - y.im) = y.im - x.im; grind))
theorem Nd.refl (x : Cq) : Nd x x 0 := ⟨by decide, by show (x.re - x.re) * (x.re - x.re) + (x.im - x.im) * (x.im - x.im) ≤ 0 * 0; grind⟩
theorem Nd.of {x y : Cq} {a b : Rat} (h : Bd (x.re - y.re) a) (k : Bd (x.im - y.im) b) : Nd x y (a + b) := Nb.of h k
theorem Nd.mul_l {x y z : Cq} {r s : Rat} (h : Nd x y r) (k : Nb z s) : Nd (z * x) (z * y) (s * r) :=
  (k.mul h).of_eq (Cq.ext (by show z.re * (x.re - y.re) - z.im * (x.im - y.im) = z.re * x.re - z.im * x.im - (z.re * y.re - z.im * y.im); grind) (by show z.re * (x.im - y.im) + z.im * (x.re - y.re) = z.re * x.im + z.im * x.re - (z.re * y.im + z.im * y.re); grind))
theorem Cq.mul_comm (z w : Cq) : z * w = w * z := Cq.ext (by show z.re * w.re - z.im * w.im = w.re * z.re - w.im * z.im; grind) (by show z.re * w.im + z.im * w.re = w.re * z.im + w.im * z.re; grind)
theorem Cq.mul_assoc (x y z : Cq) : x * y * z = x * (y * z) := Cq.ext
  (by show (x.re * y.re - x.im * y.im) * z.re - (x.re * y.im + x.im * y.re) * z.im = x.re * (y.re * z.re - y.im * z.im) - x.im * (y.re * z.im + y.im * z.re); grind)
  (by show (x.re * y.re - x.im * y.im) * z.im + (x.re * y.im + x.im * y.re) * z.re = x.re * (y.re * z.im + y.im * z.re) + x.im * (y.re * z.re - y.im * z.im); grind)
theorem Cq.one_mul (z : Cq) : Cq.one * z = z := Cq.ext (by show 1 * z.re - 0 * z.im = z.re; grind) (by show 1 * z.im + 0 * z.re = z.im; grind)
theorem Nd.mul_r {x y z : Cq} {r s : Rat} (h : Nd x y r) (k : Nb z s) : Nd (x * z) (y * z) (s * r) := by
  rw [Cq.mul_comm x, Cq.mul_comm y]; exact h.mul_l k
theorem Nd.nb {x y : Cq} {r s : Rat} (h : Nd x y r) (k : Nb y s) : Nb x (r + s) :=
  (Nb.add h k).of_eq (Cq.ext (by show x.re - y.re + y.re = x.re; grind) (by show x.im - y.im + y.im = x.im; grind))
end Go.Lk
end

section
/- Products, differences and sums of complex floats: errors. -/
namespace Go.Lk
set_option linter.unusedSimpArgs false
set_option linter.unusedVariables false
set_option maxRecDepth 100000
set_option maxHeartbeats 1000000
theorem et_small : 0 ≤ eta ∧ eta ≤ 1 / 1000000000000 ∧ 0 ≤ tau ∧ tau ≤ eta / 1000000000000 := by decide +kernel
theorem lin_f1 {X e : Rat} (hX : 0 ≤ X) (hX2 : X ≤ 20000) (he : e = X * eta + tau) : (X + (e + e)) ≤ 1125899906842624 ∧ (e + e) + ((X + (e + e)) * eta + tau) ≤ 31 / 10 * (X * eta) + 4 * tau := by
  subst he
  obtain ⟨t1, t2, t3, t4⟩ := et_small
  have k := Rat.mul_nonneg hX t1
  have k2 := Rat.mul_le_mul_of_nonneg_left t2 hX
  have k3 : X * eta * eta ≤ X * eta * (1 / 1000000000000) := Rat.mul_le_mul_of_nonneg_left t2 k
  have k4 : tau * eta ≤ tau * (1 / 1000000000000) := Rat.mul_le_mul_of_nonneg_left t2 t3
  constructor <;> grind
theorem mulc {a b c d : Nat} (fa : isFin a = true) (fb : isFin b = true) (fc : isFin c = true) (fd : isFin d = true) {A B : Rat} (hz : Nb ⟨qv a, qv b⟩ A) (hw : Nb ⟨qv c, qv d⟩ B) (hAB : A * B ≤ 20000) :
    isFin (fsub (fmul a c) (fmul b d)) = true ∧ isFin (fadd (fmul a d) (fmul b c)) = true ∧
    Nd ⟨qv (fsub (fmul a c) (fmul b d)), qv (fadd (fmul a d) (fmul b c))⟩ (⟨qv a, qv b⟩ * ⟨qv c, qv d⟩) (8 * (A * B * eta) + 10 * tau) := by
  obtain ⟨t1, t2, t3, t4⟩ := et_small
  have hX0 := Rat.mul_nonneg hz.1 hw.1
  have hza : Bd (qv a) A := hz.re
  have hzb : Bd (qv b) A := hz.im
  have hwc : Bd (qv c) B := hw.re
  have hwd : Bd (qv d) B := hw.im
  have hm := hz.mul hw
  have hre : Bd (qv a * qv c - qv b * qv d) (A * B) := hm.re
  have him : Bd (qv a * qv d + qv b * qv c) (A * B) := hm.im
  have big : A * B ≤ 1125899906842624 := by grind
  obtain ⟨f1, e1⟩ := mul_q fa fc (hza.mul hwc) big
  obtain ⟨f2, e2⟩ := mul_q fb fd (hzb.mul hwd) big
  obtain ⟨f3, e3⟩ := mul_q fa fd (hza.mul hwd) big
  obtain ⟨f4, e4⟩ := mul_q fb fc (hzb.mul hwc) big
  obtain ⟨l1, l2⟩ := lin_f1 hX0 hAB rfl
  obtain ⟨s1, s2⟩ := sub_q f1 f2 (((hre.add (e1.sub e2))).of_eq (by grind)) l1
  obtain ⟨s3, s4⟩ := add_q f3 f4 (((him.add (e3.add e4))).of_eq (by grind)) l1
  refine ⟨s1, s3, ?_⟩
  have r1 : Bd (qv (fsub (fmul a c) (fmul b d)) - (qv a * qv c - qv b * qv d)) (31 / 10 * (A * B * eta) + 4 * tau) := (((e1.sub e2).add s2).of_eq (by grind)).mono l2
  have r2 : Bd (qv (fadd (fmul a d) (fmul b c)) - (qv a * qv d + qv b * qv c)) (31 / 10 * (A * B * eta) + 4 * tau) := (((e3.add e4).add s4).of_eq (by grind)).mono l2
  have k := Rat.mul_nonneg hX0 t1
  exact (Nd.of (x := ⟨_, _⟩) (y := ⟨_, _⟩) r1 r2).mono (by grind)
theorem lin_f2 {P B X e : Rat} (hP : 0 ≤ P) (hP2 : P ≤ 10000) (hB : 0 ≤ B) (hX : 0 ≤ X) (hX2 : X ≤ 11 / 10 * B) (hB2 : B ≤ 10000) (he : e = 8 * (X * eta) + 10 * tau) :
    P + (X + e) ≤ 1125899906842624 ∧ e + (((P + (X + e)) * eta + tau) + ((P + (X + e)) * eta + tau)) ≤ 3 * (P * eta) + 12 * (B * eta) + 14 * tau := by
  subst he
  obtain ⟨t1, t2, t3, t4⟩ := et_small
  have k := Rat.mul_nonneg hX t1
  have kP := Rat.mul_nonneg hP t1
  have k2 := Rat.mul_le_mul_of_nonneg_left t2 hX
  have k3 : X * eta * eta ≤ X * eta * (1 / 1000000000000) := Rat.mul_le_mul_of_nonneg_left t2 k
  have k4 : tau * eta ≤ tau * (1 / 1000000000000) := Rat.mul_le_mul_of_nonneg_left t2 t3
  have k5 := Rat.mul_le_mul_of_nonneg_right hX2 t1
  have k6 := Rat.mul_nonneg hB t1
  constructor
  · clear k3 k4 k5 k6 kP; grind
  · clear k2; grind
theorem cms_err {p1 p2 q1 q2 w1 w2 : Nat} (g1 : isFin p1 = true) (g2 : isFin p2 = true) (g3 : isFin q1 = true) (g4 : isFin q2 = true) (g5 : isFin w1 = true) (g6 : isFin w2 = true) {P B : Rat} (hp : Nb ⟨qv p1, qv p2⟩ P) (hq : Nb ⟨qv q1, qv q2⟩ B) (hw : Nb ⟨qv w1, qv w2⟩ (11 / 10)) (hP : P ≤ 10000) (hB : B ≤ 10000) :
    isFin (fsub p1 (fsub (fmul w1 q1) (fmul w2 q2))) = true ∧ isFin (fsub p2 (fadd (fmul w1 q2) (fmul w2 q1))) = true ∧
    Nd ⟨qv (fsub p1 (fsub (fmul w1 q1) (fmul w2 q2))), qv (fsub p2 (fadd (fmul w1 q2) (fmul w2 q1)))⟩ (⟨qv p1, qv p2⟩ - ⟨qv w1, qv w2⟩ * ⟨qv q1, qv q2⟩) (3 * (P * eta) + 12 * (B * eta) + 14 * tau) := by
  have hB0 := hq.1
  have hX0 : 0 ≤ 11 / 10 * B := by grind
  obtain ⟨f1, f2, f3⟩ := mulc g5 g6 g3 g4 hw hq (by grind)
  obtain ⟨l1, l2⟩ := lin_f2 hp.1 hP hB0 hX0 Rat.le_refl hB rfl
  have hm := (hw.mul hq)
  have hM := f3.nb hm
  have b1 : Bd (qv p1 - qv (fsub (fmul w1 q1) (fmul w2 q2))) (P + (8 * (11 / 10 * B * eta) + 10 * tau + 11 / 10 * B)) := hp.re.sub hM.re
  have b2 : Bd (qv p2 - qv (fadd (fmul w1 q2) (fmul w2 q1))) (P + (8 * (11 / 10 * B * eta) + 10 * tau + 11 / 10 * B)) := hp.im.sub hM.im
  rw [show P + (8 * (11 / 10 * B * eta) + 10 * tau + 11 / 10 * B) = P + (11 / 10 * B + (8 * (11 / 10 * B * eta) + 10 * tau)) by grind] at b1 b2
  obtain ⟨s1, s2⟩ := sub_q g1 f1 b1 l1
  obtain ⟨s3, s4⟩ := sub_q g2 f2 b2 l1
  refine ⟨s1, s3, ?_⟩
  have d1 := Nd.of (x := ⟨qv (fsub p1 (fsub (fmul w1 q1) (fmul w2 q2))), qv (fsub p2 (fadd (fmul w1 q2) (fmul w2 q1)))⟩) (y := ⟨qv p1 - qv (fsub (fmul w1 q1) (fmul w2 q2)), qv p2 - qv (fadd (fmul w1 q2) (fmul w2 q1))⟩) s2 s4
  have d2 : Nd ⟨qv p1 - qv (fsub (fmul w1 q1) (fmul w2 q2)), qv p2 - qv (fadd (fmul w1 q2) (fmul w2 q1))⟩ (⟨qv p1, qv p2⟩ - ⟨qv w1, qv w2⟩ * ⟨qv q1, qv q2⟩) (8 * (11 / 10 * B * eta) + 10 * tau) := by
    refine (Nb.neg f3).of_eq (Cq.ext ?_ ?_)
    · show -(qv (fsub (fmul w1 q1) (fmul w2 q2)) - (qv w1 * qv q1 - qv w2 * qv q2)) = qv p1 - qv (fsub (fmul w1 q1) (fmul w2 q2)) - (qv p1 - (qv w1 * qv q1 - qv w2 * qv q2)); grind
    · show -(qv (fadd (fmul w1 q2) (fmul w2 q1)) - (qv w1 * qv q2 + qv w2 * qv q1)) = qv p2 - qv (fadd (fmul w1 q2) (fmul w2 q1)) - (qv p2 - (qv w1 * qv q2 + qv w2 * qv q1)); grind
  exact (d1.trans d2).mono (by rw [Rat.add_comm]; exact l2)
/-! ### Sums -/
def csum (f : Nat → Cq) : Nat → Cq
  | 0 => Cq.zero
  | n + 1 => csum f n + f n
def rsum (f : Nat → Rat) : Nat → Rat
  | 0 => 0
  | n + 1 => rsum f n + f n
theorem csum_congr {f g : Nat → Cq} : ∀ {n : Nat}, (∀ i, i < n → f i = g i) → csum f n = csum g n
  | 0, _ => rfl
  | n + 1, h => by
    show csum f n + f n = csum g n + g n
    rw [csum_congr (fun i hi => h i (by omega)), h n (by omega)]
theorem csum_nb {f : Nat → Cq} {b : Nat → Rat} : ∀ {n : Nat}, (∀ i, i < n → Nb (f i) (b i)) → Nb (csum f n) (rsum b n)
  | 0, _ => Nb.zero
  | n + 1, h => (csum_nb (fun i hi => h i (by omega))).add (h n (by omega))
theorem csum_nd {f g : Nat → Cq} {b : Nat → Rat} : ∀ {n : Nat}, (∀ i, i < n → Nd (f i) (g i) (b i)) → Nd (csum f n) (csum g n) (rsum b n)
  | 0, _ => Nd.refl _
  | n + 1, h => by
    have k := Nb.add (csum_nd (n := n) (fun i hi => h i (by omega))) (h n (by omega))
    exact k.of_eq (Cq.ext (by show (csum f n).re - (csum g n).re + ((f n).re - (g n).re) = (csum f n).re + (f n).re - ((csum g n).re + (g n).re); grind) (by show (csum f n).im - (csum g n).im + ((f n).im - (g n).im) = (csum f n).im + (f n).im - ((csum g n).im + (g n).im); grind))
theorem csum_tail {f : Nat → Cq} {m : Nat} (h : ∀ i, m ≤ i → f i = Cq.zero) : ∀ {n : Nat}, m ≤ n → csum f n = csum f m
  | 0, hn => by rw [show m = 0 by omega]
  | n + 1, hn => by
    by_cases e : m = n + 1
    · rw [e]
    · show csum f n + f n = csum f m
      rw [csum_tail h (n := n) (by omega), h n (by omega)]
      exact Cq.ext (by show (csum f m).re + 0 = _; grind) (by show (csum f m).im + 0 = _; grind)
end Go.Lk
end

section
/- Floats: the kind of what is finite, the greater of two, magnitudes by themselves. -/
namespace Go.Lk
open Ieee (Format Datum)
set_option linter.unusedSimpArgs false
set_option linter.unusedVariables false
set_option maxRecDepth 100000
theorem bAbs_kind {a b : Nat} (ha : isFin a = true) (hb : isFin b = true) : bKind_0 a b = 0 := by
  have key : ∀ {x : Nat}, isFin x = true → feq x x = true ∧ fgt (fabs x) 9218868437227405311 = false := by
    intro x hx
    have e : fabs x = rg x := by unfold fabs; rw [fin_num hx]; rfl
    have hr : rg x < 2047 * 2 ^ 52 := of_decide_eq_true hx
    have hm : isFin 9218868437227405311 = true := by decide
    have hf : isFin (rg x) = true := by unfold isFin; rw [rg_rg]; exact hx
    have hs : sg (rg x) = false := by
      unfold sg; have := rg_lt x
      have : rg x / 2 ^ 63 = 0 := Nat.div_eq_of_lt this
      rw [this]; rfl
    refine ⟨by rw [feq_fin hx hx]; exact decide_eq_true rfl, ?_⟩
    rw [e, fgt_fin hf hm]
    have h1 : fx (rg x) = fxr (rg x) := by unfold fx; rw [hs, rg_rg]; rfl
    have h2 : fx 9218868437227405311 = fxr 9218868437227405311 := rfl
    have h3 : fxr (rg x) ≤ fxr 9218868437227405311 := fxr_le.2 (by omega)
    exact decide_eq_false (by rw [h1, h2]; omega)
  unfold bKind_0
  rw [(key ha).1, (key hb).1, (key ha).2, (key hb).2]
  rfl
theorem max_min {A B : Nat} (hA : isFin A = true) (hB : isFin B = true) (sA : sg A = false) (sB : sg B = false) :
    (fmax A B = A ∧ fmin A B = B ∧ qv B ≤ qv A) ∨ (fmax A B = B ∧ fmin A B = A ∧ qv A ≤ qv B) := by
  have hU := UR_pos
  have le : ∀ {x y : Nat}, fx x ≤ fx y → qv x ≤ qv y := by
    intro x y h
    refine Rat.le_of_mul_le_mul_right (c := UR) ?_ hU
    rw [qv_U, qv_U]; exact Rat.intCast_le_intCast.2 h
  have hneg : (dbl.read A).neg = false := by
    obtain ⟨m, p, e, _⟩ := read_fin hA
    rw [e, sA]; rfl
  unfold fmax fmin
  rw [order_fin hA hB]
  rcases Int.lt_trichotomy (fx A) (fx B) with h | h | h
  · right
    rw [cmp_lt.2 h]
    exact ⟨rfl, rfl, le (by omega)⟩
  · left
    rw [cmp_eq.2 h]
    simp only [hneg]
    exact ⟨rfl, rfl, le (by omega)⟩
  · left
    rw [cmp_gt.2 h]
    exact ⟨rfl, rfl, le (by omega)⟩
/-! ### Magnitudes by themselves -/
theorem rg_sg (x : Nat) : sg (rg x) = false := by
  unfold sg; have := rg_lt x
  have : rg x / 2 ^ 63 = 0 := Nat.div_eq_of_lt this
  rw [this]; rfl
theorem fin_rg {x : Nat} (h : isFin x = true) : isFin (rg x) = true := by unfold isFin; rw [rg_rg]; exact h
theorem fabs_rg {x : Nat} (h : isFin x = true) : fabs x = rg x := by unfold fabs; rw [fin_num h]; rfl
end Go.Lk
end

section
/- A magnitude, reckoned, of what has the magnitude 1 but for a little. -/
namespace Go.Lk
set_option linter.unusedSimpArgs false
set_option linter.unusedVariables false
set_option maxRecDepth 10000
theorem lt_of_sq {x k K : Rat} (hk : 0 ≤ k) (h : x * x ≤ K) (hK : K < k * k) : x < k := by
  refine Rat.not_le.1 fun hx => ?_
  have h1 := Rat.mul_le_mul_of_nonneg_right hx (c := k) hk
  have h2 := Rat.mul_le_mul_of_nonneg_left hx (c := x) (by grind)
  grind
theorem gt_of_sq {x k K : Rat} (hx : 0 ≤ x) (h : K ≤ x * x) (hK : k * k < K) : k < x := by
  refine Rat.not_le.1 fun hk => ?_
  have h1 := Rat.mul_le_mul_of_nonneg_right hk (c := x) hx
  have h2 := Rat.mul_le_mul_of_nonneg_left hk (c := k) (by grind)
  grind
/-- The greater one m and the smaller one n: m √(1 + (n/m)²). -/
theorem abs_core {m n : Nat} (hm : isFin m = true) (hn : isFin n = true) (sm : sg m = false) (sn : sg n = false) (hle : qv n ≤ qv m) (hG : Bd (qv m * qv m + qv n * qv n - 1) (68 / 10 * eta)) :
    isFin (fmul m (fsqrt (fadd 4607182418800017408 (fmul (fdiv n m) (fdiv n m))))) = true ∧ Bd (qv (fmul m (fsqrt (fadd 4607182418800017408 (fmul (fdiv n m) (fdiv n m))))) - 1) (8 * eta) := by
  obtain ⟨t1, t2, t3, t4⟩ := eta_small
  have nm := (qv_nn sm).2
  have nn := (qv_nn sn).2
  obtain ⟨g1, g2⟩ := hG
  have hnn : qv n * qv n ≤ qv m * qv m := by
    have h1 := Rat.mul_le_mul_of_nonneg_right hle (c := qv n) nn
    have h2 := Rat.mul_le_mul_of_nonneg_left hle (c := qv m) nm
    grind
  have hn2 : 0 ≤ qv n * qv n := Rat.mul_nonneg nn nn
  have e68 : 68 / 10 * eta ≤ 1 / 100000 := by decide +kernel
  have mhi : qv m < 10001 / 10000 := lt_of_sq (K := 1 + 1 / 100000) (by decide +kernel) (by grind) (by decide +kernel)
  have mlo : 7 / 10 < qv m := gt_of_sq (K := 1 / 2 - 1 / 100000) nm (by grind) (by decide +kernel)
  have nhi : qv n < 70712 / 100000 := lt_of_sq (K := 1 / 2 + 1 / 100000) (by decide +kernel) (by grind) (by decide +kernel)
  -- the quotient
  obtain ⟨q1, sq, q2⟩ := div_q hn hm sn sm (by grind) hle
  have nq := (qv_nn sq).2
  have q3 : Bd (qv (fdiv n m) * qv m - qv n) (7073 / 10000 * eta) := q2.mono (by
    have h1 := Rat.mul_le_mul_of_nonneg_right (Rat.le_of_lt nhi) (c := eta) t1
    have h2 := Rat.mul_le_mul_of_nonneg_left (Rat.le_of_lt mhi) (c := tau) t3
    have h3 : 70712 / 100000 * eta + tau * (10001 / 10000) ≤ 7073 / 10000 * eta := by decide +kernel
    grind)
  have qhi : qv (fdiv n m) ≤ 10001 / 10000 := by
    refine Rat.not_lt.1 fun h => ?_
    have h1 : (qv (fdiv n m) - 1) * qv m ≤ 7073 / 10000 * eta := by have := q3.2; grind
    have h2 := Rat.mul_le_mul_of_nonneg_left (Rat.le_of_lt mlo) (c := qv (fdiv n m) - 1) (by grind)
    have h3 : 7073 / 10000 * eta < 1 / 10000 * (7 / 10) := by decide +kernel
    grind
  generalize fdiv n m = q at *
  have bq : Bd (qv q) (10001 / 10000) := ⟨by grind, qhi⟩
  have bqq := bq.mul bq
  obtain ⟨p1, p2⟩ := mul_q q1 q1 bqq (by decide +kernel)
  have nqq : 0 ≤ qv q * qv q := Rat.mul_nonneg nq nq
  generalize fmul q q = p at *
  have hone := one_q
  have bp : Bd (qv 4607182418800017408 + qv p) (20004 / 10000) := by
    rw [hone.2]
    have h1 := p2.1; have h2 := p2.2; have h3 := bqq.2
    have h4 : (10001 / 10000 : Rat) * (10001 / 10000) + (10001 / 10000 * (10001 / 10000) * eta + tau) ≤ 10003 / 10000 := by decide +kernel
    have h5 : (10001 / 10000 : Rat) * (10001 / 10000) * eta + tau ≤ 1 / 10000 := by decide +kernel
    constructor <;> grind
  obtain ⟨s1, s2⟩ := add_q hone.1 p1 bp (by decide +kernel)
  generalize fadd 4607182418800017408 p = s at *
  rw [hone.2] at s2
  have e5 : (10001 / 10000 : Rat) * (10001 / 10000) * eta + tau ≤ 10003 / 10000 * eta := by decide +kernel
  have e6 : (20004 / 10000 : Rat) * eta + tau ≤ 20005 / 10000 * eta := by decide +kernel
  have p3 := p2.mono e5
  have s3 := s2.mono e6
  have hS : 9 / 10 ≤ qv s ∧ qv s ≤ 3 := by
    have h1 := s3.1; have h2 := s3.2; have h3 := p3.1; have h4 := p3.2; have h5 := bqq.2
    have h6 : (10003 / 10000 : Rat) * eta ≤ 1 / 100 := by decide +kernel
    have h7 : (20005 / 10000 : Rat) * eta ≤ 1 / 100 := by decide +kernel
    have h8 : (10001 / 10000 : Rat) * (10001 / 10000) ≤ 11 / 10 := by decide +kernel
    constructor <;> grind
  have ssg : sg s = false := by
    have hU := UR_pos
    have h1 : 0 < qv s * UR := Rat.mul_pos (by grind) hU
    rw [qv_U] at h1
    have h2 : 0 < fx s := by exact_mod_cast h1
    rw [sg_fx (by omega)]
    exact decide_eq_false (by omega)
  obtain ⟨r1, sr, l, hl0, hll, hlr, hrl, hsl⟩ := sqrt_q s1 ssg (by grind)
  generalize fsqrt s = r at *
  have nr := (qv_nn sr).2
  -- m² s is near 1
  have bm : Bd (qv m) (10001 / 10000) := ⟨by grind, Rat.le_of_lt mhi⟩
  have bn : Bd (qv n) (70712 / 100000) := ⟨by grind, Rat.le_of_lt nhi⟩
  have k1 : Bd (qv m * qv m * (qv s - (1 + qv p))) (10001 / 10000 * (10001 / 10000) * (20005 / 10000 * eta)) := (bm.mul bm).mul s3
  have k2 : Bd (qv m * qv m * (qv p - qv q * qv q)) (10001 / 10000 * (10001 / 10000) * (10003 / 10000 * eta)) := (bm.mul bm).mul p3
  have k3 := sq_bd q3 bn
  have hK := (((k1.add k2).add k3).add (⟨g1, g2⟩ : Bd _ (68 / 10 * eta))).of_eq (s := qv m * qv m * qv s - 1) (by grind)
  have hK := hK.mono (B := 1081 / 100 * eta) (by decide +kernel)
  obtain ⟨K1, K2⟩ := hK
  have nml : 0 ≤ qv m * l := Rat.mul_nonneg nm hl0
  have nmm : 0 ≤ qv m * qv m := Rat.mul_nonneg nm nm
  -- from above
  have up : qv m * l < 1 + 5406 / 1000 * eta := by
    refine lt_of_sq (K := 1 + 1081 / 100 * eta) (by decide +kernel) ?_ (by decide +kernel)
    have h1 := Rat.mul_le_mul_of_nonneg_left hll (c := qv m * qv m) nmm
    grind
  -- from below
  have hlt0 : 0 ≤ l + l * eta + tau := by
    have := Rat.mul_nonneg hl0 t1
    grind
  have lo : 1 - 5406 / 1000 * eta < qv m * (l + l * eta + tau) := by
    refine gt_of_sq (K := 1 - 1081 / 100 * eta) (Rat.mul_nonneg nm hlt0) ?_ (by decide +kernel)
    have h1 := Rat.mul_le_mul_of_nonneg_left hsl (c := qv m * qv m) nmm
    grind
  have hmr1 := Rat.mul_le_mul_of_nonneg_left hlr (c := qv m) nm
  have hmr2 := Rat.mul_le_mul_of_nonneg_left hrl (c := qv m) nm
  have hτ := Rat.mul_le_mul_of_nonneg_left (Rat.le_of_lt mhi) (c := tau) t3
  have e1 : qv m * (l + l * eta + tau) = qv m * l + qv m * l * eta + tau * qv m := by grind
  have upe := Rat.mul_le_mul_of_nonneg_right (Rat.le_of_lt up) (c := eta) t1
  have n1 : (1 + 5406 / 1000 * eta) + (1 + 5406 / 1000 * eta) * eta + tau * (10001 / 10000) ≤ 1 + 6407 / 1000 * eta := by decide +kernel
  have n2 : (1 + 5406 / 1000 * eta) * eta + tau * (10001 / 10000) ≤ 1001 / 1000 * eta := by decide +kernel
  have MRhi : qv m * qv r ≤ 1 + 6407 / 1000 * eta := by grind
  have MRlo : 1 - 6407 / 1000 * eta ≤ qv m * qv r := by grind
  have n3 : 1 + 6407 / 1000 * eta ≤ 10001 / 10000 := by decide +kernel
  have n4 : 6407 / 1000 * eta ≤ 1 / 10000 := by decide +kernel
  obtain ⟨f1, f2⟩ := mul_q hm r1 (B := 10001 / 10000) ⟨by grind, by grind⟩ (by decide +kernel)
  refine ⟨f1, ?_⟩
  have n5 : 10001 / 10000 * eta + tau + 6407 / 1000 * eta ≤ 8 * eta := by decide +kernel
  have h1 := f2.1
  have h2 := f2.2
  constructor <;> grind
end Go.Lk
end

section
/- The points of the circle have the magnitude 1, but for a little. -/
namespace Go.Lk
open Ieee (Format Datum)
set_option linter.unusedSimpArgs false
set_option linter.unusedVariables false
set_option maxRecDepth 100000
theorem qv_rg_abs {x : Nat} (h : isFin x = true) : qv (rg x) * qv (rg x) = qv x * qv x := by
  have hs : ∀ s (n : Nat), ((sgn s n : Int) : Rat) * ((sgn s n : Int) : Rat) = ((n : Nat) : Rat) * ((n : Nat) : Rat) := by
    intro s n
    cases s
    · rfl
    · show ((-(n : Int) : Int) : Rat) * ((-(n : Int) : Int) : Rat) = _
      rw [Rat.intCast_neg]
      show -((n : Nat) : Rat) * -((n : Nat) : Rat) = _
      grind
  have e1 : ((fx (rg x) : Int) : Rat) * ((fx (rg x) : Int) : Rat) = ((fx x : Int) : Rat) * ((fx x : Int) : Rat) := by
    unfold fx
    rw [hs, hs, rg_rg]
  unfold qv
  rw [Rat.div_def, Rat.div_def]
  have e2 : ∀ a b c : Rat, a * a = b * b → a * c * (a * c) = b * c * (b * c) := by intro a b c h; grind
  exact e2 _ _ _ e1
/-- What a nought added leaves of a magnitude. -/
theorem rg_clean {v : Nat} (hc : Canon v) (hf : isFin v = true) : isFin (fadd v 0) = true ∧ rg (fadd v 0) = rg v := by
  rw [fadd_zero hc]
  cases h : feq v 0
  · exact ⟨hf, rfl⟩
  · rw [feq_fin hf fin_zero, fx_0] at h
    have h0 : fx v = 0 := of_decide_eq_true h
    have : fxr (rg v) = 0 := by have := fx_abs v; omega
    rw [← fxr_zero] at this
    have := fxr_inj this
    exact ⟨fin_zero, by rw [this]; rfl⟩
theorem rg_neg {v : Nat} (hc : Canon v) (hf : isFin v = true) : isFin (aneg false v) = true ∧ rg (aneg false v) = rg v ∧ Canon (aneg false v) := by
  obtain ⟨n1, n2, n3⟩ := fneg_fin hc.lt hf
  have hr : rg v < 2047 * 2 ^ 52 := of_decide_eq_true hf
  refine ⟨n1, ?_, hc.fneg⟩
  have h1 : fneg (wd (sg v) (rg v)) = wd (!sg v) (rg v) := fneg_wd (by omega)
  rw [wd_sg hc.lt] at h1
  show rg (fneg v) = rg v
  rw [h1, rg_wd (by omega)]
/-- Abs of two whose magnitudes are those of E0 and E1, in either order. -/
theorem abs_near {re im E0 E1 : Nat} (hre : isFin re = true) (him : isFin im = true) (h0 : isFin E0 = true) (h1 : isFin E1 = true) (h : (rg re = rg E0 ∧ rg im = rg E1) ∨ (rg re = rg E1 ∧ rg im = rg E0))
    (hG : Bd (qv E0 * qv E0 + qv E1 * qv E1 - 1) (68 / 10 * eta)) : isFin (bAbs_0 re im) = true ∧ Bd (qv (bAbs_0 re im) - 1) (8 * eta) ∧ Bd (qv re * qv re + qv im * qv im - 1) (68 / 10 * eta) := by
  have hG2 : Bd (qv (rg re) * qv (rg re) + qv (rg im) * qv (rg im) - 1) (68 / 10 * eta) := by
    rw [← qv_rg_abs h0, ← qv_rg_abs h1] at hG
    rcases h with ⟨e1, e2⟩ | ⟨e1, e2⟩
    · rw [e1, e2]; exact hG
    · rw [e1, e2]; exact hG.of_eq (by grind)
  rw [← and_assoc]
  refine ⟨?_, by rw [qv_rg_abs hre, qv_rg_abs him] at hG2; exact hG2⟩
  unfold bAbs_0
  rw [bAbs_kind hre him, fabs_rg hre, fabs_rg him]
  have k1 : ((0 : Int) == Int.ofNat 1) = false := by decide
  have k2 : ((0 : Int) == Int.ofNat 2) = false := by decide
  rw [k1, k2, cond_false, cond_false]
  have main : ∀ {m n : Nat}, isFin m = true → isFin n = true → sg m = false → sg n = false → qv n ≤ qv m → Bd (qv m * qv m + qv n * qv n - 1) (68 / 10 * eta) →
      isFin (bif feq m 0 then 0 else fmul m (fsqrt (fadd 4607182418800017408 (fmul (fdiv n m) (fdiv n m))))) = true ∧ Bd (qv (bif feq m 0 then 0 else fmul m (fsqrt (fadd 4607182418800017408 (fmul (fdiv n m) (fdiv n m))))) - 1) (8 * eta) := by
    intro m n fm fn sm sn hle hg
    have hz : feq m 0 = false := by
      rw [feq_fin fm fin_zero, fx_0]
      refine decide_eq_false fun h => ?_
      have e : qv m = 0 := by unfold qv; rw [h]; decide +kernel
      have nn := (qv_nn sn).2
      have e2 : qv n = 0 := by grind
      have := hg.1
      rw [e, e2] at this
      revert this; decide +kernel
    rw [hz, cond_false]
    exact abs_core fm fn sm sn hle hg
  rcases max_min (fin_rg hre) (fin_rg him) (rg_sg re) (rg_sg im) with ⟨e1, e2, e3⟩ | ⟨e1, e2, e3⟩
  · rw [e1, e2]
    exact main (fin_rg hre) (fin_rg him) (rg_sg _) (rg_sg _) e3 hG2
  · rw [e1, e2]
    exact main (fin_rg him) (fin_rg hre) (rg_sg _) (rg_sg _) e3 (hG2.of_eq (by grind))
/-! ### An eighth of a turn -/
theorem half_q : isFin 4604544271217802189 = true ∧ qv 4604544271217802189 = 6369051672525773 / 9007199254740992 := ⟨by decide, (qv_const (n := 6369051672525773) (d := 9007199254740992) (by decide) (by decide +kernel)).trans (by decide +kernel)⟩
theorem eighth_pair {a : Nat} (ha : isFin a = true) (sa : sg a = false) (h8 : qv a ≤ 1 / 8) :
    isFin (wEighth_0 a) = true ∧ isFin (wEighth_1 a) = true ∧ Canon (wEighth_0 a) ∧ Canon (wEighth_1 a) ∧ Bd (qv (wEighth_0 a) * qv (wEighth_0 a) + qv (wEighth_1 a) * qv (wEighth_1 a) - 1) (68 / 10 * eta) := by
  have e0 : wEighth_0 a = bif feq a 4593671619917905920 then 4604544271217802189 else cosE (fmul (fmul a 4618760256179416344) (fmul a 4618760256179416344)) := by kernel_rfl
  have e1 : wEighth_1 a = bif feq a 4593671619917905920 then 4604544271217802189 else fmul (sinE (fmul (fmul a 4618760256179416344) (fmul a 4618760256179416344))) (fmul a 4618760256179416344) := by kernel_rfl
  rw [e0, e1]
  cases feq a 4593671619917905920
  · obtain ⟨h1, h2, h3⟩ := eighth_near ha sa h8
    simp only [cond_false]
    refine ⟨h1, h2, ?_, ?_, h3⟩
    · unfold cosE; exact Canon.fadd _ _
    · exact Canon.fmul _ _
  · obtain ⟨h1, h2⟩ := half_q
    simp only [cond_true]
    refine ⟨h1, h1, ⟨by decide, fun h => ?_⟩, ⟨by decide, fun h => ?_⟩, ?_⟩
    · rw [fin_num h1] at h; cases h
    · rw [fin_num h1] at h; cases h
    · rw [h2]
      exact ⟨by decide +kernel, by decide +kernel⟩
/-- A difference of what is no greater and not below nought. -/
theorem sub_range {c y d : Nat} (hc : isFin c = true) (hy : isFin y = true) (sc : sg c = false) (sy : sg y = false) (hd : rg d < 2047 * 2 ^ 52) (h0 : 0 ≤ fx c - fx y) (h1 : fx c - fx y ≤ (fxr (rg d) : Int)) :
    isFin (fsub c y) = true ∧ sg (fsub c y) = false ∧ fx (fsub c y) ≤ (fxr (rg d) : Int) ∧ 0 ≤ fx (fsub c y) := by
  rw [fsub_fin hc hy]
  obtain ⟨r1, r2⟩ := rnd_le (z := sg c && !sg y) (T := fx c - fx y) hd (by omega)
  have hs : sg (rnd (sg c && !sg y) (fx c - fx y)) = false := by
    rw [sc, Bool.false_and]
    unfold rnd
    split
    · decide
    · rw [sg_wd (rung_lt _)]; exact decide_eq_false (by omega)
  have e := fx_rg hs
  exact ⟨r1, hs, by omega, by omega⟩
theorem qv_le {x : Nat} {n d : Nat} (hd : 0 < d) (h : fx x * d ≤ n * (U : Int)) : qv x ≤ (n : Rat) / (d : Rat) := by
  have hU := UR_pos
  have hd' : (0 : Rat) < (d : Rat) := Rat.natCast_pos.2 hd
  have h1 := Rat.intCast_le_intCast.2 h
  rw [Rat.intCast_mul, Rat.intCast_mul, ← qv_U] at h1
  have h2 : qv x * UR * (d : Rat) ≤ (n : Rat) * UR := h1
  have h3 : qv x * (d : Rat) ≤ (n : Rat) := Rat.le_of_mul_le_mul_right (c := UR) (by grind) hU
  have h4 : (n : Rat) / (d : Rat) * (d : Rat) = n := by grind
  exact Rat.le_of_mul_le_mul_right (c := (d : Rat)) (by grind) hd'
theorem fx_quart : fx 4598175219545276416 * 4 = (U : Int) ∧ fx 4593671619917905920 * 8 = (U : Int) := by decide +kernel
/-- A point of the circle. -/
theorem turn_near {x : Nat} (hc : Canon x) (hf : isFin x = true) : isFin (wTurn_0 x) = true ∧ isFin (wTurn_1 x) = true ∧ isFin (bAbs_0 (wTurn_0 x) (wTurn_1 x)) = true ∧ Bd (qv (bAbs_0 (wTurn_0 x) (wTurn_1 x)) - 1) (8 * eta) ∧ Bd (qv (wTurn_0 x) * qv (wTurn_0 x) + qv (wTurn_1 x) * qv (wTurn_1 x) - 1) (68 / 10 * eta) := by
  obtain ⟨w1, _, w2, w3, _⟩ := wrap_val hc hf
  have hww : feq (wrapP x) (wrapP x) = true := by rw [feq_fin w1 w1]; exact decide_eq_true rfl
  have hh := fx_half
  obtain ⟨hq, h8⟩ := fx_quart
  have f4 : isFin 4598175219545276416 = true := by decide
  have f8 : isFin 4593671619917905920 = true := by decide
  have sh : sg half = false := by decide
  have s4 : sg 4598175219545276416 = false := by decide
  have r4 : (fxr (rg 4598175219545276416) : Int) = fx 4598175219545276416 := rfl
  have r8 : (fxr (rg 4593671619917905920) : Int) = fx 4593671619917905920 := rfl
  have eh : half = 4602678819172646912 := rfl
  have ea := fabs_rg w1
  have fa := fin_rg w1
  have sa := rg_sg (wrapP x)
  have qa : 0 ≤ fx (rg (wrapP x)) ∧ 2 * fx (rg (wrapP x)) ≤ (U : Int) := by
    have e := fx_rg sa
    rw [rg_rg] at e
    have := fx_abs (wrapP x)
    omega
  -- the end of each way
  have fin : ∀ {a re im : Nat}, isFin a = true → sg a = false → fx a ≤ fx 4593671619917905920 →
      (re = fadd (wEighth_0 a) 0 ∨ re = fadd (aneg false (wEighth_0 a)) 0) ∧ (im = fadd (wEighth_1 a) 0 ∨ im = fadd (aneg false (wEighth_1 a)) 0) ∨ (re = fadd (wEighth_1 a) 0 ∨ re = fadd (aneg false (wEighth_1 a)) 0) ∧ (im = fadd (wEighth_0 a) 0 ∨ im = fadd (aneg false (wEighth_0 a)) 0) →
      isFin re = true ∧ isFin im = true ∧ isFin (bAbs_0 re im) = true ∧ Bd (qv (bAbs_0 re im) - 1) (8 * eta) ∧ Bd (qv re * qv re + qv im * qv im - 1) (68 / 10 * eta) := by
    intro a re im ha hs h18 hcase
    obtain ⟨p1, p2, p3, p4, p5⟩ := eighth_pair ha hs (by
      have := qv_le (x := a) (n := 1) (d := 8) (by decide) (by omega)
      exact this)
    have cl : ∀ {v r : Nat}, Canon v → isFin v = true → (r = fadd v 0 ∨ r = fadd (aneg false v) 0) → isFin r = true ∧ rg r = rg v := by
      intro v r hv hfv hr
      rcases hr with rfl | rfl
      · exact rg_clean hv hfv
      · obtain ⟨n1, n2, n3⟩ := rg_neg hv hfv
        obtain ⟨m1, m2⟩ := rg_clean n3 n1
        exact ⟨m1, by rw [m2, n2]⟩
    rcases hcase with ⟨h1, h2⟩ | ⟨h1, h2⟩
    · obtain ⟨a1, a2⟩ := cl p3 p1 h1
      obtain ⟨b1, b2⟩ := cl p4 p2 h2
      exact ⟨a1, b1, abs_near a1 b1 p1 p2 (.inl ⟨a2, b2⟩) p5⟩
    · obtain ⟨a1, a2⟩ := cl p4 p2 h1
      obtain ⟨b1, b2⟩ := cl p3 p1 h2
      exact ⟨a1, b1, abs_near a1 b1 p1 p2 (.inr ⟨a2, b2⟩) p5⟩
  unfold wTurn_0 wTurn_1
  rw [hww, ea, ← eh]
  simp only [cond_true]
  generalize hw : rg (wrapP x) = a at *
  by_cases g1 : fx 4598175219545276416 < fx a
  · have g1' : fgt a 4598175219545276416 = true := by rw [fgt_fin fa f4]; exact decide_eq_true g1
    rw [g1', cond_true, cond_true]
    obtain ⟨b1, b2, b3, b4⟩ := sub_range fin_half fa sh sa (d := 4598175219545276416) (by decide) (by omega) (by omega)
    generalize fsub half a = b at *
    by_cases g2 : fx 4593671619917905920 < fx b
    · have g2' : fgt b 4593671619917905920 = true := by rw [fgt_fin b1 f8]; exact decide_eq_true g2
      rw [g2', cond_true, cond_true]
      obtain ⟨c1, c2, c3, c4⟩ := sub_range f4 b1 s4 b2 (d := 4593671619917905920) (by decide) (by omega) (by omega)
      cases flt (wrapP x) 0
      · exact fin c1 c2 (by omega) (.inr ⟨.inr rfl, .inl rfl⟩)
      · exact fin c1 c2 (by omega) (.inr ⟨.inr rfl, .inr rfl⟩)
    · have g2' : fgt b 4593671619917905920 = false := by rw [fgt_fin b1 f8]; exact decide_eq_false g2
      rw [g2', cond_false, cond_false]
      cases flt (wrapP x) 0
      · exact fin b1 b2 (by omega) (.inl ⟨.inr rfl, .inl rfl⟩)
      · exact fin b1 b2 (by omega) (.inl ⟨.inr rfl, .inr rfl⟩)
  · have g1' : fgt a 4598175219545276416 = false := by rw [fgt_fin fa f4]; exact decide_eq_false g1
    rw [g1', cond_false, cond_false]
    by_cases g2 : fx 4593671619917905920 < fx a
    · have g2' : fgt a 4593671619917905920 = true := by rw [fgt_fin fa f8]; exact decide_eq_true g2
      rw [g2', cond_true, cond_true]
      obtain ⟨c1, c2, c3, c4⟩ := sub_range f4 fa s4 sa (d := 4593671619917905920) (by decide) (by omega) (by omega)
      cases flt (wrapP x) 0
      · exact fin c1 c2 (by omega) (.inr ⟨.inl rfl, .inl rfl⟩)
      · exact fin c1 c2 (by omega) (.inr ⟨.inl rfl, .inr rfl⟩)
    · have g2' : fgt a 4593671619917905920 = false := by rw [fgt_fin fa f8]; exact decide_eq_false g2
      rw [g2', cond_false, cond_false]
      cases flt (wrapP x) 0
      · exact fin fa sa (by omega) (.inl ⟨.inl rfl, .inl rfl⟩)
      · exact fin fa sa (by omega) (.inl ⟨.inl rfl, .inr rfl⟩)
end Go.Lk
end

section
/- Angles, magnitudes; the document's. -/
namespace Go.Lk
open Go.Proofs
set_option maxRecDepth 100000
set_option maxHeartbeats 0
set_option linter.unusedVariables false
set_option linter.unusedSimpArgs false
end Go.Lk
end

section
/- The program's sine, cosine and arctangent, as floats. -/
namespace Go.Lk
set_option linter.unusedSimpArgs false
set_option linter.unusedVariables false
set_option maxRecDepth 10000
set_option maxHeartbeats 1000000
theorem pe_lip {Z u v e : Rat} (l : List Rat) (h0 : 0 ≤ u) (h1 : u ≤ Z) (k0 : 0 ≤ v) (k1 : v ≤ Z) (h : Bd (u - v) e) : Bd (pe l u - pe l v) (pe ((dl l).map rabs) Z * e) := by
  have hD : 0 ≤ pe ((dl l).map rabs) Z := (pe_bd h0 h1 (dl l)).nonneg
  have go : ∀ {u v : Rat}, 0 ≤ u → v ≤ Z → u ≤ v → Bd (pe l v - pe l u) (pe ((dl l).map rabs) Z * (v - u)) := by
    intro u v h0 k1 huv
    have m := ((Df.id u v).pe l).mean (σ := 0) (ε := pe ((dl l).map rabs) Z) huv (fun w h1 h2 => by
      exact (pe_bd (show 0 ≤ w by grind) (show w ≤ Z by grind) (dl l)).of_eq (by grind))
    exact m.of_eq (by grind)
  rcases Rat.le_total (a := u) (b := v) with huv | huv
  · have h2 := Rat.mul_le_mul_of_nonneg_left (show v - u ≤ e by have := h.1; grind) hD
    exact ((go h0 k1 huv).neg.of_eq (by grind)).mono h2
  · have h2 := Rat.mul_le_mul_of_nonneg_left (show u - v ≤ e by have := h.2; grind) hD
    exact (go k0 h1 huv).mono h2
theorem sg_mul {x y : Nat} (hx : isFin x = true) (hy : isFin y = true) (hs : sg x = sg y) : sg (fmul x y) = false := by
  obtain ⟨r, e, hr⟩ := fmul_near hx hy
  rw [e, sg_wd (by have := hr.1; unfold infR at this; omega), hs, Bool.xor_self]
theorem cir_q : qv 4618760256179416344 = cir := circ_q.2
theorem cir_le : cir ≤ 6283185308 / 1000000000 ∧ 6283185307 / 1000000000 ≤ cir ∧ YY = cir * (1 / 8) ∧ ZZ ≤ 617 / 1000 := by decide +kernel
/-- An eighth: how near its two numbers are. -/
theorem eighth_cs0 {a : Nat} (ha : isFin a = true) (sa : sg a = false) (h8 : qv a ≤ 1 / 8) :
    Bd (qv (cosE (fmul (fmul a 4618760256179416344) (fmul a 4618760256179416344))) - cF (qv a * cir)) (4 * eta) ∧
    Bd (qv (fmul (sinE (fmul (fmul a 4618760256179416344) (fmul a 4618760256179416344))) (fmul a 4618760256179416344)) - sF (qv a * cir)) (4 * eta) := by
  obtain ⟨t1, t2, t3, t4⟩ := eta_small
  obtain ⟨c1, c2⟩ := circ_q
  obtain ⟨r1, r2, r3, r4⟩ := cir_le
  have na := (qv_nn sa).2
  have k1 := Rat.mul_nonneg na (show 0 ≤ cir by grind)
  have k2 := Rat.mul_le_mul_of_nonneg_right h8 (c := cir) (by grind)
  have hYY : qv a * cir ≤ YY := by grind
  have hac : Bd (qv a * qv 4618760256179416344) (785398163398 / 1000000000000) := by
    rw [cir_q]
    have k3 : (1 / 8 : Rat) * cir ≤ 785398163398 / 1000000000000 := by decide +kernel
    constructor <;> grind
  obtain ⟨y1, y2⟩ := mul_q ha c1 hac (by decide +kernel)
  rw [cir_q] at y2 hac
  have sy : sg (fmul a 4618760256179416344) = false := sg_mul ha c1 (by rw [sa]; rfl)
  generalize fmul a 4618760256179416344 = y at *
  have ny := (qv_nn sy).2
  have hy : qv y ≤ 78539817 / 100000000 := by
    have h1 := hac.2
    have h2 := y2.2
    have h3 : 785398163398 / 1000000000000 * eta + tau ≤ 1 / 1000000000 := by decide +kernel
    grind
  have by' : Bd (qv y) (78539817 / 100000000) := ⟨by grind, hy⟩
  have hyy := by'.mul by'
  obtain ⟨z1, z2⟩ := mul_q y1 y1 hyy (by decide +kernel)
  have sz : sg (fmul y y) = false := sg_mul y1 y1 rfl
  generalize fmul y y = z at *
  have nz := (qv_nn sz).2
  have hz : qv z ≤ ZZ := by
    have h1 := hyy.2
    have h2 := z2.2
    have h3 : (78539817 / 100000000 : Rat) * (78539817 / 100000000) + (78539817 / 100000000 * (78539817 / 100000000) * eta + tau) ≤ ZZ := by decide +kernel
    grind
  obtain ⟨C1, C2, C3, C4, C5⟩ := cosE_err z1 nz hz
  obtain ⟨S1, S2, S3, S4, S5⟩ := sinE_err z1 nz hz
  obtain ⟨w1, w2, w3, w4, w5, w6, w7⟩ := cs_range k1 hYY
  generalize qv a * cir = α at *
  -- the squares
  have bα : Bd α (786 / 1000) := ⟨by grind, by have := hac.2; grind⟩
  have hsq : Bd (qv y * qv y - α * α) ((785398163398 / 1000000000000 * eta + tau) * (78539817 / 100000000 + 786 / 1000)) := (y2.mul (by'.add bα)).of_eq (by grind)
  have hdz : Bd (qv z - α * α) (19 / 10 * eta) := ((z2.add hsq).of_eq (by grind)).mono (by decide +kernel)
  have lc := (pe_lip (Z := ZZ) cL nz hz w1 w2 hdz).mono (B := 12 / 10 * eta) (by decide +kernel)
  have ls := (pe_lip (Z := ZZ) sL nz hz w1 w2 hdz).mono (B := 5 / 10 * eta) (by decide +kernel)
  constructor
  · exact ((C2.add lc).of_eq (by show qv (cosE z) - pe cL (qv z) + _ = _; unfold cF; grind)).mono (by grind)
  · have dS : Bd (qv (sinE z) - pe sL (α * α)) (1220 / 1000 * eta + 5 / 10 * eta) := (S2.add ls).of_eq (by show qv (sinE z) - pe sL (qv z) + _ = _; grind)
    have bS0 : Bd (pe sL (qv z)) 1 := ⟨by show -1 ≤ sinR (qv z); grind, S4⟩
    have bS2 : Bd (qv (sinE z)) (1 + 1220 / 1000 * eta) := (bS0.add S2).of_eq (by show pe sL (qv z) + (qv (sinE z) - pe sL (qv z)) = _; grind)
    have bSα : Bd (pe sL (α * α)) (1 + 5 / 10 * eta) := (bS0.sub ls).of_eq (by grind)
    obtain ⟨s1, s2⟩ := mul_q S1 y1 (bS2.mul by') (by decide +kernel)
    have e1 := dS.mul by'
    have e2 := bSα.mul y2
    exact (((s2.add e1).add e2).of_eq (by unfold sF; grind)).mono (by decide +kernel)
theorem YY_near : Bd (6369051672525773 / 9007199254740992 - cF YY) (4 * eta) ∧ Bd (6369051672525773 / 9007199254740992 - sF YY) (4 * eta) := ⟨⟨by decide +kernel, by decide +kernel⟩, ⟨by decide +kernel, by decide +kernel⟩⟩
theorem oct_q : isFin 4593671619917905920 = true ∧ qv 4593671619917905920 = 1 / 8 := ⟨by decide, (qv_const (n := 1) (d := 8) (by decide) (by decide +kernel)).trans (by decide +kernel)⟩
theorem oct_eq {a : Nat} (ha : isFin a = true) (h : feq a 4593671619917905920 = true) : qv a = 1 / 8 := by
  rw [feq_fin ha oct_q.1] at h
  have h1 := of_decide_eq_true h
  have h2 : qv a = qv 4593671619917905920 := congrArg (fun z : Int => (z : Rat) / UR) h1
  exact h2.trans oct_q.2
theorem oct_cir {a : Nat} (h : qv a = 1 / 8) : qv a * cir = YY := by
  have := cir_le.2.2.1
  rw [h, this]; grind
theorem eighth_0 (a : Nat) : wEighth_0 a = bif feq a 4593671619917905920 then 4604544271217802189 else cosE (fmul (fmul a 4618760256179416344) (fmul a 4618760256179416344)) := by kernel_rfl
theorem eighth_1 (a : Nat) : wEighth_1 a = bif feq a 4593671619917905920 then 4604544271217802189 else fmul (sinE (fmul (fmul a 4618760256179416344) (fmul a 4618760256179416344))) (fmul a 4618760256179416344) := by kernel_rfl
theorem eighth_cs {a : Nat} (ha : isFin a = true) (sa : sg a = false) (h8 : qv a ≤ 1 / 8) :
    Bd (qv (wEighth_0 a) - cF (qv a * cir)) (4 * eta) ∧ Bd (qv (wEighth_1 a) - sF (qv a * cir)) (4 * eta) := by
  rw [eighth_0, eighth_1]
  generalize h : feq a 4593671619917905920 = b
  cases b with
  | false =>
    rw [cond_false, cond_false]
    exact eighth_cs0 ha sa h8
  | true =>
    rw [cond_true, cond_true, oct_cir (oct_eq ha h), half_q.2]
    exact YY_near
end Go.Lk
end
