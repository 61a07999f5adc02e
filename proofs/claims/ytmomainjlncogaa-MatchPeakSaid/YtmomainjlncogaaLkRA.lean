/- Floats as rational numbers: how far a result is from what it stands for. -/
import Derived.Test.YtmomainjlncogaaLkJT
namespace Go.Lk
set_option linter.unusedSimpArgs false
set_option linter.unusedVariables false

def UR : Rat := ((U : Nat) : Rat)
theorem UR_pos : 0 < UR := Rat.natCast_pos.2 U_pos
def eta : Rat := 1 / 4503599627370496
def tau : Rat := 1 / 1267650600228229401496703205376
theorem UR_big : (1267650600228229401496703205376 : Rat) ≤ UR := by
  obtain ⟨H, h1, _, _, Q, h2, _, h3, _⟩ := U_half
  have h4 : 1267650600228229401496703205376 ≤ U := by
    have : (2 : Nat) ^ 100 = 1267650600228229401496703205376 := by decide
    omega
  unfold UR
  exact_mod_cast h4
/-- What a float stands for. -/
def qv (x : Nat) : Rat := ((fx x : Int) : Rat) / UR
theorem qv_U (x : Nat) : qv x * UR = ((fx x : Int) : Rat) := by
  unfold qv
  exact Rat.div_mul_cancel (fun h => by have := UR_pos; rw [h] at this; exact absurd this (by decide))
/-- Between -A and A. -/
def Bd (r A : Rat) : Prop := -A ≤ r ∧ r ≤ A
theorem Bd.mono {r A B : Rat} (h : Bd r A) (hAB : A ≤ B) : Bd r B := ⟨by have := h.1; grind, by have := h.2; grind⟩
theorem Bd.add {r s A B : Rat} (h : Bd r A) (k : Bd s B) : Bd (r + s) (A + B) := ⟨by have := h.1; have := k.1; grind, by have := h.2; have := k.2; grind⟩
theorem Bd.sub {r s A B : Rat} (h : Bd r A) (k : Bd s B) : Bd (r - s) (A + B) := ⟨by have := h.1; have := k.2; grind, by have := h.2; have := k.1; grind⟩
theorem Bd.neg {r A : Rat} (h : Bd r A) : Bd (-r) A := ⟨by have := h.2; grind, by have := h.1; grind⟩
theorem Bd.nonneg {r A : Rat} (h : Bd r A) : 0 ≤ A := by have := h.1; have := h.2; grind
theorem Bd.mul {r s A B : Rat} (h : Bd r A) (k : Bd s B) : Bd (r * s) (A * B) := by
  obtain ⟨h1, h2⟩ := h
  obtain ⟨h3, h4⟩ := k
  have k1 := Rat.mul_nonneg (a := A - r) (b := B - s) (by grind) (by grind)
  have k2 := Rat.mul_nonneg (a := A + r) (b := B + s) (by grind) (by grind)
  have k3 := Rat.mul_nonneg (a := A - r) (b := B + s) (by grind) (by grind)
  have k4 := Rat.mul_nonneg (a := A + r) (b := B - s) (by grind) (by grind)
  constructor <;> grind
theorem Bd.of_eq {r s A : Rat} (h : Bd r A) (e : r = s) : Bd s A := e ▸ h
theorem Bd.zero : Bd 0 0 := ⟨by decide, by decide⟩
/-! ### Rounding, as whole multiples -/
theorem rnd_err {s : Bool} {T : Int} {R : Nat} (hR : R < 2047 * 2 ^ 52) (h : T.natAbs ≤ fxr R) :
    isFin (rnd s T) = true ∧ 4503599627370496 * (fx (rnd s T) - T).natAbs ≤ 4503599627370496 + T.natAbs := by
  refine ⟨(rnd_le hR h).1, ?_⟩
  unfold rnd
  split
  · rename_i h0
    subst h0
    have : fx (wd s 0) = 0 := by rw [fx_wd (by decide), fxr_zero, sgn_zero]
    rw [this]; decide
  · rename_i h0
    have hr : rung T.natAbs < infR := by have := rung_le_of h; unfold infR; omega
    obtain ⟨e1, e2⟩ := (near_rung T.natAbs).err (by decide) hr
    have hfx : (fx (wd (decide (T < 0)) (rung T.natAbs)) - T).natAbs ≤ fxr (rung T.natAbs) - T.natAbs + (T.natAbs - fxr (rung T.natAbs)) := by
      rw [fx_wd (rung_lt _)]
      unfold sgn
      by_cases hT : T < 0
      · rw [decide_eq_true hT, if_pos rfl]; omega
      · rw [decide_eq_false hT, if_neg (by decide)]; omega
    omega
/-- A sum of finite ones that is not too great. -/
theorem big54 {T : Int} {B : Rat} (hB : B ≤ 1125899906842624) (h : Bd (((T : Int) : Rat)) (B * UR)) : T.natAbs ≤ fxr 4850376798678024192 := by
  have hU := UR_pos
  have h1 : B * UR ≤ 1125899906842624 * UR := Rat.mul_le_mul_of_nonneg_right hB (by grind)
  have h2 : ((T : Int) : Rat) ≤ 1125899906842624 * UR := by have := h.2; grind
  have h3 : -(1125899906842624 * UR) ≤ ((T : Int) : Rat) := by have := h.1; grind
  have h4 : T ≤ 1125899906842624 * (U : Int) := by
    refine Rat.intCast_le_intCast.1 ?_
    rw [Rat.intCast_mul]
    exact h2
  have h5 : -(1125899906842624 * (U : Int)) ≤ T := by
    refine Rat.intCast_le_intCast.1 ?_
    rw [Rat.intCast_neg, Rat.intCast_mul]
    exact h3
  rw [fxr_big]
  have : (2 : Nat) ^ 54 = 18014398509481984 := by decide
  rw [this]
  have h6 : ((18014398509481984 * U : Nat) : Int) = 18014398509481984 * (U : Int) := by rw [Int.natCast_mul]; rfl
  omega
theorem abs_cast {T : Int} {B : Rat} (h : Bd (((T : Int) : Rat)) B) : ((T.natAbs : Nat) : Rat) ≤ B := by
  rcases Int.le_total 0 T with h0 | h0
  · have e : ((T.natAbs : Nat) : Int) = T := by omega
    have : ((T.natAbs : Nat) : Rat) = ((T : Int) : Rat) := by rw [← e]; rfl
    rw [this]; exact h.2
  · have e : ((T.natAbs : Nat) : Int) = -T := by omega
    have : ((T.natAbs : Nat) : Rat) = -((T : Int) : Rat) := by
      have : ((((T.natAbs : Nat) : Int)) : Rat) = ((-T : Int) : Rat) := by rw [e]
      rw [Rat.intCast_neg] at this
      exact this
    rw [this]; have := h.1; grind
theorem rnd_q {s : Bool} {T : Int} {v B : Rat} (hv : v * UR = ((T : Int) : Rat)) (h : Bd v B) (hB : B ≤ 1125899906842624) :
    isFin (rnd s T) = true ∧ Bd (qv (rnd s T) - v) (B * eta + tau) := by
  have hU := UR_pos
  have hT : Bd ((T : Int) : Rat) (B * UR) := by
    rw [← hv]
    exact ⟨by have := Rat.mul_le_mul_of_nonneg_right h.1 (c := UR) (by grind); grind, Rat.mul_le_mul_of_nonneg_right h.2 (by grind)⟩
  obtain ⟨h1, h2⟩ := rnd_err (s := s) (R := 4850376798678024192) (by decide) (big54 hB hT)
  refine ⟨h1, ?_⟩
  have h3 : ((4503599627370496 * (fx (rnd s T) - T).natAbs : Nat) : Rat) ≤ ((4503599627370496 + T.natAbs : Nat) : Rat) := Rat.natCast_le_natCast.2 h2
  have h4 := abs_cast hT
  rw [Rat.natCast_mul, Rat.natCast_add] at h3
  have hb := UR_big
  have hq := qv_U (rnd s T)
  have key : ∀ r : Rat, r ≤ (((fx (rnd s T) - T).natAbs : Nat) : Rat) → r ≤ (B * eta + tau) * UR := by
    intro r hr
    have e1 : (B * eta) * UR * 4503599627370496 = B * UR := by unfold eta; grind
    have e2 : (1 : Rat) ≤ tau * UR := by unfold tau; grind
    have e3 : ((4503599627370496 : Nat) : Rat) = 4503599627370496 := by rfl
    rw [e3] at h3
    grind
  have hd : (qv (rnd s T) - v) * UR = ((fx (rnd s T) - T : Int) : Rat) := by
    rw [Rat.intCast_sub, ← hq, ← hv]; grind
  have n1 : ((fx (rnd s T) - T : Int) : Rat) ≤ (((fx (rnd s T) - T).natAbs : Nat) : Rat) := by
    have : (fx (rnd s T) - T) ≤ (((fx (rnd s T) - T).natAbs : Nat) : Int) := by omega
    exact Rat.intCast_le_intCast.2 this
  have n2 : -((fx (rnd s T) - T : Int) : Rat) ≤ (((fx (rnd s T) - T).natAbs : Nat) : Rat) := by
    have : -(fx (rnd s T) - T) ≤ (((fx (rnd s T) - T).natAbs : Nat) : Int) := by omega
    have := Rat.intCast_le_intCast.2 this
    rw [Rat.intCast_neg] at this
    exact this
  constructor
  · refine Rat.le_of_mul_le_mul_right (c := UR) ?_ hU
    have := key _ n2
    rw [← hd] at this
    grind
  · refine Rat.le_of_mul_le_mul_right (c := UR) ?_ hU
    rw [hd]
    exact key _ n1
theorem add_q {x y : Nat} {B : Rat} (hx : isFin x = true) (hy : isFin y = true) (h : Bd (qv x + qv y) B) (hB : B ≤ 1125899906842624) : isFin (fadd x y) = true ∧ Bd (qv (fadd x y) - (qv x + qv y)) (B * eta + tau) := by
  rw [fadd_fin hx hy]
  refine rnd_q ?_ h hB
  rw [Rat.intCast_add, ← qv_U x, ← qv_U y]; grind
theorem sub_q {x y : Nat} {B : Rat} (hx : isFin x = true) (hy : isFin y = true) (h : Bd (qv x - qv y) B) (hB : B ≤ 1125899906842624) : isFin (fsub x y) = true ∧ Bd (qv (fsub x y) - (qv x - qv y)) (B * eta + tau) := by
  rw [fsub_fin hx hy]
  refine rnd_q ?_ h hB
  rw [Rat.intCast_sub, ← qv_U x, ← qv_U y]; grind
/-! ### Products -/
theorem mul_err {x y : Nat} (hx : isFin x = true) (hy : isFin y = true) (h : fxr (rg x) * fxr (rg y) ≤ fxr 4850376798678024192 * U) :
    isFin (fmul x y) = true ∧ 4503599627370496 * (fx (fmul x y) * (U : Int) - fx x * fx y).natAbs ≤ 4503599627370496 * U + fxr (rg x) * fxr (rg y) := by
  obtain ⟨r, e, hr⟩ := fmul_near hx hy
  have hr54 : r ≤ 4850376798678024192 := hr.le_of (by decide) h
  have hU := U_pos
  obtain ⟨e1, e2⟩ := hr.err hU (by unfold infR; omega)
  rw [e]
  refine ⟨fin_wd (by omega), ?_⟩
  have hs : fx (wd (sg x ^^ sg y) r) * (U : Int) - fx x * fx y = sgn (sg x ^^ sg y) (fxr r * U) - sgn (sg x ^^ sg y) (fxr (rg x) * fxr (rg y)) := by
    rw [fx_wd (by omega), sgn_mul]
    congr 1
    unfold fx
    generalize fxr (rg x) = a
    generalize fxr (rg y) = b
    cases sg x <;> cases sg y <;> simp [sgn, Int.neg_mul, Int.mul_neg]
  have hn : (sgn (sg x ^^ sg y) (fxr r * U) - sgn (sg x ^^ sg y) (fxr (rg x) * fxr (rg y))).natAbs ≤ fxr r * U - fxr (rg x) * fxr (rg y) + (fxr (rg x) * fxr (rg y) - fxr r * U) := by
    unfold sgn
    generalize fxr r * U = a
    generalize fxr (rg x) * fxr (rg y) = b
    cases (sg x ^^ sg y) <;> simp <;> omega
  rw [hs]
  have : (2 : Nat) ^ 52 = 4503599627370496 := by decide
  rw [this] at e1 e2
  generalize fxr r * U = a at *
  generalize fxr (rg x) * fxr (rg y) = b at *
  omega
theorem qv_rg (x : Nat) : Bd (qv x) (((fxr (rg x) : Nat) : Rat) / UR) ∧ (((fxr (rg x) : Nat) : Rat) / UR) * UR = ((fxr (rg x) : Nat) : Rat) := by
  have hU := UR_pos
  refine ⟨⟨?_, ?_⟩, by grind⟩
  · refine Rat.le_of_mul_le_mul_right (c := UR) ?_ hU
    rw [qv_U]
    have h1 : -((fxr (rg x) : Nat) : Int) ≤ fx x := by have := fx_abs x; omega
    have := Rat.intCast_le_intCast.2 h1
    rw [Rat.intCast_neg] at this
    have e : -(((fxr (rg x) : Nat) : Rat) / UR) * UR = -(((fxr (rg x) : Nat) : Rat)) := by grind
    rw [e]; exact this
  · refine Rat.le_of_mul_le_mul_right (c := UR) ?_ hU
    rw [qv_U]
    have h1 : fx x ≤ ((fxr (rg x) : Nat) : Int) := by have := fx_abs x; omega
    have := Rat.intCast_le_intCast.2 h1
    have e : (((fxr (rg x) : Nat) : Rat) / UR) * UR = (((fxr (rg x) : Nat) : Rat)) := by grind
    rw [e]; exact this
theorem mul_q {x y : Nat} {B : Rat} (hx : isFin x = true) (hy : isFin y = true) (h : Bd (qv x * qv y) B) (hB : B ≤ 1125899906842624) : isFin (fmul x y) = true ∧ Bd (qv (fmul x y) - qv x * qv y) (B * eta + tau) := by
  have hU := UR_pos
  have hUU : 0 < UR * UR := Rat.mul_pos hU hU
  have hp : qv x * qv y * (UR * UR) = ((fx x * fx y : Int) : Rat) := by
    rw [Rat.intCast_mul, ← qv_U x, ← qv_U y]; grind
  have hT : Bd ((fx x * fx y : Int) : Rat) (B * (UR * UR)) := by
    rw [← hp]
    exact ⟨by have := Rat.mul_le_mul_of_nonneg_right h.1 (c := UR * UR) (by grind); grind, Rat.mul_le_mul_of_nonneg_right h.2 (by grind)⟩
  have hab := abs_cast hT
  have hna : (fx x * fx y).natAbs = fxr (rg x) * fxr (rg y) := by rw [Int.natAbs_mul, fx_abs, fx_abs]
  rw [hna] at hab
  have hle : fxr (rg x) * fxr (rg y) ≤ fxr 4850376798678024192 * U := by
    refine Rat.natCast_le_natCast.1 ?_
    refine Rat.le_trans hab ?_
    have h1 : B * (UR * UR) ≤ 1125899906842624 * (UR * UR) := Rat.mul_le_mul_of_nonneg_right hB (by grind)
    have h2 : 1125899906842624 * (UR * UR) ≤ 18014398509481984 * (UR * UR) := by grind
    refine Rat.le_trans h1 (Rat.le_trans h2 ?_)
    rw [fxr_big, show (2 : Nat) ^ 54 = 18014398509481984 by decide, Rat.natCast_mul, Rat.natCast_mul]
    have e3 : ((18014398509481984 : Nat) : Rat) = 18014398509481984 := by rfl
    rw [e3]
    show 18014398509481984 * (UR * UR) ≤ 18014398509481984 * UR * UR
    grind
  obtain ⟨f1, f2⟩ := mul_err hx hy hle
  refine ⟨f1, ?_⟩
  have h3 := Rat.natCast_le_natCast.2 f2
  rw [Rat.natCast_mul, Rat.natCast_add, Rat.natCast_mul] at h3
  have hq := qv_U (fmul x y)
  have hd : (qv (fmul x y) - qv x * qv y) * (UR * UR) = ((fx (fmul x y) * (U : Int) - fx x * fx y : Int) : Rat) := by
    rw [Rat.intCast_sub, Rat.intCast_mul, ← hq, ← hp]
    show _ = qv (fmul x y) * UR * UR - _
    grind
  generalize hD : fx (fmul x y) * (U : Int) - fx x * fx y = D at *
  have hb := UR_big
  have key : ∀ r : Rat, r ≤ ((D.natAbs : Nat) : Rat) → r ≤ (B * eta + tau) * (UR * UR) := by
    intro r hr
    have e1 : (B * eta) * (UR * UR) * 4503599627370496 = B * (UR * UR) := by unfold eta; grind
    have e2 : UR ≤ tau * (UR * UR) := by
      have : 1 ≤ tau * UR := by unfold tau; grind
      have := Rat.mul_le_mul_of_nonneg_right this (c := UR) (by grind)
      grind
    have e3 : ((4503599627370496 : Nat) : Rat) = 4503599627370496 := by rfl
    have e4 : ((U : Nat) : Rat) = UR := rfl
    rw [e3, e4] at h3
    grind
  have n1 : ((D : Int) : Rat) ≤ ((D.natAbs : Nat) : Rat) := by
    have : D ≤ ((D.natAbs : Nat) : Int) := by omega
    exact Rat.intCast_le_intCast.2 this
  have n2 : -((D : Int) : Rat) ≤ ((D.natAbs : Nat) : Rat) := by
    have : -D ≤ ((D.natAbs : Nat) : Int) := by omega
    have := Rat.intCast_le_intCast.2 this
    rw [Rat.intCast_neg] at this
    exact this
  constructor
  · refine Rat.le_of_mul_le_mul_right (c := UR * UR) ?_ hUU
    have := key _ n2
    rw [← hd] at this
    grind
  · refine Rat.le_of_mul_le_mul_right (c := UR * UR) ?_ hUU
    rw [hd]
    exact key _ n1
end Go.Lk
