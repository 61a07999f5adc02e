/- PlaceSquares: the plain law of rectangles. -/
import Derived.Test.YtmomainjlncogaaLkOC
import Derived.Test.YtmomainjlncogaaLkPSA
namespace Go.Lk
open Ieee (Format Datum Toward)
set_option linter.unusedSimpArgs false
set_option linter.unusedVariables false

theorem flt_same_r {x a b : Nat} (ha : isFin a = true) (hb : isFin b = true) (h : fx a = fx b) : flt x a = flt x b := by
  rcases cls_of x with hx | hx | ⟨s, hx⟩
  · rw [flt_nan_l hx, flt_nan_l hx]
  · rw [flt_fin hx ha, flt_fin hx hb, h]
  · unfold flt; rw [ord_if hx ha, ord_if hx hb]
theorem fle_flt_self {a y : Nat} (h : fle a y = true) : flt y a = false := by
  cases h2 : flt y a
  · rfl
  · exfalso
    have h3 := le_lt h h2
    have h4 := lt_asym h3
    rw [h3] at h4; cases h4
/-- Between finite ones only finite ones lie. -/
theorem fin_between {a y c : Nat} (ha : isFin a = true) (hc : isFin c = true) (h1 : fle a y = true) (h2 : flt y c = true) : isFin y = true := by
  rcases cls_of y with hy | hy | ⟨s, hy⟩
  · rw [fle_nan_r hy] at h1; cases h1
  · exact hy
  · exfalso
    unfold fle at h1
    unfold flt at h2
    rw [ord_fi ha hy] at h1
    rw [ord_if hy hc] at h2
    cases s <;> revert h1 h2 <;> decide
theorem fxr_8 : fxr 4620693217682128896 = 8 * U := by decide +kernel
/-- A slope, times nothing. -/
theorem slope_zero {y lo hi a : Nat} (hy : isFin y = true) (hl : isFin lo = true) (hh : isFin hi = true) (ha : isFin a = true) (h1 : fx lo ≤ fx y) (h2 : fx y < fx hi) {R : Nat} (hR : R < 2047 * 2 ^ 52)
    (hb : (fx hi - fx lo).natAbs ≤ fxr R) : isFin (fadd a (fmul (fdiv (fsub y lo) (fsub hi lo)) (fsub a a))) = true ∧ fx (fadd a (fmul (fdiv (fsub y lo) (fsub hi lo)) (fsub a a))) = fx a := by
  rw [fsub_self_fin ha]
  have d1 := rnd_le (z := sg y && !sg lo) (T := fx y - fx lo) hR (by omega)
  have d2 := rnd_le (z := sg hi && !sg lo) (T := fx hi - fx lo) hR hb
  have hX : fxr (rg (rnd (sg y && !sg lo) (fx y - fx lo))) ≤ 2 * (fx hi - fx lo).natAbs + 1 := by
    unfold rnd
    split
    · have : rg (wd (sg y && !sg lo) 0) = 0 := rg_wd (by decide)
      rw [this, fxr_zero]; omega
    · rw [rg_wd (rung_lt _)]
      have h3 := rung_le_of (T := (fx y - fx lo).natAbs) (R := R) (by omega)
      have h4 := (near_rung (fx y - fx lo).natAbs).err (by decide) (by unfold infR; omega)
      omega
  have hY : 2 * (fx hi - fx lo).natAbs + 1 ≤ 5 * fxr (rg (rnd (sg hi && !sg lo) (fx hi - fx lo))) ∧ fxr (rg (rnd (sg hi && !sg lo) (fx hi - fx lo))) ≠ 0 := by
    unfold rnd
    rw [if_neg (by omega), rg_wd (rung_lt _)]
    have h3 := rung_le_of (T := (fx hi - fx lo).natAbs) (R := R) hb
    have h4 := (near_rung (fx hi - fx lo).natAbs).err (by decide) (by unfold infR; omega)
    by_cases h5 : (fx hi - fx lo).natAbs = 1
    · rw [h5]
      have : fxr (rung 1) = 1 := by decide +kernel
      omega
    · omega
  rw [← fsub_fin hy hl] at d1 hX
  rw [← fsub_fin hh hl] at d2 hY
  obtain ⟨r, e, hr⟩ := fdiv_near d1.1 d2.1 hY.2
  have hr8 : r ≤ 4620693217682128896 := hr.le_of (by decide) (by
    rw [fxr_8]
    calc fxr (rg (fsub y lo)) * U ≤ (5 * fxr (rg (fsub hi lo))) * U := Nat.mul_le_mul_right _ (by omega)
      _ ≤ 8 * fxr (rg (fsub hi lo)) * U := Nat.mul_le_mul_right _ (by omega)
      _ = _ := Nat.mul_right_comm _ _ _)
  have ht : isFin (fdiv (fsub y lo) (fsub hi lo)) = true := by rw [e]; exact fin_wd (by omega)
  obtain ⟨r2, e2, hr2⟩ := fmul_near ht fin_zero
  have hz : r2 = 0 := Nat.le_zero.1 (hr2.le_of (Nat.zero_le _) (by rw [show rg 0 = 0 from rfl, fxr_zero]; omega))
  subst hz
  have f0 : ∀ s, isFin (wd s 0) = true ∧ fx (wd s 0) = 0 := by intro s; cases s <;> decide +kernel
  obtain ⟨f1, f2⟩ := f0 (sg (fdiv (fsub y lo) (fsub hi lo)) ^^ sg 0)
  rw [e2, fadd_fin ha f1, f2, Int.add_zero]
  obtain ⟨r1, r2, r3⟩ := rnd_exact (z := sg a && sg (wd (sg (fdiv (fsub y lo) (fsub hi lo)) ^^ sg 0) 0)) (T := fx a) (R := rg a) (of_decide_eq_true ha) (by rw [fx_abs]; exact Nat.le_refl _) (fx_form a)
  exact ⟨r1, r2⟩
/-- An edge that lies level is never crossed. -/
theorem cross_level (ax cx a x y : Nat) (ha : isFin a = true) : crossP ax a cx a x y = false := by
  unfold crossP
  have : flt a a = false := by rw [flt_fin ha ha]; exact decide_eq_false (by omega)
  rw [this, cond_false]
  cases h : fle a y
  · rfl
  · rw [cond_true, fle_flt_self h]; rfl
def bandP (lo hi y : Nat) : Bool := fle lo y && flt y hi
theorem cross_up {a lo hi x y : Nat} (ha : isFin a = true) (hl : isFin lo = true) (hh : isFin hi = true) (hlt : fx lo < fx hi) {R : Nat} (hR : R < 2047 * 2 ^ 52) (hb : (fx hi - fx lo).natAbs ≤ fxr R) :
    crossP a lo a hi x y = (bandP lo hi y && flt x a) := by
  unfold crossP bandP
  have : flt hi lo = false := by rw [flt_fin hh hl]; exact decide_eq_false (by omega)
  rw [this, cond_false]
  cases h1 : fle lo y
  · rfl
  · cases h2 : flt y hi
    · rfl
    · have hy := fin_between hl hh h1 h2
      rw [fle_fin hl hy] at h1
      rw [flt_fin hy hh] at h2
      obtain ⟨s1, s2⟩ := slope_zero hy hl hh ha (of_decide_eq_true h1) (of_decide_eq_true h2) hR hb
      rw [flt_same_r s1 ha s2]; rfl
theorem cross_down {a lo hi x y : Nat} (ha : isFin a = true) (hl : isFin lo = true) (hh : isFin hi = true) (hlt : fx lo < fx hi) {R : Nat} (hR : R < 2047 * 2 ^ 52) (hb : (fx hi - fx lo).natAbs ≤ fxr R) :
    crossP a hi a lo x y = (bandP lo hi y && flt x a) := by
  unfold crossP bandP
  have : flt lo hi = true := by rw [flt_fin hl hh]; exact decide_eq_true hlt
  rw [this, cond_true]
  cases h1 : fle lo y
  · rfl
  · cases h2 : flt y hi
    · rfl
    · have hy := fin_between hl hh h1 h2
      rw [fle_fin hl hy] at h1
      rw [flt_fin hy hh] at h2
      obtain ⟨s1, s2⟩ := slope_zero hy hl hh ha (of_decide_eq_true h1) (of_decide_eq_true h2) hR hb
      rw [flt_same_r s1 ha s2]; rfl
/-- A number is between two: one compare holds and the other does not. -/
theorem between_xor {a b x : Nat} (ha : isFin a = true) (hb : isFin b = true) (h : fx a < fx b) : (flt x a != flt x b) = bandP a b x := by
  unfold bandP
  rcases cls_of x with hx | hx | ⟨s, hx⟩
  · rw [flt_nan_l hx, flt_nan_l hx, fle_nan_r hx]; rfl
  · rw [flt_fin hx ha, flt_fin hx hb, fle_fin ha hx]
    by_cases h1 : fx x < fx a
    · rw [decide_eq_true h1, decide_eq_true (by omega), decide_eq_false (by omega)]; rfl
    · rw [decide_eq_false h1, decide_eq_true (by omega : fx a ≤ fx x), Bool.true_and]
      cases decide (fx x < fx b) <;> rfl
  · unfold flt fle
    rw [ord_if hx ha, ord_if hx hb, ord_fi ha hx]
    cases s <;> decide
/-- A rectangle has just what lies between its sides. -/
theorem rect_within {px py : Nat → Nat} {x1 y1 x2 y2 x y : Nat} (p0 : px 0 = x1 ∧ py 0 = y1) (p1 : px 1 = x2 ∧ py 1 = y1) (p2 : px 2 = x2 ∧ py 2 = y2) (p3 : px 3 = x1 ∧ py 3 = y2)
    (hx1 : isFin x1 = true) (hx2 : isFin x2 = true) (hy1 : isFin y1 = true) (hy2 : isFin y2 = true) (hx : fx x1 < fx x2) (hy : fx y1 < fx y2) {R : Nat} (hR : R < 2047 * 2 ^ 52) (hb : (fx y2 - fx y1).natAbs ≤ fxr R) :
    withinN px py 4 x y = (bandP x1 x2 x && bandP y1 y2 y) := by
  unfold withinN
  have e1 : decide (iN 4 < 3) = false := by decide
  have e2 : decide (iN 4 > 64) = false := by decide
  rw [e1, e2, cond_false, cond_false]
  show ((((false != crossP (wA px 4 0) (wA py 4 0) (px 0) (py 0) x y) != crossP (wA px 4 1) (wA py 4 1) (px 1) (py 1) x y) != crossP (wA px 4 2) (wA py 4 2) (px 2) (py 2) x y) != crossP (wA px 4 3) (wA py 4 3) (px 3) (py 3) x y) = _
  have w0 : ∀ p : Nat → Nat, wA p 4 0 = p 3 := fun _ => rfl
  have w1 : ∀ p : Nat → Nat, wA p 4 1 = p 0 := fun _ => rfl
  have w2 : ∀ p : Nat → Nat, wA p 4 2 = p 1 := fun _ => rfl
  have w3 : ∀ p : Nat → Nat, wA p 4 3 = p 2 := fun _ => rfl
  rw [w0, w0, w1, w1, w2, w2, w3, w3, p0.1, p0.2, p1.1, p1.2, p2.1, p2.2, p3.1, p3.2]
  rw [cross_down hx1 hy1 hy2 hy hR hb, cross_level _ _ _ _ _ hy1, cross_up hx2 hy1 hy2 hy hR hb, cross_level _ _ _ _ _ hy2, ← between_xor hx1 hx2 hx]
  cases bandP y1 y2 y <;> cases flt x x1 <;> cases flt x x2 <;> rfl
end Go.Lk
