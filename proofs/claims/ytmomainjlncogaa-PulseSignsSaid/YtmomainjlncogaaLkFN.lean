/- Rounding keeps the order; bounds. -/
import Derived.Test.YtmomainjlncogaaLkFW
import Derived.Test.YtmomainjlncogaaLkLP
namespace Go.Lk
open Ieee (Format Datum Toward)
set_option linter.unusedSimpArgs false
set_option linter.unusedVariables false

theorem rne_le_of {m D v : Nat} (h : m ≤ v * 2 ^ D) : rne m D ≤ v := by
  have hp : 0 < 2 ^ D := Nat.two_pow_pos D
  have hd : m / 2 ^ D ≤ v := by
    rw [Nat.div_le_iff_le_mul_add_pred hp]
    have : v * 2 ^ D = 2 ^ D * v := Nat.mul_comm _ _
    omega
  rcases Nat.lt_or_eq_of_le hd with h1 | h1
  · have := rne_le m D; omega
  · have h0 : m % 2 ^ D = 0 := by
      have := Nat.div_add_mod m (2 ^ D)
      rw [h1] at this
      have : 2 ^ D * v = v * 2 ^ D := Nat.mul_comm _ _
      omega
    unfold rne
    rw [h0, h1]
    have : (2 ^ D == 2 * 0) = false := by simp
    rw [this]
    simp

/-- The rung of m / 2^q units. -/
def rungQ (m q : Nat) : Nat := (max (m.log2 - 52) q - q) * 2 ^ 52 + rne m (max (m.log2 - 52) q)

theorem rungQ_kept (m q : Nat) : (max (m.log2 - 52) q - q = 0 ∧ rne m (max (m.log2 - 52) q) < 2 ^ 53) ∨ (2 ^ 52 ≤ rne m (max (m.log2 - 52) q) ∧ rne m (max (m.log2 - 52) q) ≤ 2 ^ 53) := by
  rcases Nat.lt_or_ge q (m.log2 - 52) with h | h
  · rw [Nat.max_eq_left (by omega)]
    right
    have := kept_range m
    unfold kd52 at this
    omega
  · rw [Nat.max_eq_right (by omega)]
    rcases Nat.lt_or_ge (rne m q) (2 ^ 53) with h1 | h1
    · left; omega
    · right
      refine ⟨by omega, ?_⟩
      have hm : m ≤ 2 ^ 53 * 2 ^ q := by
        rcases Nat.eq_zero_or_pos m with rfl | hm
        · omega
        · have : m < 2 ^ (m.log2 + 1) := Nat.lt_log2_self
          have h2 : 2 ^ (m.log2 + 1) ≤ 2 ^ 53 * 2 ^ q := by rw [← Nat.pow_add]; exact pow_ge (by omega)
          exact Nat.le_of_lt (Nat.lt_of_lt_of_le this h2)
      exact rne_le_of hm
theorem rungQ_val (m q : Nat) : fxr (rungQ m q) = rne m (max (m.log2 - 52) q) * 2 ^ (max (m.log2 - 52) q - q) := fxr_add (rungQ_kept m q)

theorem rungQ_le {m q R : Nat} (h : m ≤ fxr R * 2 ^ q) : rungQ m q ≤ R := by
  refine fxr_le.1 ?_
  rw [rungQ_val]
  rcases Nat.lt_or_ge q (m.log2 - 52) with hq | hq
  · rw [Nat.max_eq_left (by omega)]
    generalize hD : m.log2 - 52 = D at *
    have hm0 : m ≠ 0 := by rintro rfl; simp at hD; omega
    have h1 : 2 ^ m.log2 ≤ m := Nat.log2_self_le hm0
    have hl : m.log2 = 52 + D := by omega
    rw [hl] at h1
    obtain ⟨c, j, e, hc⟩ := fxr_form R
    -- fxr R is a multiple of 2^(D-q)
    have hj : D - q ≤ j := by
      rcases Nat.lt_or_ge j (D - q) with hlt | hge
      · exfalso
        have h2 : fxr R * 2 ^ q < 2 ^ 53 * 2 ^ (j + q) := by
          rw [e, Nat.mul_assoc, ← Nat.pow_add]
          exact Nat.mul_lt_mul_of_pos_right hc (Nat.two_pow_pos _)
        rw [← Nat.pow_add] at h2
        have h3 : 2 ^ (53 + (j + q)) ≤ 2 ^ (52 + D) := pow_ge (by omega)
        omega
      · exact hge
    have e2 : fxr R = c * 2 ^ (j - (D - q)) * 2 ^ (D - q) := by rw [e, Nat.mul_assoc, ← Nat.pow_add]; congr 2; omega
    have h4 : m ≤ c * 2 ^ (j - (D - q)) * 2 ^ D := by
      rw [e2, Nat.mul_assoc, ← Nat.pow_add, show D - q + q = D by omega] at h
      exact h
    rw [e2]
    exact Nat.mul_le_mul_right _ (rne_le_of h4)
  · rw [Nat.max_eq_right (by omega), Nat.sub_self, Nat.pow_zero, Nat.mul_one]
    exact rne_le_of h
theorem rung_le_of {T R : Nat} (h : T ≤ fxr R) : rung T ≤ R := by
  have h1 : rungQ T 0 ≤ R := rungQ_le (by simpa using h)
  unfold rungQ at h1
  unfold rung kd52
  simp only [Nat.max_zero, Nat.sub_zero] at h1
  omega

theorem nearest_neg (s : Bool) (m : Nat) (p : Int) (q : Nat) (hp : p = -1074 - (q : Int)) (hm : m ≠ 0) : dbl.nearest s m p = wd s (min (rungQ m q) (2047 * 2 ^ 52)) := by
  unfold Format.nearest
  rw [if_neg hm]
  simp only [fb_eq, lp_eq, bin_eq, inf_eq, word_eq, cut_even, Nat.shiftLeft_eq]
  have hlast : max (p + m.log2 - (52 : Nat)) (-1074) = p + (max (m.log2 - 52) q : Nat) := by omega
  rw [hlast]
  have e1 : (p - (p + (max (m.log2 - 52) q : Nat))).toNat = 0 := by omega
  have e2 : (p + (max (m.log2 - 52) q : Nat) - p).toNat = max (m.log2 - 52) q := by omega
  have e3 : (p + (max (m.log2 - 52) q : Nat) - -1074).toNat = max (m.log2 - 52) q - q := by omega
  rw [e1, e2, e3, Nat.pow_zero, Nat.mul_one]
  rfl

/-- A product of finite ones: no greater than what is no smaller. -/
theorem fmul_le {x y R : Nat} (hx : isFin x = true) (hy : isFin y = true) (hR : R < 2047 * 2 ^ 52) (h : fxr (rg x) * fxr (rg y) ≤ fxr R * U) : isFin (fmul x y) = true ∧ fxr (rg (fmul x y)) ≤ fxr R := by
  obtain ⟨m, i, e1, h1, h2, _⟩ := read_fin hx
  obtain ⟨n, j, e2, h3, h4, _⟩ := read_fin hy
  have hr : fmul x y = dbl.nearest (sg x ^^ sg y) (m * n) (i + j) := by
    unfold fmul Format.mul
    rw [e1, e2]
    rfl
  obtain ⟨u, hu, hU⟩ := U_spec
  have key : ∃ r, fmul x y = wd (sg x ^^ sg y) r ∧ r ≤ R := by
    rw [hr]
    rcases (Int.lt_or_le (i + j) (-1074)).symm with hp | hp
    · refine ⟨rung (m * n * 2 ^ (i + j + 1074).toNat), nearest_eq _ _ _ hp, rung_le_of ?_⟩
      rw [← h2, ← h4, hU] at h
      have e : m * 2 ^ (i + 1074).toNat * (n * 2 ^ (j + 1074).toNat) = m * n * 2 ^ (i + j + 1074).toNat * 2 ^ u := by
        have : (i + 1074).toNat + (j + 1074).toNat = (i + j + 1074).toNat + u := by clear hU h hr; omega
        rw [Nat.mul_assoc (m * n), ← Nat.pow_add, ← this, Nat.pow_add]
        ac_rfl
      rw [e] at h
      exact Nat.le_of_mul_le_mul_right h (Nat.two_pow_pos u)
    · by_cases hmn : m * n = 0
      · refine ⟨0, ?_, Nat.zero_le _⟩
        rw [hmn]
        unfold Format.nearest
        rw [if_pos rfl, word_eq]
      · refine ⟨_, nearest_neg _ _ _ (-1074 - (i + j)).toNat (by omega) hmn, Nat.le_trans (Nat.min_le_left ..) (rungQ_le ?_)⟩
        rw [← h2, ← h4, hU] at h
        have hq : (i + 1074).toNat + (j + 1074).toNat + (-1074 - (i + j)).toNat = u := by clear hU h hr; omega
        have e : m * 2 ^ (i + 1074).toNat * (n * 2 ^ (j + 1074).toNat) = m * n * 2 ^ ((i + 1074).toNat + (j + 1074).toNat) := by
          rw [Nat.pow_add]; ac_rfl
        rw [e, ← hq, Nat.pow_add _ ((i + 1074).toNat + (j + 1074).toNat)] at h
        have e' : fxr R * (2 ^ ((i + 1074).toNat + (j + 1074).toNat) * 2 ^ (-1074 - (i + j)).toNat) = fxr R * 2 ^ (-1074 - (i + j)).toNat * 2 ^ ((i + 1074).toNat + (j + 1074).toNat) := by ac_rfl
        rw [e'] at h
        exact Nat.le_of_mul_le_mul_right h (Nat.two_pow_pos _)
  obtain ⟨r, e, hle⟩ := key
  rw [e]
  exact ⟨fin_wd (by omega), by rw [rg_wd (by omega)]; exact fxr_le.2 hle⟩

theorem rnd_le {z : Bool} {T : Int} {R : Nat} (hR : R < 2047 * 2 ^ 52) (h : T.natAbs ≤ fxr R) : isFin (rnd z T) = true ∧ fxr (rg (rnd z T)) ≤ fxr R := by
  unfold rnd
  split
  · have : rg (wd z 0) = 0 := rg_wd (by decide)
    exact ⟨fin_wd (by decide), by rw [this, fxr_zero]; exact Nat.zero_le _⟩
  · have h1 := rung_le_of h
    exact ⟨fin_wd (by omega), by rw [rg_wd (by omega)]; exact fxr_le.2 h1⟩

/-! ### Wrapped numbers -/
theorem fxr_one : fxr (rg fone) = U := by decide +kernel
theorem fx_one : fx fone = (U : Int) := by decide +kernel
theorem rg_one_lt : rg fone < 2047 * 2 ^ 52 := by decide
theorem fx_half : fx half * 2 = (U : Int) := by decide +kernel
theorem fx_mhalf : fx mhalf * 2 = -(U : Int) := by decide +kernel
theorem fx_abs (x : Nat) : (fx x).natAbs = fxr (rg x) := sgn_abs _ _
theorem wrap_bound {x : Nat} (h : Canon x) (hf : isFin x = true) : isFin (wrapP x) = true ∧ (fx (wrapP x)).natAbs ≤ U := by
  rw [wrap_eq h]
  unfold wrapR
  rw [hf, cond_true, floor_eq_trunc h.lt hf]
  obtain ⟨h1, h2, h3⟩ := frac_val hf
  have hd : isFin (fsub x (ftrunc x)) = true ∧ (fx (fsub x (ftrunc x))).natAbs < U := by
    rw [h1]
    split
    · exact ⟨fin_zero, by rw [fx_0]; exact U_pos⟩
    · exact ⟨fin_wd h2, by rw [fx_wd (by omega), h3, sgn_abs]; exact Nat.mod_lt _ U_pos⟩
  generalize fsub x (ftrunc x) = d at hd
  obtain ⟨d1, d2⟩ := hd
  have ho := fx_one
  have hh := fx_half
  have hm := fx_mhalf
  unfold wStep
  rw [fge_fin d1 fin_half, flt_fin d1 fin_mhalf]
  by_cases g1 : fx half ≤ fx d
  · rw [decide_eq_true g1, cond_true, fsub_fin d1 fin_one]
    have hT : (fx d - fx fone).natAbs ≤ fxr (rg fone) := by rw [fxr_one]; omega
    have := rnd_le (z := sg d && !sg fone) rg_one_lt hT
    exact ⟨this.1, by rw [fx_abs, ← fxr_one]; exact this.2⟩
  · rw [decide_eq_false g1, cond_false]
    by_cases g2 : fx d < fx mhalf
    · rw [decide_eq_true g2, cond_true, fadd_fin d1 fin_one]
      have hT : (fx d + fx fone).natAbs ≤ fxr (rg fone) := by rw [fxr_one]; omega
      have := rnd_le (z := sg d && sg fone) rg_one_lt hT
      exact ⟨this.1, by rw [fx_abs, ← fxr_one]; exact this.2⟩
    · rw [decide_eq_false g2, cond_false]
      exact ⟨d1, by omega⟩

/-- A finite float, made whole. -/
theorem toInt_fin {x : Nat} (h : isFin x = true) : (dbl.read x).toInt .zero = some (sgn (sg x) (fxr (rg x) / U)) := by
  obtain ⟨m, p, e, hp, hm, hlt⟩ := read_fin h
  rw [e]
  simp only [Datum.toInt, Datum.integral, Nat.shiftLeft_eq, cut_zero, signed_eq]
  rw [(whole_eq hp).1, hm, Nat.pow_zero, Nat.mul_one]
theorem toI_fin {x : Nat} (h : isFin x = true) : toI x = sgn (sg x) (fxr (rg x) / U) := by unfold toI; rw [toInt_fin h]; rfl
theorem okI_fin {x : Nat} (h : isFin x = true) (hb : fxr (rg x) / U ≤ 9223372036854775807) : okI .i64 x = true := by
  unfold okI
  rw [toInt_fin h]
  refine decide_eq_true ?_
  have h1 : IntKind.i64.min = -9223372036854775808 := by decide
  have h2 : IntKind.i64.max = 9223372036854775807 := by decide
  rw [h1, h2]
  unfold sgn
  generalize fxr (rg x) / U = g at hb
  split <;> omega
theorem ffloor_le {x R : Nat} (h : isFin x = true) (hR : R < 2047 * 2 ^ 52) (hb : (fxr (rg x) / U + 1) * U ≤ fxr R) : isFin (ffloor x) = true ∧ fxr (rg (ffloor x)) ≤ fxr R := by
  rw [ffloor_fin h]
  have h1 : rung ((fxr (rg x) / U + (sg x && fxr (rg x) % U != 0).toNat) * U) ≤ R := by
    refine rung_le_of (Nat.le_trans (Nat.mul_le_mul_right _ ?_) hb)
    cases (sg x && fxr (rg x) % U != 0) <;> simp
  exact ⟨fin_wd (by omega), by rw [rg_wd (by omega)]; exact fxr_le.2 h1⟩
end Go.Lk
