import Derived.Test.YtmomainjlncogaaLkJD
import Derived.Test.YtmomainjlncogaaLkJB
section
/- Rounding keeps the order; bounds. -/
namespace Go.Lk
open Ieee (Format Datum Toward)
set_option linter.unusedSimpArgs false
set_option linter.unusedVariables false

theorem rne_le_of {m D v : Nat} (h : m ≤ v * 2 ^ D) : rne m D ≤ v := by
  have hp : 0 < 2 ^ D := Nat.two_pow_pos D
  have hd : m / 2 ^ D ≤ v := by
    rw [Nat.div_le_iff_le_mul_add_pred hp]
    have : v * 2 ^ D = 2 ^ D * v := Nat.mul_comm _ _
    omega
  rcases Nat.lt_or_eq_of_le hd with h1 | h1
  · have := rne_le m D; omega
  · have h0 : m % 2 ^ D = 0 := by
      have := Nat.div_add_mod m (2 ^ D)
      rw [h1] at this
      have : 2 ^ D * v = v * 2 ^ D := Nat.mul_comm _ _
      omega
    unfold rne
    rw [h0, h1]
    have : (2 ^ D == 2 * 0) = false := by simp
    rw [this]
    simp

/-- The rung of m / 2^q units. -/
def rungQ (m q : Nat) : Nat := (max (m.log2 - 52) q - q) * 2 ^ 52 + rne m (max (m.log2 - 52) q)

theorem rungQ_kept (m q : Nat) : (max (m.log2 - 52) q - q = 0 ∧ rne m (max (m.log2 - 52) q) < 2 ^ 53) ∨ (2 ^ 52 ≤ rne m (max (m.log2 - 52) q) ∧ rne m (max (m.log2 - 52) q) ≤ 2 ^ 53) := by
  rcases Nat.lt_or_ge q (m.log2 - 52) with h | h
  · rw [Nat.max_eq_left (by omega)]
    right
    have := kept_range m
    unfold kd52 at this
    omega
  · rw [Nat.max_eq_right (by omega)]
    rcases Nat.lt_or_ge (rne m q) (2 ^ 53) with h1 | h1
    · left; omega
    · right
      refine ⟨by omega, ?_⟩
      have hm : m ≤ 2 ^ 53 * 2 ^ q := by
        rcases Nat.eq_zero_or_pos m with rfl | hm
        · omega
        · have : m < 2 ^ (m.log2 + 1) := Nat.lt_log2_self
          have h2 : 2 ^ (m.log2 + 1) ≤ 2 ^ 53 * 2 ^ q := by rw [← Nat.pow_add]; exact pow_ge (by omega)
          exact Nat.le_of_lt (Nat.lt_of_lt_of_le this h2)
      exact rne_le_of hm
theorem rungQ_val (m q : Nat) : fxr (rungQ m q) = rne m (max (m.log2 - 52) q) * 2 ^ (max (m.log2 - 52) q - q) := fxr_add (rungQ_kept m q)

theorem rungQ_le {m q R : Nat} (h : m ≤ fxr R * 2 ^ q) : rungQ m q ≤ R := by
  refine fxr_le.1 ?_
  rw [rungQ_val]
  rcases Nat.lt_or_ge q (m.log2 - 52) with hq | hq
  · rw [Nat.max_eq_left (by omega)]
    generalize hD : m.log2 - 52 = D at *
    have hm0 : m ≠ 0 := by rintro rfl; simp at hD; omega
    have h1 : 2 ^ m.log2 ≤ m := Nat.log2_self_le hm0
    have hl : m.log2 = 52 + D := by omega
    rw [hl] at h1
    obtain ⟨c, j, e, hc⟩ := fxr_form R
    -- fxr R is a multiple of 2^(D-q)
    have hj : D - q ≤ j := by
      rcases Nat.lt_or_ge j (D - q) with hlt | hge
      · exfalso
        have h2 : fxr R * 2 ^ q < 2 ^ 53 * 2 ^ (j + q) := by
          rw [e, Nat.mul_assoc, ← Nat.pow_add]
          exact Nat.mul_lt_mul_of_pos_right hc (Nat.two_pow_pos _)
        rw [← Nat.pow_add] at h2
        have h3 : 2 ^ (53 + (j + q)) ≤ 2 ^ (52 + D) := pow_ge (by omega)
        omega
      · exact hge
    have e2 : fxr R = c * 2 ^ (j - (D - q)) * 2 ^ (D - q) := by rw [e, Nat.mul_assoc, ← Nat.pow_add]; congr 2; omega
    have h4 : m ≤ c * 2 ^ (j - (D - q)) * 2 ^ D := by
      rw [e2, Nat.mul_assoc, ← Nat.pow_add, show D - q + q = D by omega] at h
      exact h
    rw [e2]
    exact Nat.mul_le_mul_right _ (rne_le_of h4)
  · rw [Nat.max_eq_right (by omega), Nat.sub_self, Nat.pow_zero, Nat.mul_one]
    exact rne_le_of h
theorem rung_le_of {T R : Nat} (h : T ≤ fxr R) : rung T ≤ R := by
  have h1 : rungQ T 0 ≤ R := rungQ_le (by simpa using h)
  unfold rungQ at h1
  unfold rung kd52
  simp only [Nat.max_zero, Nat.sub_zero] at h1
  omega

theorem nearest_neg (s : Bool) (m : Nat) (p : Int) (q : Nat) (hp : p = -1074 - (q : Int)) (hm : m ≠ 0) : dbl.nearest s m p = wd s (min (rungQ m q) (2047 * 2 ^ 52)) := by
  unfold Format.nearest
  rw [if_neg hm]
  simp only [fb_eq, lp_eq, bin_eq, inf_eq, word_eq, cut_even, Nat.shiftLeft_eq]
  have hlast : max (p + m.log2 - (52 : Nat)) (-1074) = p + (max (m.log2 - 52) q : Nat) := by omega
  rw [hlast]
  have e1 : (p - (p + (max (m.log2 - 52) q : Nat))).toNat = 0 := by omega
  have e2 : (p + (max (m.log2 - 52) q : Nat) - p).toNat = max (m.log2 - 52) q := by omega
  have e3 : (p + (max (m.log2 - 52) q : Nat) - -1074).toNat = max (m.log2 - 52) q - q := by omega
  rw [e1, e2, e3, Nat.pow_zero, Nat.mul_one]
  rfl

/-- A product of finite ones: no greater than what is no smaller. -/
theorem fmul_le {x y R : Nat} (hx : isFin x = true) (hy : isFin y = true) (hR : R < 2047 * 2 ^ 52) (h : fxr (rg x) * fxr (rg y) ≤ fxr R * U) : isFin (fmul x y) = true ∧ fxr (rg (fmul x y)) ≤ fxr R := by
  obtain ⟨m, i, e1, h1, h2, _⟩ := read_fin hx
  obtain ⟨n, j, e2, h3, h4, _⟩ := read_fin hy
  have hr : fmul x y = dbl.nearest (sg x ^^ sg y) (m * n) (i + j) := by
    unfold fmul Format.mul
    rw [e1, e2]
    rfl
  obtain ⟨u, hu, hU⟩ := U_spec
  have key : ∃ r, fmul x y = wd (sg x ^^ sg y) r ∧ r ≤ R := by
    rw [hr]
    rcases (Int.lt_or_le (i + j) (-1074)).symm with hp | hp
    · refine ⟨rung (m * n * 2 ^ (i + j + 1074).toNat), nearest_eq _ _ _ hp, rung_le_of ?_⟩
      rw [← h2, ← h4, hU] at h
      have e : m * 2 ^ (i + 1074).toNat * (n * 2 ^ (j + 1074).toNat) = m * n * 2 ^ (i + j + 1074).toNat * 2 ^ u := by
        have : (i + 1074).toNat + (j + 1074).toNat = (i + j + 1074).toNat + u := by clear hU h hr; omega
        rw [Nat.mul_assoc (m * n), ← Nat.pow_add, ← this, Nat.pow_add]
        ac_rfl
      rw [e] at h
      exact Nat.le_of_mul_le_mul_right h (Nat.two_pow_pos u)
    · by_cases hmn : m * n = 0
      · refine ⟨0, ?_, Nat.zero_le _⟩
        rw [hmn]
        unfold Format.nearest
        rw [if_pos rfl, word_eq]
      · refine ⟨_, nearest_neg _ _ _ (-1074 - (i + j)).toNat (by omega) hmn, Nat.le_trans (Nat.min_le_left ..) (rungQ_le ?_)⟩
        rw [← h2, ← h4, hU] at h
        have hq : (i + 1074).toNat + (j + 1074).toNat + (-1074 - (i + j)).toNat = u := by clear hU h hr; omega
        have e : m * 2 ^ (i + 1074).toNat * (n * 2 ^ (j + 1074).toNat) = m * n * 2 ^ ((i + 1074).toNat + (j + 1074).toNat) := by
          rw [Nat.pow_add]; ac_rfl
        rw [e, ← hq, Nat.pow_add _ ((i + 1074).toNat + (j + 1074).toNat)] at h
        have e' : fxr R * (2 ^ ((i + 1074).toNat + (j + 1074).toNat) * 2 ^ (-1074 - (i + j)).toNat) = fxr R * 2 ^ (-1074 - (i + j)).toNat * 2 ^ ((i + 1074).toNat + (j + 1074).toNat) := by ac_rfl
        rw [e'] at h
        exact Nat.le_of_mul_le_mul_right h (Nat.two_pow_pos _)
  obtain ⟨r, e, hle⟩ := key
  rw [e]
  exact ⟨fin_wd (by omega), by rw [rg_wd (by omega)]; exact fxr_le.2 hle⟩

theorem rnd_le {z : Bool} {T : Int} {R : Nat} (hR : R < 2047 * 2 ^ 52) (h : T.natAbs ≤ fxr R) : isFin (rnd z T) = true ∧ fxr (rg (rnd z T)) ≤ fxr R := by
  unfold rnd
  split
  · have : rg (wd z 0) = 0 := rg_wd (by decide)
    exact ⟨fin_wd (by decide), by rw [this, fxr_zero]; exact Nat.zero_le _⟩
  · have h1 := rung_le_of h
    exact ⟨fin_wd (by omega), by rw [rg_wd (by omega)]; exact fxr_le.2 h1⟩

/-! ### Wrapped numbers -/
theorem fxr_one : fxr (rg fone) = U := by decide +kernel
theorem fx_one : fx fone = (U : Int) := by decide +kernel
theorem rg_one_lt : rg fone < 2047 * 2 ^ 52 := by decide
theorem fx_half : fx half * 2 = (U : Int) := by decide +kernel
theorem fx_mhalf : fx mhalf * 2 = -(U : Int) := by decide +kernel
theorem fx_abs (x : Nat) : (fx x).natAbs = fxr (rg x) := sgn_abs _ _
theorem wrap_bound {x : Nat} (h : Canon x) (hf : isFin x = true) : isFin (wrapP x) = true ∧ (fx (wrapP x)).natAbs ≤ U := by
  rw [wrap_eq h]
  unfold wrapR
  rw [hf, cond_true, floor_eq_trunc h.lt hf]
  obtain ⟨h1, h2, h3⟩ := frac_val hf
  have hd : isFin (fsub x (ftrunc x)) = true ∧ (fx (fsub x (ftrunc x))).natAbs < U := by
    rw [h1]
    split
    · exact ⟨fin_zero, by rw [fx_0]; exact U_pos⟩
    · exact ⟨fin_wd h2, by rw [fx_wd (by omega), h3, sgn_abs]; exact Nat.mod_lt _ U_pos⟩
  generalize fsub x (ftrunc x) = d at hd
  obtain ⟨d1, d2⟩ := hd
  have ho := fx_one
  have hh := fx_half
  have hm := fx_mhalf
  unfold wStep
  rw [fge_fin d1 fin_half, flt_fin d1 fin_mhalf]
  by_cases g1 : fx half ≤ fx d
  · rw [decide_eq_true g1, cond_true, fsub_fin d1 fin_one]
    have hT : (fx d - fx fone).natAbs ≤ fxr (rg fone) := by rw [fxr_one]; omega
    have := rnd_le (z := sg d && !sg fone) rg_one_lt hT
    exact ⟨this.1, by rw [fx_abs, ← fxr_one]; exact this.2⟩
  · rw [decide_eq_false g1, cond_false]
    by_cases g2 : fx d < fx mhalf
    · rw [decide_eq_true g2, cond_true, fadd_fin d1 fin_one]
      have hT : (fx d + fx fone).natAbs ≤ fxr (rg fone) := by rw [fxr_one]; omega
      have := rnd_le (z := sg d && sg fone) rg_one_lt hT
      exact ⟨this.1, by rw [fx_abs, ← fxr_one]; exact this.2⟩
    · rw [decide_eq_false g2, cond_false]
      exact ⟨d1, by omega⟩

/-- A finite float, made whole. -/
theorem toInt_fin {x : Nat} (h : isFin x = true) : (dbl.read x).toInt .zero = some (sgn (sg x) (fxr (rg x) / U)) := by
  obtain ⟨m, p, e, hp, hm, hlt⟩ := read_fin h
  rw [e]
  simp only [Datum.toInt, Datum.integral, Nat.shiftLeft_eq, cut_zero, signed_eq]
  rw [(whole_eq hp).1, hm, Nat.pow_zero, Nat.mul_one]
theorem toI_fin {x : Nat} (h : isFin x = true) : toI x = sgn (sg x) (fxr (rg x) / U) := by unfold toI; rw [toInt_fin h]; rfl
theorem okI_fin {x : Nat} (h : isFin x = true) (hb : fxr (rg x) / U ≤ 9223372036854775807) : okI .i64 x = true := by
  unfold okI
  rw [toInt_fin h]
  refine decide_eq_true ?_
  have h1 : IntKind.i64.min = -9223372036854775808 := by decide
  have h2 : IntKind.i64.max = 9223372036854775807 := by decide
  rw [h1, h2]
  unfold sgn
  generalize fxr (rg x) / U = g at hb
  split <;> omega
theorem ffloor_le {x R : Nat} (h : isFin x = true) (hR : R < 2047 * 2 ^ 52) (hb : (fxr (rg x) / U + 1) * U ≤ fxr R) : isFin (ffloor x) = true ∧ fxr (rg (ffloor x)) ≤ fxr R := by
  rw [ffloor_fin h]
  have h1 : rung ((fxr (rg x) / U + (sg x && fxr (rg x) % U != 0).toNat) * U) ≤ R := by
    refine rung_le_of (Nat.le_trans (Nat.mul_le_mul_right _ ?_) hb)
    cases (sg x && fxr (rg x) % U != 0) <;> simp
  exact ⟨fin_wd (by omega), by rw [rg_wd (by omega)]; exact fxr_le.2 h1⟩
end Go.Lk
end

section
/- Between what each operation's result lies: products, quotients, roots; how far from them it may be. -/
namespace Go.Lk
open Ieee (Format Datum Toward)
set_option linter.unusedSimpArgs false
set_option linter.unusedVariables false

def infR : Nat := 2047 * 2 ^ 52
theorem rne_ge_of {m D v : Nat} (h : v * 2 ^ D ≤ m) : v ≤ rne m D :=
  Nat.le_trans ((Nat.le_div_iff_mul_le (Nat.two_pow_pos D)).2 h) (rne_ge m D)
theorem rungQ_ge {m q R : Nat} (h : fxr R * 2 ^ q ≤ m) : R ≤ rungQ m q := by
  refine fxr_le.1 ?_
  rw [rungQ_val]
  rcases Nat.lt_or_ge q (m.log2 - 52) with hq | hq
  · rw [Nat.max_eq_left (by omega)]
    generalize hD : m.log2 - 52 = D at *
    have hm0 : m ≠ 0 := by rintro rfl; simp at hD; omega
    have h1 : 2 ^ m.log2 ≤ m := Nat.log2_self_le hm0
    have hl : m.log2 = 52 + D := by omega
    rw [hl] at h1
    obtain ⟨c, j, e, hc⟩ := fxr_form R
    rcases Nat.lt_or_ge j (D - q) with hlt | hge
    · have h2 : fxr R < 2 ^ 53 * 2 ^ j := by rw [e]; exact Nat.mul_lt_mul_of_pos_right hc (Nat.two_pow_pos _)
      have h3 : 2 ^ 52 ≤ rne m D := rne_ge_of (by rw [← Nat.pow_add]; exact h1)
      have h4 : 2 ^ 53 * 2 ^ j ≤ 2 ^ 52 * 2 ^ (D - q) := by rw [← Nat.pow_add, ← Nat.pow_add]; exact pow_ge (by omega)
      exact Nat.le_of_lt (Nat.lt_of_lt_of_le h2 (Nat.le_trans h4 (Nat.mul_le_mul_right _ h3)))
    · have e2 : fxr R = c * 2 ^ (j - (D - q)) * 2 ^ (D - q) := by rw [e, Nat.mul_assoc, ← Nat.pow_add]; congr 2; omega
      have h4 : c * 2 ^ (j - (D - q)) * 2 ^ D ≤ m := by
        rw [e2, Nat.mul_assoc, ← Nat.pow_add, show D - q + q = D by omega] at h
        exact h
      rw [e2]
      exact Nat.mul_le_mul_right _ (rne_ge_of h4)
  · rw [Nat.max_eq_right (by omega), Nat.sub_self, Nat.pow_zero, Nat.mul_one]
    exact rne_ge_of h
theorem rungQ_shl (m q k : Nat) (hm : m ≠ 0) : rungQ (m * 2 ^ k) (q + k) = rungQ m q := by
  unfold rungQ
  rw [log2_shl k hm]
  have : max (m.log2 + k - 52) (q + k) = max (m.log2 - 52) q + k := by omega
  rw [this, rne_shl]
  congr 2
  omega
theorem rungQ_0 (q : Nat) : rungQ 0 q = 0 := Nat.le_zero.1 (rungQ_le (by rw [fxr_zero]; omega))
theorem rung_Q (T : Nat) : rung T = min (rungQ T 0) (2047 * 2 ^ 52) := by
  unfold rung rungQ kd52
  simp only [Nat.max_zero, Nat.sub_zero]
theorem nearest_any (s : Bool) (m : Nat) (p : Int) (M q : Nat) (hq : 0 ≤ p + 1074 + q) (h : M = m * 2 ^ (p + 1074 + q).toNat) : dbl.nearest s m p = wd s (min (rungQ M q) (2047 * 2 ^ 52)) := by
  by_cases hm : m = 0
  · subst hm
    rw [Nat.zero_mul] at h
    subst h
    rw [rungQ_0]
    unfold Format.nearest
    rw [if_pos rfl, word_eq]
    rfl
  · rcases Int.lt_or_le (p + 1074) 0 with hp | hp
    · rw [nearest_neg s m p (-1074 - p).toNat (by omega) hm, h]
      have e := rungQ_shl m (-1074 - p).toNat (p + 1074 + q).toNat hm
      rw [show (-1074 - p).toNat + (p + 1074 + q).toNat = q by omega] at e
      rw [e]
    · rw [nearest_eq s m p (by omega), rung_Q, h]
      have e := rungQ_shl (m * 2 ^ (p + 1074).toNat) 0 q (Nat.mul_ne_zero hm (Nat.ne_of_gt (Nat.two_pow_pos _)))
      rw [Nat.mul_assoc, ← Nat.pow_add, show (p + 1074).toNat + q = (p + 1074 + q).toNat by omega, Nat.zero_add] at e
      rw [e]

/-- The rung r is one that num / den lies at: it is between each two that num / den lies between. -/
def Near (num den r : Nat) : Prop := r ≤ infR ∧ ∀ R, R ≤ infR → (fxr R * den ≤ num → R ≤ r) ∧ (num ≤ fxr R * den → r ≤ R)
theorem near_rungQ (m q : Nat) : Near m (2 ^ q) (min (rungQ m q) (2047 * 2 ^ 52)) :=
  ⟨Nat.min_le_right .., fun R hR => ⟨fun h => Nat.le_min.2 ⟨rungQ_ge h, hR⟩, fun h => Nat.le_trans (Nat.min_le_left ..) (rungQ_le h)⟩⟩
theorem near_rung (T : Nat) : Near T 1 (rung T) := by
  have := near_rungQ T 0
  rw [← rung_Q, Nat.pow_zero] at this
  exact this
theorem Near.cast {n d n' d' r : Nat} (h : Near n d r) (h1 : ∀ R, R ≤ infR → (fxr R * d' ≤ n' → fxr R * d ≤ n)) (h2 : ∀ R, R ≤ infR → (n' ≤ fxr R * d' → n ≤ fxr R * d)) : Near n' d' r :=
  ⟨h.1, fun R hR => ⟨fun k => (h.2 R hR).1 (h1 R hR k), fun k => (h.2 R hR).2 (h2 R hR k)⟩⟩
theorem Near.scale {n d r k : Nat} (hk : 0 < k) (h : Near n d r) : Near (n * k) (d * k) r :=
  h.cast (fun R _ h' => by rw [← Nat.mul_assoc] at h'; exact Nat.le_of_mul_le_mul_right h' hk) (fun R _ h' => by rw [← Nat.mul_assoc] at h'; exact Nat.le_of_mul_le_mul_right h' hk)
theorem Near.unscale {n d r k : Nat} (hk : 0 < k) (h : Near (n * k) (d * k) r) : Near n d r :=
  h.cast (fun R _ h' => by rw [← Nat.mul_assoc]; exact Nat.mul_le_mul_right _ h') (fun R _ h' => by rw [← Nat.mul_assoc]; exact Nat.mul_le_mul_right _ h')

theorem fmul_near {x y : Nat} (hx : isFin x = true) (hy : isFin y = true) : ∃ r, fmul x y = wd (sg x ^^ sg y) r ∧ Near (fxr (rg x) * fxr (rg y)) U r := by
  obtain ⟨m, i, e1, h1, h2, _⟩ := read_fin hx
  obtain ⟨n, j, e2, h3, h4, _⟩ := read_fin hy
  have hr : fmul x y = dbl.nearest (sg x ^^ sg y) (m * n) (i + j) := by
    unfold fmul Format.mul
    rw [e1, e2]
    rfl
  obtain ⟨u, hu, hU⟩ := U_spec
  have h5 := nearest_any (sg x ^^ sg y) (m * n) (i + j) (m * n * 2 ^ (i + j + 1074 + (u : Int)).toNat) u (by clear hU; omega) rfl
  refine ⟨_, hr.trans h5, ?_⟩
  have e : m * n * 2 ^ (i + j + 1074 + (u : Int)).toNat = fxr (rg x) * fxr (rg y) := by
    rw [← h2, ← h4]
    have : (i + j + 1074 + (u : Int)).toNat = (i + 1074).toNat + (j + 1074).toNat := by clear hU h5; omega
    rw [this, Nat.pow_add]
    ac_rfl
  rw [e, hU]
  exact near_rungQ _ _

theorem div_core {m n a b w more F : Nat} {c e : Nat} (hm : m ≠ 0) (hn : n ≠ 0) (hmore : more = 54 + n.log2 - m.log2) (hF : F = c * 2 ^ e) (hc : c < 2 ^ 53) (he : b + more ≤ e) :
    (F * n ≤ m * 2 ^ more * 2 ^ (a + w) → F * 2 ≤ (2 * (m * 2 ^ more / n) + (m * 2 ^ more % n != 0).toNat) * 2 ^ (a + w)) ∧
    (m * 2 ^ more * 2 ^ (a + w) ≤ F * n → (2 * (m * 2 ^ more / n) + (m * 2 ^ more % n != 0).toNat) * 2 ^ (a + w) ≤ F * 2) := by
  have hD : 2 ^ (54 + n.log2) ≤ m * 2 ^ more := by
    have h1 : 2 ^ m.log2 ≤ m := Nat.log2_self_le hm
    calc 2 ^ (54 + n.log2) ≤ 2 ^ (m.log2 + more) := pow_ge (by omega)
      _ = 2 ^ m.log2 * 2 ^ more := Nat.pow_add ..
      _ ≤ _ := Nat.mul_le_mul_right _ h1
  generalize m * 2 ^ more = D at *
  have hn2 : n < 2 ^ (n.log2 + 1) := Nat.lt_log2_self
  have hn0 : 0 < n := by omega
  have hDn : 2 ^ 53 * n < D := by
    have : 2 ^ 53 * 2 ^ (n.log2 + 1) = 2 ^ (54 + n.log2) := by rw [← Nat.pow_add]; congr 1; omega
    omega
  have hq0 : 2 ^ 53 ≤ D / n := (Nat.le_div_iff_mul_le hn0).2 (Nat.le_of_lt hDn)
  have hdm := Nat.div_add_mod D n
  have hml : D % n < n := Nat.mod_lt _ hn0
  have hbit : (D % n != 0).toNat = if D % n = 0 then 0 else 1 := by by_cases h : D % n = 0 <;> simp [h]
  rw [hbit]
  generalize a + w = g
  have hG : 0 < 2 ^ g := Nat.two_pow_pos g
  rcases Nat.lt_or_ge e g with hlt | hge
  · have hFs : F < 2 ^ 52 * 2 ^ g := by
      have h2 : F < 2 ^ 53 * 2 ^ e := by rw [hF]; exact Nat.mul_lt_mul_of_pos_right hc (Nat.two_pow_pos _)
      have h4 : 2 ^ 53 * 2 ^ e ≤ 2 ^ 52 * 2 ^ g := by rw [← Nat.pow_add, ← Nat.pow_add]; exact pow_ge (by omega)
      omega
    constructor
    · intro _
      have h1 : 2 ^ 53 * 2 ^ g ≤ D / n * 2 ^ g := Nat.mul_le_mul_right _ hq0
      have h2 : D / n * 2 ^ g ≤ (2 * (D / n) + if D % n = 0 then 0 else 1) * 2 ^ g := Nat.mul_le_mul_right _ (by omega)
      omega
    · intro h
      exfalso
      have h1 : F * n < 2 ^ 52 * 2 ^ g * n := Nat.mul_lt_mul_of_pos_right hFs hn0
      have h2 : 2 ^ 53 * n * 2 ^ g < D * 2 ^ g := Nat.mul_lt_mul_of_pos_right hDn hG
      have h3 : 2 ^ 53 * n * 2 ^ g = 2 * (2 ^ 52 * 2 ^ g * n) := by
        rw [show (2 : Nat) ^ 53 = 2 * 2 ^ 52 by decide]; ac_rfl
      omega
  · have hf : F = c * 2 ^ (e - g) * 2 ^ g := by rw [hF, Nat.mul_assoc, ← Nat.pow_add]; congr 2; omega
    generalize c * 2 ^ (e - g) = f at hf
    rw [hf]
    constructor
    · intro h
      have h1 : f * n ≤ D := Nat.le_of_mul_le_mul_right (by rw [show f * n * 2 ^ g = f * 2 ^ g * n by ac_rfl]; exact h) hG
      have h2 : f ≤ D / n := (Nat.le_div_iff_mul_le hn0).2 h1
      rw [show f * 2 ^ g * 2 = (2 * f) * 2 ^ g by ac_rfl]
      exact Nat.mul_le_mul_right _ (by omega)
    · intro h
      have h1 : D ≤ f * n := Nat.le_of_mul_le_mul_right (by rw [show f * n * 2 ^ g = f * 2 ^ g * n by ac_rfl]; exact h) hG
      rw [show f * 2 ^ g * 2 = (2 * f) * 2 ^ g by ac_rfl]
      refine Nat.mul_le_mul_right _ ?_
      have hcm : n * (D / n) = D / n * n := Nat.mul_comm _ _
      split
      · rename_i h0
        have : D / n * n ≤ f * n := by omega
        have := Nat.le_of_mul_le_mul_right this hn0
        omega
      · rename_i h0
        have h2 : D / n * n < f * n := by omega
        have := Nat.lt_of_mul_lt_mul_right h2
        omega

theorem fdiv_near {x y : Nat} (hx : isFin x = true) (hy : isFin y = true) (hy0 : fxr (rg y) ≠ 0) : ∃ r, fdiv x y = wd (sg x ^^ sg y) r ∧ Near (fxr (rg x) * U) (fxr (rg y)) r := by
  obtain ⟨m, i, e1, h1, h2, _⟩ := read_fin hx
  obtain ⟨n, j, e2, h3, h4, _⟩ := read_fin hy
  have hn : n ≠ 0 := by rintro rfl; rw [Nat.zero_mul] at h4; exact hy0 h4.symm
  generalize hmo : 54 + n.log2 - m.log2 = more
  have hr : fdiv x y = dbl.nearest (sg x ^^ sg y) (2 * (m * 2 ^ more / n) + (m * 2 ^ more % n != 0).toNat) (i - j - more - 1) := by
    unfold fdiv Format.div
    rw [e1, e2]
    simp only [Datum.quotient, if_neg hn, fb_eq, Nat.shiftLeft_eq]
    rw [show 52 + 2 + n.log2 - m.log2 = more by omega]
    rfl
  obtain ⟨u, hu, hU⟩ := U_spec
  generalize ha : (i + 1074).toNat = a at *
  generalize hb : (j + 1074).toNat = b at *
  have hpl : i - j - more - 1 + 1074 + ((b + more + 1 : Nat) : Int) = ((a + u : Nat) : Int) := by clear hU; omega
  have h5 := nearest_any (sg x ^^ sg y) (2 * (m * 2 ^ more / n) + (m * 2 ^ more % n != 0).toNat) (i - j - more - 1) _ (b + more + 1) (by rw [hpl]; omega) rfl
  rw [hpl, Int.toNat_natCast] at h5
  refine ⟨_, hr.trans h5, ?_⟩
  by_cases hm : m = 0
  · subst hm
    rw [Nat.zero_mul] at h2
    have e0 : 2 * (0 * 2 ^ more / n) + (0 * 2 ^ more % n != 0).toNat = 0 := by simp
    rw [e0, Nat.zero_mul, rungQ_0, ← h2, Nat.zero_mul]
    refine ⟨by decide, fun R hR => ⟨fun h => ?_, fun _ => Nat.zero_le _⟩⟩
    have h6 : fxr R = 0 := by
      rcases Nat.mul_eq_zero.1 (Nat.le_zero.1 h) with h | h
      · exact h
      · exact absurd h hy0
    rw [← fxr_zero] at h6
    have := fxr_inj h6
    omega
  · refine (near_rungQ _ _).cast (fun R hR h => ?_) (fun R hR h => ?_)
    · obtain ⟨c, e, hR', hc⟩ := fxr_form R
      have k := (div_core (m := m) (n := n) (a := a) (b := b) (w := u) (more := more) (F := fxr R * 2 ^ (b + more)) (c := c) (e := e + (b + more)) hm hn hmo.symm (by rw [hR', Nat.mul_assoc, ← Nat.pow_add]) hc (by omega)).1
      rw [← h2, ← h4, hU] at h
      have := k (by
        calc fxr R * 2 ^ (b + more) * n = fxr R * (n * 2 ^ b) * 2 ^ more := by rw [Nat.pow_add]; ac_rfl
          _ ≤ m * 2 ^ a * 2 ^ u * 2 ^ more := Nat.mul_le_mul_right _ h
          _ = _ := by rw [Nat.pow_add]; ac_rfl)
      calc fxr R * 2 ^ (b + more + 1) = fxr R * 2 ^ (b + more) * 2 := by rw [Nat.pow_succ]; ac_rfl
        _ ≤ _ := this
    · obtain ⟨c, e, hR', hc⟩ := fxr_form R
      have k := (div_core (m := m) (n := n) (a := a) (b := b) (w := u) (more := more) (F := fxr R * 2 ^ (b + more)) (c := c) (e := e + (b + more)) hm hn hmo.symm (by rw [hR', Nat.mul_assoc, ← Nat.pow_add]) hc (by omega)).2
      rw [← h2, ← h4, hU] at h
      have := k (by
        calc m * 2 ^ more * 2 ^ (a + u) = m * 2 ^ a * 2 ^ u * 2 ^ more := by rw [Nat.pow_add]; ac_rfl
          _ ≤ fxr R * (n * 2 ^ b) * 2 ^ more := Nat.mul_le_mul_right _ h
          _ = _ := by rw [Nat.pow_add]; ac_rfl)
      calc _ ≤ fxr R * 2 ^ (b + more) * 2 := this
        _ = fxr R * 2 ^ (b + more + 1) := by rw [Nat.pow_succ]; ac_rfl

/-! ### How far -/
/-- The next one is no further than 1, or 2^-52 of it. -/
theorem fxr_gap (L : Nat) : 2 ^ 52 * fxr (L + 1) ≤ 2 ^ 52 * fxr L + max (2 ^ 52) (fxr L) := by
  rcases Nat.lt_or_ge L (2 ^ 52) with h | h
  · have e1 := fxr_add (k := 0) (c := L) (.inl ⟨rfl, by omega⟩)
    have e2 := fxr_add (k := 0) (c := L + 1) (.inl ⟨rfl, by omega⟩)
    simp only [Nat.zero_mul, Nat.zero_add, Nat.pow_zero, Nat.mul_one] at e1 e2
    rw [e1, e2]
    omega
  · have hL : L = (L / 2 ^ 52 - 1) * 2 ^ 52 + (2 ^ 52 + L % 2 ^ 52) := by omega
    generalize L / 2 ^ 52 - 1 = k at hL
    have hc : L % 2 ^ 52 < 2 ^ 52 := Nat.mod_lt _ (by decide)
    generalize L % 2 ^ 52 = c at hL hc
    have e1 := fxr_add (k := k) (c := 2 ^ 52 + c) (.inr ⟨by omega, by omega⟩)
    have e2 := fxr_add (k := k) (c := 2 ^ 52 + c + 1) (.inr ⟨by omega, by omega⟩)
    rw [hL, show k * 2 ^ 52 + (2 ^ 52 + c) + 1 = k * 2 ^ 52 + (2 ^ 52 + c + 1) by omega, e1, e2]
    have e3 : (2 ^ 52 + c + 1) * 2 ^ k = (2 ^ 52 + c) * 2 ^ k + 2 ^ k := by rw [Nat.add_mul (2 ^ 52 + c) 1, Nat.one_mul]
    have : 2 ^ 52 * 2 ^ k ≤ (2 ^ 52 + c) * 2 ^ k := Nat.mul_le_mul_right _ (by omega)
    rw [e3]
    omega

theorem Near.le_of {num den r R : Nat} (h : Near num den r) (hR : R ≤ infR) (k : num ≤ fxr R * den) : r ≤ R := (h.2 R hR).2 k
theorem Near.ge_of {num den r R : Nat} (h : Near num den r) (hR : R ≤ infR) (k : fxr R * den ≤ num) : R ≤ r := (h.2 R hR).1 k
/-- Two rungs, next to each other, between which num / den lies. -/
theorem Near.between {num den r : Nat} (h : Near num den r) (hd : 0 < den) (hr : r < infR) : ∃ L, L < infR ∧ fxr L * den ≤ num ∧ num < fxr (L + 1) * den ∧ (r = L ∨ r = L + 1) := by
  -- the greatest L with fxr L * den ≤ num
  have hz : fxr 0 * den ≤ num := by rw [fxr_zero]; omega
  have hbig : num < fxr infR * den := by
    rcases Nat.lt_or_ge num (fxr infR * den) with k | k
    · exact k
    · have := h.ge_of (Nat.le_refl _) k; omega
  have key : ∀ k, k ≤ infR → fxr (infR - k) * den ≤ num → ∃ L, L < infR ∧ fxr L * den ≤ num ∧ num < fxr (L + 1) * den := by
    intro k
    induction k with
    | zero => intro _ k; rw [Nat.sub_zero] at k; omega
    | succ k ih =>
      intro hk hL
      rcases Nat.lt_or_ge num (fxr (infR - k) * den) with h1 | h1
      · refine ⟨infR - (k + 1), by omega, hL, ?_⟩
        rw [show infR - (k + 1) + 1 = infR - k by omega]
        exact h1
      · exact ih (by omega) h1
  obtain ⟨L, hL, h1, h2⟩ := key infR (Nat.le_refl _) (by rw [Nat.sub_self]; exact hz)
  refine ⟨L, hL, h1, h2, ?_⟩
  have h3 := h.ge_of (by omega) h1
  have h4 := h.le_of (R := L + 1) (by omega) (Nat.le_of_lt h2)
  omega
/-- How far a result is from what it stands for. -/
theorem Near.err {num den r : Nat} (h : Near num den r) (hd : 0 < den) (hr : r < infR) :
    2 ^ 52 * (fxr r * den) ≤ 2 ^ 52 * num + max (2 ^ 52 * den) num ∧ 2 ^ 52 * num ≤ 2 ^ 52 * (fxr r * den) + max (2 ^ 52 * den) num := by
  obtain ⟨L, _, h1, h2, h3⟩ := h.between hd hr
  have hg := Nat.mul_le_mul_right den (fxr_gap L)
  have hm : max (2 ^ 52) (fxr L) * den ≤ max (2 ^ 52 * den) num := by
    rcases Nat.le_total (2 ^ 52) (fxr L) with k | k
    · rw [Nat.max_eq_right k]; exact Nat.le_trans h1 (Nat.le_max_right ..)
    · rw [Nat.max_eq_left k]; exact Nat.le_max_left ..
  rw [Nat.add_mul, Nat.mul_assoc, Nat.mul_assoc] at hg
  generalize max (2 ^ 52) (fxr L) * den = g at *
  generalize max (2 ^ 52 * den) num = G at *
  have hmono := Nat.mul_le_mul_right den (Nat.le_of_lt (fxr_step L))
  rcases h3 with rfl | rfl
  · omega
  · omega
end Go.Lk
end

section
/- Roots: between what they lie. -/
namespace Go.Lk
open Ieee (Format Datum Toward)
open Ieee.Datum (rootFrom)
set_option linter.unusedSimpArgs false
set_option linter.unusedVariables false

theorem rootFrom_spec (n : Nat) : ∀ (todo root : Nat), root * root ≤ n → n < (root + 2 ^ todo) * (root + 2 ^ todo) →
    rootFrom n todo root * rootFrom n todo root ≤ n ∧ n < (rootFrom n todo root + 1) * (rootFrom n todo root + 1)
  | 0, root, h1, h2 => ⟨h1, by simpa [rootFrom] using h2⟩
  | todo + 1, root, h1, h2 => by
    have h2' : n < (root + 2 ^ todo + 2 ^ todo) * (root + 2 ^ todo + 2 ^ todo) := by
      rw [show root + 2 ^ todo + 2 ^ todo = root + 2 ^ (todo + 1) by rw [Nat.pow_succ]; omega]
      exact h2
    have e : rootFrom n (todo + 1) root = rootFrom n todo (if (root + 2 ^ todo) * (root + 2 ^ todo) ≤ n then root + 2 ^ todo else root) := by
      show rootFrom n todo _ = _
      simp only [Nat.shiftLeft_eq, Nat.one_mul]
    rw [e]
    split
    · rename_i h; exact rootFrom_spec n todo _ h h2'
    · rename_i h; exact rootFrom_spec n todo _ h1 (by omega)

theorem sq_le {a b : Nat} (h : a * a ≤ b * b) : a ≤ b := by
  rcases Nat.lt_or_ge b a with k | k
  · have := Nat.mul_self_lt_mul_self k
    omega
  · exact k
theorem sq_lt {a b : Nat} (h : a * a < b * b) : a < b := by
  rcases Nat.lt_or_ge a b with k | k
  · exact k
  · have := Nat.mul_self_le_mul_self k
    omega

theorem root_core {n w T F c e : Nat} (hn : 2 ^ 108 ≤ n) (h1 : w * w ≤ n) (h2 : n < (w + 1) * (w + 1)) (hF : F = c * 2 ^ e) (hc : c < 2 ^ 53) :
    (F * F ≤ n * 2 ^ (2 * T) → F * 2 ≤ (2 * w + (w * w != n).toNat) * 2 ^ T) ∧ (n * 2 ^ (2 * T) ≤ F * F → (2 * w + (w * w != n).toNat) * 2 ^ T ≤ F * 2) := by
  have hw : 2 ^ 54 ≤ w + 1 := by
    refine sq_le (Nat.le_trans ?_ (Nat.le_of_lt h2))
    rw [← Nat.pow_add]; exact hn
  have hG : 0 < 2 ^ T := Nat.two_pow_pos T
  have h2T : 2 ^ (2 * T) = 2 ^ T * 2 ^ T := by rw [← Nat.pow_add]; congr 1; omega
  rw [h2T]
  have hbit : (w * w != n).toNat = if w * w = n then 0 else 1 := by by_cases h : w * w = n <;> simp [h]
  rw [hbit]
  rcases Nat.lt_or_ge e T with hlt | hge
  · have hFs : F < 2 ^ 52 * 2 ^ T := by
      have h3 : F < 2 ^ 53 * 2 ^ e := by rw [hF]; exact Nat.mul_lt_mul_of_pos_right hc (Nat.two_pow_pos _)
      have h4 : 2 ^ 53 * 2 ^ e ≤ 2 ^ 52 * 2 ^ T := by rw [← Nat.pow_add, ← Nat.pow_add]; exact pow_ge (by omega)
      omega
    constructor
    · intro _
      have h3 : 2 ^ 53 * 2 ^ T ≤ (2 * w + if w * w = n then 0 else 1) * 2 ^ T := Nat.mul_le_mul_right _ (by omega)
      omega
    · intro h
      exfalso
      have h3 : F * F < 2 ^ 52 * 2 ^ T * (2 ^ 52 * 2 ^ T) := Nat.mul_self_lt_mul_self hFs
      have h4 : 2 ^ 108 * (2 ^ T * 2 ^ T) ≤ n * (2 ^ T * 2 ^ T) := Nat.mul_le_mul_right _ hn
      have h5 : 2 ^ 52 * 2 ^ T * (2 ^ 52 * 2 ^ T) = 2 ^ 104 * (2 ^ T * 2 ^ T) := by
        rw [show (2 : Nat) ^ 104 = 2 ^ 52 * 2 ^ 52 by decide]; ac_rfl
      have h6 : 2 ^ 104 * (2 ^ T * 2 ^ T) ≤ 2 ^ 108 * (2 ^ T * 2 ^ T) := Nat.mul_le_mul_right _ (by decide)
      omega
  · have hf : F = c * 2 ^ (e - T) * 2 ^ T := by rw [hF, Nat.mul_assoc, ← Nat.pow_add]; congr 2; omega
    generalize c * 2 ^ (e - T) = f at hf
    have hFF : F * F = f * f * (2 ^ T * 2 ^ T) := by rw [hf]; ac_rfl
    rw [hFF, hf]
    have hGG : 0 < 2 ^ T * 2 ^ T := Nat.mul_pos hG hG
    constructor
    · intro h
      have h3 := Nat.le_of_mul_le_mul_right h hGG
      have h4 : f < w + 1 := sq_lt (Nat.lt_of_le_of_lt h3 h2)
      rw [show f * 2 ^ T * 2 = (2 * f) * 2 ^ T by ac_rfl]
      exact Nat.mul_le_mul_right _ (by omega)
    · intro h
      have h3 := Nat.le_of_mul_le_mul_right h hGG
      rw [show f * 2 ^ T * 2 = (2 * f) * 2 ^ T by ac_rfl]
      refine Nat.mul_le_mul_right _ ?_
      split
      · rename_i h0
        have := sq_le (a := w) (b := f) (by omega)
        omega
      · rename_i h0
        have := sq_lt (a := w) (b := f) (by omega)
        omega

theorem fsqrt_near {x : Nat} (hx : isFin x = true) (hs : sg x = false) : ∃ r, fsqrt x = wd false r ∧ r ≤ infR ∧
    ∀ R, R ≤ infR → (fxr R * fxr R ≤ fxr (rg x) * U → R ≤ r) ∧ (fxr (rg x) * U ≤ fxr R * fxr R → r ≤ R) := by
  obtain ⟨m, i, e1, h1, h2, hlt⟩ := read_fin hx
  rw [hs] at e1
  by_cases hm : m = 0
  · subst hm
    rw [Nat.zero_mul] at h2
    have hr : fsqrt x = dbl.nearest false 0 i := by
      unfold fsqrt Format.sqrt
      rw [e1]
      rfl
    refine ⟨0, ?_, Nat.zero_le _, fun R hR => ⟨fun h => ?_, fun _ => Nat.zero_le _⟩⟩
    · rw [hr]; unfold Format.nearest; rw [if_pos rfl, word_eq]
    · rw [← h2, Nat.zero_mul] at h
      have h6 : fxr R = 0 := by
        rcases Nat.mul_eq_zero.1 (Nat.le_zero.1 h) with h | h <;> exact h
      rw [← fxr_zero] at h6
      have := fxr_inj h6
      omega
  · generalize hmo : 2 * 54 - m.log2 = m0
    generalize hm1 : m0 + ((i - m0) % 2).toNat = more
    have hn : 2 ^ 108 ≤ m * 2 ^ more := by
      have h1 : 2 ^ m.log2 ≤ m := Nat.log2_self_le hm
      calc 2 ^ 108 ≤ 2 ^ (m.log2 + more) := pow_ge (by omega)
        _ = 2 ^ m.log2 * 2 ^ more := Nat.pow_add ..
        _ ≤ _ := Nat.mul_le_mul_right _ h1
    have hw := rootFrom_spec (m * 2 ^ more) ((m * 2 ^ more).log2 / 2 + 1) 0 (by omega) (by
      have h3 : m * 2 ^ more < 2 ^ ((m * 2 ^ more).log2 + 1) := Nat.lt_log2_self
      refine Nat.lt_of_lt_of_le h3 ?_
      rw [Nat.zero_add, ← Nat.pow_add]
      exact pow_ge (by omega))
    have hr : fsqrt x = dbl.nearest false (2 * rootFrom (m * 2 ^ more) ((m * 2 ^ more).log2 / 2 + 1) 0 + (rootFrom (m * 2 ^ more) ((m * 2 ^ more).log2 / 2 + 1) 0 * rootFrom (m * 2 ^ more) ((m * 2 ^ more).log2 / 2 + 1) 0 != m * 2 ^ more).toNat) ((i - more) / 2 - 1) := by
      unfold fsqrt Format.sqrt
      rw [e1]
      simp only [Datum.root, if_neg hm, fb_eq, Nat.shiftLeft_eq]
      rw [show 2 * (52 + 2) - m.log2 = m0 by omega, hm1]
      rfl
    generalize rootFrom (m * 2 ^ more) ((m * 2 ^ more).log2 / 2 + 1) 0 = w at *
    have hl : m.log2 < 53 := (Nat.log2_lt hm).2 hlt
    generalize hT : ((i - more) / 2 + 1074).toNat = T
    have hT1 : (i - more) / 2 + 1074 = (T : Int) := by omega
    have hp : (i - more) / 2 - 1 + 1074 + ((1 : Nat) : Int) = (T : Int) := by omega
    have h5 := nearest_any false (2 * w + (w * w != m * 2 ^ more).toNat) ((i - more) / 2 - 1) _ 1 (by rw [hp]; omega) rfl
    rw [hp, Int.toNat_natCast] at h5
    obtain ⟨u, hu, hU⟩ := U_spec
    have hX : fxr (rg x) * U = m * 2 ^ more * 2 ^ (2 * T) := by
      have he : (i + 1074).toNat + u = more + 2 * T := by clear hU hn hr hw h5; omega
      rw [← h2, hU, Nat.mul_assoc, Nat.mul_assoc, ← Nat.pow_add, ← Nat.pow_add, he]
    refine ⟨_, hr.trans h5, (near_rungQ _ _).1, fun R hR => ?_⟩
    obtain ⟨c, e, hR', hc⟩ := fxr_form R
    have k := root_core (T := T) hn hw.1 hw.2 hR' hc
    have nq := (near_rungQ ((2 * w + (w * w != m * 2 ^ more).toNat) * 2 ^ T) 1).2 R hR
    rw [hX]
    exact ⟨fun h => nq.1 (k.1 h), fun h => nq.2 (k.2 h)⟩
end Go.Lk
end

section
/- PlaceSquares: the plain law of sectors. -/
namespace Go.Lk
open Ieee (Format Datum Toward)
set_option linter.unusedSimpArgs false
set_option linter.unusedVariables false

theorem fxr_big : fxr 4850376798678024192 = 2 ^ 54 * U := by decide +kernel
theorem infR_eq : infR = 2047 * 2 ^ 52 := rfl
/-- A whole number below 2^53, as a float. -/
theorem near_fx {n : Int} (h : n.natAbs < 2 ^ 53) : isFin (FloatKind.f64.nearest n) = true ∧ fx (FloatKind.f64.nearest n) = n * (U : Int) ∧ sg (FloatKind.f64.nearest n) = decide (n < 0) := by
  have e : FloatKind.f64.nearest n = dbl.nearest (decide (n < 0)) n.natAbs 0 := rfl
  rw [e, nearest_eq _ _ _ (by omega), U_of]
  obtain ⟨u, hu, hU⟩ := U_spec
  obtain ⟨h1, h2⟩ := rung_small (T := n.natAbs * U) (r := 4850376798678024192) (by rw [fxr_big]; exact Nat.mul_le_mul_right _ (by omega)) (by decide) ⟨n.natAbs, u, by rw [hU], h⟩
  refine ⟨fin_wd h1, ?_, sg_wd (rung_lt _)⟩
  have hs : sgn (decide (n < 0)) n.natAbs = n := by
    unfold sgn
    by_cases h0 : n < 0
    · rw [decide_eq_true h0, if_pos rfl]; omega
    · rw [decide_eq_false h0, if_neg (by decide)]; omega
  rw [fx_wd (rung_lt _), h2, sgn_mul, hs]
theorem rnd_exact {z : Bool} {T : Int} {R : Nat} (hR : R < 2047 * 2 ^ 52) (h : T.natAbs ≤ fxr R) (he : ∃ c j, T.natAbs = c * 2 ^ j ∧ c < 2 ^ 53) :
    isFin (rnd z T) = true ∧ fx (rnd z T) = T ∧ (T ≠ 0 → sg (rnd z T) = decide (T < 0)) := by
  unfold rnd
  split
  · rename_i h0
    subst h0
    exact ⟨fin_wd (by decide), by rw [fx_wd (by decide), fxr_zero, sgn_zero], fun h => absurd rfl h⟩
  · rename_i h0
    obtain ⟨h1, h2⟩ := rung_small h hR he
    refine ⟨fin_wd h1, ?_, fun _ => sg_wd (rung_lt _)⟩
    rw [fx_wd (rung_lt _), h2]
    unfold sgn
    by_cases hT : T < 0
    · rw [decide_eq_true hT, if_pos rfl]; omega
    · rw [decide_eq_false hT, if_neg (by decide)]; omega
theorem fx_form (x : Nat) : ∃ c j, (fx x).natAbs = c * 2 ^ j ∧ c < 2 ^ 53 := by rw [fx_abs]; exact fxr_form _
/-- What is left of 1, or lacks to it: exact. -/
theorem sterb {D : Nat} (h : ∃ c j, D = c * 2 ^ j ∧ c < 2 ^ 53) (h1 : U ≤ 2 * D) (h2 : D ≤ U) : ∃ c j, U - D = c * 2 ^ j ∧ c < 2 ^ 53 := by
  obtain ⟨c, j, e, hc⟩ := h
  obtain ⟨u, hu, hU⟩ := U_spec
  rw [hU] at h1 h2 ⊢
  clear hU
  rcases Nat.lt_or_ge u j with hj | hj
  · exfalso
    have h3 : 2 ^ (u + 1) ≤ 2 ^ j := pow_ge hj
    have h4 := Nat.two_pow_pos u
    rcases Nat.eq_zero_or_pos c with rfl | hc0
    · rw [Nat.zero_mul] at e; omega
    · have h5 : 1 * 2 ^ j ≤ c * 2 ^ j := Nat.mul_le_mul_right _ hc0
      rw [Nat.pow_succ] at h3
      omega
  · have e1 : 2 ^ u = 2 ^ (u - j) * 2 ^ j := by rw [← Nat.pow_add]; congr 1; omega
    have hp := Nat.two_pow_pos j
    refine ⟨2 ^ (u - j) - c, j, ?_, ?_⟩
    · rw [e, e1, Nat.sub_mul]
    · rw [e1, e, ← Nat.mul_assoc] at h1
      have := Nat.le_of_mul_le_mul_right h1 hp
      omega
theorem sg_fx {x : Nat} (h : fx x ≠ 0) : sg x = decide (fx x < 0) := sgn_neg h
theorem sgn_add (s : Bool) (a b : Nat) : sgn s (a + b) = sgn s a + sgn s b := by unfold sgn; cases s <;> simp <;> omega

/-- Wrapped: whole turns less, between the halves. -/
theorem wrap_val {x : Nat} (hc : Canon x) (hf : isFin x = true) : isFin (wrapP x) = true ∧ (∃ t : Int, fx (wrapP x) = fx x + t * (U : Int)) ∧ -(U : Int) ≤ 2 * fx (wrapP x) ∧ 2 * fx (wrapP x) < (U : Int) ∧ (fx (wrapP x) = 0 → sg (wrapP x) = false) := by
  have hw : wrapP x = wStep (fsub x (ftrunc x)) := by rw [wrap_eq hc]; unfold wrapR; rw [hf, cond_true, floor_eq_trunc hc.lt hf]
  obtain ⟨h1, h2, h3⟩ := frac_val hf
  have hdiv : fx x = sgn (sg x) (fxr (rg x) / U) * (U : Int) + sgn (sg x) (fxr (rg x) % U) := by
    rw [← sgn_mul, ← sgn_add]
    unfold fx
    congr 1
    have := Nat.div_add_mod (fxr (rg x)) U
    rw [Nat.mul_comm] at this
    exact this.symm
  have hd : isFin (fsub x (ftrunc x)) = true ∧ (∃ t : Int, fx (fsub x (ftrunc x)) = fx x + t * (U : Int)) ∧ (fx (fsub x (ftrunc x))).natAbs < U ∧ (fx (fsub x (ftrunc x)) = 0 → sg (fsub x (ftrunc x)) = false) := by
    rw [h1]
    split
    · rename_i h0
      refine ⟨fin_zero, ⟨-sgn (sg x) (fxr (rg x) / U), ?_⟩, by rw [fx_0]; exact U_pos, fun _ => rfl⟩
      rw [h0, sgn_zero] at hdiv
      rw [fx_0, hdiv, Int.neg_mul]; omega
    · rename_i h0
      have e : fx (wd (sg x) (rung (fxr (rg x) % U))) = sgn (sg x) (fxr (rg x) % U) := by rw [fx_wd (by omega), h3]
      refine ⟨fin_wd h2, ⟨-sgn (sg x) (fxr (rg x) / U), ?_⟩, ?_, fun h => ?_⟩
      · rw [e, hdiv, Int.neg_mul]; omega
      · rw [e, sgn_abs]; exact Nat.mod_lt _ U_pos
      · rw [e] at h; exact absurd (sgn_eq_zero.1 h) h0
  rw [hw]
  generalize fsub x (ftrunc x) = d at hd
  obtain ⟨d1, ⟨t, d2⟩, d3, d4⟩ := hd
  have ho := fx_one
  have hh := fx_half
  have hm := fx_mhalf
  unfold wStep
  rw [fge_fin d1 fin_half, flt_fin d1 fin_mhalf]
  by_cases g1 : fx half ≤ fx d
  · rw [decide_eq_true g1, cond_true, fsub_fin d1 fin_one, ho]
    obtain ⟨r1, r2, r3⟩ := rnd_exact (z := sg d && !sg fone) (T := fx d - (U : Int)) (R := rg fone) rg_one_lt (by rw [fxr_one]; omega) (by
      have := sterb (fx_form d) (by omega) (by omega)
      rwa [show U - (fx d).natAbs = (fx d - (U : Int)).natAbs by omega] at this)
    refine ⟨r1, ⟨t - 1, ?_⟩, by rw [r2]; omega, by rw [r2]; omega, fun h => by rw [r2] at h; omega⟩
    rw [r2, d2, Int.sub_mul]; omega
  · rw [decide_eq_false g1, cond_false]
    by_cases g2 : fx d < fx mhalf
    · rw [decide_eq_true g2, cond_true, fadd_fin d1 fin_one, ho]
      obtain ⟨r1, r2, r3⟩ := rnd_exact (z := sg d && sg fone) (T := fx d + (U : Int)) (R := rg fone) rg_one_lt (by rw [fxr_one]; omega) (by
        have := sterb (fx_form d) (by omega) (by omega)
        rwa [show U - (fx d).natAbs = (fx d + (U : Int)).natAbs by omega] at this)
      refine ⟨r1, ⟨t + 1, ?_⟩, by rw [r2]; omega, by rw [r2]; omega, fun h => by rw [r2] at h; omega⟩
      rw [r2, d2, Int.add_mul]; omega
    · rw [decide_eq_false g2, cond_false]
      exact ⟨d1, ⟨t, d2⟩, by omega, by omega, d4⟩
theorem whole_small {s u : Int} (hu : 0 < u) (h1 : -u < s * u) (h2 : s * u < u) : s = 0 := by
  rcases Int.lt_trichotomy s 0 with h | h | h
  · have : s * u ≤ -1 * u := Int.mul_le_mul_of_nonneg_right (by omega) (by omega)
    omega
  · exact h
  · have : 1 * u ≤ s * u := Int.mul_le_mul_of_nonneg_right (by omega) (by omega)
    omega
/-- Two that differ by whole turns are wrapped alike. -/
theorem wrap_same {x y : Nat} {t : Int} (hx : Canon x) (hy : Canon y) (fx1 : isFin x = true) (fy1 : isFin y = true) (h : fx x = fx y + t * (U : Int)) : wrapP x = wrapP y := by
  obtain ⟨a1, ⟨s, a2⟩, a3, a4, a5⟩ := wrap_val hx fx1
  obtain ⟨b1, ⟨r, b2⟩, b3, b4, b5⟩ := wrap_val hy fy1
  have hU := U_pos
  have e : fx (wrapP x) - fx (wrapP y) = (t + s - r) * (U : Int) := by
    rw [a2, b2, h, Int.sub_mul, Int.add_mul]; omega
  have h0 : t + s - r = 0 := whole_small (u := (U : Int)) (by omega) (by omega) (by omega)
  rw [h0, Int.zero_mul] at e
  have e : fx (wrapP x) = fx (wrapP y) := by omega
  refine word_ext (Canon.wrapP x).lt (Canon.wrapP y).lt ?_ e
  by_cases hz : fx (wrapP x) = 0
  · rw [a5 hz, b5 (by omega)]
  · rw [sg_fx hz, sg_fx (by omega), e]

/-- A turn from 0 on. -/
def posP (w : Nat) : Nat := bif flt w 0 then (bif fge (fadd w fone) fone then 0 else fadd w fone) else bif fge w fone then 0 else w
theorem pos_val {w : Nat} (hf : isFin w = true) (h1 : -(U : Int) ≤ 2 * fx w) (h2 : 2 * fx w < (U : Int)) (hz : fx w = 0 → sg w = false) :
    isFin (posP w) = true ∧ 0 ≤ fx (posP w) ∧ fx (posP w) < (U : Int) ∧ sg (posP w) = false := by
  have ho := fx_one
  have hU := U_pos
  unfold posP
  rw [flt_fin hf fin_zero, fx_0]
  by_cases h0 : fx w < 0
  · rw [decide_eq_true h0, cond_true]
    have hT : (fx w + fx fone).natAbs ≤ fxr (rg fone) := by rw [fxr_one]; omega
    have hb := rnd_le (z := sg w && sg fone) rg_one_lt hT
    have hfa := fadd_fin hf fin_one
    rw [← hfa] at hb
    rw [fge_fin hb.1 fin_one]
    by_cases hg : fx fone ≤ fx (fadd w fone)
    · rw [decide_eq_true hg, cond_true]
      exact ⟨fin_zero, by rw [fx_0]; omega, by rw [fx_0]; omega, sg_0⟩
    · rw [decide_eq_false hg, cond_false]
      have hs : sg (fadd w fone) = false := by
        rw [hfa]
        unfold rnd
        rw [if_neg (by omega), sg_wd (rung_lt _)]
        exact decide_eq_false (by omega)
      refine ⟨hb.1, ?_, by omega, hs⟩
      unfold fx sgn
      rw [hs, if_neg (by decide)]
      omega
  · rw [decide_eq_false h0, cond_false, fge_fin hf fin_one, decide_eq_false (by omega), cond_false]
    refine ⟨hf, by omega, by omega, ?_⟩
    by_cases h3 : fx w = 0
    · exact hz h3
    · rw [sg_fx h3]; exact decide_eq_false h0

theorem fx_rg {x : Nat} (h : sg x = false) : fx x = (fxr (rg x) : Int) := by unfold fx sgn; rw [h, if_neg (by decide)]
theorem floor_nat {r : Nat} (hr : r < 2047 * 2 ^ 52) (h : fxr r / U ≤ 4096) : toI (ffloor (wd false r)) = ((fxr r / U : Nat) : Int) ∧ okI .i64 (ffloor (wd false r)) = true := by
  have hf : isFin (wd false r) = true := fin_wd hr
  have hU := U_pos
  obtain ⟨u, hu, hU2⟩ := U_spec
  rw [ffloor_fin hf, sg_wd (by omega), rg_wd (by omega), Bool.false_and, Bool.toNat_false, Nat.add_zero]
  obtain ⟨h1, h2⟩ := rung_small (T := fxr r / U * U) (r := 4850376798678024192) (by rw [fxr_big]; exact Nat.mul_le_mul_right _ (by omega)) (by decide) ⟨fxr r / U, u, by rw [hU2], by omega⟩
  have hf2 : isFin (wd false (rung (fxr r / U * U))) = true := fin_wd h1
  refine ⟨?_, okI_fin hf2 ?_⟩
  · rw [toI_fin hf2, sg_wd (rung_lt _), rg_wd (rung_lt _), h2, Nat.mul_div_cancel _ hU]
    rfl
  · rw [rg_wd (rung_lt _), h2, Nat.mul_div_cancel _ hU]
    omega

/-- Of so many sectors the one of a turn from 0 on. -/
theorem sec_prod {p : Nat} {n : Int} (hp : isFin p = true) (h0 : 0 ≤ fx p) (h1 : fx p < (U : Int)) (hs : sg p = false) (n1 : 1 ≤ n) (n2 : n ≤ 4096) :
    ∃ r, r < 2047 * 2 ^ 52 ∧ fmul p (FloatKind.f64.nearest n) = wd false r ∧ fxr r ≤ n.toNat * U ∧ Near (fxr (rg p) * n.toNat) 1 r := by
  obtain ⟨a1, a2, a3⟩ := near_fx (n := n) (by omega)
  have hU := U_pos
  rw [decide_eq_false (by omega)] at a3
  have e2 : fxr (rg (FloatKind.f64.nearest n)) = n.toNat * U := by
    have := fx_rg a3
    rw [a2] at this
    have h5 : ((n.toNat * U : Nat) : Int) = n * (U : Int) := by rw [Int.natCast_mul]; congr 1; omega
    omega
  obtain ⟨r, e, hn⟩ := fmul_near hp a1
  rw [hs, a3] at e
  rw [e2, ← Nat.mul_assoc] at hn
  have hn1 : Near (fxr (rg p) * n.toNat) 1 r := by
    have := hn
    rw [← Nat.one_mul U, ] at this
    exact Near.unscale hU (by simpa using this)
  have hRn : rg (FloatKind.f64.nearest n) < 2047 * 2 ^ 52 := of_decide_eq_true a1
  have hP := fx_rg hs
  have hle : r ≤ rg (FloatKind.f64.nearest n) := hn1.le_of (by unfold infR; omega) (by
    rw [e2, Nat.mul_one, Nat.mul_comm]
    exact Nat.mul_le_mul_left _ (by omega))
  exact ⟨r, by omega, e, by rw [← e2]; exact fxr_le.2 hle, hn1⟩
theorem sec_range {b : Nat} {n : Int} (hb : Canon b) (hf : isFin b = true) (n1 : 1 ≤ n) (n2 : n ≤ 4096) :
    ∃ F : Nat, (F : Int) ≤ n ∧ toI (ffloor (fmul (posP (wrapP b)) (FloatKind.f64.nearest n))) = F ∧ okI .i64 (ffloor (fmul (posP (wrapP b)) (FloatKind.f64.nearest n))) = true := by
  obtain ⟨a1, _, a3, a4, a5⟩ := wrap_val hb hf
  obtain ⟨p1, p2, p3, p4⟩ := pos_val a1 a3 a4 a5
  obtain ⟨r, hr, e, hle, _⟩ := sec_prod p1 p2 p3 p4 n1 n2
  have hU := U_pos
  have hF : fxr r / U ≤ n.toNat := by
    have := Nat.div_le_div_right (c := U) hle
    rwa [Nat.mul_div_cancel _ hU] at this
  obtain ⟨f1, f2⟩ := floor_nat hr (by omega)
  rw [e]
  exact ⟨fxr r / U, by omega, f1, f2⟩
/-- H is half of U. -/
theorem U_half : ∃ H, U = 2 * H ∧ fx half = (H : Int) ∧ 0 < H ∧ ∃ Q, H = 2 * Q ∧ 0 < Q ∧ 2 ^ 100 ≤ Q ∧ ∃ q, Q = 2 ^ q := by
  obtain ⟨u, hu, hU⟩ := U_spec
  have h1 : U = 2 * 2 ^ (u - 1) := by rw [hU, ← Nat.pow_succ', show (u - 1).succ = u by omega]
  have h2 : 2 ^ (u - 1) = 2 * 2 ^ (u - 2) := by rw [← Nat.pow_succ', show (u - 2).succ = u - 1 by omega]
  have h3 := fx_half
  have h4 : (2 : Nat) ^ 100 ≤ 2 ^ (u - 2) := pow_ge (by omega)
  exact ⟨2 ^ (u - 1), h1, by omega, Nat.two_pow_pos _, 2 ^ (u - 2), h2, Nat.two_pow_pos _, h4, _, rfl⟩

theorem pos_back {x : Nat} (hc : Canon x) (hf : isFin x = true) (h0 : 0 < fx x) (h1 : fx x < (U : Int)) : isFin (posP (wrapP x)) = true ∧ fx (posP (wrapP x)) = fx x ∧ sg (posP (wrapP x)) = false := by
  obtain ⟨a1, ⟨t, a2⟩, a3, a4, a5⟩ := wrap_val hc hf
  obtain ⟨p1, p2, p3, p4⟩ := pos_val a1 a3 a4 a5
  refine ⟨p1, ?_, p4⟩
  have ho := fx_one
  have hU := U_pos
  -- fx (posP w) is fx w, or fx w + U
  unfold posP
  rw [flt_fin a1 fin_zero, fx_0]
  by_cases g : fx (wrapP x) < 0
  · rw [decide_eq_true g, cond_true]
    have ht : t = -1 := by
      have h5 : (t + 1) * (U : Int) = t * (U : Int) + U := by rw [Int.add_mul]; omega
      have := whole_small (s := t + 1) (u := (U : Int)) (by omega) (by omega) (by omega)
      omega
    subst ht
    have hfa := fadd_fin a1 fin_one
    have hT : fx (wrapP x) + fx fone = fx x := by omega
    rw [hT] at hfa
    obtain ⟨r1, r2, r3⟩ := rnd_exact (z := sg (wrapP x) && sg fone) (T := fx x) (R := rg fone) rg_one_lt (by rw [fxr_one]; omega) (fx_form x)
    rw [← hfa] at r1 r2
    rw [fge_fin r1 fin_one, decide_eq_false (by omega), cond_false, r2]
  · rw [decide_eq_false g, cond_false, fge_fin a1 fin_one, decide_eq_false (by omega), cond_false]
    have := whole_small (s := t) (u := (U : Int)) (by omega) (by omega) (by omega)
    subst this
    omega

theorem sec_mid {c n : Int} (c0 : 0 ≤ c) (c1 : c < n) (n2 : n ≤ 4096) :
    isFin (fdiv (fadd (FloatKind.f64.nearest c) half) (FloatKind.f64.nearest n)) = true ∧
    toI (ffloor (fmul (posP (wrapP (fdiv (fadd (FloatKind.f64.nearest c) half) (FloatKind.f64.nearest n)))) (FloatKind.f64.nearest n))) = c := by
  obtain ⟨a1, a2, a3⟩ := near_fx (n := c) (by omega)
  obtain ⟨b1, b2, b3⟩ := near_fx (n := n) (by omega)
  rw [decide_eq_false (by omega)] at a3 b3
  obtain ⟨H, hUH, hH, H0, Q, hHQ, Q0, Qb, q, hQq⟩ := U_half
  generalize hk : c.toNat = k
  generalize hm : n.toNat = m
  have hc : c = (k : Int) := by omega
  have hn : n = (m : Int) := by omega
  subst hc hn
  -- the sum
  have hsum : fx (FloatKind.f64.nearest (k : Int)) + fx half = (((2 * k + 1) * H : Nat) : Int) := by
    rw [a2, hH, hUH, Nat.add_mul, Nat.one_mul]
    have : ((k : Nat) : Int) * ((2 * H : Nat) : Int) = ((2 * k * H : Nat) : Int) := by rw [← Int.natCast_mul, show k * (2 * H) = 2 * k * H by ac_rfl]
    omega
  have hTb : (2 * k + 1) * H ≤ fxr 4850376798678024192 := by
    rw [fxr_big, hUH]
    calc (2 * k + 1) * H ≤ 8193 * H := Nat.mul_le_mul_right _ (by omega)
      _ ≤ _ := by omega
  have hfa := fadd_fin a1 fin_half
  rw [hsum] at hfa
  obtain ⟨s1, s2, s3⟩ := rnd_exact (z := sg (FloatKind.f64.nearest (k : Int)) && sg half) (T := (((2 * k + 1) * H : Nat) : Int)) (R := 4850376798678024192) (by decide) (by rw [Int.natAbs_natCast]; exact hTb)
    ⟨2 * k + 1, q + 1, by rw [Int.natAbs_natCast, hHQ, hQq, Nat.pow_succ, Nat.mul_comm (2 ^ q) 2], by omega⟩
  have hpos : 0 < (2 * k + 1) * H := Nat.mul_pos (by omega) H0
  have s4 := s3 (by omega)
  rw [decide_eq_false (by omega)] at s4
  rw [← hfa] at s1 s2 s4
  generalize fadd (FloatKind.f64.nearest (k : Int)) half = y at *
  have hy := fx_rg s4
  have hnn := fx_rg b3
  have hY : fxr (rg y) = (2 * k + 1) * H := by omega
  have hN : fxr (rg (FloatKind.f64.nearest (m : Int))) = m * U := by
    rw [b2, ← Int.natCast_mul] at hnn
    omega
  -- the quotient
  obtain ⟨r, e, hr⟩ := fdiv_near s1 b1 (by rw [hN]; exact Nat.ne_of_gt (Nat.mul_pos (by omega) U_pos))
  rw [s4, b3] at e
  rw [hY, hN] at hr
  have hr1 : Near ((2 * k + 1) * H) m r := Near.unscale U_pos hr
  have hone : r ≤ rg fone := hr1.le_of (by have := rg_one_lt; unfold infR; omega) (by
    rw [fxr_one, hUH, show 2 * H * m = (2 * m) * H by ac_rfl]
    exact Nat.mul_le_mul_right _ (by omega))
  have ho := rg_one_lt
  obtain ⟨er1, er2⟩ := hr1.err (by omega) (by unfold infR; omega)
  have hmax : max (2 ^ 52 * m) ((2 * k + 1) * H) = (2 * k + 1) * H := Nat.max_eq_right (by
    calc 2 ^ 52 * m ≤ 2 ^ 52 * 4096 := Nat.mul_le_mul_left _ (by omega)
      _ ≤ 2 ^ 100 := by decide
      _ ≤ H := by omega
      _ = 1 * H := (Nat.one_mul _).symm
      _ ≤ _ := Nat.mul_le_mul_right _ (by omega))
  rw [hmax] at er1 er2
  generalize hX : fxr r = X at *
  have hXm : X * m < U * m := by
    -- 2^52 X m ≤ (2^52 + 1)(2k+1) H < 2^52 * 2 m H
    have h6 : (2 ^ 52 + 1) * ((2 * k + 1) * H) < 2 ^ 52 * (2 * m * H) := by
      have h7 : (2 ^ 52 + 1) * (2 * k + 1) < 2 ^ 52 * (2 * m) := by omega
      calc (2 ^ 52 + 1) * ((2 * k + 1) * H) = (2 ^ 52 + 1) * (2 * k + 1) * H := (Nat.mul_assoc ..).symm
        _ < 2 ^ 52 * (2 * m) * H := Nat.mul_lt_mul_of_pos_right h7 H0
        _ = _ := by ac_rfl
    rw [hUH, show 2 * H * m = 2 * m * H by ac_rfl]
    omega
  have hXU : X < U := Nat.lt_of_mul_lt_mul_right hXm
  have hX0 : 0 < X := by
    rcases Nat.eq_zero_or_pos X with h | h
    · rw [h, Nat.zero_mul] at er2
      omega
    · exact h
  have f1 : isFin (wd false r) = true := fin_wd (by omega)
  have f2 : fx (wd false r) = (X : Int) := by rw [fx_wd (by omega), hX]; rfl
  have hcan : Canon (wd false r) := by have := Canon.fdiv y (FloatKind.f64.nearest (m : Int)); rw [e] at this; exact this
  rw [e]
  simp only [Bool.xor_self] at *
  refine ⟨f1, ?_⟩
  obtain ⟨p1, p2, p3⟩ := pos_back hcan f1 (by omega) (by omega)
  obtain ⟨r2, g1, g2, g3, g4⟩ := sec_prod (p := posP (wrapP (wd false r))) (n := (m : Int)) p1 (by omega) (by omega) p3 (by omega) (by omega)
  have hP : fxr (rg (posP (wrapP (wd false r)))) = X := by have := fx_rg p3; omega
  rw [hP, Int.toNat_natCast] at g4
  -- between c and c + 3/4
  have hUQ : U = 4 * Q := by omega
  have low : (4 * k) * Q ≤ fxr r2 := by
    obtain ⟨l1, l2⟩ := rung_small (T := 4 * k * Q) (r := 4850376798678024192) (by rw [fxr_big, hUQ]; calc 4 * k * Q ≤ 16384 * Q := Nat.mul_le_mul_right _ (by omega)
                                                                                                     _ ≤ _ := by omega) (by decide) ⟨4 * k, q, by rw [hQq], by omega⟩
    have := g4.ge_of (R := rung (4 * k * Q)) (by unfold infR; omega) (by
      rw [l2, Nat.mul_one]
      have h8 : 2 ^ 52 * (4 * k * Q) ≤ 2 ^ 52 * (X * m) := by
        have h9 : 2 ^ 52 * (4 * k * Q) + (2 * k + 1) * H ≤ 2 ^ 52 * ((2 * k + 1) * H) := by
          have h10 : 4 * k * Q = 2 * k * H := by rw [hHQ, show 4 * k = 2 * k * 2 by omega, Nat.mul_assoc]
          have h13 := Nat.mul_le_mul_right H (show 2 ^ 52 * (2 * k) + (2 * k + 1) ≤ 2 ^ 52 * (2 * k + 1) by omega)
          rw [Nat.add_mul, Nat.mul_assoc (2 ^ 52) (2 * k) H, Nat.mul_assoc (2 ^ 52) (2 * k + 1) H] at h13
          rw [h10]
          exact h13
        omega
      exact Nat.le_of_mul_le_mul_left h8 (by decide))
    rw [← l2]
    exact fxr_le.2 this
  have high : fxr r2 ≤ (4 * k + 3) * Q := by
    obtain ⟨l1, l2⟩ := rung_small (T := (4 * k + 3) * Q) (r := 4850376798678024192) (by rw [fxr_big, hUQ]; calc (4 * k + 3) * Q ≤ 16387 * Q := Nat.mul_le_mul_right _ (by omega)
                                                                                                         _ ≤ _ := by omega) (by decide) ⟨4 * k + 3, q, by rw [hQq], by omega⟩
    have := g4.le_of (R := rung ((4 * k + 3) * Q)) (by unfold infR; omega) (by
      rw [l2, Nat.mul_one]
      have h8 : 2 ^ 52 * (X * m) ≤ 2 ^ 52 * ((4 * k + 3) * Q) := by
        have h9 : 2 ^ 52 * ((2 * k + 1) * H) + (2 * k + 1) * H ≤ 2 ^ 52 * ((4 * k + 3) * Q) := by
          have h10 : (2 * k + 1) * H = (4 * k + 2) * Q := by rw [hHQ, ← Nat.mul_assoc, show (2 * k + 1) * 2 = 4 * k + 2 by omega]
          have h13 := Nat.mul_le_mul_right Q (show 2 ^ 52 * (4 * k + 2) + (4 * k + 2) ≤ 2 ^ 52 * (4 * k + 3) by omega)
          rw [Nat.add_mul, Nat.mul_assoc (2 ^ 52) (4 * k + 2) Q, Nat.mul_assoc (2 ^ 52) (4 * k + 3) Q] at h13
          rw [h10]
          exact h13
        omega
      exact Nat.le_of_mul_le_mul_left h8 (by decide))
    rw [← l2]
    exact fxr_le.2 this
  have hfl : fxr r2 / U = k := by
    rw [hUQ]
    have h11 : 4 * k * Q = k * (4 * Q) := by rw [← Nat.mul_assoc, Nat.mul_comm 4 k]
    have h12 : (4 * k + 3) * Q < (k + 1) * (4 * Q) := by
      rw [← Nat.mul_assoc]
      exact Nat.mul_lt_mul_of_pos_right (by omega) Q0
    rw [Nat.div_eq_iff (by omega)]
    constructor
    · omega
    · have : (k + 1) * (4 * Q) = k * (4 * Q) + 4 * Q := by rw [Nat.add_mul, Nat.one_mul]
      omega
  obtain ⟨f5, f6⟩ := floor_nat g1 (by omega)
  rw [g2, f5, hfl]
end Go.Lk
end

section
/- Whole numbers as floats: sums and products are exact below 2^53. -/
namespace Go.Lk
open Ieee (Format Datum Toward)
set_option linter.unusedSimpArgs false
set_option linter.unusedVariables false
/-- The float x is the whole number z. -/
def IsW (x : Nat) (z : Int) : Prop := isFin x = true ∧ fx x = z * (U : Int)
theorem U_form : ∃ u, U = 2 ^ u := by obtain ⟨u, _, h⟩ := U_spec; exact ⟨u, h⟩
theorem rnd_w {s : Bool} {z : Int} (h : z.natAbs < 2 ^ 53) : IsW (rnd s (z * (U : Int))) z := by
  obtain ⟨u, hu⟩ := U_form
  obtain ⟨r1, r2, _⟩ := rnd_exact (z := s) (T := z * (U : Int)) (R := 4850376798678024192) (by decide) (by
    rw [Int.natAbs_mul, Int.natAbs_natCast, fxr_big]
    exact Nat.mul_le_mul_right _ (by omega)) ⟨z.natAbs, u, by rw [Int.natAbs_mul, Int.natAbs_natCast, hu], h⟩
  exact ⟨r1, r2⟩
theorem IsW.add {x y : Nat} {a b : Int} (hx : IsW x a) (hy : IsW y b) (h : (a + b).natAbs < 2 ^ 53) : IsW (fadd x y) (a + b) := by
  rw [fadd_fin hx.1 hy.1, hx.2, hy.2, ← Int.add_mul]
  exact rnd_w h
theorem IsW.sub {x y : Nat} {a b : Int} (hx : IsW x a) (hy : IsW y b) (h : (a - b).natAbs < 2 ^ 53) : IsW (fsub x y) (a - b) := by
  rw [fsub_fin hx.1 hy.1, hx.2, hy.2, ← Int.sub_mul]
  exact rnd_w h
theorem IsW.abs {x : Nat} {a : Int} (hx : IsW x a) : fxr (rg x) = a.natAbs * U := by
  have := fx_abs x
  rw [hx.2, Int.natAbs_mul, Int.natAbs_natCast] at this
  exact this.symm
theorem IsW.sg_of {x : Nat} {a : Int} (hx : IsW x a) (h : a ≠ 0) : sg x = decide (a < 0) := by
  have hU := U_pos
  have h1 : fx x ≠ 0 := by rw [hx.2]; exact Int.mul_ne_zero h (by omega)
  rw [sg_fx h1, hx.2]
  by_cases h0 : a < 0
  · rw [decide_eq_true h0]
    exact decide_eq_true (Int.mul_neg_of_neg_of_pos h0 (by omega))
  · rw [decide_eq_false h0]
    refine decide_eq_false fun h2 => ?_
    have : 0 ≤ a * (U : Int) := Int.mul_nonneg (by omega) (by omega)
    omega
theorem IsW.mul {x y : Nat} {a b : Int} (hx : IsW x a) (hy : IsW y b) (h : (a * b).natAbs < 2 ^ 53) : IsW (fmul x y) (a * b) := by
  obtain ⟨r, e, hr⟩ := fmul_near hx.1 hy.1
  have hU := U_pos
  obtain ⟨u, hu⟩ := U_form
  rw [hx.abs, hy.abs] at hr
  obtain ⟨l1, l2⟩ := rung_small (T := (a * b).natAbs * U) (r := 4850376798678024192) (by rw [fxr_big]; exact Nat.mul_le_mul_right _ (by omega)) (by decide) ⟨(a * b).natAbs, u, by rw [hu], h⟩
  have key : fxr (rung ((a * b).natAbs * U)) * U = a.natAbs * U * (b.natAbs * U) := by
    rw [l2, Int.natAbs_mul, Nat.mul_assoc, Nat.mul_assoc, Nat.mul_assoc, ← Nat.mul_assoc U, Nat.mul_comm U b.natAbs, Nat.mul_assoc]
  have e1 := hr.le_of (R := rung ((a * b).natAbs * U)) (by unfold infR; omega) (by omega)
  have e2 := hr.ge_of (R := rung ((a * b).natAbs * U)) (by unfold infR; omega) (by omega)
  have er : r = rung ((a * b).natAbs * U) := by omega
  rw [e, er]
  refine ⟨fin_wd l1, ?_⟩
  rw [fx_wd (rung_lt _), l2, sgn_mul]
  have hs : sgn (sg x ^^ sg y) (a * b).natAbs = a * b := by
    by_cases ha : a = 0
    · subst ha; simp [sgn]
    · by_cases hb : b = 0
      · subst hb; simp [sgn]
      · rw [hx.sg_of ha, hy.sg_of hb]
        unfold sgn
        rcases Int.lt_or_le a 0 with h1 | h1
        · rcases Int.lt_or_le b 0 with h2 | h2
          · rw [decide_eq_true h1, decide_eq_true h2]
            have : 0 < a * b := Int.mul_pos_of_neg_of_neg h1 h2
            simp; omega
          · rw [decide_eq_true h1, decide_eq_false (by omega)]
            have : a * b < 0 := Int.mul_neg_of_neg_of_pos h1 (by omega)
            simp; omega
        · rcases Int.lt_or_le b 0 with h2 | h2
          · rw [decide_eq_false (by omega), decide_eq_true h2]
            have : a * b < 0 := Int.mul_neg_of_pos_of_neg (by omega) h2
            simp; omega
          · rw [decide_eq_false (by omega), decide_eq_false (by omega)]
            have : 0 ≤ a * b := Int.mul_nonneg h1 h2
            simp; omega
  rw [hs]
theorem IsW.neg {x : Nat} {a : Int} (hl : x < 2 ^ 64) (hx : IsW x a) : IsW (fneg x) (-a) := by
  obtain ⟨n1, n2, _⟩ := fneg_fin hl hx.1
  exact ⟨n1, by rw [n2, hx.2, Int.neg_mul]⟩
theorem isW_near {n : Int} (h : n.natAbs < 2 ^ 53) : IsW (FloatKind.f64.nearest n) n := ⟨(near_fx h).1, (near_fx h).2.1⟩
theorem isW_0 : IsW 0 0 := ⟨fin_zero, by rw [fx_0]; simp⟩
theorem isW_m0 : IsW (2 ^ 63) 0 := ⟨by decide, by rw [Int.zero_mul]; decide +kernel⟩
theorem isW_1 : IsW 4607182418800017408 1 := ⟨fin_one, by rw [Int.one_mul]; exact fx_one⟩
theorem isW_m1 : IsW 13830554455654793216 (-1) := ⟨by decide, by decide +kernel⟩
theorem IsW.feq_of {x y : Nat} {a : Int} (hx : IsW x a) (hy : IsW y a) : feq x y = true := by
  rw [feq_fin hx.1 hy.1, hx.2, hy.2]; exact decide_eq_true rfl
theorem mul_U_le {a b : Int} : a * (U : Int) ≤ b * (U : Int) ↔ a ≤ b := by
  have hU := U_pos
  constructor
  · intro h
    rcases Int.lt_or_le b a with h1 | h1
    · have : b * (U : Int) < a * (U : Int) := Int.mul_lt_mul_of_pos_right h1 (by omega)
      omega
    · exact h1
  · intro h; exact Int.mul_le_mul_of_nonneg_right h (by omega)
theorem IsW.feq_iff {x y : Nat} {a b : Int} (hx : IsW x a) (hy : IsW y b) : feq x y = decide (a = b) := by
  rw [feq_fin hx.1 hy.1, hx.2, hy.2]
  by_cases h : a = b
  · subst h; rw [decide_eq_true rfl, decide_eq_true rfl]
  · rw [decide_eq_false h]
    refine decide_eq_false fun h2 => h ?_
    have h3 : a ≤ b := mul_U_le.1 (by omega)
    have h4 : b ≤ a := mul_U_le.1 (by omega)
    omega
theorem IsW.fgt_iff {x y : Nat} {a b : Int} (hx : IsW x a) (hy : IsW y b) : fgt x y = decide (b < a) := by
  rw [fgt_fin hx.1 hy.1, hx.2, hy.2]
  by_cases h : b < a
  · rw [decide_eq_true h]
    refine decide_eq_true ?_
    rcases Int.lt_or_le (b * (U : Int)) (a * (U : Int)) with h1 | h1
    · exact h1
    · have := mul_U_le.1 h1; omega
  · rw [decide_eq_false h]
    refine decide_eq_false fun h2 => ?_
    have : a * (U : Int) ≤ b * (U : Int) := mul_U_le.2 (by omega)
    omega
/-- Its floor is itself. -/
theorem IsW.floor_of {x : Nat} {a : Int} (hx : IsW x a) (h : a.natAbs < 2 ^ 53) : IsW (ffloor x) a := by
  have hU := U_pos
  rw [ffloor_fin hx.1, hx.abs, Nat.mul_div_cancel _ hU, Nat.mul_mod_left]
  have : (sg x && (0 : Nat) != 0).toNat = 0 := by simp
  rw [this, Nat.add_zero]
  obtain ⟨u, hu⟩ := U_form
  obtain ⟨l1, l2⟩ := rung_small (T := a.natAbs * U) (r := 4850376798678024192) (by rw [fxr_big]; exact Nat.mul_le_mul_right _ (by omega)) (by decide) ⟨a.natAbs, u, by rw [hu], h⟩
  refine ⟨fin_wd l1, ?_⟩
  rw [fx_wd (rung_lt _), l2, ← hx.2]
  unfold fx
  rw [hx.abs]
/-- Its magnitude. -/
theorem IsW.fabs_of {x : Nat} {a : Int} (hx : IsW x a) : IsW (fabs x) (a.natAbs : Int) := by
  have e : Lk.fabs x = rg x := by unfold Lk.fabs; rw [fin_num hx.1]; rfl
  have hs : Lk.sg (rg x) = false := by
    unfold Lk.sg; have := rg_lt x
    have : rg x / 2 ^ 63 = 0 := Nat.div_eq_of_lt this
    rw [this]; rfl
  rw [e]
  refine ⟨by unfold isFin; rw [rg_rg]; exact hx.1, ?_⟩
  unfold fx
  rw [hs, rg_rg, hx.abs, ← Int.natCast_mul]
  rfl
/-! ### Sums -/
def sumZ (z : Nat → Int) : Nat → Int
  | 0 => 0
  | k + 1 => sumZ z k + z k
theorem sumZ_bound {z : Nat → Int} {B : Nat} : ∀ {m : Nat}, (∀ i, i < m → (z i).natAbs ≤ B) → (sumZ z m).natAbs ≤ m * B
  | 0, _ => by simp [sumZ]
  | m + 1, h => by
    have h1 := sumZ_bound (m := m) (B := B) fun i hi => h i (by omega)
    have h2 := h m (by omega)
    show (sumZ z m + z m).natAbs ≤ _
    rw [Nat.add_mul, Nat.one_mul]
    omega
theorem sumZ_congr {z w : Nat → Int} : ∀ {m : Nat}, (∀ i, i < m → z i = w i) → sumZ z m = sumZ w m
  | 0, _ => rfl
  | m + 1, h => by
    show sumZ z m + z m = sumZ w m + w m
    rw [sumZ_congr fun i hi => h i (by omega), h m (by omega)]
theorem sumZ_add (z w : Nat → Int) : ∀ m, sumZ (fun i => z i + w i) m = sumZ z m + sumZ w m
  | 0 => rfl
  | m + 1 => by
    show sumZ (fun i => z i + w i) m + (z m + w m) = sumZ z m + z m + (sumZ w m + w m)
    rw [sumZ_add z w m]; omega
theorem sumZ_const (c : Int) : ∀ m, sumZ (fun _ => c) m = m * c
  | 0 => by simp [sumZ]
  | m + 1 => by
    show sumZ (fun _ => c) m + c = _
    rw [sumZ_const c m, show ((m + 1 : Nat) : Int) = (m : Int) + 1 by omega, Int.add_mul, Int.one_mul]
end Go.Lk
end
