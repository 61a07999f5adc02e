import Derived.Test.YtmomainjlncogaaPb5
import Derived.Test.YtmomainjlncogaaPb7
import Derived.Test.YtmomainjlncogaaPb6
section
/- Sums and products of floats of any size: errors by what they are. -/
namespace Go.Lk
set_option linter.unusedSimpArgs false
set_option linter.unusedVariables false
set_option maxRecDepth 10000
set_option maxHeartbeats 1000000
/-- The least place. -/
def ups : Rat := 1 / UR
theorem ups_U : ups * UR = 1 := by
  unfold ups
  exact Rat.div_mul_cancel (fun h => by have := UR_pos; rw [h] at this; exact absurd this (by decide))
theorem fxr_400 : fxr 6408622269748215808 = 2582249878086908589655919172003011874329705792829223512830659356540647622016841194629645353280137831435903171972747493376 * U := by decide +kernel
/-- A sum of finite ones that is not too great. -/
theorem big400 {T : Int} {B : Rat} (hB : B ≤ 1000000000000000000000000000000000000000000000000000000000000000000000000000000000000000000000000000000000000000000000000) (h : Bd (((T : Int) : Rat)) (B * UR)) : T.natAbs ≤ fxr 6408622269748215808 := by
  have hU := UR_pos
  have h1 : B * UR ≤ 1000000000000000000000000000000000000000000000000000000000000000000000000000000000000000000000000000000000000000000000000 * UR := Rat.mul_le_mul_of_nonneg_right hB (by grind)
  have h2 : ((T : Int) : Rat) ≤ 1000000000000000000000000000000000000000000000000000000000000000000000000000000000000000000000000000000000000000000000000 * UR := by have := h.2; grind
  have h3 : -(1000000000000000000000000000000000000000000000000000000000000000000000000000000000000000000000000000000000000000000000000 * UR) ≤ ((T : Int) : Rat) := by have := h.1; grind
  have h4 : T ≤ 1000000000000000000000000000000000000000000000000000000000000000000000000000000000000000000000000000000000000000000000000 * (U : Int) := by
    refine Rat.intCast_le_intCast.1 ?_
    rw [Rat.intCast_mul]
    exact h2
  have h5 : -(1000000000000000000000000000000000000000000000000000000000000000000000000000000000000000000000000000000000000000000000000 * (U : Int)) ≤ T := by
    refine Rat.intCast_le_intCast.1 ?_
    rw [Rat.intCast_neg, Rat.intCast_mul]
    exact h3
  rw [fxr_400]
  have h6 : ((2582249878086908589655919172003011874329705792829223512830659356540647622016841194629645353280137831435903171972747493376 * U : Nat) : Int) = 2582249878086908589655919172003011874329705792829223512830659356540647622016841194629645353280137831435903171972747493376 * (U : Int) := by rw [Int.natCast_mul]; rfl
  omega
theorem rnd_Q {s : Bool} {T : Int} {v B : Rat} (hv : v * UR = ((T : Int) : Rat)) (h : Bd v B) (hB : B ≤ 1000000000000000000000000000000000000000000000000000000000000000000000000000000000000000000000000000000000000000000000000) :
    isFin (rnd s T) = true ∧ Bd (qv (rnd s T) - v) (B * eta + ups) := by
  have hU := UR_pos
  have hT : Bd ((T : Int) : Rat) (B * UR) := by
    rw [← hv]
    exact ⟨by have := Rat.mul_le_mul_of_nonneg_right h.1 (c := UR) (by grind); grind, Rat.mul_le_mul_of_nonneg_right h.2 (by grind)⟩
  obtain ⟨h1, h2⟩ := rnd_err (s := s) (R := 6408622269748215808) (by decide) (big400 hB hT)
  refine ⟨h1, ?_⟩
  have h3 : ((4503599627370496 * (fx (rnd s T) - T).natAbs : Nat) : Rat) ≤ ((4503599627370496 + T.natAbs : Nat) : Rat) := Rat.natCast_le_natCast.2 h2
  have h4 := abs_cast hT
  rw [Rat.natCast_mul, Rat.natCast_add] at h3
  have hb := UR_big
  have hq := qv_U (rnd s T)
  have key : ∀ r : Rat, r ≤ (((fx (rnd s T) - T).natAbs : Nat) : Rat) → r ≤ (B * eta + ups) * UR := by
    intro r hr
    have e1 : (B * eta) * UR * 4503599627370496 = B * UR := by unfold eta; grind
    have e2 : (1 : Rat) ≤ ups * UR := by rw [ups_U]; exact Rat.le_refl
    have e3 : ((4503599627370496 : Nat) : Rat) = 4503599627370496 := by rfl
    rw [e3] at h3
    grind
  have hd : (qv (rnd s T) - v) * UR = ((fx (rnd s T) - T : Int) : Rat) := by
    rw [Rat.intCast_sub, ← hq, ← hv]; grind
  have n1 : ((fx (rnd s T) - T : Int) : Rat) ≤ (((fx (rnd s T) - T).natAbs : Nat) : Rat) := by
    have : (fx (rnd s T) - T) ≤ (((fx (rnd s T) - T).natAbs : Nat) : Int) := by omega
    exact Rat.intCast_le_intCast.2 this
  have n2 : -((fx (rnd s T) - T : Int) : Rat) ≤ (((fx (rnd s T) - T).natAbs : Nat) : Rat) := by
    have : -(fx (rnd s T) - T) ≤ (((fx (rnd s T) - T).natAbs : Nat) : Int) := by omega
    have := Rat.intCast_le_intCast.2 this
    rw [Rat.intCast_neg] at this
    exact this
  constructor
  · refine Rat.le_of_mul_le_mul_right (c := UR) ?_ hU
    have := key _ n2
    rw [← hd] at this
    grind
  · refine Rat.le_of_mul_le_mul_right (c := UR) ?_ hU
    rw [hd]
    exact key _ n1
theorem add_Q {x y : Nat} {B : Rat} (hx : isFin x = true) (hy : isFin y = true) (h : Bd (qv x + qv y) B) (hB : B ≤ 1000000000000000000000000000000000000000000000000000000000000000000000000000000000000000000000000000000000000000000000000) : isFin (fadd x y) = true ∧ Bd (qv (fadd x y) - (qv x + qv y)) (B * eta + ups) := by
  rw [fadd_fin hx hy]
  refine rnd_Q ?_ h hB
  rw [Rat.intCast_add, ← qv_U x, ← qv_U y]; grind
theorem sub_Q {x y : Nat} {B : Rat} (hx : isFin x = true) (hy : isFin y = true) (h : Bd (qv x - qv y) B) (hB : B ≤ 1000000000000000000000000000000000000000000000000000000000000000000000000000000000000000000000000000000000000000000000000) : isFin (fsub x y) = true ∧ Bd (qv (fsub x y) - (qv x - qv y)) (B * eta + ups) := by
  rw [fsub_fin hx hy]
  refine rnd_Q ?_ h hB
  rw [Rat.intCast_sub, ← qv_U x, ← qv_U y]; grind
/-! ### Products -/
theorem mul_eRR {x y : Nat} (hx : isFin x = true) (hy : isFin y = true) (h : fxr (rg x) * fxr (rg y) ≤ fxr 6408622269748215808 * U) :
    isFin (fmul x y) = true ∧ 4503599627370496 * (fx (fmul x y) * (U : Int) - fx x * fx y).natAbs ≤ 4503599627370496 * U + fxr (rg x) * fxr (rg y) := by
  obtain ⟨r, e, hr⟩ := fmul_near hx hy
  have hr54 : r ≤ 6408622269748215808 := hr.le_of (by decide) h
  have hU := U_pos
  obtain ⟨e1, e2⟩ := hr.err hU (by unfold infR; omega)
  rw [e]
  refine ⟨fin_wd (by omega), ?_⟩
  have hs : fx (wd (sg x ^^ sg y) r) * (U : Int) - fx x * fx y = sgn (sg x ^^ sg y) (fxr r * U) - sgn (sg x ^^ sg y) (fxr (rg x) * fxr (rg y)) := by
    rw [fx_wd (by omega), sgn_mul]
    congr 1
    unfold fx
    generalize fxr (rg x) = a
    generalize fxr (rg y) = b
    cases sg x <;> cases sg y <;> simp [sgn, Int.neg_mul, Int.mul_neg]
  have hn : (sgn (sg x ^^ sg y) (fxr r * U) - sgn (sg x ^^ sg y) (fxr (rg x) * fxr (rg y))).natAbs ≤ fxr r * U - fxr (rg x) * fxr (rg y) + (fxr (rg x) * fxr (rg y) - fxr r * U) := by
    unfold sgn
    generalize fxr r * U = a
    generalize fxr (rg x) * fxr (rg y) = b
    cases (sg x ^^ sg y) <;> simp <;> omega
  rw [hs]
  have : (2 : Nat) ^ 52 = 4503599627370496 := by decide
  rw [this] at e1 e2
  generalize fxr r * U = a at *
  generalize fxr (rg x) * fxr (rg y) = b at *
  omega
theorem mul_Q {x y : Nat} {B : Rat} (hx : isFin x = true) (hy : isFin y = true) (h : Bd (qv x * qv y) B) (hB : B ≤ 1000000000000000000000000000000000000000000000000000000000000000000000000000000000000000000000000000000000000000000000000) : isFin (fmul x y) = true ∧ Bd (qv (fmul x y) - qv x * qv y) (B * eta + ups) := by
  have hU := UR_pos
  have hUU : 0 < UR * UR := Rat.mul_pos hU hU
  have hp : qv x * qv y * (UR * UR) = ((fx x * fx y : Int) : Rat) := by
    rw [Rat.intCast_mul, ← qv_U x, ← qv_U y]; grind
  have hT : Bd ((fx x * fx y : Int) : Rat) (B * (UR * UR)) := by
    rw [← hp]
    exact ⟨by have := Rat.mul_le_mul_of_nonneg_right h.1 (c := UR * UR) (by grind); grind, Rat.mul_le_mul_of_nonneg_right h.2 (by grind)⟩
  have hab := abs_cast hT
  have hna : (fx x * fx y).natAbs = fxr (rg x) * fxr (rg y) := by rw [Int.natAbs_mul, fx_abs, fx_abs]
  rw [hna] at hab
  have hle : fxr (rg x) * fxr (rg y) ≤ fxr 6408622269748215808 * U := by
    refine Rat.natCast_le_natCast.1 ?_
    refine Rat.le_trans hab ?_
    have h1 : B * (UR * UR) ≤ 1000000000000000000000000000000000000000000000000000000000000000000000000000000000000000000000000000000000000000000000000 * (UR * UR) := Rat.mul_le_mul_of_nonneg_right hB (by grind)
    have h2 : 1000000000000000000000000000000000000000000000000000000000000000000000000000000000000000000000000000000000000000000000000 * (UR * UR) ≤ 2582249878086908589655919172003011874329705792829223512830659356540647622016841194629645353280137831435903171972747493376 * (UR * UR) := by grind
    refine Rat.le_trans h1 (Rat.le_trans h2 ?_)
    rw [fxr_400, Rat.natCast_mul, Rat.natCast_mul]
    have e3 : ((2582249878086908589655919172003011874329705792829223512830659356540647622016841194629645353280137831435903171972747493376 : Nat) : Rat) = 2582249878086908589655919172003011874329705792829223512830659356540647622016841194629645353280137831435903171972747493376 := by rfl
    rw [e3]
    show 2582249878086908589655919172003011874329705792829223512830659356540647622016841194629645353280137831435903171972747493376 * (UR * UR) ≤ 2582249878086908589655919172003011874329705792829223512830659356540647622016841194629645353280137831435903171972747493376 * UR * UR
    grind
  obtain ⟨f1, f2⟩ := mul_eRR hx hy hle
  refine ⟨f1, ?_⟩
  have h3 := Rat.natCast_le_natCast.2 f2
  rw [Rat.natCast_mul, Rat.natCast_add, Rat.natCast_mul] at h3
  have hq := qv_U (fmul x y)
  have hd : (qv (fmul x y) - qv x * qv y) * (UR * UR) = ((fx (fmul x y) * (U : Int) - fx x * fx y : Int) : Rat) := by
    rw [Rat.intCast_sub, Rat.intCast_mul, ← hq, ← hp]
    show _ = qv (fmul x y) * UR * UR - _
    grind
  generalize hD : fx (fmul x y) * (U : Int) - fx x * fx y = D at *
  have hb := UR_big
  have key : ∀ r : Rat, r ≤ ((D.natAbs : Nat) : Rat) → r ≤ (B * eta + ups) * (UR * UR) := by
    intro r hr
    have e1 : (B * eta) * (UR * UR) * 4503599627370496 = B * (UR * UR) := by unfold eta; grind
    have e2 : UR ≤ ups * (UR * UR) := by
      have : 1 ≤ ups * UR := by rw [ups_U]; exact Rat.le_refl
      have := Rat.mul_le_mul_of_nonneg_right this (c := UR) (by grind)
      grind
    have e3 : ((4503599627370496 : Nat) : Rat) = 4503599627370496 := by rfl
    have e4 : ((U : Nat) : Rat) = UR := rfl
    rw [e3, e4] at h3
    grind
  have n1 : ((D : Int) : Rat) ≤ ((D.natAbs : Nat) : Rat) := by
    have : D ≤ ((D.natAbs : Nat) : Int) := by omega
    exact Rat.intCast_le_intCast.2 this
  have n2 : -((D : Int) : Rat) ≤ ((D.natAbs : Nat) : Rat) := by
    have : -D ≤ ((D.natAbs : Nat) : Int) := by omega
    have := Rat.intCast_le_intCast.2 this
    rw [Rat.intCast_neg] at this
    exact this
  constructor
  · refine Rat.le_of_mul_le_mul_right (c := UR * UR) ?_ hUU
    have := key _ n2
    rw [← hd] at this
    grind
  · refine Rat.le_of_mul_le_mul_right (c := UR * UR) ?_ hUU
    rw [hd]
    exact key _ n1
end Go.Lk
end

section
/- PlaceBack: moved to the common ground and back. -/
namespace Go.Lk
set_option linter.unusedSimpArgs false
set_option linter.unusedVariables false
set_option maxRecDepth 10000
set_option maxHeartbeats 1000000
theorem neg_big {a A : Rat} (h : a < -A) : A ≤ -a := by grind
theorem turn_bd {t : Nat} (ct : Canon t) (ft : isFin t = true) : isFin (wTurn_0 t) = true ∧ isFin (wTurn_1 t) = true ∧ Canon (wTurn_1 t) ∧ Bd (qv (wTurn_0 t)) (101 / 100) ∧ Bd (qv (wTurn_1 t)) (101 / 100) ∧ Bd (qv (wTurn_0 t) * qv (wTurn_0 t) + qv (wTurn_1 t) * qv (wTurn_1 t) - 1) (7 * eta) := by
  obtain ⟨t1, t2, t3, t4⟩ := eta_small
  obtain ⟨f0, f1, _, _, h⟩ := turn_near ct ft
  have w1 := (wrap_val ct ft).1
  have c1 : Canon (wTurn_1 t) := by rw [(turn_form (by rw [feq_fin w1 w1]; exact decide_eq_true rfl)).2]; exact canon_bif (Canon.fadd _ _) (Canon.fadd _ _)
  have key : ∀ {a b : Rat}, Bd (a * a + b * b - 1) (68 / 10 * eta) → Bd a (101 / 100) := by
    intro a b h
    have h2 := h.2
    have h3 := sq_nn b
    constructor
    · refine Rat.not_lt.1 fun hlt => ?_
      have hl : 101 / 100 ≤ -a := neg_big hlt
      have := sqr_le (show (0 : Rat) ≤ 101 / 100 by decide +kernel) hl
      grind
    · refine Rat.not_lt.1 fun hlt => ?_
      have := sqr_le (show (0 : Rat) ≤ 101 / 100 by decide +kernel) (Rat.le_of_lt hlt)
      grind
  exact ⟨f0, f1, c1, key h, key (a := qv (wTurn_1 t)) (b := qv (wTurn_0 t)) (h.of_eq (by grind)), h.mono (by grind)⟩
/-- One side of a point that is turned: y p + x q, rounded at each step. -/
theorem turned_side {x y p q : Nat} {ax ay s : Rat} (fx : isFin x = true) (fy : isFin y = true) (fp : isFin p = true) (fq : isFin q = true) (hx : Bd (qv x) ax) (hy : Bd (qv y) ay) (hp : Bd (qv p) (101 / 100)) (hq : Bd (qv q) (101 / 100))
    (hs : ax + ay ≤ s) (hS : s ≤ 1000000000000000000000000000000000000000000000000000000000000000000000000000000000000000000000000000000) (hu : ups ≤ s * (1 / 1000 * eta)) :
    (isFin (fadd (fmul y p) (fmul x q)) = true ∧ Bd (qv (fadd (fmul y p) (fmul x q)) - (qv y * qv p + qv x * qv q)) (s * (205 / 100 * eta))) ∧
    (isFin (fsub (fmul y p) (fmul x q)) = true ∧ Bd (qv (fsub (fmul y p) (fmul x q)) - (qv y * qv p - qv x * qv q)) (s * (205 / 100 * eta))) := by
  obtain ⟨t1, t2, t3, t4⟩ := eta_small
  have x0 := hx.nonneg
  have y0 := hy.nonneg
  have s0 : 0 ≤ s := by grind
  obtain ⟨a1, a2⟩ := mul_Q fy fp (hy.mul hp) (by grind)
  obtain ⟨b1, b2⟩ := mul_Q fx fq (hx.mul hq) (by grind)
  have hse := Rat.mul_nonneg s0 t1
  have he2 : eta * eta ≤ eta / 1000 := by decide +kernel
  have k1 := Rat.mul_le_mul_of_nonneg_left hs t1
  have pa := (hy.mul hp).add a2
  have pb := (hx.mul hq).add b2
  have hB1 : Bd (qv (fmul y p) + qv (fmul x q)) (s * (102 / 100)) := by
    refine ((pa.add pb).of_eq (by grind)).mono ?_
    have k2 := Rat.mul_le_mul_of_nonneg_left t2 s0
    grind
  have hB2 : Bd (qv (fmul y p) - qv (fmul x q)) (s * (102 / 100)) := by
    refine ((pa.sub pb).of_eq (by grind)).mono ?_
    have k2 := Rat.mul_le_mul_of_nonneg_left t2 s0
    grind
  obtain ⟨c1, c2⟩ := add_Q a1 b1 hB1 (by grind)
  obtain ⟨d1, d2⟩ := sub_Q a1 b1 hB2 (by grind)
  refine ⟨⟨c1, (((c2.add a2).add b2).of_eq (by grind)).mono ?_⟩, d1, (((d2.add a2).sub b2).of_eq (by grind)).mono ?_⟩
  · clear c2 d2 hB1 hB2 pa pb a2 b2
    grind
  · clear c2 d2 hB1 hB2 pa pb a2 b2
    grind
/-- Moved and back: near where it was. -/
theorem moved_back {u v t x y : Nat} {ax ay s : Rat} (fu : isFin u = true) (fv : isFin v = true) (ct : Canon t) (ft : isFin t = true) (fx : isFin x = true) (fy : isFin y = true) (hu : Bd (qv u) s) (hv : Bd (qv v) s) (hx : Bd (qv x) ax) (hy : Bd (qv y) ay)
    (hs : ax + ay ≤ s) (hS : s ≤ 100000000000000000000000000000000000000000000000000000000000000000000000000000000000000000000000000000) (hups : ups ≤ s * (1 / 1000 * eta)) {A B : Nat}
    (hA : A = fsub (fadd (fadd (fmul y (wTurn_1 t)) (fmul x (wTurn_0 t))) u) u) (hB : B = fsub (fadd (fsub (fmul y (wTurn_0 t)) (fmul x (wTurn_1 t))) v) v) :
    isFin (fadd (fmul B (aneg false (wTurn_1 t))) (fmul A (wTurn_0 t))) = true ∧ Bd (qv (fadd (fmul B (aneg false (wTurn_1 t))) (fmul A (wTurn_0 t))) - qv x) (s * (24 * eta)) ∧
    isFin (fsub (fmul B (wTurn_0 t)) (fmul A (aneg false (wTurn_1 t)))) = true ∧ Bd (qv (fsub (fmul B (wTurn_0 t)) (fmul A (aneg false (wTurn_1 t)))) - qv y) (s * (24 * eta)) := by
  obtain ⟨t1, t2, t3, t4⟩ := eta_small
  obtain ⟨f0, f1, c1, b0, b1, hone⟩ := turn_bd ct ft
  obtain ⟨n1, n2, _⟩ := qv_neg c1 f1
  have x0 := hx.nonneg
  have y0 := hy.nonneg
  have s0 : 0 ≤ s := by grind
  have hse := Rat.mul_nonneg s0 t1
  have hst := Rat.mul_le_mul_of_nonneg_left t2 s0
  generalize wTurn_0 t = c at *
  generalize wTurn_1 t = S at *
  -- out and less the place again
  have there : ∀ {P w : Nat} {T : Rat}, isFin P = true → isFin w = true → Bd (qv w) s → Bd (qv P - T) (s * (205 / 100 * eta)) → Bd T (101 / 100 * s) → isFin (fsub (fadd P w) w) = true ∧ Bd (qv (fsub (fadd P w) w) - T) (s * (52 / 10 * eta)) := by
    intro P w T fP fw hw hP hT
    have h1 : Bd (qv P + qv w) (s * (203 / 100)) := (((hP.add hT).add hw).of_eq (by grind)).mono (by grind)
    obtain ⟨a1, a2⟩ := add_Q fP fw h1 (by grind)
    have h2 : Bd (qv (fadd P w) - qv w) (s * (102 / 100)) := (((a2.add hP).add hT).of_eq (by grind)).mono (by grind)
    obtain ⟨d1, d2⟩ := sub_Q a1 fw h2 (by grind)
    refine ⟨d1, (((d2.add a2).add hP).of_eq (by grind)).mono ?_⟩
    clear d2 a2 h1 h2 hP hT hw
    grind
  obtain ⟨⟨p1, p2⟩, _⟩ := turned_side fx fy f1 f0 hx hy b1 b0 hs (by grind) hups
  obtain ⟨_, q1, q2⟩ := turned_side fx fy f0 f1 hx hy b0 b1 hs (by grind) hups
  have hT0 : Bd (qv y * qv S + qv x * qv c) (101 / 100 * s) := ((hy.mul b1).add (hx.mul b0)).mono (by grind)
  have hT1 : Bd (qv y * qv c - qv x * qv S) (101 / 100 * s) := ((hy.mul b0).sub (hx.mul b1)).mono (by grind)
  obtain ⟨A1, A2⟩ := there p1 fu hu p2 hT0
  obtain ⟨B1, B2⟩ := there q1 fv hv q2 hT1
  rw [← hA] at A1 A2
  rw [← hB] at B1 B2
  clear hA hB p2 q2 there
  have hA3 : Bd (qv A) (102 / 100 * s) := ((A2.add hT0).of_eq (by grind)).mono (by grind)
  have hB3 : Bd (qv B) (102 / 100 * s) := ((B2.add hT1).of_eq (by grind)).mono (by grind)
  have bn : Bd (qv (aneg false S)) (101 / 100) := by rw [n2]; exact b1.neg
  have hups2 : ups ≤ 204 / 100 * s * (1 / 1000 * eta) := by grind
  obtain ⟨⟨g1, g2⟩, _⟩ := turned_side A1 B1 n1 f0 hA3 hB3 bn b0 (show 102 / 100 * s + 102 / 100 * s ≤ 204 / 100 * s by grind) (by grind) hups2
  obtain ⟨_, k1, k2⟩ := turned_side A1 B1 f0 n1 hA3 hB3 b0 bn (show 102 / 100 * s + 102 / 100 * s ≤ 204 / 100 * s by grind) (by grind) hups2
  rw [n2] at g2 k2
  have ex := (hx.mul hone)
  have ey := (hy.mul hone)
  have dA0 := A2.mul b0
  have dA1 := A2.mul b1
  have dB0 := B2.mul b0
  have dB1 := B2.mul b1
  have hse2 : ax * (7 * eta) ≤ s * (7 * eta) := Rat.mul_le_mul_of_nonneg_right (by grind) (by grind)
  have hse3 : ay * (7 * eta) ≤ s * (7 * eta) := Rat.mul_le_mul_of_nonneg_right (by grind) (by grind)
  refine ⟨g1, ?_, k1, ?_⟩
  · refine ((((g2.add dA0).sub dB1).add ex).of_eq (by grind)).mono ?_
    clear g2 k2 ex ey dA0 dA1 dB0 dB1 A2 B2 hT0 hT1 hA3 hB3 bn b0 b1 hone hx hy hu hv
    grind
  · refine ((((k2.add dB0).add dA1).add ey).of_eq (by grind)).mono ?_
    clear g2 k2 ex ey dA0 dA1 dB0 dB1 A2 B2 hT0 hT1 hA3 hB3 bn b0 b1 hone hx hy hu hv
    grind
end Go.Lk
end

section
/- Scaled sides. -/
namespace Go.Lk
set_option linter.unusedSimpArgs false
set_option linter.unusedVariables false
set_option maxRecDepth 10000
set_option maxHeartbeats 1000000
theorem ups_small : 0 ≤ ups ∧ ups ≤ 1 / 1000000000000000000000000000000000000000000000000000000000000000000000000000000000000000000000000000000000000000000000000000000000000000000000000000000000000000000000000000000000000000000000000000000 := by
  have h : 1000000000000000000000000000000000000000000000000000000000000000000000000000000000000000000000000000000000000000000000000000000000000000000000000000000000000000000000000000000000000000000000000000000 ≤ U := by decide +kernel
  have h2 := Rat.natCast_le_natCast.2 h
  have hU := UR_pos
  have e := ups_U
  have h3 : (((1000000000000000000000000000000000000000000000000000000000000000000000000000000000000000000000000000000000000000000000000000000000000000000000000000000000000000000000000000000000000000000000000000000 : Nat)) : Rat) ≤ UR := h2
  have e3 : (((1000000000000000000000000000000000000000000000000000000000000000000000000000000000000000000000000000000000000000000000000000000000000000000000000000000000000000000000000000000000000000000000000000000 : Nat)) : Rat) = 1000000000000000000000000000000000000000000000000000000000000000000000000000000000000000000000000000000000000000000000000000000000000000000000000000000000000000000000000000000000000000000000000000000 := by rfl
  rw [e3] at h3
  generalize UR = u at *
  have hp : 0 ≤ ups := Rat.not_lt.1 fun h => by
    have := Rat.mul_lt_mul_of_pos_right h hU; grind
  refine ⟨hp, ?_⟩
  have k := Rat.mul_le_mul_of_nonneg_left h3 hp
  grind
theorem rabs_dist {x y e : Rat} (h : Bd (x - y) e) : Bd (rabs x - rabs y) e := by
  obtain ⟨h1, h2⟩ := h
  unfold rabs
  by_cases hx : x < 0
  · rw [if_pos hx]
    by_cases hy : y < 0
    · rw [if_pos hy]; exact ⟨by grind, by grind⟩
    · rw [if_neg hy]; exact ⟨by grind, by grind⟩
  · rw [if_neg hx]
    by_cases hy : y < 0
    · rw [if_pos hy]; exact ⟨by grind, by grind⟩
    · rw [if_neg hy]; exact ⟨by grind, by grind⟩
theorem nn_mul {c m : Nat} (fc : isFin c = true) (fm : isFin m = true) (sm : sg m = false) : (0 ≤ qv c → 0 ≤ qv (fmul c m)) ∧ (qv c ≤ 0 → qv (fmul c m) ≤ 0) := by
  obtain ⟨r, e, hr⟩ := fmul_near fc fm
  have hrl : r < 2 ^ 63 := by have := hr.1; unfold infR at this; omega
  rw [sm, Bool.xor_false] at e
  have z : qv c = 0 → qv (fmul c m) = 0 := by
    intro h
    have h1 := (qv_zero_rg fc).2 h
    have h2 := (qv_nn (rg_sg c)).1
    rw [h1, rg_rg, Rat.zero_mul] at h2
    have h3 : fxr (rg c) = 0 := by
      have : (((fxr (rg c) : Nat)) : Rat) = ((0 : Nat) : Rat) := h2.symm
      exact Rat.natCast_inj.1 this
    have h4 : r = 0 := Nat.le_zero.1 (hr.le_of (Nat.zero_le _) (by rw [h3, Nat.zero_mul, fxr_zero]; omega))
    rw [e, h4]
    cases sg c <;> decide +kernel
  have s0 : sg c = false → 0 ≤ qv c ∧ 0 ≤ qv (fmul c m) := fun h => ⟨(qv_nn h).2, by rw [e, h]; exact (qv_nn (sg_wd hrl)).2⟩
  have s1 : sg c = true → qv c ≤ 0 ∧ qv (fmul c m) ≤ 0 := by
    intro h
    have neg : ∀ {x : Nat}, sg x = true → qv x ≤ 0 := by
      intro x hx
      refine Rat.not_lt.1 fun hlt => ?_
      have h1 := qv_U x
      have h2 : fx x ≤ 0 := by unfold fx sgn; rw [hx]; simp
      have h3 : ((fx x : Int) : Rat) ≤ 0 := by exact_mod_cast h2
      have h4 := Rat.mul_pos hlt UR_pos
      grind
    exact ⟨neg h, by rw [e, h]; exact neg (sg_wd hrl)⟩
  cases hs : sg c with
  | false =>
    obtain ⟨k1, k2⟩ := s0 hs
    refine ⟨fun _ => k2, fun h => ?_⟩
    rw [z (by grind)]; exact Rat.le_refl
  | true =>
    obtain ⟨k1, k2⟩ := s1 hs
    refine ⟨fun h => ?_, fun _ => k2⟩
    rw [z (by grind)]; exact Rat.le_refl
/-- What a side becomes when it is scaled. -/
theorem side_mul {c m : Nat} {C : Rat} (fc : isFin c = true) (fm : isFin m = true) (m0 : 1 / 100000000000000000000000000000000000000000000000000000000000000000000000000000000000000000000000000000 ≤ qv m) (m1 : qv m ≤ 100000000000000000000000000000000000000000000000000000000000000000000000000000000000000000000000000000)
    (hC : Bd (qv (rg c) - 1 * C) (1 * (4 * eta))) (hC0 : 0 ≤ C) (hC1 : C ≤ 1) : isFin (fmul c m) = true ∧ Bd (qv (rg (fmul c m)) - qv m * C) (qv m * (51 / 10 * eta)) := by
  obtain ⟨t1, t2, t3, t4⟩ := eta_small
  obtain ⟨u1, u2⟩ := ups_small
  have mp : 0 < qv m := by grind
  have hm : Bd (qv m) (qv m) := ⟨by grind, Rat.le_refl⟩
  have t5 : 4 * eta ≤ 1 / 100 := by decide +kernel
  have hc1 : Bd (qv c) (101 / 100) := by
    have h1 := hC.2
    rw [rabs_rg fc] at h1
    unfold rabs at h1
    by_cases h : qv c < 0
    · rw [if_pos h] at h1; exact ⟨by grind, by grind⟩
    · rw [if_neg h] at h1; exact ⟨by grind, by grind⟩
  obtain ⟨f1, f2⟩ := mul_Q fc fm (hc1.mul hm) (by grind)
  refine ⟨f1, ?_⟩
  have hr : rabs (qv c * qv m) = rabs (qv c) * qv m := by
    unfold rabs
    by_cases h : qv c < 0
    · have : qv c * qv m < 0 := by have := Rat.mul_pos (show 0 < -qv c by grind) mp; grind
      rw [if_pos h, if_pos this]; grind
    · have : ¬ qv c * qv m < 0 := by have := Rat.mul_nonneg (show 0 ≤ qv c by grind) (Rat.le_of_lt mp); grind
      rw [if_neg h, if_neg this]
  have hd := rabs_dist f2
  rw [hr] at hd
  rw [rabs_rg f1]
  rw [rabs_rg fc] at hC
  have h2 := hC.mul hm
  have hu : ups ≤ qv m * (1 / 100 * eta) := by
    have k : 1 / 1000000000000000000000000000000000000000000000000000000000000000000000000000000000000000000000000000000000000000000000000000000000000000000000000000000000000000000000000000000000000000000000000000000 ≤ 1 / 100000000000000000000000000000000000000000000000000000000000000000000000000000000000000000000000000000 * (1 / 100 * eta) := by decide +kernel
    have k2 := Rat.mul_le_mul_of_nonneg_right m0 (c := 1 / 100 * eta) (by grind)
    grind
  refine ((hd.add h2).of_eq (by grind)).mono ?_
  clear hd h2 f2 hC hm hc1
  grind
end Go.Lk
end

section
/- Angles of any two sides, whole turns apart. -/
namespace Go.Lk
set_option linter.unusedSimpArgs false
set_option linter.unusedVariables false
set_option maxRecDepth 10000
set_option maxHeartbeats 1000000
theorem zero_of {x : Nat} (h : isFin x = true) (hz : qv x = 0) : rg x = 0 := by
  have h1 := (qv_zero_rg h).2 hz
  have h2 := (qv_nn (rg_sg x)).1
  rw [h1, rg_rg, Rat.zero_mul] at h2
  have h3 : fxr (rg x) = 0 := by
    have : (((fxr (rg x) : Nat)) : Rat) = ((0 : Nat) : Rat) := h2.symm
    exact Rat.natCast_inj.1 this
  exact fxr_inj (h3.trans fxr_zero.symm)
/-- No second side: the angle is nought. -/
theorem quad_flat {X : Nat} (hX : isFin X = true) (sX : sg X = false) (hp : 0 < qv X) : quad X 0 = 0 := by
  unfold quad
  have hg : fgt 0 X = false := by
    cases h : fgt 0 X
    · rfl
    · have := (fgt_qv fin_zero hX).1 h; rw [zero_q] at this; grind
  rw [hg, cond_false]
  have hm : fmax X 0 = X ∧ fmin X 0 = 0 := by
    rcases max_min hX fin_zero sX rfl with ⟨e1, e2, _⟩ | ⟨e1, e2, e3⟩
    · exact ⟨e1, e2⟩
    · rw [zero_q] at e3; grind
  rw [hm.1, hm.2]
  have hne : fxr (rg X) ≠ 0 := by
    intro h
    have h2 := (qv_nn sX).1
    rw [h] at h2
    have : qv X * UR = 0 := h2
    rcases Rat.mul_eq_zero.1 this with h | h
    · grind
    · have := UR_pos; grind
  obtain ⟨r, e, hr⟩ := fdiv_near fin_zero hX hne
  have r0 : r = 0 := Nat.le_zero.1 (hr.le_of (Nat.zero_le _) (by rw [show rg 0 = 0 from rfl, fxr_zero]; omega))
  rw [e, r0, sX]
  decide +kernel
theorem angle_any {a b : Nat} {β r e w : Rat} {left : Bool} (ca : Canon a) (cb : Canon b) (ha : isFin a = true) (hb : isFin b = true) (h : Sides a b β r e) (hr : 0 < r) (he : e ≤ 1 / 100000)
    (hα : Bd (rabs w - bif left then 1 / 2 - β else β) (2 * eta)) (hl0 : left = false → 0 ≤ qv a) (hl1 : left = true → qv a ≤ 0) (hb0 : w < 0 → qv b ≤ 0) (hb1 : 0 ≤ w → 0 ≤ qv b) :
    isFin (wAngle_0 a b) = true ∧ ∃ k : Int, Bd (qv (wAngle_0 a b) - w - (k : Rat)) (17 / 5 * e + 22 * eta) ∧ Bd (qv (wAngle_0 a b)) (501 / 1000) := by
  obtain ⟨t1, t2, t3, t4⟩ := eta_small
  have he0 : 0 ≤ e := by
    obtain ⟨_, _, h2⟩ := h
    have hh : 0 ≤ r * e := by rcases h2 with ⟨_, h3, _⟩ | ⟨_, h3, _⟩ <;> exact h3.nonneg
    exact Rat.not_lt.1 fun h => by have := Rat.mul_lt_mul_of_pos_left h hr; grind
  have hne : (feq a 0 && feq b 0) = false := by
    cases h1 : feq a 0 <;> cases h2 : feq b 0 <;> try rfl
    have k1 := (qv_zero_rg ha).2 ((feq_zero ha).1 h1)
    have k2 := (qv_zero_rg hb).2 ((feq_zero hb).1 h2)
    rcases h.pos hr he with h | h <;> grind
  rw [angle_form (by rw [fin_test ca]; exact ha) (by rw [fin_test cb]; exact hb) hne]
  obtain ⟨q1, q2⟩ := h.quad ha hb hr he
  unfold angP
  rw [fabs_rg ha, fabs_rg hb]
  have hβ := h.1
  have hβ4 := h.2.1
  -- the half
  have hU : isFin (half1 a (quad (rg a) (rg b))) = true ∧ Canon (half1 a (quad (rg a) (rg b))) ∧ Bd (qv (half1 a (quad (rg a) (rg b))) - rabs w) (17 / 5 * e + 22 * eta) := by
    unfold half1
    have cq : Canon (quad (rg a) (rg b)) := canon_quad _ _
    cases hf : flt a 0 with
    | true =>
      rw [cond_true]
      have hlt := (flt_qv ha fin_zero).1 hf
      rw [zero_q] at hlt
      have hL : left = true := by
        cases left with
        | true => rfl
        | false => have := hl0 rfl; grind
      subst hL
      obtain ⟨p1, p2⟩ := hlf_q
      have hB : Bd (qv 4602678819172646912 - qv (quad (rg a) (rg b))) 1 := by rw [p2]; exact ⟨by have := q2.2; grind, by have := q2.1; grind⟩
      obtain ⟨s1, s2⟩ := sub_q p1 q1 hB (by decide +kernel)
      rw [p2] at s2
      refine ⟨s1, Canon.fsub _ _, ?_⟩
      simp only [cond_true] at hα
      exact (((s2.sub q2).sub hα).of_eq (by grind)).mono (by grind)
    | false =>
      rw [cond_false]
      have hge := (flt_qv ha fin_zero).2 hf
      rw [zero_q] at hge
      refine ⟨q1, cq, ?_⟩
      cases left with
      | false =>
        simp only [cond_false] at hα
        exact ((q2.sub hα).of_eq (by grind)).mono (by grind)
      | true =>
        simp only [cond_true] at hα
        have hz : qv a = 0 := by have := hl1 rfl; grind
        have hs := h.steep hr he ((qv_zero_rg ha).2 hz)
        have h2 : Bd (2 * β - 1 / 2) (2 / 5 * e) := ⟨by grind, by grind⟩
        exact (((q2.sub hα).add h2).of_eq (by grind)).mono (by grind)
  obtain ⟨u1, u2, u3⟩ := hU
  have rw0 : 0 ≤ w → rabs w = w := fun h => by unfold rabs; rw [if_neg (by grind)]
  have rw1 : w < 0 → rabs w = -w := fun h => by unfold rabs; rw [if_pos h]
  have hW : rabs w ≤ 1 / 2 + 2 * eta := by
    cases left with
    | true => simp only [cond_true] at hα; have := hα.2; grind
    | false => simp only [cond_false] at hα; have := hα.2; grind
  have hW0 := rabs_nn w
  have t5 : 22 * eta ≤ 1 / 10000000 := by decide +kernel
  cases hfe : feq (half1 a (quad (rg a) (rg b))) 4602678819172646912 with
  | true =>
    rw [cond_true]
    have hv : qv (half1 a (quad (rg a) (rg b))) = 1 / 2 := by
      rw [feq_fin u1 hlf_q.1] at hfe
      have h2 := of_decide_eq_true hfe
      exact (congrArg (fun z : Int => (z : Rat) / UR) h2).trans hlf_q.2
    have hm : qv 13826050856027422720 = -1 / 2 := (qv_const (n := -1) (d := 2) (by decide) (by decide +kernel)).trans (by decide +kernel)
    rw [hv] at u3
    rw [hm]
    refine ⟨by decide, ?_⟩
    rcases Rat.le_total (a := 0) (b := w) with h0 | h0
    · refine ⟨-1, ?_, ⟨by decide +kernel, by decide +kernel⟩⟩
      rw [rw0 h0] at u3
      have e1 : ((-1 : Int) : Rat) = -1 := rfl
      rw [e1]
      exact u3.of_eq (by grind)
    · refine ⟨0, ?_, ⟨by decide +kernel, by decide +kernel⟩⟩
      have e1 : ((0 : Int) : Rat) = 0 := rfl
      rw [e1]
      by_cases hw0 : w = 0
      · rw [rw0 (by grind)] at u3
        exact absurd u3.2 (by rw [hw0]; grind)
      · rw [rw1 (by grind)] at u3
        exact (u3.neg.of_eq (by grind))
  | false =>
    rw [cond_false]
    have e0 : ((0 : Int) : Rat) = 0 := rfl
    cases hb2 : flt b 0 with
    | true =>
      rw [cond_true]
      have hlt := (flt_qv hb fin_zero).1 hb2
      rw [zero_q] at hlt
      have hw0 : w < 0 := by
        refine Rat.not_le.1 fun h => ?_
        have := hb1 h; grind
      obtain ⟨n1, n2, n3⟩ := qv_neg u2 u1
      obtain ⟨m1, m2⟩ := qv_clean n3 n1
      rw [m2, n2]
      refine ⟨m1, 0, ?_, ?_⟩
      · rw [e0]
        rw [rw1 hw0] at u3
        exact u3.neg.of_eq (by grind)
      · obtain ⟨v1, v2⟩ := u3
        exact ⟨by grind, by grind⟩
    | false =>
      rw [cond_false]
      have hge := (flt_qv hb fin_zero).2 hb2
      rw [zero_q] at hge
      obtain ⟨m1, m2⟩ := qv_clean u2 u1
      rw [m2]
      have hab : Bd (qv (half1 a (quad (rg a) (rg b)))) (501 / 1000) := by
        obtain ⟨v1, v2⟩ := u3
        exact ⟨by grind, by grind⟩
      refine ⟨m1, 0, ?_, hab⟩
      rw [e0]
      rcases Rat.le_total (a := 0) (b := w) with h0 | h0
      · rw [rw0 h0] at u3
        exact u3.of_eq (by grind)
      · by_cases hw0 : w = 0
        · rw [rw0 (by grind)] at u3
          exact u3.of_eq (by grind)
        · have hw1 : w < 0 := by grind
          have hz : qv b = 0 := by have := hb0 hw1; grind
          have hs := h.flat hr he ((qv_zero_rg hb).2 hz)
          have hY := zero_of hb hz
          have hX : 0 < qv (rg a) := by
            rcases h.pos hr he with h | h
            · exact h
            · rw [hY, zero_q] at h; grind
          have hq := quad_flat (fin_rg ha) (rg_sg a) hX
          rw [hY, hq] at u3 hfe ⊢
          rw [rw1 hw1] at hα
          cases left with
          | true =>
            -- a is below nought: a half just
            exfalso
            have hneg : flt a 0 = true := by
              cases hf : flt a 0 with
              | true => rfl
              | false =>
                have := (flt_qv ha fin_zero).2 hf
                rw [zero_q] at this
                have h1 := hl1 rfl
                have h2 := (qv_zero_rg ha).2 (show qv a = 0 by grind)
                grind
            unfold half1 at hfe
            rw [hneg, cond_true] at hfe
            exact absurd hfe (by decide +kernel)
          | false =>
            simp only [cond_false] at hα
            have hge0 : flt a 0 = false := by
              cases hf : flt a 0 with
              | false => rfl
              | true =>
                have := (flt_qv ha fin_zero).1 hf
                rw [zero_q] at this
                have h1 := hl0 rfl
                grind
            unfold half1
            rw [hge0, cond_false, zero_q]
            obtain ⟨v1, v2⟩ := hα
            exact ⟨by grind, by grind⟩
end Go.Lk
end

section
/- Bearings, there and back. -/
namespace Go.Lk
set_option linter.unusedSimpArgs false
set_option linter.unusedVariables false
set_option maxRecDepth 10000
set_option maxHeartbeats 1000000
theorem pos_near {a : Nat} (fa : isFin a = true) (ha : Bd (qv a) (501 / 1000)) : isFin (wPos_0 a) = true ∧ ∃ j : Int, Bd (qv (wPos_0 a) - qv a - (j : Rat)) (eta + tau) ∧ Bd (qv (wPos_0 a)) 1 := by
  obtain ⟨t1, t2, t3, t4⟩ := eta_small
  obtain ⟨o1, o2⟩ := one_q
  have e0 : ((0 : Int) : Rat) = 0 := rfl
  have e1 : ((1 : Int) : Rat) = 1 := rfl
  unfold wPos_0
  cases h : flt a 0 with
  | false =>
    rw [cond_false]
    have hge := (flt_qv fa fin_zero).2 h
    rw [zero_q] at hge
    have hn : fge a 4607182418800017408 = false := by
      cases hx : fge a 4607182418800017408 with
      | false => rfl
      | true =>
        rw [fge_fin fa o1] at hx
        have := fx_le_qv (of_decide_eq_true hx)
        rw [o2] at this
        have := ha.2
        grind
    rw [hn, cond_false]
    exact ⟨fa, 0, by rw [e0]; exact ⟨by grind, by grind⟩, ha.mono (by decide +kernel)⟩
  | true =>
    rw [cond_true]
    have hlt := (flt_qv fa fin_zero).1 h
    rw [zero_q] at hlt
    have hB : Bd (qv a + qv 4607182418800017408) 1 := by rw [o2]; exact ⟨by have := ha.1; grind, by grind⟩
    obtain ⟨s1, s2⟩ := add_q fa o1 hB (by decide +kernel)
    rw [o2] at s2
    cases hx : fge (fadd a 4607182418800017408) 4607182418800017408 with
    | true =>
      rw [cond_true]
      rw [fge_fin s1 o1] at hx
      have h2 := fx_le_qv (of_decide_eq_true hx)
      rw [o2] at h2
      refine ⟨fin_zero, 0, ?_, ?_⟩
      · rw [e0, zero_q]
        have := s2.2
        exact ⟨by grind, by grind⟩
      · rw [zero_q]; exact ⟨by decide, by decide⟩
    | false =>
      rw [cond_false]
      have hlt1 : qv (fadd a 4607182418800017408) ≤ 1 := by
        rw [fge_fin s1 o1] at hx
        have h2 := of_decide_eq_false hx
        rw [← o2]
        exact fx_le_qv (by omega)
      refine ⟨s1, 1, ?_, ⟨by have := s2.1; have := ha.1; grind, hlt1⟩⟩
      rw [e1]
      exact (s2.of_eq (by grind)).mono (by grind)
/-- Near a whole number: wrapped it is what it is off. -/
theorem wrap_off {x : Nat} {n : Int} {E : Rat} (hc : Canon x) (hf : isFin x = true) (h : Bd (qv x - (n : Rat)) E) (hE : E ≤ 1 / 1000) : isFin (wrapP x) = true ∧ Bd (qv (wrapP x)) E := by
  obtain ⟨w1, ⟨t, ht⟩, w2, w3, _⟩ := wrap_val hc hf
  refine ⟨w1, ?_⟩
  have hU := UR_pos
  have q1 := qv_U (wrapP x)
  have q2 := qv_U x
  have e : qv (wrapP x) = qv x + (t : Rat) := by
    have h1 : qv (wrapP x) * UR = (qv x + (t : Rat)) * UR := by
      rw [q1, ht, Rat.intCast_add, Rat.intCast_mul, ← q2]
      show qv x * UR + (t : Rat) * UR = _
      grind
    have h2 : (qv (wrapP x) - (qv x + (t : Rat))) * UR = 0 := by grind
    rcases Rat.mul_eq_zero.1 h2 with h | h <;> grind
  have b1 : -(1 / 2) ≤ qv (wrapP x) := by
    have h1 : ((-(U : Int) : Int) : Rat) ≤ ((2 * fx (wrapP x) : Int) : Rat) := Rat.intCast_le_intCast.2 w2
    rw [Rat.intCast_neg, Rat.intCast_mul, ← q1] at h1
    have h2 : (((U : Nat) : Int) : Rat) = UR := rfl
    have h3 : ((2 : Int) : Rat) = 2 := rfl
    rw [h2, h3] at h1
    exact Rat.not_lt.1 fun h => by have := Rat.mul_lt_mul_of_pos_right h hU; grind
  have b2 : qv (wrapP x) ≤ 1 / 2 := by
    have h1 : ((2 * fx (wrapP x) : Int) : Rat) ≤ (((U : Int)) : Rat) := Rat.intCast_le_intCast.2 (Int.le_of_lt w3)
    rw [Rat.intCast_mul, ← q1] at h1
    have h2 : (((U : Nat) : Int) : Rat) = UR := rfl
    have h3 : ((2 : Int) : Rat) = 2 := rfl
    rw [h2, h3] at h1
    exact Rat.not_lt.1 fun h => by have := Rat.mul_lt_mul_of_pos_right h hU; grind
  have hz : n + t = 0 := by
    have k1 : (((n + t : Int)) : Rat) < ((1 : Int) : Rat) := by rw [Rat.intCast_add]; have := h.1; have e1 : ((1 : Int) : Rat) = 1 := rfl; rw [e1]; grind
    have k2 : (((-1 : Int)) : Rat) < ((n + t : Int) : Rat) := by rw [Rat.intCast_add]; have := h.2; have e1 : ((-1 : Int) : Rat) = -1 := rfl; rw [e1]; grind
    have k1 := Rat.intCast_lt_intCast.1 k1
    have k2 := Rat.intCast_lt_intCast.1 k2
    omega
  have hz2 : (t : Rat) = -(n : Rat) := by
    have : t = -n := by omega
    rw [this, Rat.intCast_neg]
  rw [e, hz2]
  exact h.of_eq (by grind)
theorem bearing_back {a w : Nat} {k : Int} {E : Rat} (fa : isFin a = true) (ha : Bd (qv a) (501 / 1000)) (fw : isFin w = true) (hw : Bd (qv w) (1 / 2)) (h : Bd (qv a - qv w - (k : Rat)) E) (hE : E ≤ 1 / 10000) :
    isFin (wrapP (fsub (wPos_0 a) w)) = true ∧ Bd (qv (wrapP (fsub (wPos_0 a) w))) (E + 3 * eta) := by
  obtain ⟨t1, t2, t3, t4⟩ := eta_small
  obtain ⟨p1, j, p2, p3⟩ := pos_near fa ha
  obtain ⟨s1, s2⟩ := sub_q p1 fw ((p3.sub hw).mono (show (1 : Rat) + 1 / 2 ≤ 3 / 2 by decide +kernel)) (by decide +kernel)
  have hx : Bd (qv (fsub (wPos_0 a) w) - ((k + j : Int) : Rat)) (E + 3 * eta) := by
    rw [Rat.intCast_add]
    exact (((s2.add p2).add h).of_eq (by grind)).mono (by grind)
  exact wrap_off (Canon.fsub _ _) s1 hx (by grind)
end Go.Lk
end

section
/- Magnitudes of any size. -/
namespace Go.Lk
set_option linter.unusedSimpArgs false
set_option linter.unusedVariables false
set_option maxRecDepth 10000
set_option maxHeartbeats 1000000
theorem sqrt_two {t : Nat} (ft : isFin t = true) (st : sg t = false) (ht : qv t ≤ 201 / 100) : isFin (fsqrt t) = true ∧ sg (fsqrt t) = false ∧ Bd (qv (fsqrt t) * qv (fsqrt t) - qv t) (5 * eta) ∧ qv (fsqrt t) ≤ 142 / 100 := by
  obtain ⟨t1, t2, t3, t4⟩ := eta_small
  obtain ⟨q1, q2, l, l0, l1, l2, l3, l4⟩ := sqrt_q ft st (by grind)
  have nR := (qv_nn q2).2
  generalize qv (fsqrt t) = R at *
  generalize qv t = T at *
  have hl1 : l ≤ 1418 / 1000 := by
    refine Rat.not_lt.1 fun h => ?_
    have := sqr_le (show (0 : Rat) ≤ 1418 / 1000 by decide +kernel) (Rat.le_of_lt h)
    grind
  have k1 := Rat.mul_le_mul_of_nonneg_right hl1 t1
  have hR1 : R ≤ l + (1418 / 1000 * eta + tau) := by grind
  have k2 : R * R ≤ (l + (1418 / 1000 * eta + tau)) * (l + (1418 / 1000 * eta + tau)) := sqr_le nR hR1
  have k3 : l * l ≤ R * R := sqr_le l0 l2
  have k4 : (l + l * eta + tau) * (l + l * eta + tau) ≤ (l + (1418 / 1000 * eta + tau)) * (l + (1418 / 1000 * eta + tau)) := by
    have := Rat.mul_nonneg l0 t1
    exact sqr_le (by grind) (by grind)
  have k5 : (l + (1418 / 1000 * eta + tau)) * (l + (1418 / 1000 * eta + tau)) ≤ l * l + 5 * eta := by
    have h1 := Rat.mul_le_mul_of_nonneg_right hl1 (c := 1418 / 1000 * eta + tau) (by grind)
    have h2 : (1418 / 1000 * eta + tau) * (1418 / 1000 * eta + tau) ≤ eta / 2 := by decide +kernel
    grind
  have t5 : 1418 / 1000 * eta + tau ≤ 1 / 1000 := by decide +kernel
  exact ⟨q1, q2, ⟨by grind, by grind⟩, by grind⟩
/-- What Abs is, of the greater side m and the smaller one n. -/
theorem abs_big {m n : Nat} {M g : Rat} (fm : isFin m = true) (fn : isFin n = true) (sm : sg m = false) (sn : sg n = false) (hle : qv n ≤ qv m) (hM : 0 < M) (hM1 : M ≤ 100000000000000000000000000000000000000000000000000000000000000000000000000000000000000000000000000000)
    (hu : ups ≤ M * (1 / 100 * eta)) (hg : g ≤ 1 / 1000) (hG : Bd (qv m * qv m + qv n * qv n - M * M) (M * M * g)) :
    isFin (fmul m (fsqrt (fadd 4607182418800017408 (fmul (fdiv n m) (fdiv n m))))) = true ∧ Bd (qv (fmul m (fsqrt (fadd 4607182418800017408 (fmul (fdiv n m) (fdiv n m))))) - M) (M * (g + 11 * eta)) := by
  obtain ⟨t1, t2, t3, t4⟩ := eta_small
  have nm := (qv_nn sm).2
  have nn := (qv_nn sn).2
  have hMM := Rat.mul_pos hM hM
  have g0 : 0 ≤ g := by
    have := hG.nonneg
    exact Rat.not_lt.1 fun h => by have := Rat.mul_lt_mul_of_pos_left h hMM; grind
  have hmm : qv m * qv m ≤ 1001 / 1000 * (M * M) := by
    have h1 := hG.2
    have h2 := sq_nn (qv n)
    have h3 := Rat.mul_le_mul_of_nonneg_left hg (Rat.le_of_lt hMM)
    grind
  have hm1 : qv m ≤ 1001 / 1000 * M := by
    refine Rat.not_lt.1 fun h => ?_
    have := sqr_le (show 0 ≤ 1001 / 1000 * M by grind) (Rat.le_of_lt h)
    grind
  have hm0 : 0 < qv m := by
    refine Rat.not_le.1 fun h => ?_
    have e1 : qv m = 0 := by grind
    have e2 : qv n = 0 := by grind
    have h1 := hG.1
    rw [e1, e2] at h1
    have h3 := Rat.mul_le_mul_of_nonneg_left hg (Rat.le_of_lt hMM)
    grind
  obtain ⟨d1, d2, d3⟩ := div_q fn fm sn sm hm0 hle
  have nd := (qv_nn d2).2
  have hq1 : qv (fdiv n m) ≤ 1 := div_le_one fn fm sn sm hm0 hle d1 d3 nd
  generalize fdiv n m = q at *
  have bq : Bd (qv q) 1 := ⟨by grind, hq1⟩
  obtain ⟨p1, p2⟩ := mul_q d1 d1 ((bq.mul bq).mono (show (1 : Rat) * 1 ≤ 1 by decide +kernel)) (by decide +kernel)
  have n2 := sq_nn (qv q)
  have hqq := (bq.mul bq).2
  obtain ⟨o1, o2⟩ := one_q
  have hB : Bd (qv 4607182418800017408 + qv (fmul q q)) (2001 / 1000) := by rw [o2]; exact ⟨by have := p2.1; grind, by have := p2.2; grind⟩
  obtain ⟨a1, a2⟩ := add_q o1 p1 hB (by decide +kernel)
  rw [o2] at a2
  have ha : 1 / 2 ≤ qv (fadd 4607182418800017408 (fmul q q)) := by have := a2.1; have := p2.1; grind
  obtain ⟨r1, r2, r3, r4⟩ := sqrt_two a1 (sg_of_pos a1 (by grind)) (by have := a2.2; have := p2.2; grind)
  have hR : Bd (qv (fsqrt (fadd 4607182418800017408 (fmul q q))) * qv (fsqrt (fadd 4607182418800017408 (fmul q q))) - (1 + qv q * qv q)) (9 * eta) := (((r3.add a2).add p2).of_eq (by grind)).mono (by grind)
  have nR := (qv_nn r2).2
  generalize fsqrt (fadd 4607182418800017408 (fmul q q)) = R at *
  have bm : Bd (qv m) (1001 / 1000 * M) := ⟨by grind, hm1⟩
  have bR : Bd (qv R) (142 / 100) := ⟨by grind, r4⟩
  obtain ⟨f1, f2⟩ := mul_Q fm r1 (bm.mul bR) (by grind)
  refine ⟨f1, ?_⟩
  -- the square
  have hqm : Bd (qv q * qv m - qv n) (2 * eta * qv m) := by
    have k1 := Rat.mul_le_mul_of_nonneg_right hle t1
    have k2 := Rat.mul_le_mul_of_nonneg_right (show tau ≤ eta by grind) nm
    exact d3.mono (by grind)
  have hs1 : Bd (qv q * qv m + qv n) (2 * qv m) := by
    have k := Rat.mul_le_mul_of_nonneg_right hq1 nm
    have k2 := Rat.mul_nonneg nd nm
    exact ⟨by grind, by grind⟩
  have e1 := hqm.mul hs1
  have bmm : Bd (qv m * qv m) (qv m * qv m) := ⟨by have := sq_nn (qv m); grind, Rat.le_refl⟩
  have e2 := hR.mul bmm
  have hall := ((e2.add e1).add hG).of_eq (s := (qv m * qv R) * (qv m * qv R) - M * M) (by grind)
  have hD : Bd ((qv m * qv R) * (qv m * qv R) - M * M) (M * M * (g + 14 * eta)) := by
    refine hall.mono ?_
    have k := Rat.mul_le_mul_of_nonneg_right hmm (c := 13 * eta) (by grind)
    have k2 := Rat.mul_nonneg (Rat.le_of_lt hMM) t1
    clear hall e1 e2 hR hqm hs1 f2 bmm hG
    grind
  have hmR := Rat.mul_nonneg nm nR
  have hd : Bd (qv m * qv R - M) (M * (g + 14 * eta) * (2 / 3)) := by
    refine Bd.cancel (G := qv m * qv R + M) (by grind) ((hD.of_eq (by grind)).mono ?_)
    have hlow : M / 2 ≤ qv m * qv R := by
      refine Rat.not_lt.1 fun h => ?_
      have k := sqr_le hmR (Rat.le_of_lt h)
      have k2 := hD.1
      have t5 : 14 * eta ≤ 1 / 1000 := by decide +kernel
      have k3 := Rat.mul_le_mul_of_nonneg_left (show g + 14 * eta ≤ 2 / 1000 by grind) (Rat.le_of_lt hMM)
      grind
    have k4 := Rat.mul_le_mul_of_nonneg_left (show 3 / 2 * M ≤ qv m * qv R + M by grind) (c := M * (g + 14 * eta) * (2 / 3)) (by have := Rat.mul_nonneg (Rat.le_of_lt hM) (show 0 ≤ g + 14 * eta by grind); grind)
    grind
  have hMe := Rat.mul_nonneg (Rat.le_of_lt hM) t1
  have hMg := Rat.mul_nonneg (Rat.le_of_lt hM) g0
  refine ((f2.add hd).of_eq (by grind)).mono ?_
  clear hd f2 hD hall e1 e2 hR hqm hs1 bmm hG
  grind
end Go.Lk
end

section
/- PlaceBack: so many metres in a direction, and back. -/
namespace Go.Lk
set_option linter.unusedSimpArgs false
set_option linter.unusedVariables false
set_option maxRecDepth 10000
set_option maxHeartbeats 1000000
theorem abs_parts {a b : Nat} (ha : isFin a = true) (hb : isFin b = true) (hp : 0 < qv (rg a) ∨ 0 < qv (rg b)) : ∃ m n, ((m = rg a ∧ n = rg b) ∨ (m = rg b ∧ n = rg a)) ∧ qv n ≤ qv m ∧ bAbs_0 a b = fmul m (fsqrt (fadd 4607182418800017408 (fmul (fdiv n m) (fdiv n m)))) := by
  have k1 : ((0 : Int) == Int.ofNat 1) = false := by decide
  have k2 : ((0 : Int) == Int.ofNat 2) = false := by decide
  have z : ∀ {x : Nat}, isFin x = true → 0 < qv x → feq x 0 = false := by
    intro x hx h
    cases he : feq x 0 with
    | false => rfl
    | true => have := (feq_zero hx).1 he; grind
  unfold bAbs_0
  rw [bAbs_kind ha hb, k1, k2, cond_false, cond_false, fabs_rg ha, fabs_rg hb]
  rcases max_min (fin_rg ha) (fin_rg hb) (rg_sg a) (rg_sg b) with ⟨e1, e2, e3⟩ | ⟨e1, e2, e3⟩
  · rw [e1, e2, z (fin_rg ha) (by rcases hp with h | h <;> grind), cond_false]
    exact ⟨_, _, .inl ⟨rfl, rfl⟩, e3, rfl⟩
  · rw [e1, e2, z (fin_rg hb) (by rcases hp with h | h <;> grind), cond_false]
    exact ⟨_, _, .inr ⟨rfl, rfl⟩, e3, rfl⟩
theorem e14_q : isFin 4397347889687374747 = true ∧ 45 * eta ≤ qv 4397347889687374747 ∧ qv 4397347889687374747 ≤ 46 * eta := by
  have h : qv 4397347889687374747 = 6338253001141147 / 633825300114114700748351602688 := (qv_const (n := 6338253001141147) (d := 633825300114114700748351602688) (by decide) (by decide +kernel)).trans (by decide +kernel)
  rw [h]
  exact ⟨by decide, by decide +kernel, by decide +kernel⟩
theorem wide_q : isFin 3110860544497550640 = true ∧ 1 / 100000000000000000000000000000000000000000000000000000000000000000000000000000000000000000000000000000 ≤ qv 3110860544497550640 ∧ isFin 6103021453049119613 = true ∧ qv 6103021453049119613 ≤ 100000000000000000000000000000000000000000000000000000000000000000000000000000000000000000000000000000 := by
  have hU := UR_pos
  refine ⟨by decide, ?_, by decide, ?_⟩
  · have h : (U : Int) ≤ fx 3110860544497550640 * 100000000000000000000000000000000000000000000000000000000000000000000000000000000000000000000000000000 := by decide +kernel
    have h2 := Rat.intCast_le_intCast.2 h
    rw [Rat.intCast_mul, ← qv_U] at h2
    have e1 : (((U : Nat) : Int) : Rat) = UR := rfl
    have e2 : ((100000000000000000000000000000000000000000000000000000000000000000000000000000000000000000000000000000 : Int) : Rat) = 100000000000000000000000000000000000000000000000000000000000000000000000000000000000000000000000000000 := rfl
    rw [e1, e2] at h2
    refine Rat.not_lt.1 fun hlt => ?_
    have k := Rat.mul_lt_mul_of_pos_right hlt hU
    grind
  · have h : fx 6103021453049119613 ≤ 100000000000000000000000000000000000000000000000000000000000000000000000000000000000000000000000000000 * (U : Int) := by decide +kernel
    have h2 := Rat.intCast_le_intCast.2 h
    rw [Rat.intCast_mul, ← qv_U] at h2
    have e1 : (((U : Nat) : Int) : Rat) = UR := rfl
    have e2 : ((100000000000000000000000000000000000000000000000000000000000000000000000000000000000000000000000000000 : Int) : Rat) = 100000000000000000000000000000000000000000000000000000000000000000000000000000000000000000000000000000 := rfl
    rw [e1, e2] at h2
    refine Rat.not_lt.1 fun hlt => ?_
    have k := Rat.mul_lt_mul_of_pos_right hlt hU
    grind
theorem wrap_half {x : Nat} (hc : Canon x) (hf : isFin x = true) : Bd (qv (wrapP x)) (1 / 2) := by
  obtain ⟨w1, _, w2, w3, _⟩ := wrap_val hc hf
  have hU := UR_pos
  have q1 := qv_U (wrapP x)
  constructor
  · have h1 : ((-(U : Int) : Int) : Rat) ≤ ((2 * fx (wrapP x) : Int) : Rat) := Rat.intCast_le_intCast.2 w2
    rw [Rat.intCast_neg, Rat.intCast_mul, ← q1] at h1
    have h2 : (((U : Nat) : Int) : Rat) = UR := rfl
    have h3 : ((2 : Int) : Rat) = 2 := rfl
    rw [h2, h3] at h1
    exact Rat.not_lt.1 fun h => by have := Rat.mul_lt_mul_of_pos_right h hU; grind
  · have h1 : ((2 * fx (wrapP x) : Int) : Rat) ≤ (((U : Int)) : Rat) := Rat.intCast_le_intCast.2 (Int.le_of_lt w3)
    rw [Rat.intCast_mul, ← q1] at h1
    have h2 : (((U : Nat) : Int) : Rat) = UR := rfl
    have h3 : ((2 : Int) : Rat) = 2 := rfl
    rw [h2, h3] at h1
    exact Rat.not_lt.1 fun h => by have := Rat.mul_lt_mul_of_pos_right h hU; grind
theorem sq_part {X M C d : Rat} (hM : 0 ≤ M) (c0 : 0 ≤ C) (c1 : C ≤ 1) (d0 : 0 ≤ d) (d1 : d ≤ 1 / 10000) (h : Bd (X - M * C) (M * d)) : Bd (X * X - M * M * (C * C)) (M * M * (20001 / 10000 * d)) := by
  have hMd := Rat.mul_nonneg hM d0
  have k1 := Rat.mul_nonneg hM (show 0 ≤ 1 - C by grind)
  have k2 := Rat.mul_nonneg hM c0
  have k3 := Rat.mul_le_mul_of_nonneg_left d1 hM
  have hs : Bd (X + M * C) (M * (20001 / 10000)) := ⟨by have := h.1; grind, by have := h.2; grind⟩
  exact ((h.mul hs).of_eq (by grind)).mono (by grind)
/-- The sides that To makes, and what From makes of them. -/
theorem to_from {m b : Nat} (fm : isFin m = true) (cb : Canon b) (fb : isFin b = true) (m0 : 1 / 100000000000000000000000000000000000000000000000000000000000000000000000000000000000000000000000000000 ≤ qv m) (m1 : qv m ≤ 100000000000000000000000000000000000000000000000000000000000000000000000000000000000000000000000000000) :
    isFin (bAbs_0 (fmul (wTurn_0 b) m) (fmul (wTurn_1 b) m)) = true ∧ Bd (qv (bAbs_0 (fmul (wTurn_0 b) m) (fmul (wTurn_1 b) m)) - qv m) (qv m * (33 * eta)) ∧
    isFin (wrapP (fsub (wPos_0 (wAngle_0 (fmul (wTurn_0 b) m) (fmul (wTurn_1 b) m))) (wrapP b))) = true ∧ Bd (qv (wrapP (fsub (wPos_0 (wAngle_0 (fmul (wTurn_0 b) m) (fmul (wTurn_1 b) m))) (wrapP b)))) (43 * eta) := by
  obtain ⟨t1, t2, t3, t4⟩ := eta_small
  obtain ⟨u1, u2⟩ := ups_small
  have mp : 0 < qv m := by grind
  have sm := sg_of_pos fm mp
  obtain ⟨f0, f1, _⟩ := turn_near cb fb
  obtain ⟨w1, left, β, h1, h2, h3, h4, h5, h6, h7, h8⟩ := turn_sides cb fb
  obtain ⟨hβ0, hβ4, hc⟩ := h1
  have r8 : (51 / 10 * eta : Rat) ≤ 1 / 100000 := by decide +kernel
  -- the sides, scaled
  have hS : isFin (fmul (wTurn_0 b) m) = true ∧ isFin (fmul (wTurn_1 b) m) = true ∧ Sides (fmul (wTurn_0 b) m) (fmul (wTurn_1 b) m) β (qv m) (51 / 10 * eta) ∧
      ∃ C Z, 0 ≤ C ∧ C ≤ 1 ∧ 0 ≤ Z ∧ Z ≤ 1 ∧ Bd (C * C + Z * Z - 1) (eta / 20) ∧ Bd (qv (rg (fmul (wTurn_0 b) m)) - qv m * C) (qv m * (51 / 10 * eta)) ∧ Bd (qv (rg (fmul (wTurn_1 b) m)) - qv m * Z) (qv m * (51 / 10 * eta)) := by
    rcases hc with ⟨k8, ka, kb⟩ | ⟨k8, ka, kb⟩
    · obtain ⟨y0, y1, q3, q4, q5, q6⟩ := cs_q hβ0 k8
      obtain ⟨g1, _, _⟩ := G_pos y0 y1
      obtain ⟨a1, a2⟩ := side_mul f0 fm m0 m1 ka (by grind) q6
      obtain ⟨b1, b2⟩ := side_mul f1 fm m0 m1 kb (by grind) (by grind)
      exact ⟨a1, b1, ⟨hβ0, hβ4, .inl ⟨k8, a2, b2⟩⟩, _, _, by grind, q6, by grind, by grind, g1, a2, b2⟩
    · obtain ⟨y0, y1, q3, q4, q5, q6⟩ := cs_q (show 0 ≤ 1 / 4 - β by grind) (by grind)
      obtain ⟨g1, _, _⟩ := G_pos y0 y1
      obtain ⟨a1, a2⟩ := side_mul f0 fm m0 m1 ka (by grind) (by grind)
      obtain ⟨b1, b2⟩ := side_mul f1 fm m0 m1 kb (by grind) q6
      exact ⟨a1, b1, ⟨hβ0, hβ4, .inr ⟨k8, a2, b2⟩⟩, _, _, by grind, by grind, by grind, q6, g1.of_eq (by grind), a2, b2⟩
  obtain ⟨a1, b1, hsd, C, Z, c0, c1, z0, z1, hone, hA, hB⟩ := hS
  have ca : Canon (fmul (wTurn_0 b) m) := Canon.fmul _ _
  have cb2 : Canon (fmul (wTurn_1 b) m) := Canon.fmul _ _
  have sa := nn_mul f0 fm sm
  have sb := nn_mul f1 fm sm
  generalize fmul (wTurn_0 b) m = a at *
  generalize fmul (wTurn_1 b) m = i at *
  have hw2 := wrap_half cb fb
  obtain ⟨n1, k, n2, n3⟩ := angle_any ca cb2 a1 b1 hsd mp r8 h2 (fun h => sa.1 (h3 h)) (fun h => sa.2 (h4 h)) (fun h => sb.2 (h5 h)) (fun h => sb.1 (h6 h))
  obtain ⟨v1, v2⟩ := bearing_back n1 n3 w1 hw2 n2 (by grind)
  have hM : isFin (bAbs_0 a i) = true ∧ Bd (qv (bAbs_0 a i) - qv m) (qv m * (33 * eta)) := by
    obtain ⟨p, n, hpn, hle, e⟩ := abs_parts a1 b1 (hsd.pos mp r8)
    rw [e]
    have hG : Bd (qv (rg a) * qv (rg a) + qv (rg i) * qv (rg i) - qv m * qv m) (qv m * qv m * (21 * eta)) := by
      have r9 : (51 / 10 * eta : Rat) ≤ 1 / 10000 := by decide +kernel
      have p1 := sq_part (Rat.le_of_lt mp) c0 c1 (show 0 ≤ 51 / 10 * eta by grind) r9 hA
      have p2 := sq_part (Rat.le_of_lt mp) z0 z1 (show 0 ≤ 51 / 10 * eta by grind) r9 hB
      have hmm := Rat.mul_pos mp mp
      have p0 : Bd (qv m * qv m) (qv m * qv m) := ⟨by grind, Rat.le_refl⟩
      have p3 := p0.mul hone
      have k := Rat.mul_nonneg (Rat.le_of_lt hmm) t1
      refine (((p1.add p2).add p3).of_eq (by grind)).mono ?_
      clear p1 p2 p3 p0 hA hB hone
      grind
    have hu : ups ≤ qv m * (1 / 100 * eta) := by
      have k : 1 / 1000000000000000000000000000000000000000000000000000000000000000000000000000000000000000000000000000000000000000000000000000000000000000000000000000000000000000000000000000000000000000000000000000000 ≤ 1 / 100000000000000000000000000000000000000000000000000000000000000000000000000000000000000000000000000000 * (1 / 100 * eta) := by decide +kernel
      have k2 := Rat.mul_le_mul_of_nonneg_right m0 (c := 1 / 100 * eta) (by grind)
      grind
    have hg : 21 * eta ≤ 1 / 1000 := by decide +kernel
    rcases hpn with ⟨rfl, rfl⟩ | ⟨rfl, rfl⟩
    · obtain ⟨x1, x2⟩ := abs_big (fin_rg a1) (fin_rg b1) (rg_sg a) (rg_sg i) hle mp m1 hu hg hG
      exact ⟨x1, x2.mono (by grind)⟩
    · obtain ⟨x1, x2⟩ := abs_big (fin_rg b1) (fin_rg a1) (rg_sg i) (rg_sg a) hle mp m1 hu hg (hG.of_eq (by grind))
      exact ⟨x1, x2.mono (by grind)⟩
  exact ⟨hM.1, hM.2, v1, v2.mono (by grind)⟩
end Go.Lk
end

section
/- PlaceBack: its callees. -/
namespace Go.Lk
open Go.Proofs
set_option maxRecDepth 100000
set_option maxHeartbeats 0
set_option linter.unusedVariables false
set_option linter.unusedSimpArgs false
def sAbsB : PureFn
  | [.complex .f64 a b] => some (.float .f64 (bAbs_0 a b))
  | _ => none
theorem sAbsB_ok : IsPure Try.prog false 89 sAbsB := by
  intro args v σ h
  unfold sAbsB at h
  split at h
  · cases h; exact bAbs_ok _ _ σ
  · cases h
def sAngleB : PureFn
  | [.complex .f64 a b] => some (.float .f64 (wAngle_0 a b))
  | _ => none
theorem sAngleB_ok : IsPure Try.prog false 38 sAngleB := by
  intro args v σ h
  unfold sAngleB at h
  split at h
  · cases h; exact wAngle_ok _ _ σ
  · cases h
noncomputable def tpb : Tab := ((t9.addP 38 sAngleB).addP 89 sAbsB)
theorem tpb_ok : tpb.Ok Try.prog false := (Tab.Ok.addP (Tab.Ok.addP t9_ok sAngleB_ok) sAbsB_ok)
noncomputable def LPb : Lib := ⟨Try.prog, false, tpb, [(133, Try.f133), (134, Try.f134), (135, Try.f135), (136, Try.f136), (122, Try.f122), (128, Try.f128), (33, Try.f33), (160, Try.f160), (55, Try.f55)], []⟩
theorem LPb_fp : ∀ e, e ∈ LPb.pures → Try.prog.funcs[e.1]? = some e.2 := fs_cons Try.func133 (fs_cons Try.func134 (fs_cons Try.func135 (fs_cons Try.func136 (fs_cons Try.func122 (fs_cons Try.func128 (fs_cons Try.func33 (fs_cons Try.func160 (fs_cons Try.func55 (fs_nil)))))))))
theorem LPb_fh : ∀ e, e ∈ LPb.heaps → Try.prog.funcs[e.1]? = some e.2.2 := gs_nil
theorem LPb_p1 (gp : Nat → PureFn) (g : Nat → HeapFn) : (LPb.pures.all fun e => fnOk (LPb.mk' gp g) e.2) = true := by kernel_rfl
theorem LPb_h1 (gp : Nat → PureFn) (g : Nat → HeapFn) : (LPb.heaps.all fun e => fnOk (LPb.mk' gp g) e.2.2 && (!e.2.1 || fnRo (LPb.mk' gp g) e.2.2)) = true := by kernel_rfl
theorem LPb_ok : LPb.Ok := ⟨tpb_ok, mixed, LPb_fp, LPb_fh, LPb_p1, LPb_h1⟩
noncomputable def dLPb : Cfg := LPb.cfg 100 6
theorem dLPb_ok : dLPb.Ok := LPb_ok.cfg 100 6

theorem wTo_fok : fnOk (dLPb) Try.f56 = true := by kernel_rfl
theorem wTo_p0 (m : Nat) (b : Nat) (σ : AHeap) : CallR Try.prog false 56 [Value.float .f64 m, Value.float .f64 b] σ (Value.agg { toList := [Value.float .f64 (fmul (wTurn_1 b) m), Value.float .f64 (fmul (wTurn_0 b) m)] }) σ := CallR.of_DO_pure (C := dLPb) dLPb_ok Try.func56 wTo_fok (n := 100) (orc := []) (ps := []) (σ1 := [AObj.row [Value.float .f64 (fmul (wTurn_1 b) m), Value.float .f64 (fmul (wTurn_0 b) m)] true none]) (by kernel_rfl) trivial rfl rfl
def wTo_t (m : Nat) (b : Nat) : Value := (Value.agg { toList := [Value.float .f64 (fmul (wTurn_1 b) m), Value.float .f64 (fmul (wTurn_0 b) m)] })
theorem wTo_c (m : Nat) (b : Nat) (σ : AHeap) : CallR Try.prog false 56 [Value.float .f64 m,
  Value.float .f64 b] σ (wTo_t m b) σ := by
  unfold wTo_t
  exact (wTo_p0 m b σ)
def wTo_0 (m : Nat) (b : Nat) : Nat := fmul (wTurn_1 b) m
def wTo_1 (m : Nat) (b : Nat) : Nat := fmul (wTurn_0 b) m
theorem wTo_v (m : Nat) (b : Nat) : wTo_t m b = Go.Value.agg { toList := [Go.Value.float Go.FloatKind.f64 (wTo_0 m b), Go.Value.float Go.FloatKind.f64 (wTo_1 m b)] } := by
  unfold wTo_t wTo_0 wTo_1
  kernel_rfl
theorem wTo_ok (m : Nat) (b : Nat) (σ : AHeap) : CallR Try.prog false 56 [Value.float .f64 m,
  Value.float .f64
    b] σ (Go.Value.agg { toList := [Go.Value.float Go.FloatKind.f64 (wTo_0 m b), Go.Value.float Go.FloatKind.f64 (wTo_1 m b)] }) σ := by
  have h := wTo_c m b σ
  rw [wTo_v] at h
  exact h
theorem wFrom_fok : fnOk (dLPb) Try.f53 = true := by kernel_rfl
theorem wFrom_p0 (x : Nat) (y : Nat) (σ : AHeap) : CallR Try.prog false 53 [Value.agg #[Value.float .f64 x, Value.float .f64 y]] σ (Value.tuple { toList := [Value.float .f64 (bAbs_0 y x), Value.float .f64 (wPos_0 (wAngle_0 y x))] }) σ := CallR.of_DO_pure (C := dLPb) dLPb_ok Try.func53 wFrom_fok (n := 100) (orc := []) (ps := []) (σ1 := [AObj.row [Value.float .f64 x, Value.float .f64 y] true none]) (by kernel_rfl) trivial rfl rfl
def wFrom_t (x : Nat) (y : Nat) : Value := (Value.tuple { toList := [Value.float .f64 (bAbs_0 y x), Value.float .f64 (wPos_0 (wAngle_0 y x))] })
theorem wFrom_c (x : Nat) (y : Nat) (σ : AHeap) : CallR Try.prog false 53 [Value.agg
    #[Value.float .f64 x, Value.float .f64 y]] σ (wFrom_t x y) σ := by
  unfold wFrom_t
  exact (wFrom_p0 x y σ)
def wFrom_0 (x : Nat) (y : Nat) : Nat := bAbs_0 y x
def wFrom_1 (x : Nat) (y : Nat) : Nat := wPos_0 (wAngle_0 y x)
theorem wFrom_v (x : Nat) (y : Nat) : wFrom_t x y = Go.Value.tuple { toList := [Go.Value.float Go.FloatKind.f64 (wFrom_0 x y), Go.Value.float Go.FloatKind.f64 (wFrom_1 x y)] } := by
  unfold wFrom_t wFrom_0 wFrom_1
  kernel_rfl
theorem wFrom_ok (x : Nat) (y : Nat) (σ : AHeap) : CallR Try.prog false 53 [Value.agg
    #[Value.float .f64 x,
      Value.float .f64
        y]] σ (Go.Value.tuple { toList := [Go.Value.float Go.FloatKind.f64 (wFrom_0 x y), Go.Value.float Go.FloatKind.f64 (wFrom_1 x y)] }) σ := by
  have h := wFrom_c x y σ
  rw [wFrom_v] at h
  exact h
theorem wMoved_fok : fnOk (dLPb) Try.f54 = true := by kernel_rfl
theorem wMoved_p0 (u : Nat) (v : Nat) (t : Nat) (x : Nat) (y : Nat) (σ : AHeap) : CallR Try.prog false 54 [Value.agg #[Value.float .f64 u, Value.float .f64 v, Value.float .f64 t], Value.agg #[Value.float .f64 x, Value.float .f64 y]] σ (Value.agg { toList := [Value.float .f64 (fadd (fadd (fmul y (wTurn_1 t)) (fmul x (wTurn_0 t))) u), Value.float .f64 (fadd (fsub (fmul y (wTurn_0 t)) (fmul x (wTurn_1 t))) v)] }) σ := CallR.of_DO_pure (C := dLPb) dLPb_ok Try.func54 wMoved_fok (n := 100) (orc := []) (ps := []) (σ1 := [AObj.row [Value.float .f64 u, Value.float .f64 v, Value.float .f64 t] true none, AObj.row [Value.float .f64 x, Value.float .f64 y] true none, AObj.row [Value.float .f64 (fadd (fadd (fmul y (wTurn_1 t)) (fmul x (wTurn_0 t))) u), Value.float .f64 (fadd (fsub (fmul y (wTurn_0 t)) (fmul x (wTurn_1 t))) v)] true none, AObj.row [Value.float .f64 (fadd (fmul y (wTurn_1 t)) (fmul x (wTurn_0 t))), Value.float .f64 (fsub (fmul y (wTurn_0 t)) (fmul x (wTurn_1 t)))] true none]) (by kernel_rfl) trivial rfl rfl
def wMoved_t (u : Nat) (v : Nat) (t : Nat) (x : Nat) (y : Nat) : Value := (Value.agg { toList := [Value.float .f64 (fadd (fadd (fmul y (wTurn_1 t)) (fmul x (wTurn_0 t))) u), Value.float .f64 (fadd (fsub (fmul y (wTurn_0 t)) (fmul x (wTurn_1 t))) v)] })
theorem wMoved_c (u : Nat) (v : Nat) (t : Nat) (x : Nat) (y : Nat) (σ : AHeap) : CallR Try.prog false 54 [Value.agg
    #[Value.float .f64 u, Value.float .f64 v, Value.float .f64 t],
  Value.agg #[Value.float .f64 x, Value.float .f64 y]] σ (wMoved_t u v t x y) σ := by
  unfold wMoved_t
  exact (wMoved_p0 u v t x y σ)
def wMoved_0 (u : Nat) (v : Nat) (t : Nat) (x : Nat) (y : Nat) : Nat := fadd (fadd (fmul y (wTurn_1 t)) (fmul x (wTurn_0 t))) u
def wMoved_1 (u : Nat) (v : Nat) (t : Nat) (x : Nat) (y : Nat) : Nat := fadd (fsub (fmul y (wTurn_0 t)) (fmul x (wTurn_1 t))) v
theorem wMoved_v (u : Nat) (v : Nat) (t : Nat) (x : Nat) (y : Nat) : wMoved_t u v t x y = Go.Value.agg { toList := [Go.Value.float Go.FloatKind.f64 (wMoved_0 u v t x y), Go.Value.float Go.FloatKind.f64 (wMoved_1 u v t x y)] } := by
  unfold wMoved_t wMoved_0 wMoved_1
  kernel_rfl
theorem wMoved_ok (u : Nat) (v : Nat) (t : Nat) (x : Nat) (y : Nat) (σ : AHeap) : CallR Try.prog false 54 [Value.agg
    #[Value.float .f64 u, Value.float .f64 v, Value.float .f64 t],
  Value.agg
    #[Value.float .f64 x,
      Value.float .f64
        y]] σ (Go.Value.agg { toList := [Go.Value.float Go.FloatKind.f64 (wMoved_0 u v t x y), Go.Value.float Go.FloatKind.f64 (wMoved_1 u v t x y)] }) σ := by
  have h := wMoved_c u v t x y σ
  rw [wMoved_v] at h
  exact h
theorem wBack_fok : fnOk (dLPb) Try.f57 = true := by kernel_rfl
theorem wBack_p0 (u : Nat) (v : Nat) (t : Nat) (x : Nat) (y : Nat) (σ : AHeap) : CallR Try.prog false 57 [Value.agg #[Value.float .f64 u, Value.float .f64 v, Value.float .f64 t], Value.agg #[Value.float .f64 x, Value.float .f64 y]] σ (Value.agg { toList := [Value.float .f64 (fadd (fmul (fsub y v) (aneg false (wTurn_1 t))) (fmul (fsub x u) (wTurn_0 t))), Value.float .f64 (fsub (fmul (fsub y v) (wTurn_0 t)) (fmul (fsub x u) (aneg false (wTurn_1 t))))] }) σ := CallR.of_DO_pure (C := dLPb) dLPb_ok Try.func57 wBack_fok (n := 100) (orc := []) (ps := []) (σ1 := [AObj.row [Value.float .f64 u, Value.float .f64 v, Value.float .f64 t] true none, AObj.row [Value.float .f64 x, Value.float .f64 y] true none, AObj.row [Value.float .f64 (fadd (fmul (fsub y v) (aneg false (wTurn_1 t))) (fmul (fsub x u) (wTurn_0 t))), Value.float .f64 (fsub (fmul (fsub y v) (wTurn_0 t)) (fmul (fsub x u) (aneg false (wTurn_1 t))))] true none, AObj.row [Value.float .f64 (fsub x u), Value.float .f64 (fsub y v)] true none]) (by kernel_rfl) trivial rfl rfl
def wBack_t (u : Nat) (v : Nat) (t : Nat) (x : Nat) (y : Nat) : Value := (Value.agg { toList := [Value.float .f64 (fadd (fmul (fsub y v) (aneg false (wTurn_1 t))) (fmul (fsub x u) (wTurn_0 t))), Value.float .f64 (fsub (fmul (fsub y v) (wTurn_0 t)) (fmul (fsub x u) (aneg false (wTurn_1 t))))] })
theorem wBack_c (u : Nat) (v : Nat) (t : Nat) (x : Nat) (y : Nat) (σ : AHeap) : CallR Try.prog false 57 [Value.agg
    #[Value.float .f64 u, Value.float .f64 v, Value.float .f64 t],
  Value.agg #[Value.float .f64 x, Value.float .f64 y]] σ (wBack_t u v t x y) σ := by
  unfold wBack_t
  exact (wBack_p0 u v t x y σ)
def wBack_0 (u : Nat) (v : Nat) (t : Nat) (x : Nat) (y : Nat) : Nat := fadd (fmul (fsub y v) (aneg false (wTurn_1 t))) (fmul (fsub x u) (wTurn_0 t))
def wBack_1 (u : Nat) (v : Nat) (t : Nat) (x : Nat) (y : Nat) : Nat := fsub (fmul (fsub y v) (wTurn_0 t)) (fmul (fsub x u) (aneg false (wTurn_1 t)))
theorem wBack_v (u : Nat) (v : Nat) (t : Nat) (x : Nat) (y : Nat) : wBack_t u v t x y = Go.Value.agg { toList := [Go.Value.float Go.FloatKind.f64 (wBack_0 u v t x y), Go.Value.float Go.FloatKind.f64 (wBack_1 u v t x y)] } := by
  unfold wBack_t wBack_0 wBack_1
  kernel_rfl
theorem wBack_ok (u : Nat) (v : Nat) (t : Nat) (x : Nat) (y : Nat) (σ : AHeap) : CallR Try.prog false 57 [Value.agg
    #[Value.float .f64 u, Value.float .f64 v, Value.float .f64 t],
  Value.agg
    #[Value.float .f64 x,
      Value.float .f64
        y]] σ (Go.Value.agg { toList := [Go.Value.float Go.FloatKind.f64 (wBack_0 u v t x y), Go.Value.float Go.FloatKind.f64 (wBack_1 u v t x y)] }) σ := by
  have h := wBack_c u v t x y σ
  rw [wBack_v] at h
  exact h
def sTo : PureFn
  | [.float .f64 m, .float .f64 b] => some (.agg #[.float .f64 (wTo_0 m b), .float .f64 (wTo_1 m b)])
  | _ => none
theorem sTo_ok : IsPure Try.prog false 56 sTo := by
  intro args v σ h
  unfold sTo at h
  split at h
  · cases h; exact wTo_ok _ _ σ
  · cases h
def sFrom : PureFn
  | [.agg ⟨[.float .f64 x, .float .f64 y]⟩] => some (.tuple #[.float .f64 (wFrom_0 x y), .float .f64 (wFrom_1 x y)])
  | _ => none
theorem sFrom_ok : IsPure Try.prog false 53 sFrom := by
  intro args v σ h
  unfold sFrom at h
  split at h
  · cases h; exact wFrom_ok _ _ σ
  · cases h
def sMoved : PureFn
  | [.agg ⟨[.float .f64 u, .float .f64 v, .float .f64 t]⟩, .agg ⟨[.float .f64 x, .float .f64 y]⟩] => some (.agg #[.float .f64 (wMoved_0 u v t x y), .float .f64 (wMoved_1 u v t x y)])
  | _ => none
theorem sMoved_ok : IsPure Try.prog false 54 sMoved := by
  intro args v σ h
  unfold sMoved at h
  split at h
  · cases h; exact wMoved_ok _ _ _ _ _ σ
  · cases h
def sBack : PureFn
  | [.agg ⟨[.float .f64 u, .float .f64 v, .float .f64 t]⟩, .agg ⟨[.float .f64 x, .float .f64 y]⟩] => some (.agg #[.float .f64 (wBack_0 u v t x y), .float .f64 (wBack_1 u v t x y)])
  | _ => none
theorem sBack_ok : IsPure Try.prog false 57 sBack := by
  intro args v σ h
  unfold sBack at h
  split at h
  · cases h; exact wBack_ok _ _ _ _ _ σ
  · cases h
end Go.Lk
end
