/- PlaceSquares: the plain law of sectors. -/
import Derived.Test.YtmomainjlncogaaLkFQ
namespace Go.Lk
open Ieee (Format Datum Toward)
set_option linter.unusedSimpArgs false
set_option linter.unusedVariables false

theorem fxr_big : fxr 4850376798678024192 = 2 ^ 54 * U := by decide +kernel
theorem infR_eq : infR = 2047 * 2 ^ 52 := rfl
/-- A whole number below 2^53, as a float. -/
theorem near_fx {n : Int} (h : n.natAbs < 2 ^ 53) : isFin (FloatKind.f64.nearest n) = true ∧ fx (FloatKind.f64.nearest n) = n * (U : Int) ∧ sg (FloatKind.f64.nearest n) = decide (n < 0) := by
  have e : FloatKind.f64.nearest n = dbl.nearest (decide (n < 0)) n.natAbs 0 := rfl
  rw [e, nearest_eq _ _ _ (by omega), U_of]
  obtain ⟨u, hu, hU⟩ := U_spec
  obtain ⟨h1, h2⟩ := rung_small (T := n.natAbs * U) (r := 4850376798678024192) (by rw [fxr_big]; exact Nat.mul_le_mul_right _ (by omega)) (by decide) ⟨n.natAbs, u, by rw [hU], h⟩
  refine ⟨fin_wd h1, ?_, sg_wd (rung_lt _)⟩
  have hs : sgn (decide (n < 0)) n.natAbs = n := by
    unfold sgn
    by_cases h0 : n < 0
    · rw [decide_eq_true h0, if_pos rfl]; omega
    · rw [decide_eq_false h0, if_neg (by decide)]; omega
  rw [fx_wd (rung_lt _), h2, sgn_mul, hs]
theorem rnd_exact {z : Bool} {T : Int} {R : Nat} (hR : R < 2047 * 2 ^ 52) (h : T.natAbs ≤ fxr R) (he : ∃ c j, T.natAbs = c * 2 ^ j ∧ c < 2 ^ 53) :
    isFin (rnd z T) = true ∧ fx (rnd z T) = T ∧ (T ≠ 0 → sg (rnd z T) = decide (T < 0)) := by
  unfold rnd
  split
  · rename_i h0
    subst h0
    exact ⟨fin_wd (by decide), by rw [fx_wd (by decide), fxr_zero, sgn_zero], fun h => absurd rfl h⟩
  · rename_i h0
    obtain ⟨h1, h2⟩ := rung_small h hR he
    refine ⟨fin_wd h1, ?_, fun _ => sg_wd (rung_lt _)⟩
    rw [fx_wd (rung_lt _), h2]
    unfold sgn
    by_cases hT : T < 0
    · rw [decide_eq_true hT, if_pos rfl]; omega
    · rw [decide_eq_false hT, if_neg (by decide)]; omega
theorem fx_form (x : Nat) : ∃ c j, (fx x).natAbs = c * 2 ^ j ∧ c < 2 ^ 53 := by rw [fx_abs]; exact fxr_form _
/-- What is left of 1, or lacks to it: exact. -/
theorem sterb {D : Nat} (h : ∃ c j, D = c * 2 ^ j ∧ c < 2 ^ 53) (h1 : U ≤ 2 * D) (h2 : D ≤ U) : ∃ c j, U - D = c * 2 ^ j ∧ c < 2 ^ 53 := by
  obtain ⟨c, j, e, hc⟩ := h
  obtain ⟨u, hu, hU⟩ := U_spec
  rw [hU] at h1 h2 ⊢
  clear hU
  rcases Nat.lt_or_ge u j with hj | hj
  · exfalso
    have h3 : 2 ^ (u + 1) ≤ 2 ^ j := pow_ge hj
    have h4 := Nat.two_pow_pos u
    rcases Nat.eq_zero_or_pos c with rfl | hc0
    · rw [Nat.zero_mul] at e; omega
    · have h5 : 1 * 2 ^ j ≤ c * 2 ^ j := Nat.mul_le_mul_right _ hc0
      rw [Nat.pow_succ] at h3
      omega
  · have e1 : 2 ^ u = 2 ^ (u - j) * 2 ^ j := by rw [← Nat.pow_add]; congr 1; omega
    have hp := Nat.two_pow_pos j
    refine ⟨2 ^ (u - j) - c, j, ?_, ?_⟩
    · rw [e, e1, Nat.sub_mul]
    · rw [e1, e, ← Nat.mul_assoc] at h1
      have := Nat.le_of_mul_le_mul_right h1 hp
      omega
theorem sg_fx {x : Nat} (h : fx x ≠ 0) : sg x = decide (fx x < 0) := sgn_neg h
theorem sgn_add (s : Bool) (a b : Nat) : sgn s (a + b) = sgn s a + sgn s b := by unfold sgn; cases s <;> simp <;> omega

/-- Wrapped: whole turns less, between the halves. -/
theorem wrap_val {x : Nat} (hc : Canon x) (hf : isFin x = true) : isFin (wrapP x) = true ∧ (∃ t : Int, fx (wrapP x) = fx x + t * (U : Int)) ∧ -(U : Int) ≤ 2 * fx (wrapP x) ∧ 2 * fx (wrapP x) < (U : Int) ∧ (fx (wrapP x) = 0 → sg (wrapP x) = false) := by
  have hw : wrapP x = wStep (fsub x (ftrunc x)) := by rw [wrap_eq hc]; unfold wrapR; rw [hf, cond_true, floor_eq_trunc hc.lt hf]
  obtain ⟨h1, h2, h3⟩ := frac_val hf
  have hdiv : fx x = sgn (sg x) (fxr (rg x) / U) * (U : Int) + sgn (sg x) (fxr (rg x) % U) := by
    rw [← sgn_mul, ← sgn_add]
    unfold fx
    congr 1
    have := Nat.div_add_mod (fxr (rg x)) U
    rw [Nat.mul_comm] at this
    exact this.symm
  have hd : isFin (fsub x (ftrunc x)) = true ∧ (∃ t : Int, fx (fsub x (ftrunc x)) = fx x + t * (U : Int)) ∧ (fx (fsub x (ftrunc x))).natAbs < U ∧ (fx (fsub x (ftrunc x)) = 0 → sg (fsub x (ftrunc x)) = false) := by
    rw [h1]
    split
    · rename_i h0
      refine ⟨fin_zero, ⟨-sgn (sg x) (fxr (rg x) / U), ?_⟩, by rw [fx_0]; exact U_pos, fun _ => rfl⟩
      rw [h0, sgn_zero] at hdiv
      rw [fx_0, hdiv, Int.neg_mul]; omega
    · rename_i h0
      have e : fx (wd (sg x) (rung (fxr (rg x) % U))) = sgn (sg x) (fxr (rg x) % U) := by rw [fx_wd (by omega), h3]
      refine ⟨fin_wd h2, ⟨-sgn (sg x) (fxr (rg x) / U), ?_⟩, ?_, fun h => ?_⟩
      · rw [e, hdiv, Int.neg_mul]; omega
      · rw [e, sgn_abs]; exact Nat.mod_lt _ U_pos
      · rw [e] at h; exact absurd (sgn_eq_zero.1 h) h0
  rw [hw]
  generalize fsub x (ftrunc x) = d at hd
  obtain ⟨d1, ⟨t, d2⟩, d3, d4⟩ := hd
  have ho := fx_one
  have hh := fx_half
  have hm := fx_mhalf
  unfold wStep
  rw [fge_fin d1 fin_half, flt_fin d1 fin_mhalf]
  by_cases g1 : fx half ≤ fx d
  · rw [decide_eq_true g1, cond_true, fsub_fin d1 fin_one, ho]
    obtain ⟨r1, r2, r3⟩ := rnd_exact (z := sg d && !sg fone) (T := fx d - (U : Int)) (R := rg fone) rg_one_lt (by rw [fxr_one]; omega) (by
      have := sterb (fx_form d) (by omega) (by omega)
      rwa [show U - (fx d).natAbs = (fx d - (U : Int)).natAbs by omega] at this)
    refine ⟨r1, ⟨t - 1, ?_⟩, by rw [r2]; omega, by rw [r2]; omega, fun h => by rw [r2] at h; omega⟩
    rw [r2, d2, Int.sub_mul]; omega
  · rw [decide_eq_false g1, cond_false]
    by_cases g2 : fx d < fx mhalf
    · rw [decide_eq_true g2, cond_true, fadd_fin d1 fin_one, ho]
      obtain ⟨r1, r2, r3⟩ := rnd_exact (z := sg d && sg fone) (T := fx d + (U : Int)) (R := rg fone) rg_one_lt (by rw [fxr_one]; omega) (by
        have := sterb (fx_form d) (by omega) (by omega)
        rwa [show U - (fx d).natAbs = (fx d + (U : Int)).natAbs by omega] at this)
      refine ⟨r1, ⟨t + 1, ?_⟩, by rw [r2]; omega, by rw [r2]; omega, fun h => by rw [r2] at h; omega⟩
      rw [r2, d2, Int.add_mul]; omega
    · rw [decide_eq_false g2, cond_false]
      exact ⟨d1, ⟨t, d2⟩, by omega, by omega, d4⟩
theorem whole_small {s u : Int} (hu : 0 < u) (h1 : -u < s * u) (h2 : s * u < u) : s = 0 := by
  rcases Int.lt_trichotomy s 0 with h | h | h
  · have : s * u ≤ -1 * u := Int.mul_le_mul_of_nonneg_right (by omega) (by omega)
    omega
  · exact h
  · have : 1 * u ≤ s * u := Int.mul_le_mul_of_nonneg_right (by omega) (by omega)
    omega
/-- Two that differ by whole turns are wrapped alike. -/
theorem wrap_same {x y : Nat} {t : Int} (hx : Canon x) (hy : Canon y) (fx1 : isFin x = true) (fy1 : isFin y = true) (h : fx x = fx y + t * (U : Int)) : wrapP x = wrapP y := by
  obtain ⟨a1, ⟨s, a2⟩, a3, a4, a5⟩ := wrap_val hx fx1
  obtain ⟨b1, ⟨r, b2⟩, b3, b4, b5⟩ := wrap_val hy fy1
  have hU := U_pos
  have e : fx (wrapP x) - fx (wrapP y) = (t + s - r) * (U : Int) := by
    rw [a2, b2, h, Int.sub_mul, Int.add_mul]; omega
  have h0 : t + s - r = 0 := whole_small (u := (U : Int)) (by omega) (by omega) (by omega)
  rw [h0, Int.zero_mul] at e
  have e : fx (wrapP x) = fx (wrapP y) := by omega
  refine word_ext (Canon.wrapP x).lt (Canon.wrapP y).lt ?_ e
  by_cases hz : fx (wrapP x) = 0
  · rw [a5 hz, b5 (by omega)]
  · rw [sg_fx hz, sg_fx (by omega), e]

/-- A turn from 0 on. -/
def posP (w : Nat) : Nat := bif flt w 0 then (bif fge (fadd w fone) fone then 0 else fadd w fone) else bif fge w fone then 0 else w
theorem pos_val {w : Nat} (hf : isFin w = true) (h1 : -(U : Int) ≤ 2 * fx w) (h2 : 2 * fx w < (U : Int)) (hz : fx w = 0 → sg w = false) :
    isFin (posP w) = true ∧ 0 ≤ fx (posP w) ∧ fx (posP w) < (U : Int) ∧ sg (posP w) = false := by
  have ho := fx_one
  have hU := U_pos
  unfold posP
  rw [flt_fin hf fin_zero, fx_0]
  by_cases h0 : fx w < 0
  · rw [decide_eq_true h0, cond_true]
    have hT : (fx w + fx fone).natAbs ≤ fxr (rg fone) := by rw [fxr_one]; omega
    have hb := rnd_le (z := sg w && sg fone) rg_one_lt hT
    have hfa := fadd_fin hf fin_one
    rw [← hfa] at hb
    rw [fge_fin hb.1 fin_one]
    by_cases hg : fx fone ≤ fx (fadd w fone)
    · rw [decide_eq_true hg, cond_true]
      exact ⟨fin_zero, by rw [fx_0]; omega, by rw [fx_0]; omega, sg_0⟩
    · rw [decide_eq_false hg, cond_false]
      have hs : sg (fadd w fone) = false := by
        rw [hfa]
        unfold rnd
        rw [if_neg (by omega), sg_wd (rung_lt _)]
        exact decide_eq_false (by omega)
      refine ⟨hb.1, ?_, by omega, hs⟩
      unfold fx sgn
      rw [hs, if_neg (by decide)]
      omega
  · rw [decide_eq_false h0, cond_false, fge_fin hf fin_one, decide_eq_false (by omega), cond_false]
    refine ⟨hf, by omega, by omega, ?_⟩
    by_cases h3 : fx w = 0
    · exact hz h3
    · rw [sg_fx h3]; exact decide_eq_false h0

theorem fx_rg {x : Nat} (h : sg x = false) : fx x = (fxr (rg x) : Int) := by unfold fx sgn; rw [h, if_neg (by decide)]
theorem floor_nat {r : Nat} (hr : r < 2047 * 2 ^ 52) (h : fxr r / U ≤ 4096) : toI (ffloor (wd false r)) = ((fxr r / U : Nat) : Int) ∧ okI .i64 (ffloor (wd false r)) = true := by
  have hf : isFin (wd false r) = true := fin_wd hr
  have hU := U_pos
  obtain ⟨u, hu, hU2⟩ := U_spec
  rw [ffloor_fin hf, sg_wd (by omega), rg_wd (by omega), Bool.false_and, Bool.toNat_false, Nat.add_zero]
  obtain ⟨h1, h2⟩ := rung_small (T := fxr r / U * U) (r := 4850376798678024192) (by rw [fxr_big]; exact Nat.mul_le_mul_right _ (by omega)) (by decide) ⟨fxr r / U, u, by rw [hU2], by omega⟩
  have hf2 : isFin (wd false (rung (fxr r / U * U))) = true := fin_wd h1
  refine ⟨?_, okI_fin hf2 ?_⟩
  · rw [toI_fin hf2, sg_wd (rung_lt _), rg_wd (rung_lt _), h2, Nat.mul_div_cancel _ hU]
    rfl
  · rw [rg_wd (rung_lt _), h2, Nat.mul_div_cancel _ hU]
    omega

/-- Of so many sectors the one of a turn from 0 on. -/
theorem sec_prod {p : Nat} {n : Int} (hp : isFin p = true) (h0 : 0 ≤ fx p) (h1 : fx p < (U : Int)) (hs : sg p = false) (n1 : 1 ≤ n) (n2 : n ≤ 4096) :
    ∃ r, r < 2047 * 2 ^ 52 ∧ fmul p (FloatKind.f64.nearest n) = wd false r ∧ fxr r ≤ n.toNat * U ∧ Near (fxr (rg p) * n.toNat) 1 r := by
  obtain ⟨a1, a2, a3⟩ := near_fx (n := n) (by omega)
  have hU := U_pos
  rw [decide_eq_false (by omega)] at a3
  have e2 : fxr (rg (FloatKind.f64.nearest n)) = n.toNat * U := by
    have := fx_rg a3
    rw [a2] at this
    have h5 : ((n.toNat * U : Nat) : Int) = n * (U : Int) := by rw [Int.natCast_mul]; congr 1; omega
    omega
  obtain ⟨r, e, hn⟩ := fmul_near hp a1
  rw [hs, a3] at e
  rw [e2, ← Nat.mul_assoc] at hn
  have hn1 : Near (fxr (rg p) * n.toNat) 1 r := by
    have := hn
    rw [← Nat.one_mul U, ] at this
    exact Near.unscale hU (by simpa using this)
  have hRn : rg (FloatKind.f64.nearest n) < 2047 * 2 ^ 52 := of_decide_eq_true a1
  have hP := fx_rg hs
  have hle : r ≤ rg (FloatKind.f64.nearest n) := hn1.le_of (by unfold infR; omega) (by
    rw [e2, Nat.mul_one, Nat.mul_comm]
    exact Nat.mul_le_mul_left _ (by omega))
  exact ⟨r, by omega, e, by rw [← e2]; exact fxr_le.2 hle, hn1⟩
theorem sec_range {b : Nat} {n : Int} (hb : Canon b) (hf : isFin b = true) (n1 : 1 ≤ n) (n2 : n ≤ 4096) :
    ∃ F : Nat, (F : Int) ≤ n ∧ toI (ffloor (fmul (posP (wrapP b)) (FloatKind.f64.nearest n))) = F ∧ okI .i64 (ffloor (fmul (posP (wrapP b)) (FloatKind.f64.nearest n))) = true := by
  obtain ⟨a1, _, a3, a4, a5⟩ := wrap_val hb hf
  obtain ⟨p1, p2, p3, p4⟩ := pos_val a1 a3 a4 a5
  obtain ⟨r, hr, e, hle, _⟩ := sec_prod p1 p2 p3 p4 n1 n2
  have hU := U_pos
  have hF : fxr r / U ≤ n.toNat := by
    have := Nat.div_le_div_right (c := U) hle
    rwa [Nat.mul_div_cancel _ hU] at this
  obtain ⟨f1, f2⟩ := floor_nat hr (by omega)
  rw [e]
  exact ⟨fxr r / U, by omega, f1, f2⟩
/-- H is half of U. -/
theorem U_half : ∃ H, U = 2 * H ∧ fx half = (H : Int) ∧ 0 < H ∧ ∃ Q, H = 2 * Q ∧ 0 < Q ∧ 2 ^ 100 ≤ Q ∧ ∃ q, Q = 2 ^ q := by
  obtain ⟨u, hu, hU⟩ := U_spec
  have h1 : U = 2 * 2 ^ (u - 1) := by rw [hU, ← Nat.pow_succ', show (u - 1).succ = u by omega]
  have h2 : 2 ^ (u - 1) = 2 * 2 ^ (u - 2) := by rw [← Nat.pow_succ', show (u - 2).succ = u - 1 by omega]
  have h3 := fx_half
  have h4 : (2 : Nat) ^ 100 ≤ 2 ^ (u - 2) := pow_ge (by omega)
  exact ⟨2 ^ (u - 1), h1, by omega, Nat.two_pow_pos _, 2 ^ (u - 2), h2, Nat.two_pow_pos _, h4, _, rfl⟩

theorem pos_back {x : Nat} (hc : Canon x) (hf : isFin x = true) (h0 : 0 < fx x) (h1 : fx x < (U : Int)) : isFin (posP (wrapP x)) = true ∧ fx (posP (wrapP x)) = fx x ∧ sg (posP (wrapP x)) = false := by
  obtain ⟨a1, ⟨t, a2⟩, a3, a4, a5⟩ := wrap_val hc hf
  obtain ⟨p1, p2, p3, p4⟩ := pos_val a1 a3 a4 a5
  refine ⟨p1, ?_, p4⟩
  have ho := fx_one
  have hU := U_pos
  -- fx (posP w) is fx w, or fx w + U
  unfold posP
  rw [flt_fin a1 fin_zero, fx_0]
  by_cases g : fx (wrapP x) < 0
  · rw [decide_eq_true g, cond_true]
    have ht : t = -1 := by
      have h5 : (t + 1) * (U : Int) = t * (U : Int) + U := by rw [Int.add_mul]; omega
      have := whole_small (s := t + 1) (u := (U : Int)) (by omega) (by omega) (by omega)
      omega
    subst ht
    have hfa := fadd_fin a1 fin_one
    have hT : fx (wrapP x) + fx fone = fx x := by omega
    rw [hT] at hfa
    obtain ⟨r1, r2, r3⟩ := rnd_exact (z := sg (wrapP x) && sg fone) (T := fx x) (R := rg fone) rg_one_lt (by rw [fxr_one]; omega) (fx_form x)
    rw [← hfa] at r1 r2
    rw [fge_fin r1 fin_one, decide_eq_false (by omega), cond_false, r2]
  · rw [decide_eq_false g, cond_false, fge_fin a1 fin_one, decide_eq_false (by omega), cond_false]
    have := whole_small (s := t) (u := (U : Int)) (by omega) (by omega) (by omega)
    subst this
    omega

theorem sec_mid {c n : Int} (c0 : 0 ≤ c) (c1 : c < n) (n2 : n ≤ 4096) :
    isFin (fdiv (fadd (FloatKind.f64.nearest c) half) (FloatKind.f64.nearest n)) = true ∧
    toI (ffloor (fmul (posP (wrapP (fdiv (fadd (FloatKind.f64.nearest c) half) (FloatKind.f64.nearest n)))) (FloatKind.f64.nearest n))) = c := by
  obtain ⟨a1, a2, a3⟩ := near_fx (n := c) (by omega)
  obtain ⟨b1, b2, b3⟩ := near_fx (n := n) (by omega)
  rw [decide_eq_false (by omega)] at a3 b3
  obtain ⟨H, hUH, hH, H0, Q, hHQ, Q0, Qb, q, hQq⟩ := U_half
  generalize hk : c.toNat = k
  generalize hm : n.toNat = m
  have hc : c = (k : Int) := by omega
  have hn : n = (m : Int) := by omega
  subst hc hn
  -- the sum
  have hsum : fx (FloatKind.f64.nearest (k : Int)) + fx half = (((2 * k + 1) * H : Nat) : Int) := by
    rw [a2, hH, hUH, Nat.add_mul, Nat.one_mul]
    have : ((k : Nat) : Int) * ((2 * H : Nat) : Int) = ((2 * k * H : Nat) : Int) := by rw [← Int.natCast_mul, show k * (2 * H) = 2 * k * H by ac_rfl]
    omega
  have hTb : (2 * k + 1) * H ≤ fxr 4850376798678024192 := by
    rw [fxr_big, hUH]
    calc (2 * k + 1) * H ≤ 8193 * H := Nat.mul_le_mul_right _ (by omega)
      _ ≤ _ := by omega
  have hfa := fadd_fin a1 fin_half
  rw [hsum] at hfa
  obtain ⟨s1, s2, s3⟩ := rnd_exact (z := sg (FloatKind.f64.nearest (k : Int)) && sg half) (T := (((2 * k + 1) * H : Nat) : Int)) (R := 4850376798678024192) (by decide) (by rw [Int.natAbs_natCast]; exact hTb)
    ⟨2 * k + 1, q + 1, by rw [Int.natAbs_natCast, hHQ, hQq, Nat.pow_succ, Nat.mul_comm (2 ^ q) 2], by omega⟩
  have hpos : 0 < (2 * k + 1) * H := Nat.mul_pos (by omega) H0
  have s4 := s3 (by omega)
  rw [decide_eq_false (by omega)] at s4
  rw [← hfa] at s1 s2 s4
  generalize fadd (FloatKind.f64.nearest (k : Int)) half = y at *
  have hy := fx_rg s4
  have hnn := fx_rg b3
  have hY : fxr (rg y) = (2 * k + 1) * H := by omega
  have hN : fxr (rg (FloatKind.f64.nearest (m : Int))) = m * U := by
    rw [b2, ← Int.natCast_mul] at hnn
    omega
  -- the quotient
  obtain ⟨r, e, hr⟩ := fdiv_near s1 b1 (by rw [hN]; exact Nat.ne_of_gt (Nat.mul_pos (by omega) U_pos))
  rw [s4, b3] at e
  rw [hY, hN] at hr
  have hr1 : Near ((2 * k + 1) * H) m r := Near.unscale U_pos hr
  have hone : r ≤ rg fone := hr1.le_of (by have := rg_one_lt; unfold infR; omega) (by
    rw [fxr_one, hUH, show 2 * H * m = (2 * m) * H by ac_rfl]
    exact Nat.mul_le_mul_right _ (by omega))
  have ho := rg_one_lt
  obtain ⟨er1, er2⟩ := hr1.err (by omega) (by unfold infR; omega)
  have hmax : max (2 ^ 52 * m) ((2 * k + 1) * H) = (2 * k + 1) * H := Nat.max_eq_right (by
    calc 2 ^ 52 * m ≤ 2 ^ 52 * 4096 := Nat.mul_le_mul_left _ (by omega)
      _ ≤ 2 ^ 100 := by decide
      _ ≤ H := by omega
      _ = 1 * H := (Nat.one_mul _).symm
      _ ≤ _ := Nat.mul_le_mul_right _ (by omega))
  rw [hmax] at er1 er2
  generalize hX : fxr r = X at *
  have hXm : X * m < U * m := by
    -- 2^52 X m ≤ (2^52 + 1)(2k+1) H < 2^52 * 2 m H
    have h6 : (2 ^ 52 + 1) * ((2 * k + 1) * H) < 2 ^ 52 * (2 * m * H) := by
      have h7 : (2 ^ 52 + 1) * (2 * k + 1) < 2 ^ 52 * (2 * m) := by omega
      calc (2 ^ 52 + 1) * ((2 * k + 1) * H) = (2 ^ 52 + 1) * (2 * k + 1) * H := (Nat.mul_assoc ..).symm
        _ < 2 ^ 52 * (2 * m) * H := Nat.mul_lt_mul_of_pos_right h7 H0
        _ = _ := by ac_rfl
    rw [hUH, show 2 * H * m = 2 * m * H by ac_rfl]
    omega
  have hXU : X < U := Nat.lt_of_mul_lt_mul_right hXm
  have hX0 : 0 < X := by
    rcases Nat.eq_zero_or_pos X with h | h
    · rw [h, Nat.zero_mul] at er2
      omega
    · exact h
  have f1 : isFin (wd false r) = true := fin_wd (by omega)
  have f2 : fx (wd false r) = (X : Int) := by rw [fx_wd (by omega), hX]; rfl
  have hcan : Canon (wd false r) := by have := Canon.fdiv y (FloatKind.f64.nearest (m : Int)); rw [e] at this; exact this
  rw [e]
  simp only [Bool.xor_self] at *
  refine ⟨f1, ?_⟩
  obtain ⟨p1, p2, p3⟩ := pos_back hcan f1 (by omega) (by omega)
  obtain ⟨r2, g1, g2, g3, g4⟩ := sec_prod (p := posP (wrapP (wd false r))) (n := (m : Int)) p1 (by omega) (by omega) p3 (by omega) (by omega)
  have hP : fxr (rg (posP (wrapP (wd false r)))) = X := by have := fx_rg p3; omega
  rw [hP, Int.toNat_natCast] at g4
  -- between c and c + 3/4
  have hUQ : U = 4 * Q := by omega
  have low : (4 * k) * Q ≤ fxr r2 := by
    obtain ⟨l1, l2⟩ := rung_small (T := 4 * k * Q) (r := 4850376798678024192) (by rw [fxr_big, hUQ]; calc 4 * k * Q ≤ 16384 * Q := Nat.mul_le_mul_right _ (by omega)
                                                                                                     _ ≤ _ := by omega) (by decide) ⟨4 * k, q, by rw [hQq], by omega⟩
    have := g4.ge_of (R := rung (4 * k * Q)) (by unfold infR; omega) (by
      rw [l2, Nat.mul_one]
      have h8 : 2 ^ 52 * (4 * k * Q) ≤ 2 ^ 52 * (X * m) := by
        have h9 : 2 ^ 52 * (4 * k * Q) + (2 * k + 1) * H ≤ 2 ^ 52 * ((2 * k + 1) * H) := by
          have h10 : 4 * k * Q = 2 * k * H := by rw [hHQ, show 4 * k = 2 * k * 2 by omega, Nat.mul_assoc]
          have h13 := Nat.mul_le_mul_right H (show 2 ^ 52 * (2 * k) + (2 * k + 1) ≤ 2 ^ 52 * (2 * k + 1) by omega)
          rw [Nat.add_mul, Nat.mul_assoc (2 ^ 52) (2 * k) H, Nat.mul_assoc (2 ^ 52) (2 * k + 1) H] at h13
          rw [h10]
          exact h13
        omega
      exact Nat.le_of_mul_le_mul_left h8 (by decide))
    rw [← l2]
    exact fxr_le.2 this
  have high : fxr r2 ≤ (4 * k + 3) * Q := by
    obtain ⟨l1, l2⟩ := rung_small (T := (4 * k + 3) * Q) (r := 4850376798678024192) (by rw [fxr_big, hUQ]; calc (4 * k + 3) * Q ≤ 16387 * Q := Nat.mul_le_mul_right _ (by omega)
                                                                                                         _ ≤ _ := by omega) (by decide) ⟨4 * k + 3, q, by rw [hQq], by omega⟩
    have := g4.le_of (R := rung ((4 * k + 3) * Q)) (by unfold infR; omega) (by
      rw [l2, Nat.mul_one]
      have h8 : 2 ^ 52 * (X * m) ≤ 2 ^ 52 * ((4 * k + 3) * Q) := by
        have h9 : 2 ^ 52 * ((2 * k + 1) * H) + (2 * k + 1) * H ≤ 2 ^ 52 * ((4 * k + 3) * Q) := by
          have h10 : (2 * k + 1) * H = (4 * k + 2) * Q := by rw [hHQ, ← Nat.mul_assoc, show (2 * k + 1) * 2 = 4 * k + 2 by omega]
          have h13 := Nat.mul_le_mul_right Q (show 2 ^ 52 * (4 * k + 2) + (4 * k + 2) ≤ 2 ^ 52 * (4 * k + 3) by omega)
          rw [Nat.add_mul, Nat.mul_assoc (2 ^ 52) (4 * k + 2) Q, Nat.mul_assoc (2 ^ 52) (4 * k + 3) Q] at h13
          rw [h10]
          exact h13
        omega
      exact Nat.le_of_mul_le_mul_left h8 (by decide))
    rw [← l2]
    exact fxr_le.2 this
  have hfl : fxr r2 / U = k := by
    rw [hUQ]
    have h11 : 4 * k * Q = k * (4 * Q) := by rw [← Nat.mul_assoc, Nat.mul_comm 4 k]
    have h12 : (4 * k + 3) * Q < (k + 1) * (4 * Q) := by
      rw [← Nat.mul_assoc]
      exact Nat.mul_lt_mul_of_pos_right (by omega) Q0
    rw [Nat.div_eq_iff (by omega)]
    constructor
    · omega
    · have : (k + 1) * (4 * Q) = k * (4 * Q) + 4 * Q := by rw [Nat.add_mul, Nat.one_mul]
      omega
  obtain ⟨f5, f6⟩ := floor_nat g1 (by omega)
  rw [g2, f5, hfl]
end Go.Lk
