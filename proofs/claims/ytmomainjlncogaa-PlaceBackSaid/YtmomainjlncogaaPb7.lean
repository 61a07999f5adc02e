import Derived.Test.YtmomainjlncogaaPb6
import Derived.Test.YtmomainjlncogaaPb4
import Derived.Test.YtmomainjlncogaaPb5
section
/- The arctangent, as the program reckons it. -/
namespace Go.Lk
set_option linter.unusedSimpArgs false
set_option linter.unusedVariables false
set_option maxRecDepth 10000
set_option maxHeartbeats 1000000
def partP (q : Nat) : Nat := hn (fmul q q) tanW 13805161819457917015
def partR (q : Nat) : Nat := fdiv (fmul (partP q) q) 4618760256179416344
theorem part_eq (q : Nat) : wPart_0 q = bif fgt q 4601133428098527026 then fsub 4593671619917905920 (partR (fdiv (fsub 4607182418800017408 q) (fadd 4607182418800017408 q))) else partR q := by kernel_rfl
theorem tanP_err {z : Nat} (hz : isFin z = true) (h0 : 0 ≤ qv z) (h1 : qv z ≤ 251 / 1000) : isFin (hn z tanW 13805161819457917015) = true ∧ Bd (qv (hn z tanW 13805161819457917015) - pe tanT (qv z)) (2 * eta) ∧ Bd (pe tanT (qv z)) (11 / 10) := by
  obtain ⟨p1, p2⟩ := tan_q23
  have hE0 : ∃ e A, hE (251 / 1000) (tanL.map (·.2)) 0 (rabs tan23) = some (e, A) ∧ e ≤ 2 * eta ∧ A ≤ 2 := by
    have h : (match hE (251 / 1000) (tanL.map (·.2)) 0 (rabs tan23) with | some (e, A) => decide (e ≤ 2 * eta ∧ A ≤ 2) | none => false) = true := by decide +kernel
    split at h
    · rename_i e A he
      exact ⟨e, A, he, of_decide_eq_true h⟩
    · cases h
  obtain ⟨e, A, he, hle, hA⟩ := hE0
  obtain ⟨r1, r2, r3⟩ := hn_err hz h0 h1 (by decide +kernel) tanL 13805161819457917015 tan23 0 (rabs tan23) e A p1 (by rw [p2]; show Bd (tan23 - tan23) 0; rw [Rat.sub_self]; exact Bd.zero) (bd_rabs _) tanL_ok he
  have hpe : hP (qv z) (tanL.map (·.2)) tan23 = pe tanT (qv z) := by
    simp only [tanL, List.map_cons, List.map_nil, hP, tanT, pe, tan23]
    grind
  have hW : hn z (tanL.map (·.1)) 13805161819457917015 = hn z tanW 13805161819457917015 := by kernel_rfl
  rw [hpe, hW] at r2
  rw [hW] at r1
  refine ⟨r1, r2.mono hle, ?_⟩
  exact (pe_bd h0 h1 tanT).mono (by decide +kernel)
theorem tan_low {ζ a : Rat} {l : List Rat} (h0 : 0 ≤ ζ) (h1 : ζ ≤ 251 / 1000) (hl : 251 / 1000 * pe (l.map rabs) (251 / 1000) ≤ 1 / 10) (ha : a = 1) : 9 / 10 ≤ pe (a :: l) ζ := by
  have h2 := (Bd.mul (⟨by grind, h1⟩ : Bd ζ (251 / 1000)) (pe_bd h0 h1 l)).1
  show 9 / 10 ≤ a + ζ * pe l ζ
  grind
theorem tan_high {ζ a b : Rat} {l : List Rat} (h0 : 0 ≤ ζ) (h1 : ζ ≤ 251 / 1000) (ha : a = 1) (hb : b ≤ -(3 / 10)) (hl : 251 / 1000 * pe (l.map rabs) (251 / 1000) ≤ 3 / 10) : pe (a :: b :: l) ζ ≤ 1 := by
  have h2 := (Bd.mul (⟨by grind, h1⟩ : Bd ζ (251 / 1000)) (pe_bd h0 h1 l)).2
  show a + ζ * (b + ζ * pe l ζ) ≤ 1
  have k := Rat.mul_nonneg h0 (show 0 ≤ -(b + ζ * pe l ζ) by grind)
  grind
theorem sg_of_pos {x : Nat} (hx : isFin x = true) (h : 0 < qv x) : sg x = false := by
  cases hs : sg x with
  | false => rfl
  | true =>
    have h1 := qv_U x
    have h2 : fx x ≤ 0 := by unfold fx sgn; rw [hs]; simp
    have h3 : ((fx x : Int) : Rat) ≤ 0 := by exact_mod_cast h2
    have h4 := Rat.mul_pos h UR_pos
    grind
theorem partR_near {q : Nat} (hq : isFin q = true) (sq : sg q = false) (h : qv q ≤ 45 / 100) : isFin (partR q) = true ∧ sg (partR q) = false ∧ Bd (qv (partR q) * cir - aF (qv q)) (5 * eta) ∧ qv (partR q) ≤ 8 / 100 := by
  obtain ⟨t1, t2, t3, t4⟩ := eta_small
  obtain ⟨c1, c2⟩ := circ_q
  obtain ⟨r1, r2, _, _⟩ := cir_le
  have nq := (qv_nn sq).2
  have bq : Bd (qv q) (45 / 100) := ⟨by grind, h⟩
  have hqq := bq.mul bq
  obtain ⟨z1, z2⟩ := mul_q hq hq hqq (by decide +kernel)
  have sz : sg (fmul q q) = false := sg_mul hq hq rfl
  have nz := (qv_nn sz).2
  have hz : qv (fmul q q) ≤ 251 / 1000 := by
    have h1 := hqq.2
    have h2 := z2.2
    grind
  obtain ⟨p1, p2, p3⟩ := tanP_err z1 nz hz
  have hlow : 9 / 10 ≤ pe tanT (qv (fmul q q)) := tan_low nz hz (by decide +kernel) rfl
  have n2 := sq_nn (qv q)
  have l1 := (pe_lip (Z := 251 / 1000) tanT nz hz n2 (by have := hqq.2; grind) z2).mono (B := eta) (by decide +kernel)
  have hp : Bd (qv (partP q) - pe tanT (qv q * qv q)) (3 * eta) := ((p2.add l1).of_eq (by unfold partP; grind)).mono (by grind)
  have bp : Bd (qv (partP q)) (12 / 10) := ⟨by unfold partP; have := p2.1; have := p3.1; grind, by unfold partP; have := p2.2; have := p3.2; grind⟩
  have pos : 8 / 10 ≤ qv (partP q) := by unfold partP; have := p2.1; grind
  have p1' : isFin (partP q) = true := p1
  have sp : sg (partP q) = false := sg_of_pos p1' (by grind)
  obtain ⟨m1, m2⟩ := mul_q p1' hq (bp.mul bq) (by decide +kernel)
  have sm : sg (fmul (partP q) q) = false := sg_mul p1' hq (by rw [sp, sq])
  have nm := (qv_nn sm).2
  have hpq := (bp.mul bq).2
  have hm : qv (fmul (partP q) q) ≤ 541 / 1000 := by have := m2.2; grind
  obtain ⟨d1, d2, d3⟩ := div_q m1 c1 sm (by decide) (by rw [cir_q]; grind) (by rw [cir_q]; grind)
  rw [cir_q] at d3
  have e1 := hp.mul bq
  have kt : tau * cir ≤ tau * 7 := Rat.mul_le_mul_of_nonneg_left (by grind) t3
  have hall : Bd (qv (partR q) * cir - aF (qv q)) (5 * eta) := by
    have k1 : qv (fmul (partP q) q) * eta ≤ 541 / 1000 * eta := Rat.mul_le_mul_of_nonneg_right hm t1
    have hs := ((d3.add m2).add e1).of_eq (s := qv (partR q) * cir - aF (qv q)) (by unfold partR aF; grind)
    refine hs.mono ?_
    clear hs d3 m2 e1 hp bp p2 p3 l1 z2 hqq bq
    grind
  refine ⟨d1, d2, hall, ?_⟩
  have h1 := d3.2
  refine Rat.not_lt.1 fun hlt => ?_
  have k2 : 8 / 100 * cir ≤ qv (fdiv (fmul (partP q) q) 4618760256179416344) * cir := Rat.mul_le_mul_of_nonneg_right (Rat.le_of_lt (by unfold partR at hlt; exact hlt)) (by grind)
  -- a finer bound of what is taken: 45/100 * 1.1
  have hf : Bd (pe tanT (qv (fmul q q))) 1 := by
    have hd : pe tanT (qv (fmul q q)) ≤ 1 := by
      have := (pe_bd nz hz tanT).2
      exact tan_high nz hz rfl (by decide +kernel) (by decide +kernel)
    exact ⟨by grind, hd⟩
  have bp1 : Bd (qv (partP q)) (1 + 2 * eta) := (hf.add p2).of_eq (by unfold partP; grind)
  have hpq2 := (bp1.mul bq).2
  have h2 := m2.2
  have k1 : qv (fmul (partP q) q) * eta ≤ 541 / 1000 * eta := Rat.mul_le_mul_of_nonneg_right hm t1
  grind
end Go.Lk
end

section
/- The arctangent, as the program reckons it, of a slope near sine over cosine. -/
namespace Go.Lk
set_option linter.unusedSimpArgs false
set_option linter.unusedVariables false
set_option maxRecDepth 10000
set_option maxHeartbeats 1000000
theorem qv_le_fx {x y : Nat} (h : qv x ≤ qv y) : fx x ≤ fx y := by
  have h1 := Rat.mul_le_mul_of_nonneg_right h (c := UR) (Rat.le_of_lt UR_pos)
  rw [qv_U, qv_U] at h1
  exact Rat.intCast_le_intCast.1 h1
theorem fx_le_qv {x y : Nat} (h : fx x ≤ fx y) : qv x ≤ qv y := by
  have h1 : ((fx x : Int) : Rat) ≤ ((fx y : Int) : Rat) := Rat.intCast_le_intCast.2 h
  rw [← qv_U, ← qv_U] at h1
  exact Rat.not_lt.1 fun h2 => by have := Rat.mul_lt_mul_of_pos_right h2 UR_pos; grind
theorem fgt_qv {x y : Nat} (hx : isFin x = true) (hy : isFin y = true) : (fgt x y = true → qv y < qv x) ∧ (fgt x y = false → qv x ≤ qv y) := by
  rw [fgt_fin hx hy]
  constructor
  · intro h
    have h1 := of_decide_eq_true h
    exact Rat.not_le.1 fun h2 => by have := qv_le_fx h2; omega
  · intro h
    have h1 := of_decide_eq_false h
    exact fx_le_qv (by omega)
theorem sg_sub {x y : Nat} (hx : isFin x = true) (hy : isFin y = true) (sx : sg x = false) (h : qv y ≤ qv x) : sg (fsub x y) = false := by
  rw [fsub_fin hx hy, sx, Bool.false_and]
  have := qv_le_fx h
  unfold rnd
  split
  · decide
  · rw [sg_wd (rung_lt _)]
    exact decide_eq_false (by omega)
theorem thr_q : isFin 4601133428098527026 = true ∧ 41421356 / 100000000 ≤ qv 4601133428098527026 ∧ qv 4601133428098527026 ≤ 41421357 / 100000000 := by
  have h : qv 4601133428098527026 = 3730904090310553 / 9007199254740992 := (qv_const (n := 3730904090310553) (d := 9007199254740992) (by decide) (by decide +kernel)).trans (by decide +kernel)
  rw [h]
  exact ⟨by decide, by decide +kernel, by decide +kernel⟩
theorem slopeA {y q ε : Rat} (h0 : 0 ≤ y) (h1 : y ≤ YY) (h : Bd (q - sF y * (cF y)⁻¹) ε) (he : ε ≤ 1 / 1000) (hq : q ≤ 41421357 / 100000000) : y ≤ 44 / 100 := by
  refine Rat.not_lt.1 fun hlt => ?_
  obtain ⟨r1, r2, r3, r4, r5, r6, r7⟩ := cs_range h0 h1
  obtain ⟨i1, i2⟩ := inv_nn (m := cF y) (by grind)
  have hy := sqr_le (show (0 : Rat) ≤ 44 / 100 by decide +kernel) (Rat.le_of_lt hlt)
  have hT : sF y * (cF y)⁻¹ ≤ 42 / 100 := by have := h.1; grind
  have k := Rat.mul_le_mul_of_nonneg_right hT (c := cF y) (by grind)
  have e : sF y * (cF y)⁻¹ * cF y = sF y * (cF y * (cF y)⁻¹) := by grind
  rw [e, i2] at k
  grind
theorem slopeB {y q ε : Rat} (h0 : 0 ≤ y) (h1 : y ≤ YY) (h : Bd (q - sF y * (cF y)⁻¹) ε) (he : ε ≤ 1 / 1000) (hq : 41421356 / 100000000 ≤ q) : 37 / 100 ≤ y := by
  refine Rat.not_lt.1 fun hlt => ?_
  obtain ⟨r1, r2, r3, r4, r5, r6, r7⟩ := cs_range h0 h1
  obtain ⟨i1, i2⟩ := inv_nn (m := cF y) (by grind)
  have hy := sqr_le h0 (Rat.le_of_lt hlt)
  have hT : 41 / 100 ≤ sF y * (cF y)⁻¹ := by have := h.2; grind
  have k := Rat.mul_le_mul_of_nonneg_right hT (c := cF y) (by grind)
  have e : sF y * (cF y)⁻¹ * cF y = sF y * (cF y * (cF y)⁻¹) := by grind
  rw [e, i2] at k
  grind
/-- The other slope, as a float. -/
theorem other {q : Nat} (hq : isFin q = true) (sq : sg q = false) (h1 : qv q ≤ 1) (h2 : 41421356 / 100000000 ≤ qv q) :
    isFin (fdiv (fsub 4607182418800017408 q) (fadd 4607182418800017408 q)) = true ∧ sg (fdiv (fsub 4607182418800017408 q) (fadd 4607182418800017408 q)) = false ∧
    Bd (qv (fdiv (fsub 4607182418800017408 q) (fadd 4607182418800017408 q)) * (1 + qv q) - (1 - qv q)) (6 * eta) ∧ qv (fdiv (fsub 4607182418800017408 q) (fadd 4607182418800017408 q)) ≤ 45 / 100 := by
  obtain ⟨t1, t2, t3, t4⟩ := eta_small
  obtain ⟨o1, o2⟩ := one_q
  have bu : Bd (qv 4607182418800017408 - qv q) 1 := by rw [o2]; exact ⟨by grind, by grind⟩
  have bv : Bd (qv 4607182418800017408 + qv q) 2 := by rw [o2]; exact ⟨by grind, by grind⟩
  obtain ⟨u1, u2⟩ := sub_q o1 hq bu (by decide +kernel)
  obtain ⟨v1, v2⟩ := add_q o1 hq bv (by decide +kernel)
  have su := sg_sub o1 hq (by decide) (by rw [o2]; exact h1)
  rw [o2] at u2 v2
  generalize fsub 4607182418800017408 q = u at *
  generalize fadd 4607182418800017408 q = v at *
  generalize qv q = Q at *
  have nu := (qv_nn su).2
  have hu : qv u ≤ 586 / 1000 := by have := u2.2; grind
  have hv : 1414 / 1000 ≤ qv v := by have := v2.1; grind
  have hv2 : qv v ≤ 3 := by have := v2.2; grind
  have sv := sg_of_pos v1 (by grind)
  obtain ⟨d1, d2, d3⟩ := div_q u1 v1 su sv (by grind) (by grind)
  have nd := (qv_nn d2).2
  generalize fdiv u v = w at *
  have kt : tau * qv v ≤ tau * 3 := Rat.mul_le_mul_of_nonneg_left hv2 t3
  have ku : qv u * eta ≤ 586 / 1000 * eta := Rat.mul_le_mul_of_nonneg_right hu t1
  have hw : qv w ≤ 45 / 100 := by
    refine Rat.not_lt.1 fun hlt => ?_
    have k1 := Rat.mul_le_mul_of_nonneg_left hv (c := qv w) (by grind)
    have := d3.2
    grind
  have bw : Bd (qv w) (45 / 100) := ⟨by grind, hw⟩
  have e1 := bw.mul v2
  have hs := ((d3.sub e1).add u2).of_eq (s := qv w * (1 + Q) - (1 - Q)) (by grind)
  refine ⟨d1, d2, hs.mono ?_, hw⟩
  clear hs e1 d3 u2 v2 bu bv bw
  grind
theorem part_near {q : Nat} {y ε : Rat} (hq : isFin q = true) (sq : sg q = false) (hq1 : qv q ≤ 1) (h0 : 0 ≤ y) (h1 : y ≤ YY) (h : Bd (qv q - sF y * (cF y)⁻¹) ε) (he : ε ≤ 1 / 1000) :
    isFin (wPart_0 q) = true ∧ Bd (qv (wPart_0 q) * cir - y) (3 * ε + 60 * eta) := by
  obtain ⟨t1, t2, t3, t4⟩ := eta_small
  obtain ⟨b1, b2, b3⟩ := thr_q
  obtain ⟨c1, c2, c3, c4⟩ := cir_le
  have hε := h.nonneg
  rw [part_eq]
  cases hg : fgt q 4601133428098527026 with
  | false =>
    rw [cond_false]
    have hle := (fgt_qv hq b1).2 hg
    have hy := slopeA h0 h1 h he (by grind)
    obtain ⟨p1, p2, p3, p4⟩ := partR_near hq sq (by grind)
    have w := way1 h0 hy
    obtain ⟨u1, u2⟩ := tan1_bd h0 hy
    have nq := (qv_nn sq).2
    have bT : Bd (sF y * (cF y)⁻¹) (1 / 2) := ⟨by grind, by have := h.1; grind⟩
    have l := aF_lip (⟨by grind, by grind⟩ : Bd (qv q) (1 / 2)) bT h
    have k := Rat.mul_le_mul_of_nonneg_left hy (c := 36 * eta) (by grind)
    exact ⟨p1, (((p3.add l).add w).of_eq (by grind)).mono (by grind)⟩
  | true =>
    rw [cond_true]
    have hlt := (fgt_qv hq b1).1 hg
    have hy := slopeB h0 h1 h he (by grind)
    obtain ⟨o1, o2, o3, o4⟩ := other hq sq hq1 (by grind)
    generalize fdiv (fsub 4607182418800017408 q) (fadd 4607182418800017408 q) = w at *
    obtain ⟨p1, p2, p3, p4⟩ := partR_near o1 o2 o4
    have wy := way2 hy h1
    obtain ⟨g1, g2, g3⟩ := tan2_bd hy h1
    obtain ⟨r1, r2, r3, r4, r5, r6, r7⟩ := cs_range h0 h1
    obtain ⟨i1, i2⟩ := inv_nn (m := cF y) (by grind)
    have nw := (qv_nn o2).2
    have hS : Bd (sF y - qv q * cF y) (ε * cF y) := by
      have k := h.neg.mul (⟨by grind, Rat.le_refl⟩ : Bd (cF y) (cF y))
      have e : -(qv q - sF y * (cF y)⁻¹) * cF y = sF y * (cF y * (cF y)⁻¹) - qv q * cF y := by grind
      rw [e, i2] at k
      exact k.of_eq (by grind)
    have hd : Bd (qv w - (cF y - sF y) * (cF y + sF y)⁻¹) (6 * eta + 2 * ε) := by
      refine Bd.cancel (G := (1 + qv q) * (cF y + sF y)) (Rat.mul_pos (by grind) (by grind)) ?_
      have k1 := o3.mul (⟨by grind, Rat.le_refl⟩ : Bd (cF y + sF y) (cF y + sF y))
      have k2 := k1.add (hS.add hS)
      have e : (qv w - (cF y - sF y) * (cF y + sF y)⁻¹) * ((1 + qv q) * (cF y + sF y)) = qv w * (1 + qv q) * (cF y + sF y) - (cF y - sF y) * (1 + qv q) * ((cF y + sF y) * (cF y + sF y)⁻¹) := by grind
      rw [e, g3]
      refine (k2.of_eq (by grind)).mono ?_
      have m1 := Rat.mul_nonneg (show 0 ≤ 6 * eta + 2 * ε by grind) (Rat.mul_nonneg (show 0 ≤ qv q by grind) (show 0 ≤ cF y + sF y by grind))
      have m2 := Rat.mul_nonneg hε (show 0 ≤ sF y by grind)
      grind
    have l := aF_lip (⟨by grind, by grind⟩ : Bd (qv w) (1 / 2)) g1 hd
    have hYs : YY - y ≤ 786 / 1000 := by grind
    have k := Rat.mul_le_mul_of_nonneg_left hYs (c := 36 * eta) (by grind)
    have hR := ((p3.add l).add wy).of_eq (s := qv (partR w) * cir - (YY - y)) (by grind)
    have np := (qv_nn p2).2
    obtain ⟨q1, q2⟩ := oct_q
    have bs : Bd (qv 4593671619917905920 - qv (partR w)) (1 / 8) := by rw [q2]; exact ⟨by grind, by grind⟩
    obtain ⟨s1, s2⟩ := sub_q q1 p1 bs (by decide +kernel)
    rw [q2] at s2
    have s3 := s2.mul (⟨by grind, c1⟩ : Bd cir (6283185308 / 1000000000))
    refine ⟨s1, ((s3.sub hR).of_eq (by rw [c3]; grind)).mono ?_⟩
    clear s3 hR bs s2 l hd hS wy p3 o3
    grind
end Go.Lk
end

section
/- The angle in the first eighth, from two sides that are near its cosine and sine. -/
namespace Go.Lk
set_option linter.unusedSimpArgs false
set_option linter.unusedVariables false
set_option maxRecDepth 10000
set_option maxHeartbeats 1000000
/-- A quotient of what is no greater is at most 1. -/
theorem div_le_one {x y : Nat} (hx : isFin x = true) (hy : isFin y = true) (sx : sg x = false) (sy : sg y = false) (h0 : 0 < qv y) (hle : qv x ≤ qv y) (d1 : isFin (fdiv x y) = true) (d3 : Bd (qv (fdiv x y) * qv y - qv x) (qv x * eta + tau * qv y)) (nd : 0 ≤ qv (fdiv x y)) : qv (fdiv x y) ≤ 1 := by
  have hU := UR_pos
  obtain ⟨ex, nx⟩ := qv_nn sx
  obtain ⟨ey, ny⟩ := qv_nn sy
  have hY : fxr (rg y) ≠ 0 := by
    intro h
    rw [h] at ey
    have : qv y * UR = 0 := ey
    rcases Rat.mul_eq_zero.1 this with h1 | h1 <;> grind
  obtain ⟨r, e, hr⟩ := fdiv_near hx hy hY
  rw [sx, sy] at e
  have hXY : fxr (rg x) ≤ fxr (rg y) := by
    refine Rat.natCast_le_natCast.1 ?_
    rw [← ex, ← ey]
    exact Rat.mul_le_mul_of_nonneg_right hle (by grind)
  have hone : r ≤ rg fone := hr.le_of (by have := rg_one_lt; unfold infR; omega) (by rw [fxr_one, Nat.mul_comm U]; exact Nat.mul_le_mul_right _ hXY)
  have ho := rg_one_lt
  have hsg : sg (wd false r) = false := sg_wd (by omega)
  simp only [Bool.xor_self] at e
  rw [e]
  obtain ⟨er, nr⟩ := qv_nn hsg
  rw [rg_wd (by omega)] at er
  have h1 : fxr r ≤ U := by rw [← fxr_one]; exact fxr_le.2 hone
  have h2 : ((fxr r : Nat) : Rat) ≤ UR := Rat.natCast_le_natCast.2 h1
  rw [← er] at h2
  exact Rat.not_lt.1 fun h => by have := Rat.mul_lt_mul_of_pos_right h hU; grind
/-- The greater side is the cosine's. -/
theorem sideA {a b : Nat} {y r e : Rat} (ha : isFin a = true) (hb : isFin b = true) (sa : sg a = false) (sb : sg b = false) (h0 : 0 ≤ y) (h1 : y ≤ YY) (hr : 0 < r) (he : e ≤ 1 / 100000)
    (hA : Bd (qv a - r * cF y) (r * e)) (hB : Bd (qv b - r * sF y) (r * e)) (hle : qv b ≤ qv a) :
    isFin (wPart_0 (fdiv b a)) = true ∧ Bd (qv (wPart_0 (fdiv b a)) * cir - y) (12 * e + 66 * eta) := by
  obtain ⟨t1, t2, t3, t4⟩ := eta_small
  obtain ⟨r1, r2, r3, r4, r5, r6, r7⟩ := cs_range h0 h1
  obtain ⟨i1, i2⟩ := inv_nn (m := cF y) (by grind)
  have he0 : 0 ≤ e := by
    have := hA.nonneg
    exact Rat.not_lt.1 fun h => by have := Rat.mul_lt_mul_of_pos_left h hr; grind
  have hY : YY ≤ 786 / 1000 := by decide +kernel
  -- A is not small
  have hA1 : 59 / 100 * r ≤ qv a := by
    have k1 := Rat.mul_le_mul_of_nonneg_left r7 (c := r) (Rat.le_of_lt hr)
    have k2 := Rat.mul_le_mul_of_nonneg_left he (c := r) (Rat.le_of_lt hr)
    have := hA.1
    grind
  have hpos : 0 < qv a := by grind
  have nb := (qv_nn sb).2
  obtain ⟨d1, d2, d3⟩ := div_q hb ha sb sa hpos hle
  have nd := (qv_nn d2).2
  have hq1 : qv (fdiv b a) ≤ 1 := div_le_one hb ha sb sa hpos hle d1 d3 nd
  generalize fdiv b a = q at *
  have hd : Bd (qv q - sF y * (cF y)⁻¹) (4 * e + 2 * eta) := by
    refine Bd.cancel (G := qv a * cF y) (Rat.mul_pos hpos (by grind)) ?_
    have bC : Bd (cF y) (cF y) := ⟨by grind, Rat.le_refl⟩
    have bS : Bd (sF y) (sF y) := ⟨by grind, Rat.le_refl⟩
    have k := ((d3.mul bC).add (hB.mul bC)).sub (hA.mul bS)
    have ee : (qv q - sF y * (cF y)⁻¹) * (qv a * cF y) = qv q * qv a * cF y - qv a * sF y * (cF y * (cF y)⁻¹) := by grind
    rw [ee, i2]
    refine (k.of_eq (by grind)).mono ?_
    -- the bounds
    have m1 : qv b * eta * cF y ≤ qv a * eta * cF y := Rat.mul_le_mul_of_nonneg_right (Rat.mul_le_mul_of_nonneg_right hle t1) (by grind)
    have m2 : tau * qv a * cF y ≤ eta * qv a * cF y := Rat.mul_le_mul_of_nonneg_right (Rat.mul_le_mul_of_nonneg_right (by grind) (Rat.le_of_lt hpos)) (by grind)
    have m3 : r * e * sF y ≤ r * e * (135 / 100 * cF y) := Rat.mul_le_mul_of_nonneg_left (by grind) (Rat.mul_nonneg (Rat.le_of_lt hr) he0)
    have m4 : r * (e * cF y) ≤ 170 / 100 * qv a * (e * cF y) := Rat.mul_le_mul_of_nonneg_right (by grind) (Rat.mul_nonneg he0 (by grind))
    have f1 : (qv b * eta + tau * qv a) * cF y + r * e * cF y + r * e * sF y = qv b * eta * cF y + tau * qv a * cF y + r * (e * cF y) + r * e * sF y := by grind
    have f2 : r * e * (135 / 100 * cF y) = 135 / 100 * (r * (e * cF y)) := by grind
    have f3 : 170 / 100 * qv a * (e * cF y) = 170 / 100 * (qv a * (e * cF y)) := by grind
    have f4 : (4 * e + 2 * eta) * (qv a * cF y) = 4 * (qv a * (e * cF y)) + 2 * (qv a * eta * cF y) := by grind
    have f5 : eta * qv a * cF y = qv a * eta * cF y := by grind
    rw [f1, f4]
    rw [f2] at m3
    rw [f3] at m4
    rw [f5] at m2
    have n1 : 0 ≤ qv a * (e * cF y) := Rat.mul_nonneg (Rat.le_of_lt hpos) (Rat.mul_nonneg he0 (by grind))
    clear f1 f2 f3 f4 f5 k ee hA hB d3 bC bS hA1 r1 r2 r3 r4 r5 r6 r7 t1 t2 t3 t4
    generalize qv b * eta * cF y = x1 at *
    generalize qv a * eta * cF y = x2 at *
    generalize tau * qv a * cF y = x3 at *
    generalize r * (e * cF y) = x4 at *
    generalize r * e * sF y = x5 at *
    generalize qv a * (e * cF y) = x6 at *
    clear hpos nd hq1 hle h0 h1 hr he he0 hY i1 i2
    grind
  obtain ⟨p1, p2⟩ := part_near d1 d2 hq1 h0 h1 hd (by grind)
  exact ⟨p1, p2.mono (by grind)⟩
theorem tan_YY : Bd (sF YY * (cF YY)⁻¹ - 1) eta := ⟨by decide +kernel, by decide +kernel⟩
theorem aF_sign {q : Rat} (h : Bd q (1 / 2)) : (0 ≤ q → aF q ≤ 101 / 100 * q) ∧ (q ≤ 0 → aF q ≤ 9 / 10 * q) := by
  have h2 := h.sqr
  have h1 := sq_nn q
  have l : 9 / 10 ≤ pe tanT (q * q) := tan_low h1 (by grind) (by decide +kernel) rfl
  have u : pe tanT (q * q) ≤ 1 := tan_high h1 (by grind) rfl (by decide +kernel) (by decide +kernel)
  unfold aF
  generalize pe tanT (q * q) = p at *
  constructor
  · intro h0
    have := Rat.mul_nonneg h0 (show 0 ≤ 1 - p by grind)
    grind
  · intro h0
    have := Rat.mul_nonneg (show 0 ≤ -q by grind) (show 0 ≤ p - 9 / 10 by grind)
    grind
/-- Near the end of the eighth. -/
theorem end_near {y d : Rat} (h0 : 0 ≤ y) (h1 : y ≤ YY) (hdn : 0 ≤ d) (hd : d ≤ 1 / 1000) (h : cF y - sF y ≤ d) : YY - y ≤ 101 / 100 * d + 2 * eta ∧ sF y - cF y ≤ 3 * eta ∧ 37 / 100 ≤ y := by
  obtain ⟨t1, t2, t3, t4⟩ := eta_small
  obtain ⟨r1, r2, r3, r4, r5, r6, r7⟩ := cs_range h0 h1
  have hY : YY ≤ 786 / 1000 := by decide +kernel
  have hy : 37 / 100 ≤ y := by
    refine Rat.not_lt.1 fun hlt => ?_
    have := sqr_le h0 (Rat.le_of_lt hlt)
    grind
  obtain ⟨g1, g2, g3⟩ := tan2_bd hy h1
  have w := way2 hy h1
  obtain ⟨s1, s2⟩ := aF_sign g1
  have hsum : 1 ≤ cF y + sF y := by
    have := sqr_le (show (0 : Rat) ≤ y by grind) h1
    have hz : YY * YY ≤ 617 / 1000 := by decide +kernel
    have := sqr_le (show (0 : Rat) ≤ 37 / 100 by decide +kernel) hy
    grind
  obtain ⟨i1, _⟩ := inv_nn (m := cF y + sF y) (by grind)
  generalize hT : (cF y - sF y) * (cF y + sF y)⁻¹ = T at *
  have eT : T * (cF y + sF y) = cF y - sF y := by
    rw [← hT]
    have : (cF y - sF y) * (cF y + sF y)⁻¹ * (cF y + sF y) = (cF y - sF y) * ((cF y + sF y) * (cF y + sF y)⁻¹) := by grind
    rw [this, g3]; grind
  have hTd : T ≤ 0 ∨ T ≤ d := by
    rcases Rat.le_total (a := T) (b := 0) with h | h'
    · exact .inl h
    · refine .inr ?_
      have := Rat.mul_nonneg h' (show 0 ≤ cF y + sF y - 1 by grind)
      grind
  have hYs : YY - y ≤ 786 / 1000 := by grind
  have hk0 := Rat.mul_le_mul_of_nonneg_left hYs (c := 36 * eta) (by grind)
  have hd0 : YY - y ≤ 1 / 500 := by
    rcases hTd with h2 | h2
    · have := s2 h2; have := w.1; grind
    · rcases Rat.le_total (a := T) (b := 0) with h3 | h3
      · have := s2 h3; have := w.1; grind
      · have := s1 h3; have := w.1; grind
  have hk := Rat.mul_le_mul_of_nonneg_left hd0 (c := 36 * eta) (by grind)
  have hlow : -(2 * eta) ≤ T := by
    refine Rat.not_lt.1 fun hlt => ?_
    have := s2 (by grind)
    have := w.1
    grind
  refine ⟨?_, ?_, hy⟩
  · rcases Rat.le_total (a := T) (b := 0) with h3 | h3
    · have := s2 h3
      have := w.1
      grind
    · have := s1 h3
      have := w.1
      rcases hTd with h2 | h2 <;> grind
  · have k := Rat.mul_nonneg (show 0 ≤ T + 2 * eta by grind) (show 0 ≤ cF y + sF y by grind)
    have k2 : cF y + sF y ≤ 3 / 2 := by
      obtain ⟨q1, _⟩ := G_pos h0 h1
      have q2 := q1.2
      have q3 := sq_nn (cF y - sF y)
      refine Rat.not_lt.1 fun hlt => ?_
      have q4 := sqr_le (show (0 : Rat) ≤ 3 / 2 by decide +kernel) (Rat.le_of_lt hlt)
      clear k s1 s2 w g1 g2 g3 eT hTd hlow hk hk0
      grind
    have k3 := Rat.mul_nonneg (show 0 ≤ 2 * eta by grind) (show 0 ≤ 3 / 2 - (cF y + sF y) by grind)
    grind
theorem le_cancel {r x z : Rat} (hr : 0 < r) (h : r * x ≤ r * z) : x ≤ z := Rat.not_lt.1 fun h2 => by have := Rat.mul_lt_mul_of_pos_left h2 hr; grind
/-- The greater side is the sine's: both are near the end of the eighth. -/
theorem sideB {a b : Nat} {y r e : Rat} (ha : isFin a = true) (hb : isFin b = true) (sa : sg a = false) (sb : sg b = false) (h0 : 0 ≤ y) (h1 : y ≤ YY) (hr : 0 < r) (he : e ≤ 1 / 100000)
    (hA : Bd (qv a - r * cF y) (r * e)) (hB : Bd (qv b - r * sF y) (r * e)) (hle : qv a ≤ qv b) :
    isFin (wPart_0 (fdiv a b)) = true ∧ Bd (qv (wPart_0 (fdiv a b)) * cir - YY) (12 * e + 100 * eta) ∧ YY - y ≤ 3 * e + 2 * eta := by
  obtain ⟨t1, t2, t3, t4⟩ := eta_small
  obtain ⟨r1, r2, r3, r4, r5, r6, r7⟩ := cs_range h0 h1
  have he0 : 0 ≤ e := by
    have := hA.nonneg
    exact Rat.not_lt.1 fun h => by have := Rat.mul_lt_mul_of_pos_left h hr; grind
  have hcs : cF y - sF y ≤ 2 * e := le_cancel hr (by have := hA.1; have := hB.2; grind)
  obtain ⟨n1, n2, n3⟩ := end_near h0 h1 (show 0 ≤ 2 * e by grind) (by grind) hcs
  have hB1 : 58 / 100 * r ≤ qv b := by
    have k1 := Rat.mul_le_mul_of_nonneg_left (show 58 / 100 ≤ sF y - e by grind) (c := r) (Rat.le_of_lt hr)
    have := hB.1
    grind
  have hpos : 0 < qv b := by grind
  obtain ⟨d1, d2, d3⟩ := div_q ha hb sa sb hpos hle
  have nd := (qv_nn d2).2
  have hq1 : qv (fdiv a b) ≤ 1 := div_le_one ha hb sa sb hpos hle d1 d3 nd
  generalize fdiv a b = q at *
  have hq : Bd (qv q - 1) (4 * e + 8 * eta) := by
    refine Bd.cancel hpos ?_
    have hd : Bd (qv a - qv b) (r * (3 * eta + 2 * e)) := by
      have k1 := Rat.mul_le_mul_of_nonneg_left n2 (c := r) (Rat.le_of_lt hr)
      have k3 := Rat.mul_nonneg (Rat.le_of_lt hr) (show 0 ≤ 3 * eta + 2 * e by grind)
      constructor
      · have := hA.1; have := hB.2; grind
      · grind
    have k := d3.add hd
    have m1 : qv a * eta ≤ qv b * eta := Rat.mul_le_mul_of_nonneg_right hle t1
    have m2 : tau * qv b ≤ eta * qv b := Rat.mul_le_mul_of_nonneg_right (by grind) (Rat.le_of_lt hpos)
    have m3 : r * (3 * eta + 2 * e) ≤ 173 / 100 * qv b * (3 * eta + 2 * e) := Rat.mul_le_mul_of_nonneg_right (by grind) (by grind)
    have n5 : 0 ≤ qv b * e := Rat.mul_nonneg (Rat.le_of_lt hpos) he0
    have n6 : 0 ≤ qv b * eta := Rat.mul_nonneg (Rat.le_of_lt hpos) t1
    refine (k.of_eq (by grind)).mono ?_
    clear k hd hA hB d3 r1 r2 r3 r4 r5 r6 r7 t2 t3 t4 n1 n2 n3 hcs hB1
    grind
  have hT := hq.sub tan_YY
  have hY0 : 0 ≤ YY := by decide +kernel
  obtain ⟨p1, p2⟩ := part_near d1 d2 hq1 hY0 Rat.le_refl (hT.of_eq (by grind)) (by grind)
  exact ⟨p1, p2.mono (by grind), by grind⟩
end Go.Lk
end

section
/- The angle in the first quarter. -/
namespace Go.Lk
set_option linter.unusedSimpArgs false
set_option linter.unusedVariables false
set_option maxRecDepth 10000
set_option maxHeartbeats 1000000
theorem quart_q : isFin 4598175219545276416 = true ∧ qv 4598175219545276416 = 1 / 4 := ⟨by decide, (qv_const (n := 1) (d := 4) (by decide) (by decide +kernel)).trans (by decide +kernel)⟩
theorem hlf_q : isFin 4602678819172646912 = true ∧ qv 4602678819172646912 = 1 / 2 := ⟨by decide, (qv_const (n := 1) (d := 2) (by decide) (by decide +kernel)).trans (by decide +kernel)⟩
def quad (X Y : Nat) : Nat := bif fgt Y X then fsub 4598175219545276416 (wPart_0 (fdiv (fmin X Y) (fmax X Y))) else wPart_0 (fdiv (fmin X Y) (fmax X Y))
theorem by_cir {x β e : Rat} (h : Bd (x * cir - β * cir) (6283185307 / 1000000000 * e)) (he : 0 ≤ e) : Bd (x - β) e := by
  obtain ⟨r1, r2, _, _⟩ := cir_le
  refine Bd.cancel (G := cir) (by grind) ((h.of_eq (by grind)).mono ?_)
  have := Rat.mul_nonneg he (show 0 ≤ cir - 6283185307 / 1000000000 by grind)
  grind
theorem from_quart {p : Nat} {β E : Rat} (hp : isFin p = true) (h : Bd (qv p - (1 / 4 - β)) E) (hb : 0 ≤ β) (hb4 : β ≤ 1 / 4) (hE : E ≤ 1 / 1000) : isFin (fsub 4598175219545276416 p) = true ∧ Bd (qv (fsub 4598175219545276416 p) - β) (E + eta) := by
  obtain ⟨t1, t2, t3, t4⟩ := eta_small
  obtain ⟨q1, q2⟩ := quart_q
  have hB : Bd (qv 4598175219545276416 - qv p) (1 / 2) := by rw [q2]; exact ⟨by have := h.2; grind, by have := h.1; grind⟩
  obtain ⟨s1, s2⟩ := sub_q q1 hp hB (by decide +kernel)
  rw [q2] at s2
  exact ⟨s1, ((s2.sub h).of_eq (by grind)).mono (by grind)⟩
/-- Nearer the first side. -/
theorem quadA {X Y : Nat} {β r e : Rat} (hX : isFin X = true) (hY : isFin Y = true) (sX : sg X = false) (sY : sg Y = false) (h0 : 0 ≤ β) (h1 : β ≤ 1 / 8) (hr : 0 < r) (he : e ≤ 1 / 100000)
    (hA : Bd (qv X - r * cF (β * cir)) (r * e)) (hB : Bd (qv Y - r * sF (β * cir)) (r * e)) : isFin (quad X Y) = true ∧ Bd (qv (quad X Y) - β) (3 * e + 18 * eta) := by
  obtain ⟨t1, t2, t3, t4⟩ := eta_small
  obtain ⟨r1, r2, r3, r4⟩ := cir_le
  have y0 := Rat.mul_nonneg h0 (show 0 ≤ cir by grind)
  have y1 : β * cir ≤ YY := by have := Rat.mul_le_mul_of_nonneg_right h1 (c := cir) (by grind); grind
  have he0 : 0 ≤ e := by
    have := hA.nonneg
    exact Rat.not_lt.1 fun h => by have := Rat.mul_lt_mul_of_pos_left h hr; grind
  unfold quad
  rcases max_min hX hY sX sY with ⟨m1, m2, m3⟩ | ⟨m1, m2, m3⟩
  · have hg : fgt Y X = false := by
      cases h : fgt Y X
      · rfl
      · have := (fgt_qv hY hX).1 h; grind
    rw [hg, m1, m2, cond_false]
    obtain ⟨p1, p2⟩ := sideA hX hY sX sY y0 y1 hr he hA hB m3
    exact ⟨p1, by_cir (p2.mono (by grind)) (by grind)⟩
  · rw [m1, m2]
    obtain ⟨p1, p2, p3⟩ := sideB hX hY sX sY y0 y1 hr he hA hB m3
    cases hg : fgt Y X
    · rw [cond_false]
      refine ⟨p1, by_cir ?_ (by grind)⟩
      have h3 : Bd (YY - β * cir) (3 * e + 2 * eta) := ⟨by grind, p3⟩
      exact ((p2.add h3).of_eq (by grind)).mono (by grind)
    · rw [cond_true]
      have hp : Bd (qv (wPart_0 (fdiv X Y)) - (1 / 4 - β)) (3 * e + 17 * eta) := by
        refine by_cir ?_ (by grind)
        have h3 : Bd (YY - β * cir) (3 * e + 2 * eta) := ⟨by grind, p3⟩
        exact ((p2.sub h3).of_eq (by grind)).mono (by grind)
      obtain ⟨s1, s2⟩ := from_quart p1 hp h0 (by grind) (by grind)
      exact ⟨s1, s2.mono (by grind)⟩
/-- Nearer the other side. -/
theorem quadB {X Y : Nat} {β r e : Rat} (hX : isFin X = true) (hY : isFin Y = true) (sX : sg X = false) (sY : sg Y = false) (h0 : 1 / 8 ≤ β) (h1 : β ≤ 1 / 4) (hr : 0 < r) (he : e ≤ 1 / 100000)
    (hA : Bd (qv X - r * sF ((1 / 4 - β) * cir)) (r * e)) (hB : Bd (qv Y - r * cF ((1 / 4 - β) * cir)) (r * e)) : isFin (quad X Y) = true ∧ Bd (qv (quad X Y) - β) (3 * e + 18 * eta) := by
  obtain ⟨t1, t2, t3, t4⟩ := eta_small
  obtain ⟨r1, r2, r3, r4⟩ := cir_le
  have y0 := Rat.mul_nonneg (show 0 ≤ 1 / 4 - β by grind) (show 0 ≤ cir by grind)
  have y1 : (1 / 4 - β) * cir ≤ YY := by have := Rat.mul_le_mul_of_nonneg_right (show 1 / 4 - β ≤ 1 / 8 by grind) (c := cir) (by grind); grind
  have he0 : 0 ≤ e := by
    have := hA.nonneg
    exact Rat.not_lt.1 fun h => by have := Rat.mul_lt_mul_of_pos_left h hr; grind
  unfold quad
  rcases max_min hX hY sX sY with ⟨m1, m2, m3⟩ | ⟨m1, m2, m3⟩
  · have hg : fgt Y X = false := by
      cases h : fgt Y X
      · rfl
      · have := (fgt_qv hY hX).1 h; grind
    rw [hg, m1, m2, cond_false]
    obtain ⟨p1, p2, p3⟩ := sideB hY hX sY sX y0 y1 hr he hB hA m3
    refine ⟨p1, by_cir ?_ (by grind)⟩
    have h3 : Bd (YY - (1 / 4 - β) * cir) (3 * e + 2 * eta) := ⟨by grind, p3⟩
    exact ((p2.sub h3).of_eq (by grind)).mono (by grind)
  · rw [m1, m2]
    obtain ⟨p1, p2⟩ := sideA hY hX sY sX y0 y1 hr he hB hA m3
    cases hg : fgt Y X
    · rw [cond_false]
      have hle := (fgt_qv hY hX).2 hg
      obtain ⟨_, _, p3⟩ := sideB hY hX sY sX y0 y1 hr he hB hA hle
      refine ⟨p1, by_cir ?_ (by grind)⟩
      have h3 : Bd (YY - (1 / 4 - β) * cir) (3 * e + 2 * eta) := ⟨by grind, p3⟩
      exact ((p2.sub (h3.add h3)).of_eq (by grind)).mono (by grind)
    · rw [cond_true]
      have hp : Bd (qv (wPart_0 (fdiv X Y)) - (1 / 4 - β)) (3 * e + 17 * eta) := by_cir (p2.mono (by grind)) (by grind)
      obtain ⟨s1, s2⟩ := from_quart p1 hp (by grind) h1 (by grind)
      exact ⟨s1, s2.mono (by grind)⟩
end Go.Lk
end

section
/- A turn the other way round: the conjugate. -/
namespace Go.Lk
open Ieee (Format Datum)
set_option linter.unusedSimpArgs false
set_option linter.unusedVariables false
set_option maxRecDepth 100000
/-! ### By its magnitude and its sign -/
def turnR (a : Nat) : Nat := bif fgt a 4598175219545276416 then (bif fgt (fsub 4602678819172646912 a) 4593671619917905920 then fadd (aneg false (wEighth_1 (fsub 4598175219545276416 (fsub 4602678819172646912 a)))) 0 else fadd (aneg false (wEighth_0 (fsub 4602678819172646912 a))) 0)
  else (bif fgt a 4593671619917905920 then fadd (wEighth_1 (fsub 4598175219545276416 a)) 0 else fadd (wEighth_0 a) 0)
def turnI (a : Nat) : Nat := bif fgt a 4598175219545276416 then (bif fgt (fsub 4602678819172646912 a) 4593671619917905920 then wEighth_0 (fsub 4598175219545276416 (fsub 4602678819172646912 a)) else wEighth_1 (fsub 4602678819172646912 a))
  else (bif fgt a 4593671619917905920 then wEighth_0 (fsub 4598175219545276416 a) else wEighth_1 a)
theorem turn_form {x : Nat} (h : feq (wrapP x) (wrapP x) = true) : wTurn_0 x = turnR (fabs (wrapP x)) ∧ wTurn_1 x = bif flt (wrapP x) 0 then fadd (aneg false (turnI (fabs (wrapP x)))) 0 else fadd (turnI (fabs (wrapP x))) 0 := by
  unfold wTurn_0 wTurn_1 turnR turnI
  rw [h]
  simp only [cond_true]
  cases fgt (fabs (wrapP x)) 4598175219545276416
  · cases fgt (fabs (wrapP x)) 4593671619917905920 <;> cases flt (wrapP x) 0 <;> simp only [cond_true, cond_false, and_self]
  · cases fgt (fsub 4602678819172646912 (fabs (wrapP x))) 4593671619917905920 <;> cases flt (wrapP x) 0 <;> simp only [cond_true, cond_false, and_self]
theorem canon_eighth (a : Nat) : Canon (wEighth_0 a) ∧ Canon (wEighth_1 a) := by
  have k : Canon 4604544271217802189 := ⟨by decide, fun h => by rw [fin_num half_q.1] at h; cases h⟩
  have e0 : wEighth_0 a = bif feq a 4593671619917905920 then 4604544271217802189 else cosE (fmul (fmul a 4618760256179416344) (fmul a 4618760256179416344)) := by kernel_rfl
  have e1 : wEighth_1 a = bif feq a 4593671619917905920 then 4604544271217802189 else fmul (sinE (fmul (fmul a 4618760256179416344) (fmul a 4618760256179416344))) (fmul a 4618760256179416344) := by kernel_rfl
  rw [e0, e1]
  cases feq a 4593671619917905920
  · simp only [cond_false]
    exact ⟨by unfold cosE; exact Canon.fadd _ _, Canon.fmul _ _⟩
  · exact ⟨k, k⟩
theorem Canon.turnI (a : Nat) : Canon (turnI a) := by
  unfold Lk.turnI
  cases fgt a 4598175219545276416
  · cases fgt a 4593671619917905920
    · exact (canon_eighth _).2
    · exact (canon_eighth _).1
  · cases fgt (Lk.fsub 4602678819172646912 a) 4593671619917905920
    · exact (canon_eighth _).2
    · exact (canon_eighth _).1
theorem fx_clean {v : Nat} (hc : Canon v) (hf : isFin v = true) : isFin (fadd v 0) = true ∧ fx (fadd v 0) = fx v := by
  rw [fadd_zero hc]
  cases h : feq v 0
  · exact ⟨hf, rfl⟩
  · rw [feq_fin hf fin_zero, fx_0] at h
    exact ⟨fin_zero, by rw [cond_true, fx_0, of_decide_eq_true h]⟩
theorem fx_neg {v : Nat} (hc : Canon v) (hf : isFin v = true) : isFin (aneg false v) = true ∧ fx (aneg false v) = -fx v ∧ Canon (aneg false v) := by
  obtain ⟨n1, n2, n3⟩ := fneg_fin hc.lt hf
  exact ⟨n1, n2, hc.fneg⟩
theorem rg_of_fx {x y : Nat} (h : (fx x).natAbs = (fx y).natAbs) : rg x = rg y := by rw [fx_abs, fx_abs] at h; exact fxr_inj h
/-! ### A product with the other sign -/
theorem fmul_val {u : Nat} (hu : u = 1074) (hU : U = 2 ^ u) {x y : Nat} (hx : isFin x = true) (hy : isFin y = true) : fmul x y = wd (sg x ^^ sg y) (min (rungQ (fxr (rg x) * fxr (rg y)) u) (2047 * 2 ^ 52)) := by
  obtain ⟨m, i, e1, h1, h2, _⟩ := read_fin hx
  obtain ⟨n, j, e2, h3, h4, _⟩ := read_fin hy
  have hr : fmul x y = dbl.nearest (sg x ^^ sg y) (m * n) (i + j) := by
    unfold fmul Format.mul
    rw [e1, e2]
    rfl
  have h5 := nearest_any (sg x ^^ sg y) (m * n) (i + j) (m * n * 2 ^ (i + j + 1074 + (u : Int)).toNat) u (by clear hU; omega) rfl
  have e : m * n * 2 ^ (i + j + 1074 + (u : Int)).toNat = fxr (rg x) * fxr (rg y) := by
    rw [← h2, ← h4]
    have : (i + j + 1074 + (u : Int)).toNat = (i + 1074).toNat + (j + 1074).toNat := by clear hU h5; omega
    rw [this, Nat.pow_add]
    ac_rfl
  rw [hr, h5, e]
theorem fmul_neg {d i j : Nat} (hd : isFin d = true) (hi : isFin i = true) (hj : isFin j = true) (h : fx j = -fx i) : fx (fmul d j) = -fx (fmul d i) := by
  obtain ⟨u, hu, hU⟩ := U_spec
  have hrg : rg j = rg i := rg_of_fx (by omega)
  rw [fmul_val hu hU hd hi, fmul_val hu hU hd hj, hrg]
  generalize hr : min (rungQ (fxr (rg d) * fxr (rg i)) u) (2047 * 2 ^ 52) = r
  have hlt : r < 2 ^ 63 := by omega
  rw [fx_wd hlt, fx_wd hlt]
  by_cases h0 : fx i = 0
  · have hi0 : fxr (rg i) = 0 := by have := fx_abs i; omega
    have : r = 0 := by rw [← hr, hi0, Nat.mul_zero, rungQ_0]; rfl
    rw [this, fxr_zero, sgn_zero, sgn_zero]; rfl
  · have s1 : sg j = !sg i := by
      rw [sg_fx h0, sg_fx (by omega : fx j ≠ 0)]
      by_cases h1 : fx i < 0
      · rw [decide_eq_true h1, decide_eq_false (by omega)]; rfl
      · rw [decide_eq_false h1, decide_eq_true (by omega)]; rfl
    rw [s1, Bool.xor_not, sgn_not]
/-! ### Bounds -/
end Go.Lk
end

section
/- Angles and magnitudes of numbers; the document's. -/
namespace Go.Lk
open Go.Proofs
set_option maxRecDepth 100000
set_option maxHeartbeats 0
set_option linter.unusedVariables false
set_option linter.unusedSimpArgs false
noncomputable def L10 : Lib := ⟨Try.prog, false, t9, [(181, Try.f181), (160, Try.f160), (69, Try.f69), (55, Try.f55), (33, Try.f33), (128, Try.f128), (207, Try.f207), (122, Try.f122), (133, Try.f133), (134, Try.f134), (135, Try.f135), (136, Try.f136)], []⟩
theorem L10_fp : ∀ e, e ∈ L10.pures → Try.prog.funcs[e.1]? = some e.2 := fs_cons Try.func181 (fs_cons Try.func160 (fs_cons Try.func69 (fs_cons Try.func55 (fs_cons Try.func33 (fs_cons Try.func128 (fs_cons Try.func207 (fs_cons Try.func122 (fs_cons Try.func133 (fs_cons Try.func134 (fs_cons Try.func135 (fs_cons Try.func136 (fs_nil))))))))))))
theorem L10_fh : ∀ e, e ∈ L10.heaps → Try.prog.funcs[e.1]? = some e.2.2 := gs_nil
theorem L10_p1 (gp : Nat → PureFn) (g : Nat → HeapFn) : (L10.pures.all fun e => fnOk (L10.mk' gp g) e.2) = true := by kernel_rfl
theorem L10_h1 (gp : Nat → PureFn) (g : Nat → HeapFn) : (L10.heaps.all fun e => fnOk (L10.mk' gp g) e.2.2 && (!e.2.1 || fnRo (L10.mk' gp g) e.2.2)) = true := by kernel_rfl
theorem L10_ok : L10.Ok := ⟨t9_ok, mixed, L10_fp, L10_fh, L10_p1, L10_h1⟩
noncomputable def dL10 : Cfg := L10.cfg 100 6
theorem dL10_ok : dL10.Ok := L10_ok.cfg 100 6

theorem wAngle_fok : fnOk (dL10) Try.f38 = true := by kernel_rfl
theorem wAngle_p0 (a : Nat) (b : Nat) (σ : AHeap) (h0 : (feq (fsub a a) 0) = true) (h1 : (feq (fsub b b) 0) = true) (h2 : (feq a 0 && feq b 0) = true) : CallR Try.prog false 38 [Value.complex .f64 a b] σ (Value.float .f64 0) σ := CallR.of_DO_pure (C := dL10) dL10_ok Try.func38 wAngle_fok (n := 100) (orc := [(24, Item.br true), (26, Item.br true), (28, Item.br true), (30, Item.br true), (33, Item.res (Value.bool !feq (fsub b b) 0)), (36, Item.br false), (43, Item.br true)]) (ps := [(bP ((!feq (fsub a a) 0) == false) true), (bP ((!feq (fsub a a) 0) == false) true), (bP ((!feq (fsub a a) 0) == false) true), (bP ((!feq (fsub a a) 0) == false) true), (pP (some (Value.bool true)) (some (Value.bool !feq (fsub b b) 0)) ([]) (!feq (fsub a a) 0) (Value.bool !feq (fsub b b) 0)), (bP (!feq (fsub b b) 0) false), (bP (feq a 0 && feq b 0) true)]) (σ1 := []) (by kernel_rfl) ⟨bP_of (fun x => (!x) == false) h0, ⟨bP_of (fun x => (!x) == false) h0, ⟨bP_of (fun x => (!x) == false) h0, ⟨bP_of (fun x => (!x) == false) h0, ⟨pP_f _ _ _ (congrArg (fun bb => (!bb)) h0), ⟨bP_of (fun x => !x) h1, ⟨bP_of (fun x => x) h2, trivial⟩⟩⟩⟩⟩⟩⟩ rfl rfl
theorem wAngle_p1 (a : Nat) (b : Nat) (σ : AHeap) (h0 : (feq (fsub a a) 0) = true) (h1 : (feq (fsub b b) 0) = true) (h2 : (feq a 0 && feq b 0) = false) (h3 : (fgt (fabs b) (fabs a)) = true) (h4 : (flt a 0) = true) (h5 : (feq (fsub 4602678819172646912 (fsub 4598175219545276416 (wPart_0 (fdiv (fmin (fabs a) (fabs b)) (fmax (fabs a) (fabs b)))))) 4602678819172646912) = true) : CallR Try.prog false 38 [Value.complex .f64 a b] σ (Value.float .f64 13826050856027422720) σ := CallR.of_DO_pure (C := dL10) dL10_ok Try.func38 wAngle_fok (n := 100) (orc := [(24, Item.br true), (26, Item.br true), (28, Item.br true), (30, Item.br true), (33, Item.res (Value.bool !feq (fsub b b) 0)), (36, Item.br false), (43, Item.br false), (80, Item.br true), (91, Item.br true), (104, Item.br true)]) (ps := [(bP ((!feq (fsub a a) 0) == false) true), (bP ((!feq (fsub a a) 0) == false) true), (bP ((!feq (fsub a a) 0) == false) true), (bP ((!feq (fsub a a) 0) == false) true), (pP (some (Value.bool true)) (some (Value.bool !feq (fsub b b) 0)) ([]) (!feq (fsub a a) 0) (Value.bool !feq (fsub b b) 0)), (bP (!feq (fsub b b) 0) false), (bP (feq a 0 && feq b 0) false), (bP (fgt (fabs b) (fabs a)) true), (bP (flt a 0) true), (bP (feq (fsub 4602678819172646912 (fsub 4598175219545276416 (wPart_0 (fdiv (fmin (fabs a) (fabs b)) (fmax (fabs a) (fabs b)))))) 4602678819172646912) true)]) (σ1 := []) (by kernel_rfl) ⟨bP_of (fun x => (!x) == false) h0, ⟨bP_of (fun x => (!x) == false) h0, ⟨bP_of (fun x => (!x) == false) h0, ⟨bP_of (fun x => (!x) == false) h0, ⟨pP_f _ _ _ (congrArg (fun bb => (!bb)) h0), ⟨bP_of (fun x => !x) h1, ⟨bP_of (fun x => x) h2, ⟨bP_of (fun x => x) h3, ⟨bP_of (fun x => x) h4, ⟨bP_of (fun x => x) h5, trivial⟩⟩⟩⟩⟩⟩⟩⟩⟩⟩ rfl rfl
theorem wAngle_p2 (a : Nat) (b : Nat) (σ : AHeap) (h0 : (feq (fsub a a) 0) = true) (h1 : (feq (fsub b b) 0) = true) (h2 : (feq a 0 && feq b 0) = false) (h3 : (fgt (fabs b) (fabs a)) = true) (h4 : (flt a 0) = true) (h5 : (feq (fsub 4602678819172646912 (fsub 4598175219545276416 (wPart_0 (fdiv (fmin (fabs a) (fabs b)) (fmax (fabs a) (fabs b)))))) 4602678819172646912) = false) (h6 : (flt b 0) = true) : CallR Try.prog false 38 [Value.complex .f64 a b] σ (Value.float .f64 (fadd (aneg false (fsub 4602678819172646912 (fsub 4598175219545276416 (wPart_0 (fdiv (fmin (fabs a) (fabs b)) (fmax (fabs a) (fabs b))))))) 0)) σ := CallR.of_DO_pure (C := dL10) dL10_ok Try.func38 wAngle_fok (n := 100) (orc := [(24, Item.br true), (26, Item.br true), (28, Item.br true), (30, Item.br true), (33, Item.res (Value.bool !feq (fsub b b) 0)), (36, Item.br false), (43, Item.br false), (80, Item.br true), (91, Item.br true), (104, Item.br false), (111, Item.br true)]) (ps := [(bP ((!feq (fsub a a) 0) == false) true), (bP ((!feq (fsub a a) 0) == false) true), (bP ((!feq (fsub a a) 0) == false) true), (bP ((!feq (fsub a a) 0) == false) true), (pP (some (Value.bool true)) (some (Value.bool !feq (fsub b b) 0)) ([]) (!feq (fsub a a) 0) (Value.bool !feq (fsub b b) 0)), (bP (!feq (fsub b b) 0) false), (bP (feq a 0 && feq b 0) false), (bP (fgt (fabs b) (fabs a)) true), (bP (flt a 0) true), (bP (feq (fsub 4602678819172646912 (fsub 4598175219545276416 (wPart_0 (fdiv (fmin (fabs a) (fabs b)) (fmax (fabs a) (fabs b)))))) 4602678819172646912) false), (bP (flt b 0) true)]) (σ1 := []) (by kernel_rfl) ⟨bP_of (fun x => (!x) == false) h0, ⟨bP_of (fun x => (!x) == false) h0, ⟨bP_of (fun x => (!x) == false) h0, ⟨bP_of (fun x => (!x) == false) h0, ⟨pP_f _ _ _ (congrArg (fun bb => (!bb)) h0), ⟨bP_of (fun x => !x) h1, ⟨bP_of (fun x => x) h2, ⟨bP_of (fun x => x) h3, ⟨bP_of (fun x => x) h4, ⟨bP_of (fun x => x) h5, ⟨bP_of (fun x => x) h6, trivial⟩⟩⟩⟩⟩⟩⟩⟩⟩⟩⟩ rfl rfl
theorem wAngle_p3 (a : Nat) (b : Nat) (σ : AHeap) (h0 : (feq (fsub a a) 0) = true) (h1 : (feq (fsub b b) 0) = true) (h2 : (feq a 0 && feq b 0) = false) (h3 : (fgt (fabs b) (fabs a)) = true) (h4 : (flt a 0) = true) (h5 : (feq (fsub 4602678819172646912 (fsub 4598175219545276416 (wPart_0 (fdiv (fmin (fabs a) (fabs b)) (fmax (fabs a) (fabs b)))))) 4602678819172646912) = false) (h6 : (flt b 0) = false) : CallR Try.prog false 38 [Value.complex .f64 a b] σ (Value.float .f64 (fadd (fsub 4602678819172646912 (fsub 4598175219545276416 (wPart_0 (fdiv (fmin (fabs a) (fabs b)) (fmax (fabs a) (fabs b)))))) 0)) σ := CallR.of_DO_pure (C := dL10) dL10_ok Try.func38 wAngle_fok (n := 100) (orc := [(24, Item.br true), (26, Item.br true), (28, Item.br true), (30, Item.br true), (33, Item.res (Value.bool !feq (fsub b b) 0)), (36, Item.br false), (43, Item.br false), (80, Item.br true), (91, Item.br true), (104, Item.br false), (111, Item.br false)]) (ps := [(bP ((!feq (fsub a a) 0) == false) true), (bP ((!feq (fsub a a) 0) == false) true), (bP ((!feq (fsub a a) 0) == false) true), (bP ((!feq (fsub a a) 0) == false) true), (pP (some (Value.bool true)) (some (Value.bool !feq (fsub b b) 0)) ([]) (!feq (fsub a a) 0) (Value.bool !feq (fsub b b) 0)), (bP (!feq (fsub b b) 0) false), (bP (feq a 0 && feq b 0) false), (bP (fgt (fabs b) (fabs a)) true), (bP (flt a 0) true), (bP (feq (fsub 4602678819172646912 (fsub 4598175219545276416 (wPart_0 (fdiv (fmin (fabs a) (fabs b)) (fmax (fabs a) (fabs b)))))) 4602678819172646912) false), (bP (flt b 0) false)]) (σ1 := []) (by kernel_rfl) ⟨bP_of (fun x => (!x) == false) h0, ⟨bP_of (fun x => (!x) == false) h0, ⟨bP_of (fun x => (!x) == false) h0, ⟨bP_of (fun x => (!x) == false) h0, ⟨pP_f _ _ _ (congrArg (fun bb => (!bb)) h0), ⟨bP_of (fun x => !x) h1, ⟨bP_of (fun x => x) h2, ⟨bP_of (fun x => x) h3, ⟨bP_of (fun x => x) h4, ⟨bP_of (fun x => x) h5, ⟨bP_of (fun x => x) h6, trivial⟩⟩⟩⟩⟩⟩⟩⟩⟩⟩⟩ rfl rfl
theorem wAngle_p4 (a : Nat) (b : Nat) (σ : AHeap) (h0 : (feq (fsub a a) 0) = true) (h1 : (feq (fsub b b) 0) = true) (h2 : (feq a 0 && feq b 0) = false) (h3 : (fgt (fabs b) (fabs a)) = true) (h4 : (flt a 0) = false) (h5 : (feq (fsub 4598175219545276416 (wPart_0 (fdiv (fmin (fabs a) (fabs b)) (fmax (fabs a) (fabs b))))) 4602678819172646912) = true) : CallR Try.prog false 38 [Value.complex .f64 a b] σ (Value.float .f64 13826050856027422720) σ := CallR.of_DO_pure (C := dL10) dL10_ok Try.func38 wAngle_fok (n := 100) (orc := [(24, Item.br true), (26, Item.br true), (28, Item.br true), (30, Item.br true), (33, Item.res (Value.bool !feq (fsub b b) 0)), (36, Item.br false), (43, Item.br false), (80, Item.br true), (91, Item.br false), (98, Item.br true)]) (ps := [(bP ((!feq (fsub a a) 0) == false) true), (bP ((!feq (fsub a a) 0) == false) true), (bP ((!feq (fsub a a) 0) == false) true), (bP ((!feq (fsub a a) 0) == false) true), (pP (some (Value.bool true)) (some (Value.bool !feq (fsub b b) 0)) ([]) (!feq (fsub a a) 0) (Value.bool !feq (fsub b b) 0)), (bP (!feq (fsub b b) 0) false), (bP (feq a 0 && feq b 0) false), (bP (fgt (fabs b) (fabs a)) true), (bP (flt a 0) false), (bP (feq (fsub 4598175219545276416 (wPart_0 (fdiv (fmin (fabs a) (fabs b)) (fmax (fabs a) (fabs b))))) 4602678819172646912) true)]) (σ1 := []) (by kernel_rfl) ⟨bP_of (fun x => (!x) == false) h0, ⟨bP_of (fun x => (!x) == false) h0, ⟨bP_of (fun x => (!x) == false) h0, ⟨bP_of (fun x => (!x) == false) h0, ⟨pP_f _ _ _ (congrArg (fun bb => (!bb)) h0), ⟨bP_of (fun x => !x) h1, ⟨bP_of (fun x => x) h2, ⟨bP_of (fun x => x) h3, ⟨bP_of (fun x => x) h4, ⟨bP_of (fun x => x) h5, trivial⟩⟩⟩⟩⟩⟩⟩⟩⟩⟩ rfl rfl
theorem wAngle_p5 (a : Nat) (b : Nat) (σ : AHeap) (h0 : (feq (fsub a a) 0) = true) (h1 : (feq (fsub b b) 0) = true) (h2 : (feq a 0 && feq b 0) = false) (h3 : (fgt (fabs b) (fabs a)) = true) (h4 : (flt a 0) = false) (h5 : (feq (fsub 4598175219545276416 (wPart_0 (fdiv (fmin (fabs a) (fabs b)) (fmax (fabs a) (fabs b))))) 4602678819172646912) = false) (h6 : (flt b 0) = true) : CallR Try.prog false 38 [Value.complex .f64 a b] σ (Value.float .f64 (fadd (aneg false (fsub 4598175219545276416 (wPart_0 (fdiv (fmin (fabs a) (fabs b)) (fmax (fabs a) (fabs b)))))) 0)) σ := CallR.of_DO_pure (C := dL10) dL10_ok Try.func38 wAngle_fok (n := 100) (orc := [(24, Item.br true), (26, Item.br true), (28, Item.br true), (30, Item.br true), (33, Item.res (Value.bool !feq (fsub b b) 0)), (36, Item.br false), (43, Item.br false), (80, Item.br true), (91, Item.br false), (98, Item.br false), (105, Item.br true)]) (ps := [(bP ((!feq (fsub a a) 0) == false) true), (bP ((!feq (fsub a a) 0) == false) true), (bP ((!feq (fsub a a) 0) == false) true), (bP ((!feq (fsub a a) 0) == false) true), (pP (some (Value.bool true)) (some (Value.bool !feq (fsub b b) 0)) ([]) (!feq (fsub a a) 0) (Value.bool !feq (fsub b b) 0)), (bP (!feq (fsub b b) 0) false), (bP (feq a 0 && feq b 0) false), (bP (fgt (fabs b) (fabs a)) true), (bP (flt a 0) false), (bP (feq (fsub 4598175219545276416 (wPart_0 (fdiv (fmin (fabs a) (fabs b)) (fmax (fabs a) (fabs b))))) 4602678819172646912) false), (bP (flt b 0) true)]) (σ1 := []) (by kernel_rfl) ⟨bP_of (fun x => (!x) == false) h0, ⟨bP_of (fun x => (!x) == false) h0, ⟨bP_of (fun x => (!x) == false) h0, ⟨bP_of (fun x => (!x) == false) h0, ⟨pP_f _ _ _ (congrArg (fun bb => (!bb)) h0), ⟨bP_of (fun x => !x) h1, ⟨bP_of (fun x => x) h2, ⟨bP_of (fun x => x) h3, ⟨bP_of (fun x => x) h4, ⟨bP_of (fun x => x) h5, ⟨bP_of (fun x => x) h6, trivial⟩⟩⟩⟩⟩⟩⟩⟩⟩⟩⟩ rfl rfl
theorem wAngle_p6 (a : Nat) (b : Nat) (σ : AHeap) (h0 : (feq (fsub a a) 0) = true) (h1 : (feq (fsub b b) 0) = true) (h2 : (feq a 0 && feq b 0) = false) (h3 : (fgt (fabs b) (fabs a)) = true) (h4 : (flt a 0) = false) (h5 : (feq (fsub 4598175219545276416 (wPart_0 (fdiv (fmin (fabs a) (fabs b)) (fmax (fabs a) (fabs b))))) 4602678819172646912) = false) (h6 : (flt b 0) = false) : CallR Try.prog false 38 [Value.complex .f64 a b] σ (Value.float .f64 (fadd (fsub 4598175219545276416 (wPart_0 (fdiv (fmin (fabs a) (fabs b)) (fmax (fabs a) (fabs b))))) 0)) σ := CallR.of_DO_pure (C := dL10) dL10_ok Try.func38 wAngle_fok (n := 100) (orc := [(24, Item.br true), (26, Item.br true), (28, Item.br true), (30, Item.br true), (33, Item.res (Value.bool !feq (fsub b b) 0)), (36, Item.br false), (43, Item.br false), (80, Item.br true), (91, Item.br false), (98, Item.br false), (105, Item.br false)]) (ps := [(bP ((!feq (fsub a a) 0) == false) true), (bP ((!feq (fsub a a) 0) == false) true), (bP ((!feq (fsub a a) 0) == false) true), (bP ((!feq (fsub a a) 0) == false) true), (pP (some (Value.bool true)) (some (Value.bool !feq (fsub b b) 0)) ([]) (!feq (fsub a a) 0) (Value.bool !feq (fsub b b) 0)), (bP (!feq (fsub b b) 0) false), (bP (feq a 0 && feq b 0) false), (bP (fgt (fabs b) (fabs a)) true), (bP (flt a 0) false), (bP (feq (fsub 4598175219545276416 (wPart_0 (fdiv (fmin (fabs a) (fabs b)) (fmax (fabs a) (fabs b))))) 4602678819172646912) false), (bP (flt b 0) false)]) (σ1 := []) (by kernel_rfl) ⟨bP_of (fun x => (!x) == false) h0, ⟨bP_of (fun x => (!x) == false) h0, ⟨bP_of (fun x => (!x) == false) h0, ⟨bP_of (fun x => (!x) == false) h0, ⟨pP_f _ _ _ (congrArg (fun bb => (!bb)) h0), ⟨bP_of (fun x => !x) h1, ⟨bP_of (fun x => x) h2, ⟨bP_of (fun x => x) h3, ⟨bP_of (fun x => x) h4, ⟨bP_of (fun x => x) h5, ⟨bP_of (fun x => x) h6, trivial⟩⟩⟩⟩⟩⟩⟩⟩⟩⟩⟩ rfl rfl
theorem wAngle_p7 (a : Nat) (b : Nat) (σ : AHeap) (h0 : (feq (fsub a a) 0) = true) (h1 : (feq (fsub b b) 0) = true) (h2 : (feq a 0 && feq b 0) = false) (h3 : (fgt (fabs b) (fabs a)) = false) (h4 : (flt a 0) = true) (h5 : (feq (fsub 4602678819172646912 (wPart_0 (fdiv (fmin (fabs a) (fabs b)) (fmax (fabs a) (fabs b))))) 4602678819172646912) = true) : CallR Try.prog false 38 [Value.complex .f64 a b] σ (Value.float .f64 13826050856027422720) σ := CallR.of_DO_pure (C := dL10) dL10_ok Try.func38 wAngle_fok (n := 100) (orc := [(24, Item.br true), (26, Item.br true), (28, Item.br true), (30, Item.br true), (33, Item.res (Value.bool !feq (fsub b b) 0)), (36, Item.br false), (43, Item.br false), (80, Item.br false), (85, Item.br true), (98, Item.br true)]) (ps := [(bP ((!feq (fsub a a) 0) == false) true), (bP ((!feq (fsub a a) 0) == false) true), (bP ((!feq (fsub a a) 0) == false) true), (bP ((!feq (fsub a a) 0) == false) true), (pP (some (Value.bool true)) (some (Value.bool !feq (fsub b b) 0)) ([]) (!feq (fsub a a) 0) (Value.bool !feq (fsub b b) 0)), (bP (!feq (fsub b b) 0) false), (bP (feq a 0 && feq b 0) false), (bP (fgt (fabs b) (fabs a)) false), (bP (flt a 0) true), (bP (feq (fsub 4602678819172646912 (wPart_0 (fdiv (fmin (fabs a) (fabs b)) (fmax (fabs a) (fabs b))))) 4602678819172646912) true)]) (σ1 := []) (by kernel_rfl) ⟨bP_of (fun x => (!x) == false) h0, ⟨bP_of (fun x => (!x) == false) h0, ⟨bP_of (fun x => (!x) == false) h0, ⟨bP_of (fun x => (!x) == false) h0, ⟨pP_f _ _ _ (congrArg (fun bb => (!bb)) h0), ⟨bP_of (fun x => !x) h1, ⟨bP_of (fun x => x) h2, ⟨bP_of (fun x => x) h3, ⟨bP_of (fun x => x) h4, ⟨bP_of (fun x => x) h5, trivial⟩⟩⟩⟩⟩⟩⟩⟩⟩⟩ rfl rfl
theorem wAngle_p8 (a : Nat) (b : Nat) (σ : AHeap) (h0 : (feq (fsub a a) 0) = true) (h1 : (feq (fsub b b) 0) = true) (h2 : (feq a 0 && feq b 0) = false) (h3 : (fgt (fabs b) (fabs a)) = false) (h4 : (flt a 0) = true) (h5 : (feq (fsub 4602678819172646912 (wPart_0 (fdiv (fmin (fabs a) (fabs b)) (fmax (fabs a) (fabs b))))) 4602678819172646912) = false) (h6 : (flt b 0) = true) : CallR Try.prog false 38 [Value.complex .f64 a b] σ (Value.float .f64 (fadd (aneg false (fsub 4602678819172646912 (wPart_0 (fdiv (fmin (fabs a) (fabs b)) (fmax (fabs a) (fabs b)))))) 0)) σ := CallR.of_DO_pure (C := dL10) dL10_ok Try.func38 wAngle_fok (n := 100) (orc := [(24, Item.br true), (26, Item.br true), (28, Item.br true), (30, Item.br true), (33, Item.res (Value.bool !feq (fsub b b) 0)), (36, Item.br false), (43, Item.br false), (80, Item.br false), (85, Item.br true), (98, Item.br false), (105, Item.br true)]) (ps := [(bP ((!feq (fsub a a) 0) == false) true), (bP ((!feq (fsub a a) 0) == false) true), (bP ((!feq (fsub a a) 0) == false) true), (bP ((!feq (fsub a a) 0) == false) true), (pP (some (Value.bool true)) (some (Value.bool !feq (fsub b b) 0)) ([]) (!feq (fsub a a) 0) (Value.bool !feq (fsub b b) 0)), (bP (!feq (fsub b b) 0) false), (bP (feq a 0 && feq b 0) false), (bP (fgt (fabs b) (fabs a)) false), (bP (flt a 0) true), (bP (feq (fsub 4602678819172646912 (wPart_0 (fdiv (fmin (fabs a) (fabs b)) (fmax (fabs a) (fabs b))))) 4602678819172646912) false), (bP (flt b 0) true)]) (σ1 := []) (by kernel_rfl) ⟨bP_of (fun x => (!x) == false) h0, ⟨bP_of (fun x => (!x) == false) h0, ⟨bP_of (fun x => (!x) == false) h0, ⟨bP_of (fun x => (!x) == false) h0, ⟨pP_f _ _ _ (congrArg (fun bb => (!bb)) h0), ⟨bP_of (fun x => !x) h1, ⟨bP_of (fun x => x) h2, ⟨bP_of (fun x => x) h3, ⟨bP_of (fun x => x) h4, ⟨bP_of (fun x => x) h5, ⟨bP_of (fun x => x) h6, trivial⟩⟩⟩⟩⟩⟩⟩⟩⟩⟩⟩ rfl rfl
theorem wAngle_p9 (a : Nat) (b : Nat) (σ : AHeap) (h0 : (feq (fsub a a) 0) = true) (h1 : (feq (fsub b b) 0) = true) (h2 : (feq a 0 && feq b 0) = false) (h3 : (fgt (fabs b) (fabs a)) = false) (h4 : (flt a 0) = true) (h5 : (feq (fsub 4602678819172646912 (wPart_0 (fdiv (fmin (fabs a) (fabs b)) (fmax (fabs a) (fabs b))))) 4602678819172646912) = false) (h6 : (flt b 0) = false) : CallR Try.prog false 38 [Value.complex .f64 a b] σ (Value.float .f64 (fadd (fsub 4602678819172646912 (wPart_0 (fdiv (fmin (fabs a) (fabs b)) (fmax (fabs a) (fabs b))))) 0)) σ := CallR.of_DO_pure (C := dL10) dL10_ok Try.func38 wAngle_fok (n := 100) (orc := [(24, Item.br true), (26, Item.br true), (28, Item.br true), (30, Item.br true), (33, Item.res (Value.bool !feq (fsub b b) 0)), (36, Item.br false), (43, Item.br false), (80, Item.br false), (85, Item.br true), (98, Item.br false), (105, Item.br false)]) (ps := [(bP ((!feq (fsub a a) 0) == false) true), (bP ((!feq (fsub a a) 0) == false) true), (bP ((!feq (fsub a a) 0) == false) true), (bP ((!feq (fsub a a) 0) == false) true), (pP (some (Value.bool true)) (some (Value.bool !feq (fsub b b) 0)) ([]) (!feq (fsub a a) 0) (Value.bool !feq (fsub b b) 0)), (bP (!feq (fsub b b) 0) false), (bP (feq a 0 && feq b 0) false), (bP (fgt (fabs b) (fabs a)) false), (bP (flt a 0) true), (bP (feq (fsub 4602678819172646912 (wPart_0 (fdiv (fmin (fabs a) (fabs b)) (fmax (fabs a) (fabs b))))) 4602678819172646912) false), (bP (flt b 0) false)]) (σ1 := []) (by kernel_rfl) ⟨bP_of (fun x => (!x) == false) h0, ⟨bP_of (fun x => (!x) == false) h0, ⟨bP_of (fun x => (!x) == false) h0, ⟨bP_of (fun x => (!x) == false) h0, ⟨pP_f _ _ _ (congrArg (fun bb => (!bb)) h0), ⟨bP_of (fun x => !x) h1, ⟨bP_of (fun x => x) h2, ⟨bP_of (fun x => x) h3, ⟨bP_of (fun x => x) h4, ⟨bP_of (fun x => x) h5, ⟨bP_of (fun x => x) h6, trivial⟩⟩⟩⟩⟩⟩⟩⟩⟩⟩⟩ rfl rfl
theorem wAngle_p10 (a : Nat) (b : Nat) (σ : AHeap) (h0 : (feq (fsub a a) 0) = true) (h1 : (feq (fsub b b) 0) = true) (h2 : (feq a 0 && feq b 0) = false) (h3 : (fgt (fabs b) (fabs a)) = false) (h4 : (flt a 0) = false) (h5 : (feq (wPart_0 (fdiv (fmin (fabs a) (fabs b)) (fmax (fabs a) (fabs b)))) 4602678819172646912) = true) : CallR Try.prog false 38 [Value.complex .f64 a b] σ (Value.float .f64 13826050856027422720) σ := CallR.of_DO_pure (C := dL10) dL10_ok Try.func38 wAngle_fok (n := 100) (orc := [(24, Item.br true), (26, Item.br true), (28, Item.br true), (30, Item.br true), (33, Item.res (Value.bool !feq (fsub b b) 0)), (36, Item.br false), (43, Item.br false), (80, Item.br false), (85, Item.br false), (92, Item.br true)]) (ps := [(bP ((!feq (fsub a a) 0) == false) true), (bP ((!feq (fsub a a) 0) == false) true), (bP ((!feq (fsub a a) 0) == false) true), (bP ((!feq (fsub a a) 0) == false) true), (pP (some (Value.bool true)) (some (Value.bool !feq (fsub b b) 0)) ([]) (!feq (fsub a a) 0) (Value.bool !feq (fsub b b) 0)), (bP (!feq (fsub b b) 0) false), (bP (feq a 0 && feq b 0) false), (bP (fgt (fabs b) (fabs a)) false), (bP (flt a 0) false), (bP (feq (wPart_0 (fdiv (fmin (fabs a) (fabs b)) (fmax (fabs a) (fabs b)))) 4602678819172646912) true)]) (σ1 := []) (by kernel_rfl) ⟨bP_of (fun x => (!x) == false) h0, ⟨bP_of (fun x => (!x) == false) h0, ⟨bP_of (fun x => (!x) == false) h0, ⟨bP_of (fun x => (!x) == false) h0, ⟨pP_f _ _ _ (congrArg (fun bb => (!bb)) h0), ⟨bP_of (fun x => !x) h1, ⟨bP_of (fun x => x) h2, ⟨bP_of (fun x => x) h3, ⟨bP_of (fun x => x) h4, ⟨bP_of (fun x => x) h5, trivial⟩⟩⟩⟩⟩⟩⟩⟩⟩⟩ rfl rfl
theorem wAngle_p11 (a : Nat) (b : Nat) (σ : AHeap) (h0 : (feq (fsub a a) 0) = true) (h1 : (feq (fsub b b) 0) = true) (h2 : (feq a 0 && feq b 0) = false) (h3 : (fgt (fabs b) (fabs a)) = false) (h4 : (flt a 0) = false) (h5 : (feq (wPart_0 (fdiv (fmin (fabs a) (fabs b)) (fmax (fabs a) (fabs b)))) 4602678819172646912) = false) (h6 : (flt b 0) = true) : CallR Try.prog false 38 [Value.complex .f64 a b] σ (Value.float .f64 (fadd (aneg false (wPart_0 (fdiv (fmin (fabs a) (fabs b)) (fmax (fabs a) (fabs b))))) 0)) σ := CallR.of_DO_pure (C := dL10) dL10_ok Try.func38 wAngle_fok (n := 100) (orc := [(24, Item.br true), (26, Item.br true), (28, Item.br true), (30, Item.br true), (33, Item.res (Value.bool !feq (fsub b b) 0)), (36, Item.br false), (43, Item.br false), (80, Item.br false), (85, Item.br false), (92, Item.br false), (99, Item.br true)]) (ps := [(bP ((!feq (fsub a a) 0) == false) true), (bP ((!feq (fsub a a) 0) == false) true), (bP ((!feq (fsub a a) 0) == false) true), (bP ((!feq (fsub a a) 0) == false) true), (pP (some (Value.bool true)) (some (Value.bool !feq (fsub b b) 0)) ([]) (!feq (fsub a a) 0) (Value.bool !feq (fsub b b) 0)), (bP (!feq (fsub b b) 0) false), (bP (feq a 0 && feq b 0) false), (bP (fgt (fabs b) (fabs a)) false), (bP (flt a 0) false), (bP (feq (wPart_0 (fdiv (fmin (fabs a) (fabs b)) (fmax (fabs a) (fabs b)))) 4602678819172646912) false), (bP (flt b 0) true)]) (σ1 := []) (by kernel_rfl) ⟨bP_of (fun x => (!x) == false) h0, ⟨bP_of (fun x => (!x) == false) h0, ⟨bP_of (fun x => (!x) == false) h0, ⟨bP_of (fun x => (!x) == false) h0, ⟨pP_f _ _ _ (congrArg (fun bb => (!bb)) h0), ⟨bP_of (fun x => !x) h1, ⟨bP_of (fun x => x) h2, ⟨bP_of (fun x => x) h3, ⟨bP_of (fun x => x) h4, ⟨bP_of (fun x => x) h5, ⟨bP_of (fun x => x) h6, trivial⟩⟩⟩⟩⟩⟩⟩⟩⟩⟩⟩ rfl rfl
theorem wAngle_p12 (a : Nat) (b : Nat) (σ : AHeap) (h0 : (feq (fsub a a) 0) = true) (h1 : (feq (fsub b b) 0) = true) (h2 : (feq a 0 && feq b 0) = false) (h3 : (fgt (fabs b) (fabs a)) = false) (h4 : (flt a 0) = false) (h5 : (feq (wPart_0 (fdiv (fmin (fabs a) (fabs b)) (fmax (fabs a) (fabs b)))) 4602678819172646912) = false) (h6 : (flt b 0) = false) : CallR Try.prog false 38 [Value.complex .f64 a b] σ (Value.float .f64 (fadd (wPart_0 (fdiv (fmin (fabs a) (fabs b)) (fmax (fabs a) (fabs b)))) 0)) σ := CallR.of_DO_pure (C := dL10) dL10_ok Try.func38 wAngle_fok (n := 100) (orc := [(24, Item.br true), (26, Item.br true), (28, Item.br true), (30, Item.br true), (33, Item.res (Value.bool !feq (fsub b b) 0)), (36, Item.br false), (43, Item.br false), (80, Item.br false), (85, Item.br false), (92, Item.br false), (99, Item.br false)]) (ps := [(bP ((!feq (fsub a a) 0) == false) true), (bP ((!feq (fsub a a) 0) == false) true), (bP ((!feq (fsub a a) 0) == false) true), (bP ((!feq (fsub a a) 0) == false) true), (pP (some (Value.bool true)) (some (Value.bool !feq (fsub b b) 0)) ([]) (!feq (fsub a a) 0) (Value.bool !feq (fsub b b) 0)), (bP (!feq (fsub b b) 0) false), (bP (feq a 0 && feq b 0) false), (bP (fgt (fabs b) (fabs a)) false), (bP (flt a 0) false), (bP (feq (wPart_0 (fdiv (fmin (fabs a) (fabs b)) (fmax (fabs a) (fabs b)))) 4602678819172646912) false), (bP (flt b 0) false)]) (σ1 := []) (by kernel_rfl) ⟨bP_of (fun x => (!x) == false) h0, ⟨bP_of (fun x => (!x) == false) h0, ⟨bP_of (fun x => (!x) == false) h0, ⟨bP_of (fun x => (!x) == false) h0, ⟨pP_f _ _ _ (congrArg (fun bb => (!bb)) h0), ⟨bP_of (fun x => !x) h1, ⟨bP_of (fun x => x) h2, ⟨bP_of (fun x => x) h3, ⟨bP_of (fun x => x) h4, ⟨bP_of (fun x => x) h5, ⟨bP_of (fun x => x) h6, trivial⟩⟩⟩⟩⟩⟩⟩⟩⟩⟩⟩ rfl rfl
theorem wAngle_p13 (a : Nat) (b : Nat) (σ : AHeap) (h0 : (feq (fsub a a) 0) = true) (h1 : (feq (fsub b b) 0) = false) : CallR Try.prog false 38 [Value.complex .f64 a b] σ (Value.float .f64 9221120237041090561) σ := CallR.of_DO_pure (C := dL10) dL10_ok Try.func38 wAngle_fok (n := 100) (orc := [(24, Item.br true), (26, Item.br true), (28, Item.br true), (30, Item.br true), (33, Item.res (Value.bool !feq (fsub b b) 0)), (36, Item.br true)]) (ps := [(bP ((!feq (fsub a a) 0) == false) true), (bP ((!feq (fsub a a) 0) == false) true), (bP ((!feq (fsub a a) 0) == false) true), (bP ((!feq (fsub a a) 0) == false) true), (pP (some (Value.bool true)) (some (Value.bool !feq (fsub b b) 0)) ([]) (!feq (fsub a a) 0) (Value.bool !feq (fsub b b) 0)), (bP (!feq (fsub b b) 0) true)]) (σ1 := []) (by kernel_rfl) ⟨bP_of (fun x => (!x) == false) h0, ⟨bP_of (fun x => (!x) == false) h0, ⟨bP_of (fun x => (!x) == false) h0, ⟨bP_of (fun x => (!x) == false) h0, ⟨pP_f _ _ _ (congrArg (fun bb => (!bb)) h0), ⟨bP_of (fun x => !x) h1, trivial⟩⟩⟩⟩⟩⟩ rfl rfl
theorem wAngle_p14 (a : Nat) (b : Nat) (σ : AHeap) (h0 : (feq (fsub a a) 0) = false) : CallR Try.prog false 38 [Value.complex .f64 a b] σ (Value.float .f64 9221120237041090561) σ := CallR.of_DO_pure (C := dL10) dL10_ok Try.func38 wAngle_fok (n := 100) (orc := [(24, Item.br false), (26, Item.br false), (28, Item.br false), (30, Item.br false), (33, Item.res (Value.bool true))]) (ps := [(bP ((!feq (fsub a a) 0) == false) false), (bP ((!feq (fsub a a) 0) == false) false), (bP ((!feq (fsub a a) 0) == false) false), (bP ((!feq (fsub a a) 0) == false) false), (pP (some (Value.bool true)) (none) ([]) (!feq (fsub a a) 0) (Value.bool true))]) (σ1 := []) (by kernel_rfl) ⟨bP_of (fun x => (!x) == false) h0, ⟨bP_of (fun x => (!x) == false) h0, ⟨bP_of (fun x => (!x) == false) h0, ⟨bP_of (fun x => (!x) == false) h0, ⟨pP_t _ _ _ (congrArg (fun bb => (!bb)) h0), trivial⟩⟩⟩⟩⟩ rfl rfl
def wAngle_t (a : Nat) (b : Nat) : Value := (bif feq (fsub a a) 0 then (bif feq (fsub b b) 0 then (bif feq a 0 && feq b 0 then (Value.float .f64 0) else (bif fgt (fabs b) (fabs a) then (bif flt a 0 then (bif feq (fsub 4602678819172646912 (fsub 4598175219545276416 (wPart_0 (fdiv (fmin (fabs a) (fabs b)) (fmax (fabs a) (fabs b)))))) 4602678819172646912 then (Value.float .f64 13826050856027422720) else (bif flt b 0 then (Value.float .f64 (fadd (aneg false (fsub 4602678819172646912 (fsub 4598175219545276416 (wPart_0 (fdiv (fmin (fabs a) (fabs b)) (fmax (fabs a) (fabs b))))))) 0)) else (Value.float .f64 (fadd (fsub 4602678819172646912 (fsub 4598175219545276416 (wPart_0 (fdiv (fmin (fabs a) (fabs b)) (fmax (fabs a) (fabs b)))))) 0)))) else (bif feq (fsub 4598175219545276416 (wPart_0 (fdiv (fmin (fabs a) (fabs b)) (fmax (fabs a) (fabs b))))) 4602678819172646912 then (Value.float .f64 13826050856027422720) else (bif flt b 0 then (Value.float .f64 (fadd (aneg false (fsub 4598175219545276416 (wPart_0 (fdiv (fmin (fabs a) (fabs b)) (fmax (fabs a) (fabs b)))))) 0)) else (Value.float .f64 (fadd (fsub 4598175219545276416 (wPart_0 (fdiv (fmin (fabs a) (fabs b)) (fmax (fabs a) (fabs b))))) 0))))) else (bif flt a 0 then (bif feq (fsub 4602678819172646912 (wPart_0 (fdiv (fmin (fabs a) (fabs b)) (fmax (fabs a) (fabs b))))) 4602678819172646912 then (Value.float .f64 13826050856027422720) else (bif flt b 0 then (Value.float .f64 (fadd (aneg false (fsub 4602678819172646912 (wPart_0 (fdiv (fmin (fabs a) (fabs b)) (fmax (fabs a) (fabs b)))))) 0)) else (Value.float .f64 (fadd (fsub 4602678819172646912 (wPart_0 (fdiv (fmin (fabs a) (fabs b)) (fmax (fabs a) (fabs b))))) 0)))) else (bif feq (wPart_0 (fdiv (fmin (fabs a) (fabs b)) (fmax (fabs a) (fabs b)))) 4602678819172646912 then (Value.float .f64 13826050856027422720) else (bif flt b 0 then (Value.float .f64 (fadd (aneg false (wPart_0 (fdiv (fmin (fabs a) (fabs b)) (fmax (fabs a) (fabs b))))) 0)) else (Value.float .f64 (fadd (wPart_0 (fdiv (fmin (fabs a) (fabs b)) (fmax (fabs a) (fabs b)))) 0))))))) else (Value.float .f64 9221120237041090561)) else (Value.float .f64 9221120237041090561))
theorem wAngle_c (a : Nat) (b : Nat) (σ : AHeap) : CallR Try.prog false 38 [Value.complex .f64 a
    b] σ (wAngle_t a b) σ := by
  unfold wAngle_t
  exact (CallR.bif (fun h0 => (CallR.bif (fun h1 => (CallR.bif (fun h2 => (wAngle_p0 a b σ h0 h1 h2)) (fun h2 => (CallR.bif (fun h3 => (CallR.bif (fun h4 => (CallR.bif (fun h5 => (wAngle_p1 a b σ h0 h1 h2 h3 h4 h5)) (fun h5 => (CallR.bif (fun h6 => (wAngle_p2 a b σ h0 h1 h2 h3 h4 h5 h6)) (fun h6 => (wAngle_p3 a b σ h0 h1 h2 h3 h4 h5 h6)))))) (fun h4 => (CallR.bif (fun h5 => (wAngle_p4 a b σ h0 h1 h2 h3 h4 h5)) (fun h5 => (CallR.bif (fun h6 => (wAngle_p5 a b σ h0 h1 h2 h3 h4 h5 h6)) (fun h6 => (wAngle_p6 a b σ h0 h1 h2 h3 h4 h5 h6)))))))) (fun h3 => (CallR.bif (fun h4 => (CallR.bif (fun h5 => (wAngle_p7 a b σ h0 h1 h2 h3 h4 h5)) (fun h5 => (CallR.bif (fun h6 => (wAngle_p8 a b σ h0 h1 h2 h3 h4 h5 h6)) (fun h6 => (wAngle_p9 a b σ h0 h1 h2 h3 h4 h5 h6)))))) (fun h4 => (CallR.bif (fun h5 => (wAngle_p10 a b σ h0 h1 h2 h3 h4 h5)) (fun h5 => (CallR.bif (fun h6 => (wAngle_p11 a b σ h0 h1 h2 h3 h4 h5 h6)) (fun h6 => (wAngle_p12 a b σ h0 h1 h2 h3 h4 h5 h6)))))))))))) (fun h1 => (wAngle_p13 a b σ h0 h1)))) (fun h0 => (wAngle_p14 a b σ h0)))
def wAngle_0 (a : Nat) (b : Nat) : Nat := (bif feq (fsub a a) 0 then (bif feq (fsub b b) 0 then (bif feq a 0 && feq b 0 then 0 else (bif fgt (fabs b) (fabs a) then (bif flt a 0 then (bif feq (fsub 4602678819172646912 (fsub 4598175219545276416 (wPart_0 (fdiv (fmin (fabs a) (fabs b)) (fmax (fabs a) (fabs b)))))) 4602678819172646912 then 13826050856027422720 else (bif flt b 0 then fadd (aneg false (fsub 4602678819172646912 (fsub 4598175219545276416 (wPart_0 (fdiv (fmin (fabs a) (fabs b)) (fmax (fabs a) (fabs b))))))) 0 else fadd (fsub 4602678819172646912 (fsub 4598175219545276416 (wPart_0 (fdiv (fmin (fabs a) (fabs b)) (fmax (fabs a) (fabs b)))))) 0)) else (bif feq (fsub 4598175219545276416 (wPart_0 (fdiv (fmin (fabs a) (fabs b)) (fmax (fabs a) (fabs b))))) 4602678819172646912 then 13826050856027422720 else (bif flt b 0 then fadd (aneg false (fsub 4598175219545276416 (wPart_0 (fdiv (fmin (fabs a) (fabs b)) (fmax (fabs a) (fabs b)))))) 0 else fadd (fsub 4598175219545276416 (wPart_0 (fdiv (fmin (fabs a) (fabs b)) (fmax (fabs a) (fabs b))))) 0))) else (bif flt a 0 then (bif feq (fsub 4602678819172646912 (wPart_0 (fdiv (fmin (fabs a) (fabs b)) (fmax (fabs a) (fabs b))))) 4602678819172646912 then 13826050856027422720 else (bif flt b 0 then fadd (aneg false (fsub 4602678819172646912 (wPart_0 (fdiv (fmin (fabs a) (fabs b)) (fmax (fabs a) (fabs b)))))) 0 else fadd (fsub 4602678819172646912 (wPart_0 (fdiv (fmin (fabs a) (fabs b)) (fmax (fabs a) (fabs b))))) 0)) else (bif feq (wPart_0 (fdiv (fmin (fabs a) (fabs b)) (fmax (fabs a) (fabs b)))) 4602678819172646912 then 13826050856027422720 else (bif flt b 0 then fadd (aneg false (wPart_0 (fdiv (fmin (fabs a) (fabs b)) (fmax (fabs a) (fabs b))))) 0 else fadd (wPart_0 (fdiv (fmin (fabs a) (fabs b)) (fmax (fabs a) (fabs b)))) 0))))) else 9221120237041090561) else 9221120237041090561)
theorem wAngle_v (a : Nat) (b : Nat) : wAngle_t a b = Go.Value.float Go.FloatKind.f64 (wAngle_0 a b) := by
  unfold wAngle_t wAngle_0
  cases (feq (fsub a a) 0) with
  | true =>
    cases (feq (fsub b b) 0) with
    | true =>
      cases (feq a 0 && feq b 0) with
      | true =>
        kernel_rfl
      | false =>
        cases (fgt (fabs b) (fabs a)) with
        | true =>
          cases (flt a 0) with
          | true =>
            cases (feq
  (fsub 4602678819172646912
    (fsub 4598175219545276416 (wPart_0 (fdiv (fmin (fabs a) (fabs b)) (fmax (fabs a) (fabs b))))))
  4602678819172646912) with
            | true =>
              kernel_rfl
            | false =>
              cases (flt b 0) with
              | true =>
                kernel_rfl
              | false =>
                kernel_rfl
          | false =>
            cases (feq (fsub 4598175219545276416 (wPart_0 (fdiv (fmin (fabs a) (fabs b)) (fmax (fabs a) (fabs b)))))
  4602678819172646912) with
            | true =>
              kernel_rfl
            | false =>
              cases (flt b 0) with
              | true =>
                kernel_rfl
              | false =>
                kernel_rfl
        | false =>
          cases (flt a 0) with
          | true =>
            cases (feq (fsub 4602678819172646912 (wPart_0 (fdiv (fmin (fabs a) (fabs b)) (fmax (fabs a) (fabs b)))))
  4602678819172646912) with
            | true =>
              kernel_rfl
            | false =>
              cases (flt b 0) with
              | true =>
                kernel_rfl
              | false =>
                kernel_rfl
          | false =>
            cases (feq (wPart_0 (fdiv (fmin (fabs a) (fabs b)) (fmax (fabs a) (fabs b)))) 4602678819172646912) with
            | true =>
              kernel_rfl
            | false =>
              cases (flt b 0) with
              | true =>
                kernel_rfl
              | false =>
                kernel_rfl
    | false =>
      kernel_rfl
  | false =>
    kernel_rfl
theorem wAngle_ok (a : Nat) (b : Nat) (σ : AHeap) : CallR Try.prog false 38 [Value.complex .f64 a
    b] σ (Go.Value.float Go.FloatKind.f64 (wAngle_0 a b)) σ := by
  have h := wAngle_c a b σ
  rw [wAngle_v] at h
  exact h
end Go.Lk
end

section
/- Angles of any two sides. -/
namespace Go.Lk
set_option linter.unusedSimpArgs false
set_option linter.unusedVariables false
set_option maxRecDepth 10000
set_option maxHeartbeats 1000000
def Sides (a b : Nat) (β r e : Rat) : Prop := 0 ≤ β ∧ β ≤ 1 / 4 ∧
  ((β ≤ 1 / 8 ∧ Bd (qv (rg a) - r * cF (β * cir)) (r * e) ∧ Bd (qv (rg b) - r * sF (β * cir)) (r * e)) ∨
   (1 / 8 ≤ β ∧ Bd (qv (rg a) - r * sF ((1 / 4 - β) * cir)) (r * e) ∧ Bd (qv (rg b) - r * cF ((1 / 4 - β) * cir)) (r * e)))
theorem Sides.quad {a b : Nat} {β r e : Rat} (h : Sides a b β r e) (ha : isFin a = true) (hb : isFin b = true) (hr : 0 < r) (he : e ≤ 1 / 100000) : isFin (Lk.quad (rg a) (rg b)) = true ∧ Bd (qv (Lk.quad (rg a) (rg b)) - β) (3 * e + 18 * eta) := by
  obtain ⟨h0, h1, h2⟩ := h
  rcases h2 with ⟨h2, h3, h4⟩ | ⟨h2, h3, h4⟩
  · exact quadA (fin_rg ha) (fin_rg hb) (rg_sg a) (rg_sg b) h0 h2 hr he h3 h4
  · exact quadB (fin_rg ha) (fin_rg hb) (rg_sg a) (rg_sg b) h2 h1 hr he h3 h4
theorem cs_q {β : Rat} (h0 : 0 ≤ β) (h1 : β ≤ 1 / 8) : 0 ≤ β * cir ∧ β * cir ≤ YY ∧ 55 / 10 * β ≤ sF (β * cir) ∧ 6 / 10 ≤ cF (β * cir) ∧ sF (β * cir) ≤ 786 / 1000 ∧ cF (β * cir) ≤ 1 := by
  obtain ⟨r1, r2, r3, r4⟩ := cir_le
  have y0 := Rat.mul_nonneg h0 (show 0 ≤ cir by grind)
  have y1 : β * cir ≤ YY := by have := Rat.mul_le_mul_of_nonneg_right h1 (c := cir) (by grind); grind
  obtain ⟨q1, q2, q3, q4, q5, q6, q7⟩ := cs_range y0 y1
  have hY : YY ≤ 786 / 1000 := by decide +kernel
  have := Rat.mul_nonneg h0 (show 0 ≤ cir - 628 / 100 by grind)
  exact ⟨y0, y1, by grind, q7, by grind, by grind⟩
/-- No second side: no angle. -/
theorem Sides.flat {a b : Nat} {β r e : Rat} (h : Sides a b β r e) (hr : 0 < r) (he : e ≤ 1 / 100000) (hb : qv (rg b) = 0) : β ≤ e / 5 := by
  obtain ⟨h0, h1, h2⟩ := h
  rcases h2 with ⟨h2, h3, h4⟩ | ⟨h2, h3, h4⟩
  · obtain ⟨_, _, q3, _⟩ := cs_q h0 h2
    have : sF (β * cir) ≤ e := le_cancel hr (by have := h4.1; rw [hb] at this; grind)
    grind
  · obtain ⟨_, _, _, q4, _⟩ := cs_q (show 0 ≤ 1 / 4 - β by grind) (by grind)
    have : cF ((1 / 4 - β) * cir) ≤ e := le_cancel hr (by have := h4.1; rw [hb] at this; grind)
    grind
/-- No first side: a quarter. -/
theorem Sides.steep {a b : Nat} {β r e : Rat} (h : Sides a b β r e) (hr : 0 < r) (he : e ≤ 1 / 100000) (ha : qv (rg a) = 0) : 1 / 4 - β ≤ e / 5 := by
  obtain ⟨h0, h1, h2⟩ := h
  rcases h2 with ⟨h2, h3, h4⟩ | ⟨h2, h3, h4⟩
  · obtain ⟨_, _, _, q4, _⟩ := cs_q h0 h2
    have : cF (β * cir) ≤ e := le_cancel hr (by have := h3.1; rw [ha] at this; grind)
    grind
  · obtain ⟨_, _, q3, _⟩ := cs_q (show 0 ≤ 1 / 4 - β by grind) (by grind)
    have : sF ((1 / 4 - β) * cir) ≤ e := le_cancel hr (by have := h3.1; rw [ha] at this; grind)
    grind
theorem Sides.pos {a b : Nat} {β r e : Rat} (h : Sides a b β r e) (hr : 0 < r) (he : e ≤ 1 / 100000) : 0 < qv (rg a) ∨ 0 < qv (rg b) := by
  obtain ⟨h0, h1, h2⟩ := h
  have key : ∀ {v c : Rat}, 6 / 10 ≤ c → Bd (v - r * c) (r * e) → 0 < v := by
    intro v c hc hv
    have k1 := Rat.mul_le_mul_of_nonneg_left hc (c := r) (Rat.le_of_lt hr)
    have k2 := Rat.mul_le_mul_of_nonneg_left he (c := r) (Rat.le_of_lt hr)
    have := hv.1
    grind
  rcases h2 with ⟨h2, h3, h4⟩ | ⟨h2, h3, h4⟩
  · exact .inl (key (cs_q h0 h2).2.2.2.1 h3)
  · exact .inr (key (cs_q (show 0 ≤ 1 / 4 - β by grind) (by grind)).2.2.2.1 h4)
/-! ### Angle -/
theorem canon_bif {c : Bool} {x y : Nat} (hx : Canon x) (hy : Canon y) : Canon (bif c then x else y) := by cases c; exact hy; exact hx
theorem canon_part (q : Nat) : Canon (wPart_0 q) := by
  rw [part_eq]
  exact canon_bif (Canon.fsub _ _) (by unfold partR; exact Canon.fdiv _ _)
theorem canon_quad (X Y : Nat) : Canon (quad X Y) := by
  unfold quad
  exact canon_bif (Canon.fsub _ _) (canon_part _)
def half1 (a t : Nat) : Nat := bif flt a 0 then fsub 4602678819172646912 t else t
def angP (a b : Nat) : Nat := bif feq (half1 a (quad (fabs a) (fabs b))) 4602678819172646912 then 13826050856027422720 else bif flt b 0 then fadd (aneg false (half1 a (quad (fabs a) (fabs b)))) 0 else fadd (half1 a (quad (fabs a) (fabs b))) 0
theorem angle_form {a b : Nat} (h1 : feq (fsub a a) 0 = true) (h2 : feq (fsub b b) 0 = true) (h3 : (feq a 0 && feq b 0) = false) : wAngle_0 a b = angP a b := by
  unfold wAngle_0 angP half1 quad
  rw [h1, h2, h3]
  simp only [cond_true, cond_false]
  cases fgt (fabs b) (fabs a) <;> cases flt a 0 <;> simp only [cond_true, cond_false]
theorem zero_q : qv 0 = 0 := by decide +kernel
theorem qv_clean {v : Nat} (hc : Canon v) (hf : isFin v = true) : isFin (fadd v 0) = true ∧ qv (fadd v 0) = qv v := by
  obtain ⟨h1, h2⟩ := fx_clean hc hf
  exact ⟨h1, by unfold qv; rw [h2]⟩
theorem qv_neg {v : Nat} (hc : Canon v) (hf : isFin v = true) : isFin (aneg false v) = true ∧ qv (aneg false v) = -qv v ∧ Canon (aneg false v) := by
  obtain ⟨h1, h2, h3⟩ := fx_neg hc hf
  exact ⟨h1, by unfold qv; rw [h2, Rat.intCast_neg, Rat.div_def, Rat.div_def, Rat.neg_mul], h3⟩
theorem qv_zero_rg {x : Nat} (h : isFin x = true) : qv (rg x) = 0 ↔ qv x = 0 := by
  have := qv_rg_abs h
  constructor
  · intro h0
    rw [h0] at this
    rcases Rat.mul_eq_zero.1 (show qv x * qv x = 0 by grind) with h | h <;> exact h
  · intro h0
    rw [h0] at this
    rcases Rat.mul_eq_zero.1 (show qv (rg x) * qv (rg x) = 0 by grind) with h | h <;> exact h
theorem feq_zero {x : Nat} (h : isFin x = true) : feq x 0 = true ↔ qv x = 0 := by
  rw [feq_fin h fin_zero]
  constructor
  · intro h1
    have h2 := of_decide_eq_true h1
    have : qv x = qv 0 := congrArg (fun z : Int => (z : Rat) / UR) h2
    rw [this, zero_q]
  · intro h1
    refine decide_eq_true ?_
    have h2 := qv_U x
    rw [h1] at h2
    have h3 : ((fx x : Int) : Rat) = ((0 : Int) : Rat) := by rw [← h2]; grind
    exact Rat.intCast_inj.1 h3
theorem flt_qv {x y : Nat} (hx : isFin x = true) (hy : isFin y = true) : (flt x y = true → qv x < qv y) ∧ (flt x y = false → qv y ≤ qv x) := by
  have h := fgt_qv hy hx
  have e : flt x y = fgt y x := by rw [flt_fin hx hy, fgt_fin hy hx]
  rw [e]; exact h
end Go.Lk
end

section
/- The sides of a turn. -/
namespace Go.Lk
set_option linter.unusedSimpArgs false
set_option linter.unusedVariables false
set_option maxRecDepth 10000
set_option maxHeartbeats 1000000
theorem abs_bd {v : Nat} {c e : Rat} (hv : isFin v = true) (hc : 0 ≤ c) (h : Bd (qv v - c) e) : Bd (qv (rg v) - c) e := by
  have h1 := (qv_nn (rg_sg v)).2
  have h2 := qv_rg_abs hv
  have h3 : (qv (rg v) - qv v) * (qv (rg v) + qv v) = 0 := by grind
  rcases Rat.mul_eq_zero.1 h3 with h4 | h4
  · exact h.of_eq (by grind)
  · exact ⟨by have := h.1; have := h.2; grind, by have := h.1; grind⟩
theorem eighth_nn {a : Nat} (ha : isFin a = true) (sa : sg a = false) (h8 : qv a ≤ 1 / 8) : 0 ≤ qv (wEighth_0 a) ∧ 0 ≤ qv (wEighth_1 a) := by
  obtain ⟨t1, t2, t3, t4⟩ := eta_small
  have na := (qv_nn sa).2
  obtain ⟨c0, c1⟩ := eighth_cs ha sa h8
  obtain ⟨q1, q2, q3, q4, q5, q6⟩ := cs_q na h8
  refine ⟨by have := c0.1; grind, ?_⟩
  rw [eighth_1]
  generalize hb : feq a 4593671619917905920 = b
  cases b with
  | true => rw [cond_true, half_q.2]; decide +kernel
  | false =>
    rw [cond_false]
    obtain ⟨cc1, cc2⟩ := circ_q
    have hac : Bd (qv a * qv 4618760256179416344) 1 := by rw [cir_q]; exact ⟨by grind, Rat.le_trans q2 (by decide +kernel)⟩
    obtain ⟨y1, y2⟩ := mul_q ha cc1 hac (by decide +kernel)
    have sy : sg (fmul a 4618760256179416344) = false := sg_mul ha cc1 (by rw [sa]; rfl)
    rw [cir_q] at y2
    have hY : YY ≤ 7853981634 / 10000000000 := by decide +kernel
    generalize fmul a 4618760256179416344 = y at *
    have ny := (qv_nn sy).2
    have hy : qv y ≤ 78539817 / 100000000 := by
      have h1 := y2.2
      have h2 := Rat.le_trans q2 hY
      have he : eta ≤ 1 / 1000000000000 := by decide +kernel
      clear q2 q3 q4 q5 q6 c0 c1 cc2 hY
      grind
    have by' : Bd (qv y) (78539817 / 100000000) := ⟨by grind, hy⟩
    have hyy := by'.mul by'
    obtain ⟨z1, z2⟩ := mul_q y1 y1 hyy (by decide +kernel)
    have sz : sg (fmul y y) = false := sg_mul y1 y1 rfl
    have nz := (qv_nn sz).2
    have hz : qv (fmul y y) ≤ ZZ := by
      have h1 := hyy.2
      have h2 := z2.2
      have h3 : (78539817 / 100000000 : Rat) * (78539817 / 100000000) + (78539817 / 100000000 * (78539817 / 100000000) * eta + tau) ≤ ZZ := by decide +kernel
      grind
    obtain ⟨S1, S2, S3, S4, S5⟩ := sinE_err z1 nz hz
    have ss := sg_of_pos S1 (by have := S2.1; grind)
    exact (qv_nn (sg_mul S1 y1 (by rw [ss, sy]))).2
theorem rabs_rg {x : Nat} (h : isFin x = true) : qv (rg x) = rabs (qv x) := by
  have h1 := (qv_nn (rg_sg x)).2
  have h2 := qv_rg_abs h
  have h3 : (qv (rg x) - qv x) * (qv (rg x) + qv x) = 0 := by grind
  unfold rabs
  by_cases hn : qv x < 0
  · rw [if_pos hn]
    rcases Rat.mul_eq_zero.1 h3 with h4 | h4 <;> grind
  · rw [if_neg hn]
    rcases Rat.mul_eq_zero.1 h3 with h4 | h4 <;> grind
/-- re and im of an eighth's numbers. -/
theorem clean_of {v r : Nat} (hv : Canon v) (hfv : isFin v = true) (hr : r = fadd v 0 ∨ r = fadd (aneg false v) 0) : isFin r = true ∧ rg r = rg v := by
  rcases hr with rfl | rfl
  · exact rg_clean hv hfv
  · obtain ⟨n1, n2, n3⟩ := rg_neg hv hfv
    obtain ⟨m1, m2⟩ := rg_clean n3 n1
    exact ⟨m1, by rw [m2, n2]⟩
theorem sides1 {a re im : Nat} (ha : isFin a = true) (sa : sg a = false) (h8 : qv a ≤ 1 / 8) (h1 : re = fadd (wEighth_0 a) 0 ∨ re = fadd (aneg false (wEighth_0 a)) 0) (h2 : im = fadd (wEighth_1 a) 0 ∨ im = fadd (aneg false (wEighth_1 a)) 0) : Sides re im (qv a) 1 (4 * eta) := by
  obtain ⟨p1, p2, p3, p4, _⟩ := eighth_pair ha sa h8
  obtain ⟨c0, c1⟩ := eighth_cs ha sa h8
  have na := (qv_nn sa).2
  obtain ⟨q1, q2, q3, q4, q5, q6⟩ := cs_q na h8
  obtain ⟨_, r1⟩ := clean_of p3 p1 h1
  obtain ⟨_, r2⟩ := clean_of p4 p2 h2
  refine ⟨na, by grind, .inl ⟨h8, ?_, ?_⟩⟩
  · rw [r1]; exact ((abs_bd p1 (by grind) c0).of_eq (by grind)).mono (by grind)
  · rw [r2]; exact ((abs_bd p2 (by grind) c1).of_eq (by grind)).mono (by grind)
theorem sides2 {a re im : Nat} (ha : isFin a = true) (sa : sg a = false) (h8 : qv a ≤ 1 / 8) (h1 : re = fadd (wEighth_1 a) 0 ∨ re = fadd (aneg false (wEighth_1 a)) 0) (h2 : im = fadd (wEighth_0 a) 0 ∨ im = fadd (aneg false (wEighth_0 a)) 0) : Sides re im (1 / 4 - qv a) 1 (4 * eta) := by
  obtain ⟨p1, p2, p3, p4, _⟩ := eighth_pair ha sa h8
  obtain ⟨c0, c1⟩ := eighth_cs ha sa h8
  have na := (qv_nn sa).2
  obtain ⟨q1, q2, q3, q4, q5, q6⟩ := cs_q na h8
  obtain ⟨_, r1⟩ := clean_of p4 p2 h1
  obtain ⟨_, r2⟩ := clean_of p3 p1 h2
  have e : 1 / 4 - (1 / 4 - qv a) = qv a := by grind
  refine ⟨by grind, by grind, .inr ⟨by grind, ?_, ?_⟩⟩
  · rw [e, r1]; exact ((abs_bd p2 (by grind) c1).of_eq (by grind)).mono (by grind)
  · rw [e, r2]; exact ((abs_bd p1 (by grind) c0).of_eq (by grind)).mono (by grind)
theorem nn_of {v : Nat} (hc : Canon v) (hf : isFin v = true) (h : 0 ≤ qv v) : 0 ≤ qv (fadd v 0) ∧ qv (fadd (aneg false v) 0) ≤ 0 := by
  obtain ⟨n1, n2, n3⟩ := qv_neg hc hf
  rw [(qv_clean hc hf).2, (qv_clean n3 n1).2, n2]
  exact ⟨h, by grind⟩
theorem bd_l5 {a : Rat} (h0 : 0 ≤ a) (h1 : a ≤ 1 / 4) : Bd (1 / 4 - a) (1 / 2) := ⟨by grind, by grind⟩
theorem bd_l6 {a : Rat} (h0 : 0 ≤ a) (h1 : a ≤ 1 / 2) : Bd (1 / 2 - a) (1 / 2) := ⟨by grind, by grind⟩
theorem bd_l1 {a b c : Rat} (h1 : Bd (c - (1 / 4 - b)) (1 / 2 * eta + tau)) (h2 : Bd (b - (1 / 2 - a)) (1 / 2 * eta + tau)) (t3 : 0 ≤ tau) (t4 : tau ≤ eta / 1000000000000) : Bd (a - (1 / 2 - (1 / 4 - c))) (2 * eta) := by
  have h := h1.sub h2
  exact ⟨by have := h1.1; have := h1.2; have := h2.1; have := h2.2; grind, by have := h1.1; have := h1.2; have := h2.1; have := h2.2; grind⟩
theorem bd_l2 {a b : Rat} (h2 : Bd (b - (1 / 2 - a)) (1 / 2 * eta + tau)) (t1 : 0 ≤ eta) (t3 : 0 ≤ tau) (t4 : tau ≤ eta / 1000000000000) : Bd (a - (1 / 2 - b)) (2 * eta) := ⟨by have := h2.1; have := h2.2; grind, by have := h2.1; have := h2.2; grind⟩
theorem bd_l3 {a c : Rat} (h2 : Bd (c - (1 / 4 - a)) (1 / 2 * eta + tau)) (t1 : 0 ≤ eta) (t3 : 0 ≤ tau) (t4 : tau ≤ eta / 1000000000000) : Bd (a - (1 / 4 - c)) (2 * eta) := ⟨by have := h2.1; have := h2.2; grind, by have := h2.1; have := h2.2; grind⟩
theorem bd_l4 {a : Rat} (t1 : 0 ≤ eta) : Bd (a - a) (2 * eta) := ⟨by grind, by grind⟩
/-- A turn's sides: where they stand, and on which sides. -/
theorem turn_sides {x : Nat} (hc : Canon x) (hf : isFin x = true) : isFin (wrapP x) = true ∧ ∃ (left : Bool) (β : Rat), Sides (wTurn_0 x) (wTurn_1 x) β 1 (4 * eta) ∧ Bd (rabs (qv (wrapP x)) - bif left then 1 / 2 - β else β) (2 * eta) ∧
    (left = false → 0 ≤ qv (wTurn_0 x)) ∧ (left = true → qv (wTurn_0 x) ≤ 0) ∧ (qv (wrapP x) < 0 → qv (wTurn_1 x) ≤ 0) ∧ (0 ≤ qv (wrapP x) → 0 ≤ qv (wTurn_1 x)) ∧
    (left = true → 1 / 4 ≤ rabs (qv (wrapP x))) ∧ (left = false → rabs (qv (wrapP x)) ≤ 1 / 4) := by
  obtain ⟨t1, t2, t3, t4⟩ := eta_small
  obtain ⟨w1, _, w2, w3, _⟩ := wrap_val hc hf
  have hww : feq (wrapP x) (wrapP x) = true := by rw [feq_fin w1 w1]; exact decide_eq_true rfl
  obtain ⟨f0, f1⟩ := turn_form hww
  have hh := fx_half
  have ea := fabs_rg w1
  have fa := fin_rg w1
  have sa := rg_sg (wrapP x)
  have hrab := rabs_rg w1
  obtain ⟨o1, o2⟩ := oct_q
  obtain ⟨p1, p2⟩ := quart_q
  obtain ⟨u1, u2⟩ := hlf_q
  have ha2 : qv (rg (wrapP x)) ≤ 1 / 2 := by
    rw [← u2]
    refine fx_le_qv ?_
    have e := fx_rg sa
    rw [rg_rg] at e
    have := fx_abs (wrapP x)
    have eh : half = 4602678819172646912 := rfl
    rw [← eh]
    omega
  refine ⟨w1, ?_⟩
  rw [f0, f1, ea, ← hrab]
  have na := (qv_nn sa).2
  have hsign := flt_qv w1 fin_zero
  rw [zero_q] at hsign
  generalize rg (wrapP x) = a at *
  -- the imaginary part's sign
  have im : ∀ {I : Nat}, Canon I → isFin I = true → 0 ≤ qv I → (qv (wrapP x) < 0 → qv (bif flt (wrapP x) 0 then fadd (aneg false I) 0 else fadd I 0) ≤ 0) ∧ (0 ≤ qv (wrapP x) → 0 ≤ qv (bif flt (wrapP x) 0 then fadd (aneg false I) 0 else fadd I 0)) := by
    intro I cI fI nI
    obtain ⟨k1, k2⟩ := nn_of cI fI nI
    cases hs : flt (wrapP x) 0 with
    | true => have := hsign.1 hs; exact ⟨fun _ => k2, fun h => by grind⟩
    | false => have := hsign.2 hs; exact ⟨fun h => by grind, fun _ => k1⟩
  have ims : ∀ (I : Nat), (bif flt (wrapP x) 0 then fadd (aneg false I) 0 else fadd I 0) = fadd I 0 ∨ (bif flt (wrapP x) 0 then fadd (aneg false I) 0 else fadd I 0) = fadd (aneg false I) 0 := by
    intro I; cases flt (wrapP x) 0 <;> simp
  have qa : 0 ≤ fx a ∧ 2 * fx a ≤ (U : Int) := by
    have h1 := qv_le_fx (x := 0) (y := a) (by rw [zero_q]; exact na)
    have h2 := qv_le_fx (x := a) (y := 4602678819172646912) (by rw [u2]; exact ha2)
    have eh : half = 4602678819172646912 := rfl
    rw [← eh] at h2
    rw [fx_0] at h1
    omega
  obtain ⟨hq, h8⟩ := fx_quart
  have sh : sg half = false := by decide
  have s4 : sg 4598175219545276416 = false := by decide
  have r4 : (fxr (rg 4598175219545276416) : Int) = fx 4598175219545276416 := rfl
  have r8 : (fxr (rg 4593671619917905920) : Int) = fx 4593671619917905920 := rfl
  have eh : half = 4602678819172646912 := rfl
  rw [← eh] at u2
  unfold turnR turnI
  rw [← eh]
  by_cases g1 : fx 4598175219545276416 < fx a
  · have g1' : fgt a 4598175219545276416 = true := by rw [fgt_fin fa p1]; exact decide_eq_true g1
    obtain ⟨b1, b2, b3, b4⟩ := sub_range fin_half fa sh sa (d := 4598175219545276416) (by decide) (by omega) (by omega)
    have ha4 := (fgt_qv fa p1).1 g1'
    rw [p2] at ha4
    have hB : Bd (qv half - qv a) (1 / 2) := by rw [u2]; exact bd_l6 na ha2
    obtain ⟨_, b5⟩ := sub_q fin_half fa hB (by decide +kernel)
    rw [u2] at b5
    simp only [g1', cond_true]
    generalize fsub half a = b at *
    have nb := (qv_nn b2).2
    by_cases g2 : fx 4593671619917905920 < fx b
    · have g2' : fgt b 4593671619917905920 = true := by rw [fgt_fin b1 o1]; exact decide_eq_true g2
      obtain ⟨c1, c2, c3, c4⟩ := sub_range p1 b1 s4 b2 (d := 4593671619917905920) (by decide) (by omega) (by omega)
      have hle : qv b ≤ 1 / 4 := by rw [← p2]; exact fx_le_qv (by omega)
      have hC : Bd (qv 4598175219545276416 - qv b) (1 / 2) := by rw [p2]; exact bd_l5 nb hle
      obtain ⟨_, c5⟩ := sub_q p1 b1 hC (by decide +kernel)
      rw [p2] at c5
      simp only [g2', cond_true]
      generalize fsub 4598175219545276416 b = c at *
      have hc8 : qv c ≤ 1 / 8 := by rw [← o2]; exact fx_le_qv (by omega)
      obtain ⟨e0, e1, e2, e3, _⟩ := eighth_pair c1 c2 hc8
      obtain ⟨z0, z1⟩ := eighth_nn c1 c2 hc8
      obtain ⟨i1, i2⟩ := im e2 e0 z0
      refine ⟨true, 1 / 4 - qv c, sides2 c1 c2 hc8 (.inr rfl) (ims _), ?_, (by intro h; cases h), fun _ => (nn_of e3 e1 z1).2, i1, i2, fun _ => Rat.le_of_lt ha4, (by intro h; cases h)⟩
      rw [cond_true]
      exact bd_l1 c5 b5 t3 t4
    · have g2' : fgt b 4593671619917905920 = false := by rw [fgt_fin b1 o1]; exact decide_eq_false g2
      simp only [g2', cond_false]
      have hb8 : qv b ≤ 1 / 8 := by rw [← o2]; exact fx_le_qv (by omega)
      obtain ⟨e0, e1, e2, e3, _⟩ := eighth_pair b1 b2 hb8
      obtain ⟨z0, z1⟩ := eighth_nn b1 b2 hb8
      obtain ⟨i1, i2⟩ := im e3 e1 z1
      refine ⟨true, qv b, sides1 b1 b2 hb8 (.inr rfl) (ims _), ?_, (by intro h; cases h), fun _ => (nn_of e2 e0 z0).2, i1, i2, fun _ => Rat.le_of_lt ha4, (by intro h; cases h)⟩
      rw [cond_true]
      exact bd_l2 b5 t1 t3 t4
  · have g1' : fgt a 4598175219545276416 = false := by rw [fgt_fin fa p1]; exact decide_eq_false g1
    have ha4 := (fgt_qv fa p1).2 g1'
    rw [p2] at ha4
    simp only [g1', cond_false]
    by_cases g2 : fx 4593671619917905920 < fx a
    · have g2' : fgt a 4593671619917905920 = true := by rw [fgt_fin fa o1]; exact decide_eq_true g2
      obtain ⟨c1, c2, c3, c4⟩ := sub_range p1 fa s4 sa (d := 4593671619917905920) (by decide) (by omega) (by omega)
      have hC : Bd (qv 4598175219545276416 - qv a) (1 / 2) := by rw [p2]; exact bd_l5 na ha4
      obtain ⟨_, c5⟩ := sub_q p1 fa hC (by decide +kernel)
      rw [p2] at c5
      simp only [g2', cond_true]
      generalize fsub 4598175219545276416 a = c at *
      have hc8 : qv c ≤ 1 / 8 := by rw [← o2]; exact fx_le_qv (by omega)
      obtain ⟨e0, e1, e2, e3, _⟩ := eighth_pair c1 c2 hc8
      obtain ⟨z0, z1⟩ := eighth_nn c1 c2 hc8
      obtain ⟨i1, i2⟩ := im e2 e0 z0
      refine ⟨false, 1 / 4 - qv c, sides2 c1 c2 hc8 (.inl rfl) (ims _), ?_, fun _ => (nn_of e3 e1 z1).1, (by intro h; cases h), i1, i2, (by intro h; cases h), fun _ => ha4⟩
      rw [cond_false]
      exact bd_l3 c5 t1 t3 t4
    · have g2' : fgt a 4593671619917905920 = false := by rw [fgt_fin fa o1]; exact decide_eq_false g2
      simp only [g2', cond_false]
      have hb8 : qv a ≤ 1 / 8 := by rw [← o2]; exact fx_le_qv (by omega)
      obtain ⟨e0, e1, e2, e3, _⟩ := eighth_pair fa sa hb8
      obtain ⟨z0, z1⟩ := eighth_nn fa sa hb8
      obtain ⟨i1, i2⟩ := im e3 e1 z1
      refine ⟨false, qv a, sides1 fa sa hb8 (.inl rfl) (ims _), ?_, fun _ => (nn_of e2 e0 z0).1, (by intro h; cases h), i1, i2, (by intro h; cases h), fun _ => ha4⟩
      rw [cond_false]
      exact bd_l4 t1
end Go.Lk
end

section
/- Of: numbers as two floats. -/
namespace Go.Lk
open Go.Proofs
set_option maxRecDepth 100000
set_option maxHeartbeats 0
set_option linter.unusedVariables false
set_option linter.unusedSimpArgs false
end Go.Lk
end

section
/- Of's contract; SameList. -/
namespace Go.Lk
open Go.Proofs
set_option maxRecDepth 100000
set_option maxHeartbeats 0
set_option linter.unusedVariables false
set_option linter.unusedSimpArgs false
noncomputable def t9o : Tab := t8
end Go.Lk
end

section
/- SameList. -/
namespace Go.Lk
open Go.Proofs
set_option maxRecDepth 100000
set_option maxHeartbeats 0
set_option linter.unusedVariables false
set_option linter.unusedSimpArgs false
def fq (vs : List Value) (j : Nat) : Nat := match vs[j]? with | some (.float .f64 a) => a | _ => 0
noncomputable def t9p : Tab := t9o
end Go.Lk
end

section
/- same. -/
namespace Go.Lk
open Go.Proofs
set_option maxRecDepth 100000
set_option maxHeartbeats 0
set_option linter.unusedVariables false
set_option linter.unusedSimpArgs false
noncomputable def LS : Lib := ⟨Try.prog, false, t9p, [], []⟩
noncomputable def t9q : Tab := t9p
end Go.Lk
end

section
/- told: what its contract says, in any heap. -/
namespace Go.Lk
open Go.Proofs
set_option maxRecDepth 100000
set_option linter.unusedVariables false
set_option linter.unusedSimpArgs false
end Go.Lk
end

section
/- told, of rows with room. -/
namespace Go.Lk
open Go.Proofs
set_option maxRecDepth 100000
set_option maxHeartbeats 0
set_option linter.unusedVariables false
set_option linter.unusedSimpArgs false
end Go.Lk
end

section
/- Null: what its parts tell. -/
namespace Go.Lk
open Go.Proofs
set_option maxRecDepth 100000
set_option maxHeartbeats 0
set_option linter.unusedVariables false
set_option linter.unusedSimpArgs false
noncomputable def n0 : Tab := t9q
def nMul_0 (a : Nat) (b : Nat) (c : Nat) (d : Nat) : Nat := fsub (fmul a c) (fmul b d)
def nMul_1 (a : Nat) (b : Nat) (c : Nat) (d : Nat) : Nat := fadd (fmul a d) (fmul b c)
def nCj_0 (a : Nat) (b : Nat) : Nat := aneg false b
def sMul : PureFn
  | [.complex .f64 a b, .complex .f64 c d] => some (.complex .f64 (nMul_0 a b c d) (nMul_1 a b c d))
  | _ => none
def sCj : PureFn
  | [.complex .f64 a b] => some (.complex .f64 a (nCj_0 a b))
  | _ => none
noncomputable def n1 : Tab := ((n0.addP 135 sMul).addP 122 sCj)
end Go.Lk
end

section
/- BeamBack: quotients with a sign; products by one; turns that are not wrapped. -/
namespace Go.Lk
set_option linter.unusedSimpArgs false
set_option linter.unusedVariables false
set_option maxRecDepth 10000
set_option maxHeartbeats 1000000
end Go.Lk
end

section
/- PlaceBack: whole numbers and quarters. -/
namespace Go.Lk
set_option linter.unusedSimpArgs false
set_option linter.unusedVariables false
set_option maxRecDepth 10000
set_option maxHeartbeats 1000000
theorem four_w : IsW 4616189618054758400 4 := by unfold IsW; exact ⟨by decide, by decide +kernel⟩
/-- A quarter of a whole number. -/
theorem quarter_of {K : Nat} {k : Int} (hK : IsW K k) (hk : k.natAbs < 2 ^ 40) : isFin (fdiv K 4616189618054758400) = true ∧ fx (fdiv K 4616189618054758400) * 4 = k * (U : Int) := by
  have h4 : fxr (rg 4616189618054758400) = 4 * U := by have h := four_w.abs; rwa [show ((4 : Int).natAbs) = 4 from rfl] at h
  have hU := U_pos
  obtain ⟨r, e, hr⟩ := fdiv_near hK.1 four_w.1 (by rw [h4]; omega)
  rw [h4, hK.abs, show sg 4616189618054758400 = false by decide, Bool.xor_false] at *
  obtain ⟨u, hUu, h2u⟩ : ∃ u, U = 2 ^ u ∧ 2 ≤ u := by
    obtain ⟨u, hu, hUu⟩ := U_spec
    exact ⟨u, hUu, hu ▸ (by decide)⟩
  have hQ : U = 4 * 2 ^ (u - 2) := by
    rw [hUu, show (4 : Nat) = 2 ^ 2 by decide, ← Nat.pow_add]
    congr 1
    omega
  obtain ⟨Q, hq⟩ : ∃ Q, Q = 2 ^ (u - 2) := ⟨_, rfl⟩
  rw [← hq] at hQ
  have hbig : k.natAbs * Q ≤ fxr 4850376798678024192 := by
    rw [fxr_big]
    have h1 : k.natAbs * Q ≤ 2 ^ 54 * Q := Nat.mul_le_mul_right _ (by omega)
    have h2 : 2 ^ 54 * Q ≤ 2 ^ 54 * U := Nat.mul_le_mul_left _ (by omega)
    omega
  obtain ⟨g1, g2⟩ := rung_small hbig (by decide) ⟨k.natAbs, u - 2, by rw [hq], by omega⟩
  have hi : rung (k.natAbs * Q) ≤ infR := by unfold infR; omega
  have n1 : k.natAbs * U * U = fxr (rung (k.natAbs * Q)) * (4 * U) := by
    rw [g2]
    have : k.natAbs * U * U = k.natAbs * (4 * Q) * U := by rw [← hQ]
    rw [this]
    simp only [Nat.mul_assoc, Nat.mul_comm, Nat.mul_left_comm]
  have h1 : r ≤ rung (k.natAbs * Q) := hr.le_of hi (Nat.le_of_eq n1)
  have h2 : rung (k.natAbs * Q) ≤ r := hr.ge_of hi (Nat.le_of_eq n1.symm)
  have h3 : r = rung (k.natAbs * Q) := Nat.le_antisymm h1 h2
  rw [e, h3]
  refine ⟨fin_wd g1, ?_⟩
  rw [fx_wd (by omega), g2]
  have hs : k ≠ 0 → sg K = decide (k < 0) := fun h => hK.sg_of h
  have hQi : (U : Int) = 4 * (Q : Int) := by omega
  by_cases h0 : k = 0
  · rw [h0]; simp [sgn]
  · rw [hs h0, hQi]
    by_cases hn : k < 0
    · rw [decide_eq_true hn]
      have ek : k = -((k.natAbs : Nat) : Int) := by omega
      unfold sgn
      rw [if_pos rfl, Int.natCast_mul]
      generalize k.natAbs = n at *
      rw [ek, Int.neg_mul, Int.neg_mul]
      congr 1
      simp only [Int.mul_assoc, Int.mul_comm, Int.mul_left_comm]
    · rw [decide_eq_false hn]
      have ek : k = ((k.natAbs : Nat) : Int) := by omega
      unfold sgn
      rw [if_neg (by decide), Int.natCast_mul]
      generalize k.natAbs = n at *
      rw [ek]
      simp only [Int.mul_assoc, Int.mul_comm, Int.mul_left_comm]
theorem word_of {w c : Nat} (hc : Canon w) (hf : isFin w = true) (hz : fx w = 0 → sg w = false) (hl : c < 2 ^ 64) (hfc : isFin c = true) (h : fx w = fx c) (hs : fx c = 0 → sg c = false) : w = c := by
  refine word_ext hc.lt hl ?_ h
  by_cases h0 : fx w = 0
  · rw [hz h0, hs (by rw [← h]; exact h0)]
  · have e1 := sgn_neg (s := sg w) (a := fxr (rg w)) h0
    have e2 := sgn_neg (s := sg c) (a := fxr (rg c)) (by show fx c ≠ 0; rw [← h]; exact h0)
    rw [e1, e2]
    show decide (fx w < 0) = decide (fx c < 0)
    rw [h]
theorem quarter_turn {t : Nat} {k : Int} (ct : Canon t) (ft : isFin t = true) (h : fx t * 4 = k * (U : Int)) : ∃ a b : Int, IsW (wTurn_0 t) a ∧ IsW (wTurn_1 t) b ∧ ((a = 1 ∧ b = 0) ∨ (a = 0 ∧ b = 1) ∨ (a = -1 ∧ b = 0) ∨ (a = 0 ∧ b = -1)) := by
  obtain ⟨w1, ⟨j, hj⟩, w2, w3, w4⟩ := wrap_val ct ft
  have hU := U_pos
  have hww : feq (wrapP t) (wrapP t) = true := by rw [feq_fin w1 w1]; exact decide_eq_true rfl
  obtain ⟨f0, f1⟩ := turn_form hww
  have cw := Canon.wrapP t
  -- its quarters
  have hq : ∃ n : Int, fx (wrapP t) * 4 = n * (U : Int) ∧ (n = -2 ∨ n = -1 ∨ n = 0 ∨ n = 1) := by
    refine ⟨k + 4 * j, by rw [hj, Int.add_mul, h, Int.add_mul]; rw [Int.mul_assoc 4, Int.mul_comm 4]; , ?_⟩
    have e : fx (wrapP t) * 4 = (k + 4 * j) * (U : Int) := by rw [hj, Int.add_mul, h, Int.add_mul, Int.mul_assoc 4, Int.mul_comm 4]
    generalize k + 4 * j = n at *
    have l1 : -2 ≤ n := by
      refine Int.not_lt.1 fun hlt => ?_
      have := Int.mul_le_mul_of_nonneg_right (show n ≤ -3 by omega) (show (0 : Int) ≤ (U : Int) by omega)
      omega
    have l2 : n ≤ 1 := by
      refine Int.not_lt.1 fun hlt => ?_
      have := Int.mul_le_mul_of_nonneg_right (show 2 ≤ n by omega) (show (0 : Int) ≤ (U : Int) by omega)
      omega
    omega
  obtain ⟨n, hn, hc⟩ := hq
  have one : ∀ c : Nat, c < 2 ^ 64 → isFin c = true → (fx c = 0 → sg c = false) → fx c * 4 = n * (U : Int) → wrapP t = c := fun c h1 h2 h3 h4 => word_of cw w1 w4 h1 h2 (by omega) h3
  rw [f0, f1]
  rcases hc with rfl | rfl | rfl | rfl
  · rw [one 13826050856027422720 (by decide) (by decide) (by decide +kernel) (by decide +kernel)]
    exact ⟨-1, 0, ⟨by decide +kernel, by decide +kernel⟩, ⟨by decide +kernel, by decide +kernel⟩, by simp⟩
  · rw [one 13821547256400052224 (by decide) (by decide) (by decide +kernel) (by decide +kernel)]
    exact ⟨0, -1, ⟨by decide +kernel, by decide +kernel⟩, ⟨by decide +kernel, by decide +kernel⟩, by simp⟩
  · rw [one 0 (by decide) (by decide) (by decide +kernel) (by decide +kernel)]
    exact ⟨1, 0, ⟨by decide +kernel, by decide +kernel⟩, ⟨by decide +kernel, by decide +kernel⟩, by simp⟩
  · rw [one 4598175219545276416 (by decide) (by decide) (by decide +kernel) (by decide +kernel)]
    exact ⟨0, 1, ⟨by decide +kernel, by decide +kernel⟩, ⟨by decide +kernel, by decide +kernel⟩, by simp⟩
/-- Whole numbers and quarters: moved and back it is where it was. -/
theorem quarter_back {t C S x y u v : Nat} {a b X Y V W : Int} (ht : IsW C a) (hs : IsW S b) (cS : Canon S) (hab : (a = 1 ∧ b = 0) ∨ (a = 0 ∧ b = 1) ∨ (a = -1 ∧ b = 0) ∨ (a = 0 ∧ b = -1))
    (hx : IsW x X) (hy : IsW y Y) (hu : IsW u V) (hv : IsW v W) (bx : X.natAbs < 2 ^ 50) (by' : Y.natAbs < 2 ^ 50) (bu : V.natAbs < 2 ^ 50) (bv : W.natAbs < 2 ^ 50) :
    IsW (fadd (fmul (fsub (fadd (fsub (fmul y C) (fmul x S)) v) v) (aneg false S)) (fmul (fsub (fadd (fadd (fmul y S) (fmul x C)) u) u) C)) X ∧
    IsW (fsub (fmul (fsub (fadd (fsub (fmul y C) (fmul x S)) v) v) C) (fmul (fsub (fadd (fadd (fmul y S) (fmul x C)) u) u) (aneg false S))) Y ∧
    IsW (fadd (fadd (fmul (fsub (fmul (fsub y v) C) (fmul (fsub x u) (aneg false S))) S) (fmul (fadd (fmul (fsub y v) (aneg false S)) (fmul (fsub x u) C)) C)) u) X ∧
    IsW (fadd (fsub (fmul (fsub (fmul (fsub y v) C) (fmul (fsub x u) (aneg false S))) C) (fmul (fadd (fmul (fsub y v) (aneg false S)) (fmul (fsub x u) C)) S)) v) Y := by
  have hn : IsW (aneg false S) (-b) := by
    obtain ⟨h1, h2, _⟩ := fx_neg cS hs.1
    exact ⟨h1, by rw [h2, hs.2, Int.neg_mul]⟩
  have e52 : (2 : Nat) ^ 53 = 9007199254740992 := by decide
  have e50 : (2 : Nat) ^ 50 = 1125899906842624 := by decide
  rw [e50] at bx by' bu bv
  have go : ∀ {p q : Nat} {m n : Int}, IsW p m → IsW q n → m.natAbs < 4503599627370496 → n.natAbs < 4503599627370496 →
      IsW (fadd p q) (m + n) ∧ IsW (fsub p q) (m - n) := fun hp hq hm hn => ⟨hp.add hq (by rw [e52]; omega), hp.sub hq (by rw [e52]; omega)⟩
  have mu : ∀ {p q : Nat} {m n : Int}, IsW p m → IsW q n → m.natAbs < 4503599627370496 → (n = 0 ∨ n = 1 ∨ n = -1) → IsW (fmul p q) (m * n) := fun hp hq hm hn => hp.mul hq (by rw [e52]; rcases hn with rfl | rfl | rfl <;> simp <;> omega)
  have ha3 : a = 0 ∨ a = 1 ∨ a = -1 := by omega
  have hb3 : b = 0 ∨ b = 1 ∨ b = -1 := by omega
  have hn3 : -b = 0 ∨ -b = 1 ∨ -b = -1 := by omega
  -- out
  have o1 := mu hy ht (by omega) ha3
  have o2 := mu hx hs (by omega) hb3
  have o3 := mu hy hs (by omega) hb3
  have o4 := mu hx ht (by omega) ha3
  have i1 := (go hy hv (by omega) (by omega)).2
  have i2 := (go hx hu (by omega) (by omega)).2
  have j1 := mu i1 ht (by omega) ha3
  have j2 := mu i2 hn (by omega) hn3
  have j3 := mu i1 hn (by omega) hn3
  have j4 := mu i2 ht (by omega) ha3
  rcases hab with ⟨rfl, rfl⟩ | ⟨rfl, rfl⟩ | ⟨rfl, rfl⟩ | ⟨rfl, rfl⟩ <;>
  · simp only [Int.mul_one, Int.mul_zero, Int.neg_zero, Int.mul_neg, Int.neg_neg] at o1 o2 o3 o4 j1 j2 j3 j4 hn
    have p1 := (go (go (go o1 o2 (by omega) (by omega)).2 hv (by omega) (by omega)).1 hv (by omega) (by omega)).2
    have p2 := (go (go (go o3 o4 (by omega) (by omega)).1 hu (by omega) (by omega)).1 hu (by omega) (by omega)).2
    have q1 := mu p1 hn (by omega) (by decide)
    have q2 := mu p2 ht (by omega) (by decide)
    have q3 := mu p1 ht (by omega) (by decide)
    have q4 := mu p2 hn (by omega) (by decide)
    have k1 := (go j1 j2 (by omega) (by omega)).2
    have k2 := (go j3 j4 (by omega) (by omega)).1
    have l1 := mu k1 hs (by omega) (by decide)
    have l2 := mu k2 ht (by omega) (by decide)
    have l3 := mu k1 ht (by omega) (by decide)
    have l4 := mu k2 hs (by omega) (by decide)
    have r1 := (go q1 q2 (by omega) (by omega)).1
    have r2 := (go q3 q4 (by omega) (by omega)).2
    have r3 := (go (go l1 l2 (by omega) (by omega)).1 hu (by omega) (by omega)).1
    have r4 := (go (go l3 l4 (by omega) (by omega)).2 hv (by omega) (by omega)).1
    exact ⟨cast (congrArg _ (by omega)) r1, cast (congrArg _ (by omega)) r2, cast (congrArg _ (by omega)) r3, cast (congrArg _ (by omega)) r4⟩
end Go.Lk
end
