import Derived.Test.YtmomainjlncogaaLkW2
import Derived.Test.YtmomainjlncogaaLkGDL
import Derived.Test.YtmomainjlncogaaLkJN
section
/- A turn the other way round: the conjugate. -/
namespace Go.Lk
open Ieee (Format Datum)
set_option linter.unusedSimpArgs false
set_option linter.unusedVariables false
set_option maxRecDepth 100000
/-! ### By its magnitude and its sign -/
def turnR (a : Nat) : Nat := bif fgt a 4598175219545276416 then (bif fgt (fsub 4602678819172646912 a) 4593671619917905920 then fadd (aneg false (wEighth_1 (fsub 4598175219545276416 (fsub 4602678819172646912 a)))) 0 else fadd (aneg false (wEighth_0 (fsub 4602678819172646912 a))) 0)
  else (bif fgt a 4593671619917905920 then fadd (wEighth_1 (fsub 4598175219545276416 a)) 0 else fadd (wEighth_0 a) 0)
def turnI (a : Nat) : Nat := bif fgt a 4598175219545276416 then (bif fgt (fsub 4602678819172646912 a) 4593671619917905920 then wEighth_0 (fsub 4598175219545276416 (fsub 4602678819172646912 a)) else wEighth_1 (fsub 4602678819172646912 a))
  else (bif fgt a 4593671619917905920 then wEighth_0 (fsub 4598175219545276416 a) else wEighth_1 a)
theorem turn_form {x : Nat} (h : feq (wrapP x) (wrapP x) = true) : wTurn_0 x = turnR (fabs (wrapP x)) ∧ wTurn_1 x = bif flt (wrapP x) 0 then fadd (aneg false (turnI (fabs (wrapP x)))) 0 else fadd (turnI (fabs (wrapP x))) 0 := by
  unfold wTurn_0 wTurn_1 turnR turnI
  rw [h]
  simp only [cond_true]
  cases fgt (fabs (wrapP x)) 4598175219545276416
  · cases fgt (fabs (wrapP x)) 4593671619917905920 <;> cases flt (wrapP x) 0 <;> simp only [cond_true, cond_false, and_self]
  · cases fgt (fsub 4602678819172646912 (fabs (wrapP x))) 4593671619917905920 <;> cases flt (wrapP x) 0 <;> simp only [cond_true, cond_false, and_self]
theorem canon_eighth (a : Nat) : Canon (wEighth_0 a) ∧ Canon (wEighth_1 a) := by
  have k : Canon 4604544271217802189 := ⟨by decide, fun h => by rw [fin_num half_q.1] at h; cases h⟩
  have e0 : wEighth_0 a = bif feq a 4593671619917905920 then 4604544271217802189 else cosE (fmul (fmul a 4618760256179416344) (fmul a 4618760256179416344)) := by kernel_rfl
  have e1 : wEighth_1 a = bif feq a 4593671619917905920 then 4604544271217802189 else fmul (sinE (fmul (fmul a 4618760256179416344) (fmul a 4618760256179416344))) (fmul a 4618760256179416344) := by kernel_rfl
  rw [e0, e1]
  cases feq a 4593671619917905920
  · simp only [cond_false]
    exact ⟨by unfold cosE; exact Canon.fadd _ _, Canon.fmul _ _⟩
  · exact ⟨k, k⟩
theorem Canon.turnI (a : Nat) : Canon (turnI a) := by
  unfold Lk.turnI
  cases fgt a 4598175219545276416
  · cases fgt a 4593671619917905920
    · exact (canon_eighth _).2
    · exact (canon_eighth _).1
  · cases fgt (Lk.fsub 4602678819172646912 a) 4593671619917905920
    · exact (canon_eighth _).2
    · exact (canon_eighth _).1
theorem fin_of_clean {v : Nat} (hc : Canon v) (h : isFin (fadd v 0) = true) : isFin v = true := by
  rcases hc.three with h' | ⟨s, rfl⟩ | rfl
  · exact h'
  · exfalso; revert h; cases s <;> decide +kernel
  · exfalso; revert h; decide +kernel
theorem fin_of_neg {v : Nat} (hc : Canon v) (h : isFin (aneg false v) = true) : isFin v = true := by
  rcases hc.three with h' | ⟨s, rfl⟩ | rfl
  · exact h'
  · exfalso; revert h; cases s <;> decide +kernel
  · exfalso; revert h; decide +kernel
theorem fx_clean {v : Nat} (hc : Canon v) (hf : isFin v = true) : isFin (fadd v 0) = true ∧ fx (fadd v 0) = fx v := by
  rw [fadd_zero hc]
  cases h : feq v 0
  · exact ⟨hf, rfl⟩
  · rw [feq_fin hf fin_zero, fx_0] at h
    exact ⟨fin_zero, by rw [cond_true, fx_0, of_decide_eq_true h]⟩
theorem fx_neg {v : Nat} (hc : Canon v) (hf : isFin v = true) : isFin (aneg false v) = true ∧ fx (aneg false v) = -fx v ∧ Canon (aneg false v) := by
  obtain ⟨n1, n2, n3⟩ := fneg_fin hc.lt hf
  exact ⟨n1, n2, hc.fneg⟩
theorem feq_of_fx {x y : Nat} (hx : isFin x = true) (hy : isFin y = true) (h : fx x = fx y) : feq x y = true := by rw [feq_fin hx hy]; exact decide_eq_true h
theorem rg_of_fx {x y : Nat} (h : (fx x).natAbs = (fx y).natAbs) : rg x = rg y := by rw [fx_abs, fx_abs] at h; exact fxr_inj h
theorem turn_conj {x y : Nat} (hx : Canon x) (hy : Canon y) (fx1 : isFin x = true) (fy1 : isFin y = true) (h : fx y = -fx x) :
    feq (wTurn_0 y) (wTurn_0 x) = true ∧ feq (wTurn_1 y) (aneg false (wTurn_1 x)) = true ∧ fx (wTurn_1 y) = -fx (wTurn_1 x) := by
  obtain ⟨a1, ⟨t, a2⟩, a3, a4, a5⟩ := wrap_val hx fx1
  obtain ⟨b1, ⟨r, b2⟩, b3, b4, b5⟩ := wrap_val hy fy1
  have hU := U_pos
  obtain ⟨n1, n2, _⟩ := turn_near hx fx1
  obtain ⟨m1, m2, _⟩ := turn_near hy fy1
  have hww : feq (wrapP x) (wrapP x) = true := by rw [feq_fin a1 a1]; exact decide_eq_true rfl
  have hww' : feq (wrapP y) (wrapP y) = true := by rw [feq_fin b1 b1]; exact decide_eq_true rfl
  obtain ⟨x0, x1⟩ := turn_form hww
  obtain ⟨y0, y1⟩ := turn_form hww'
  have hsum : fx (wrapP x) + fx (wrapP y) = (t + r) * (U : Int) := by rw [a2, b2, h, Int.add_mul]; omega
  have habs : (fx (wrapP y)).natAbs = (fx (wrapP x)).natAbs := by
    by_cases h0 : t + r = 0
    · rw [h0, Int.zero_mul] at hsum; omega
    · have : t + r ≤ -1 ∨ 1 ≤ t + r := by omega
      rcases this with h1 | h1
      · have h2 : (t + r) * (U : Int) ≤ -1 * (U : Int) := Int.mul_le_mul_of_nonneg_right h1 (by omega)
        omega
      · have h2 : 1 * (U : Int) ≤ (t + r) * (U : Int) := Int.mul_le_mul_of_nonneg_right h1 (by omega)
        omega
  have hrg : rg (wrapP y) = rg (wrapP x) := rg_of_fx habs
  have hfab : fabs (wrapP y) = fabs (wrapP x) := by rw [fabs_rg a1, fabs_rg b1, hrg]
  have hc := Canon.turnI (fabs (wrapP x))
  rw [hfab] at y0 y1
  refine ⟨by rw [y0, ← x0]; exact feq_of_fx n1 n1 rfl, ?_⟩
  -- the imaginary parts
  have hI : isFin (turnI (fabs (wrapP x))) = true := by
    rw [x1] at n2
    cases hs : flt (wrapP x) 0
    · rw [hs] at n2; exact fin_of_clean hc n2
    · rw [hs] at n2
      have h3 := hc.fneg
      exact fin_of_neg hc (fin_of_clean h3 n2)
  obtain ⟨g1, g2, g3⟩ := fx_neg hc hI
  obtain ⟨c1, c2⟩ := fx_clean hc hI
  obtain ⟨d1, d2⟩ := fx_clean g3 g1
  have key : fx (wTurn_1 y) = -fx (wTurn_1 x) := by
    by_cases h0 : fx (wrapP x) = 0
    · -- nought
      have hz : fabs (wrapP x) = 0 := by
        rw [fabs_rg a1]
        have := fx_abs (wrapP x)
        rw [h0] at this
        exact fxr_inj (by rw [fxr_zero]; exact this.symm)
      have hI0 : fx (turnI 0) = 0 := by decide +kernel
      rw [x1, y1, hz] at *
      cases flt (wrapP x) 0 <;> cases flt (wrapP y) 0 <;> simp only [cond_true, cond_false, c2, d2, g2, hI0] <;> rfl
    · by_cases h1 : fx (wrapP x) + fx (wrapP y) = 0
      · have s1 : flt (wrapP x) 0 = !flt (wrapP y) 0 := by
          rw [flt_fin a1 fin_zero, flt_fin b1 fin_zero, fx_0]
          by_cases h2 : fx (wrapP x) < 0
          · rw [decide_eq_true h2, decide_eq_false (by omega)]; rfl
          · rw [decide_eq_false h2, decide_eq_true (by omega)]; rfl
        rw [x1, y1, s1]
        cases flt (wrapP y) 0
        · simp only [Bool.not_false, cond_true, cond_false, c2, d2, g2]; omega
        · simp only [Bool.not_true, cond_true, cond_false, c2, d2, g2]
      · -- both at the half
        have hhalf : 2 * fx (wrapP x) = -(U : Int) := by
          have h2 : t + r ≠ 0 := fun h2 => h1 (by rw [hsum, h2, Int.zero_mul])
          have h3 : t + r ≤ -1 ∨ 1 ≤ t + r := by omega
          rcases h3 with h3 | h3
          · have h4 : (t + r) * (U : Int) ≤ -1 * (U : Int) := Int.mul_le_mul_of_nonneg_right h3 (by omega)
            omega
          · have h4 : 1 * (U : Int) ≤ (t + r) * (U : Int) := Int.mul_le_mul_of_nonneg_right h3 (by omega)
            omega
        have hm := fx_mhalf
        have hz : fabs (wrapP x) = rg mhalf := by
          rw [fabs_rg a1]
          exact rg_of_fx (y := mhalf) (by omega)
        have hI0 : fx (turnI (rg mhalf)) = 0 := by decide +kernel
        rw [x1, y1, hz] at *
        cases flt (wrapP x) 0 <;> cases flt (wrapP y) 0 <;> simp only [cond_true, cond_false, c2, d2, g2, hI0] <;> rfl
  have hcan : Canon (wTurn_1 x) := by
    rw [x1]
    cases flt (wrapP x) 0 <;> exact Canon.fadd _ _
  obtain ⟨k1, k2, _⟩ := fx_neg hcan n2
  exact ⟨feq_of_fx m2 k1 (by rw [key, k2]), key⟩
/-! ### A product with the other sign -/
theorem fmul_val {u : Nat} (hu : u = 1074) (hU : U = 2 ^ u) {x y : Nat} (hx : isFin x = true) (hy : isFin y = true) : fmul x y = wd (sg x ^^ sg y) (min (rungQ (fxr (rg x) * fxr (rg y)) u) (2047 * 2 ^ 52)) := by
  obtain ⟨m, i, e1, h1, h2, _⟩ := read_fin hx
  obtain ⟨n, j, e2, h3, h4, _⟩ := read_fin hy
  have hr : fmul x y = dbl.nearest (sg x ^^ sg y) (m * n) (i + j) := by
    unfold fmul Format.mul
    rw [e1, e2]
    rfl
  have h5 := nearest_any (sg x ^^ sg y) (m * n) (i + j) (m * n * 2 ^ (i + j + 1074 + (u : Int)).toNat) u (by clear hU; omega) rfl
  have e : m * n * 2 ^ (i + j + 1074 + (u : Int)).toNat = fxr (rg x) * fxr (rg y) := by
    rw [← h2, ← h4]
    have : (i + j + 1074 + (u : Int)).toNat = (i + 1074).toNat + (j + 1074).toNat := by clear hU h5; omega
    rw [this, Nat.pow_add]
    ac_rfl
  rw [hr, h5, e]
theorem fmul_neg {d i j : Nat} (hd : isFin d = true) (hi : isFin i = true) (hj : isFin j = true) (h : fx j = -fx i) : fx (fmul d j) = -fx (fmul d i) := by
  obtain ⟨u, hu, hU⟩ := U_spec
  have hrg : rg j = rg i := rg_of_fx (by omega)
  rw [fmul_val hu hU hd hi, fmul_val hu hU hd hj, hrg]
  generalize hr : min (rungQ (fxr (rg d) * fxr (rg i)) u) (2047 * 2 ^ 52) = r
  have hlt : r < 2 ^ 63 := by omega
  rw [fx_wd hlt, fx_wd hlt]
  by_cases h0 : fx i = 0
  · have hi0 : fxr (rg i) = 0 := by have := fx_abs i; omega
    have : r = 0 := by rw [← hr, hi0, Nat.mul_zero, rungQ_0]; rfl
    rw [this, fxr_zero, sgn_zero, sgn_zero]; rfl
  · have s1 : sg j = !sg i := by
      rw [sg_fx h0, sg_fx (by omega : fx j ≠ 0)]
      by_cases h1 : fx i < 0
      · rw [decide_eq_true h1, decide_eq_false (by omega)]; rfl
      · rw [decide_eq_false h1, decide_eq_true (by omega)]; rfl
    rw [s1, Bool.xor_not, sgn_not]
/-! ### Bounds -/
theorem turn_le {x : Nat} (hc : Canon x) (hf : isFin x = true) : fxr (rg (wTurn_1 x)) ≤ 2 * U := by
  obtain ⟨_, h2, _, _, h5⟩ := turn_near hc hf
  have hU := UR_pos
  have e := qv_nn (rg_sg (wTurn_1 x))
  rw [rg_rg] at e
  have hsq : qv (rg (wTurn_1 x)) * qv (rg (wTurn_1 x)) ≤ 2 := by
    rw [qv_rg_abs h2]
    have h6 : 0 ≤ qv (wTurn_0 x) * qv (wTurn_0 x) := by
      have := (bd_rabs (qv (wTurn_0 x)))
      have k : qv (wTurn_0 x) * qv (wTurn_0 x) = rabs (qv (wTurn_0 x)) * rabs (qv (wTurn_0 x)) := by
        unfold rabs
        split <;> grind
      rw [k]
      exact Rat.mul_nonneg this.nonneg this.nonneg
    have h7 := h5.2
    have h8 : 68 / 10 * eta ≤ 1 := by decide +kernel
    grind
  have hlt : qv (rg (wTurn_1 x)) < 2 := lt_of_sq (K := 2) (by decide) hsq (by decide +kernel)
  refine Rat.natCast_le_natCast.1 ?_
  rw [← e.1, Rat.natCast_mul]
  exact Rat.mul_le_mul_of_nonneg_right (Rat.le_of_lt hlt) (by grind)
end Go.Lk
end

section
/- Angles of any two sides. -/
namespace Go.Lk
set_option linter.unusedSimpArgs false
set_option linter.unusedVariables false
set_option maxRecDepth 10000
set_option maxHeartbeats 1000000
def Sides (a b : Nat) (β r e : Rat) : Prop := 0 ≤ β ∧ β ≤ 1 / 4 ∧
  ((β ≤ 1 / 8 ∧ Bd (qv (rg a) - r * cF (β * cir)) (r * e) ∧ Bd (qv (rg b) - r * sF (β * cir)) (r * e)) ∨
   (1 / 8 ≤ β ∧ Bd (qv (rg a) - r * sF ((1 / 4 - β) * cir)) (r * e) ∧ Bd (qv (rg b) - r * cF ((1 / 4 - β) * cir)) (r * e)))
theorem Sides.quad {a b : Nat} {β r e : Rat} (h : Sides a b β r e) (ha : isFin a = true) (hb : isFin b = true) (hr : 0 < r) (he : e ≤ 1 / 100000) : isFin (Lk.quad (rg a) (rg b)) = true ∧ Bd (qv (Lk.quad (rg a) (rg b)) - β) (3 * e + 18 * eta) := by
  obtain ⟨h0, h1, h2⟩ := h
  rcases h2 with ⟨h2, h3, h4⟩ | ⟨h2, h3, h4⟩
  · exact quadA (fin_rg ha) (fin_rg hb) (rg_sg a) (rg_sg b) h0 h2 hr he h3 h4
  · exact quadB (fin_rg ha) (fin_rg hb) (rg_sg a) (rg_sg b) h2 h1 hr he h3 h4
theorem cs_q {β : Rat} (h0 : 0 ≤ β) (h1 : β ≤ 1 / 8) : 0 ≤ β * cir ∧ β * cir ≤ YY ∧ 55 / 10 * β ≤ sF (β * cir) ∧ 6 / 10 ≤ cF (β * cir) ∧ sF (β * cir) ≤ 786 / 1000 ∧ cF (β * cir) ≤ 1 := by
  obtain ⟨r1, r2, r3, r4⟩ := cir_le
  have y0 := Rat.mul_nonneg h0 (show 0 ≤ cir by grind)
  have y1 : β * cir ≤ YY := by have := Rat.mul_le_mul_of_nonneg_right h1 (c := cir) (by grind); grind
  obtain ⟨q1, q2, q3, q4, q5, q6, q7⟩ := cs_range y0 y1
  have hY : YY ≤ 786 / 1000 := by decide +kernel
  have := Rat.mul_nonneg h0 (show 0 ≤ cir - 628 / 100 by grind)
  exact ⟨y0, y1, by grind, q7, by grind, by grind⟩
/-- No second side: no angle. -/
theorem Sides.flat {a b : Nat} {β r e : Rat} (h : Sides a b β r e) (hr : 0 < r) (he : e ≤ 1 / 100000) (hb : qv (rg b) = 0) : β ≤ e / 5 := by
  obtain ⟨h0, h1, h2⟩ := h
  rcases h2 with ⟨h2, h3, h4⟩ | ⟨h2, h3, h4⟩
  · obtain ⟨_, _, q3, _⟩ := cs_q h0 h2
    have : sF (β * cir) ≤ e := le_cancel hr (by have := h4.1; rw [hb] at this; grind)
    grind
  · obtain ⟨_, _, _, q4, _⟩ := cs_q (show 0 ≤ 1 / 4 - β by grind) (by grind)
    have : cF ((1 / 4 - β) * cir) ≤ e := le_cancel hr (by have := h4.1; rw [hb] at this; grind)
    grind
/-- No first side: a quarter. -/
theorem Sides.steep {a b : Nat} {β r e : Rat} (h : Sides a b β r e) (hr : 0 < r) (he : e ≤ 1 / 100000) (ha : qv (rg a) = 0) : 1 / 4 - β ≤ e / 5 := by
  obtain ⟨h0, h1, h2⟩ := h
  rcases h2 with ⟨h2, h3, h4⟩ | ⟨h2, h3, h4⟩
  · obtain ⟨_, _, _, q4, _⟩ := cs_q h0 h2
    have : cF (β * cir) ≤ e := le_cancel hr (by have := h3.1; rw [ha] at this; grind)
    grind
  · obtain ⟨_, _, q3, _⟩ := cs_q (show 0 ≤ 1 / 4 - β by grind) (by grind)
    have : sF ((1 / 4 - β) * cir) ≤ e := le_cancel hr (by have := h3.1; rw [ha] at this; grind)
    grind
theorem Sides.pos {a b : Nat} {β r e : Rat} (h : Sides a b β r e) (hr : 0 < r) (he : e ≤ 1 / 100000) : 0 < qv (rg a) ∨ 0 < qv (rg b) := by
  obtain ⟨h0, h1, h2⟩ := h
  have key : ∀ {v c : Rat}, 6 / 10 ≤ c → Bd (v - r * c) (r * e) → 0 < v := by
    intro v c hc hv
    have k1 := Rat.mul_le_mul_of_nonneg_left hc (c := r) (Rat.le_of_lt hr)
    have k2 := Rat.mul_le_mul_of_nonneg_left he (c := r) (Rat.le_of_lt hr)
    have := hv.1
    grind
  rcases h2 with ⟨h2, h3, h4⟩ | ⟨h2, h3, h4⟩
  · exact .inl (key (cs_q h0 h2).2.2.2.1 h3)
  · exact .inr (key (cs_q (show 0 ≤ 1 / 4 - β by grind) (by grind)).2.2.2.1 h4)
/-! ### Angle -/
theorem canon_bif {c : Bool} {x y : Nat} (hx : Canon x) (hy : Canon y) : Canon (bif c then x else y) := by cases c; exact hy; exact hx
theorem canon_part (q : Nat) : Canon (wPart_0 q) := by
  rw [part_eq]
  exact canon_bif (Canon.fsub _ _) (by unfold partR; exact Canon.fdiv _ _)
theorem canon_quad (X Y : Nat) : Canon (quad X Y) := by
  unfold quad
  exact canon_bif (Canon.fsub _ _) (canon_part _)
def half1 (a t : Nat) : Nat := bif flt a 0 then fsub 4602678819172646912 t else t
def angP (a b : Nat) : Nat := bif feq (half1 a (quad (fabs a) (fabs b))) 4602678819172646912 then 13826050856027422720 else bif flt b 0 then fadd (aneg false (half1 a (quad (fabs a) (fabs b)))) 0 else fadd (half1 a (quad (fabs a) (fabs b))) 0
theorem angle_form {a b : Nat} (h1 : feq (fsub a a) 0 = true) (h2 : feq (fsub b b) 0 = true) (h3 : (feq a 0 && feq b 0) = false) : wAngle_0 a b = angP a b := by
  unfold wAngle_0 angP half1 quad
  rw [h1, h2, h3]
  simp only [cond_true, cond_false]
  cases fgt (fabs b) (fabs a) <;> cases flt a 0 <;> simp only [cond_true, cond_false]
theorem zero_q : qv 0 = 0 := by decide +kernel
theorem qv_clean {v : Nat} (hc : Canon v) (hf : isFin v = true) : isFin (fadd v 0) = true ∧ qv (fadd v 0) = qv v := by
  obtain ⟨h1, h2⟩ := fx_clean hc hf
  exact ⟨h1, by unfold qv; rw [h2]⟩
theorem qv_neg {v : Nat} (hc : Canon v) (hf : isFin v = true) : isFin (aneg false v) = true ∧ qv (aneg false v) = -qv v ∧ Canon (aneg false v) := by
  obtain ⟨h1, h2, h3⟩ := fx_neg hc hf
  exact ⟨h1, by unfold qv; rw [h2, Rat.intCast_neg, Rat.div_def, Rat.div_def, Rat.neg_mul], h3⟩
theorem qv_zero_rg {x : Nat} (h : isFin x = true) : qv (rg x) = 0 ↔ qv x = 0 := by
  have := qv_rg_abs h
  constructor
  · intro h0
    rw [h0] at this
    rcases Rat.mul_eq_zero.1 (show qv x * qv x = 0 by grind) with h | h <;> exact h
  · intro h0
    rw [h0] at this
    rcases Rat.mul_eq_zero.1 (show qv (rg x) * qv (rg x) = 0 by grind) with h | h <;> exact h
theorem feq_zero {x : Nat} (h : isFin x = true) : feq x 0 = true ↔ qv x = 0 := by
  rw [feq_fin h fin_zero]
  constructor
  · intro h1
    have h2 := of_decide_eq_true h1
    have : qv x = qv 0 := congrArg (fun z : Int => (z : Rat) / UR) h2
    rw [this, zero_q]
  · intro h1
    refine decide_eq_true ?_
    have h2 := qv_U x
    rw [h1] at h2
    have h3 : ((fx x : Int) : Rat) = ((0 : Int) : Rat) := by rw [← h2]; grind
    exact Rat.intCast_inj.1 h3
theorem flt_qv {x y : Nat} (hx : isFin x = true) (hy : isFin y = true) : (flt x y = true → qv x < qv y) ∧ (flt x y = false → qv y ≤ qv x) := by
  have h := fgt_qv hy hx
  have e : flt x y = fgt y x := by rw [flt_fin hx hy, fgt_fin hy hx]
  rw [e]; exact h
/-- What Angle tells, where it is not near a half. -/
theorem angle_near {a b : Nat} {β r e w : Rat} {left : Bool} (ca : Canon a) (cb : Canon b) (ha : isFin a = true) (hb : isFin b = true) (h : Sides a b β r e) (hr : 0 < r) (he : e ≤ 1 / 100000)
    (hα : Bd (rabs w - bif left then 1 / 2 - β else β) (2 * eta)) (hw : rabs w ≤ 4995 / 10000) (hl0 : left = false → 0 ≤ qv a) (hl1 : left = true → qv a ≤ 0) (hb0 : w < 0 → 0 < qv b → rabs w ≤ e / 5) (hb1 : 0 ≤ w → qv b < 0 → rabs w ≤ e / 5) :
    isFin (wAngle_0 a b) = true ∧ Bd (qv (wAngle_0 a b) - w) (4 * e + 30 * eta) := by
  obtain ⟨t1, t2, t3, t4⟩ := eta_small
  have he0 : 0 ≤ e := by
    obtain ⟨_, _, h2⟩ := h
    have hh : 0 ≤ r * e := by rcases h2 with ⟨_, h3, _⟩ | ⟨_, h3, _⟩ <;> exact h3.nonneg
    exact Rat.not_lt.1 fun h => by have := Rat.mul_lt_mul_of_pos_left h hr; grind
  have hne : (feq a 0 && feq b 0) = false := by
    cases h1 : feq a 0 <;> cases h2 : feq b 0 <;> try rfl
    have k1 := (qv_zero_rg ha).2 ((feq_zero ha).1 h1)
    have k2 := (qv_zero_rg hb).2 ((feq_zero hb).1 h2)
    rcases h.pos hr he with h | h <;> grind
  rw [angle_form (by rw [fin_test ca]; exact ha) (by rw [fin_test cb]; exact hb) hne]
  obtain ⟨q1, q2⟩ := h.quad ha hb hr he
  unfold angP
  rw [fabs_rg ha, fabs_rg hb]
  have hβ := h.1
  have hβ4 := h.2.1
  -- the half
  have hU : isFin (half1 a (quad (rg a) (rg b))) = true ∧ Canon (half1 a (quad (rg a) (rg b))) ∧ Bd (qv (half1 a (quad (rg a) (rg b))) - rabs w) (17 / 5 * e + 22 * eta) := by
    unfold half1
    have cq : Canon (quad (rg a) (rg b)) := canon_quad _ _
    cases hf : flt a 0 with
    | true =>
      rw [cond_true]
      have hlt := (flt_qv ha fin_zero).1 hf
      rw [zero_q] at hlt
      have hL : left = true := by
        cases left with
        | true => rfl
        | false => have := hl0 rfl; grind
      subst hL
      obtain ⟨p1, p2⟩ := hlf_q
      have hB : Bd (qv 4602678819172646912 - qv (quad (rg a) (rg b))) 1 := by rw [p2]; exact ⟨by have := q2.2; grind, by have := q2.1; grind⟩
      obtain ⟨s1, s2⟩ := sub_q p1 q1 hB (by decide +kernel)
      rw [p2] at s2
      refine ⟨s1, Canon.fsub _ _, ?_⟩
      simp only [cond_true] at hα
      exact (((s2.sub q2).sub hα).of_eq (by grind)).mono (by grind)
    | false =>
      rw [cond_false]
      have hge := (flt_qv ha fin_zero).2 hf
      rw [zero_q] at hge
      refine ⟨q1, cq, ?_⟩
      cases left with
      | false =>
        simp only [cond_false] at hα
        exact ((q2.sub hα).of_eq (by grind)).mono (by grind)
      | true =>
        simp only [cond_true] at hα
        have hz : qv a = 0 := by have := hl1 rfl; grind
        have hs := h.steep hr he ((qv_zero_rg ha).2 hz)
        have h2 : Bd (2 * β - 1 / 2) (2 / 5 * e) := ⟨by grind, by grind⟩
        exact (((q2.sub hα).add h2).of_eq (by grind)).mono (by grind)
  obtain ⟨u1, u2, u3⟩ := hU
  generalize half1 a (quad (rg a) (rg b)) = V at *
  have hlt : qv V < 1 / 2 := by have := u3.2; grind
  have hfe : feq V 4602678819172646912 = false := by
    cases hx : feq V 4602678819172646912
    · rfl
    · rw [feq_fin u1 hlf_q.1] at hx
      have h2 := of_decide_eq_true hx
      have h3 : qv V = qv 4602678819172646912 := congrArg (fun z : Int => (z : Rat) / UR) h2
      rw [hlf_q.2] at h3
      grind
  rw [hfe, cond_false]
  have rw0 : 0 ≤ w → rabs w = w := fun h => by unfold rabs; rw [if_neg (by grind)]
  have rw1 : w < 0 → rabs w = -w := fun h => by unfold rabs; rw [if_pos h]
  cases hb2 : flt b 0 with
  | true =>
    rw [cond_true]
    have hlt := (flt_qv hb fin_zero).1 hb2
    rw [zero_q] at hlt
    obtain ⟨n1, n2, n3⟩ := qv_neg u2 u1
    obtain ⟨m1, m2⟩ := qv_clean n3 n1
    rw [m2, n2]
    refine ⟨m1, ?_⟩
    by_cases hw0 : w < 0
    · rw [rw1 hw0] at u3
      exact (u3.neg.of_eq (by grind)).mono (by grind)
    · have h0 : 0 ≤ w := Rat.not_lt.1 hw0
      have hs := hb1 h0 hlt
      rw [rw0 h0] at u3 hs
      obtain ⟨v1, v2⟩ := u3
      constructor <;> grind
  | false =>
    rw [cond_false]
    have hge := (flt_qv hb fin_zero).2 hb2
    rw [zero_q] at hge
    obtain ⟨m1, m2⟩ := qv_clean u2 u1
    rw [m2]
    refine ⟨m1, ?_⟩
    rcases Rat.le_total (a := 0) (b := w) with h0 | h0
    · rw [rw0 h0] at u3
      exact u3.mono (by grind)
    · by_cases hw0 : w = 0
      · rw [rw0 (by grind)] at u3
        exact u3.mono (by grind)
      · have hw1 : w < 0 := by grind
        have hs : rabs w ≤ e / 5 + 2 * eta := by
          by_cases hz : qv b = 0
          · have h5 := h.flat hr he ((qv_zero_rg hb).2 hz)
            cases left with
            | true => simp only [cond_true] at hα; have := hα.1; grind
            | false => simp only [cond_false] at hα; have := hα.2; grind
          · have := hb0 hw1 (by grind); grind
        rw [rw1 hw1] at u3 hs
        obtain ⟨v1, v2⟩ := u3
        constructor <;> grind
end Go.Lk
end

section
/- The sides of a turn. -/
namespace Go.Lk
set_option linter.unusedSimpArgs false
set_option linter.unusedVariables false
set_option maxRecDepth 10000
set_option maxHeartbeats 1000000
theorem abs_bd {v : Nat} {c e : Rat} (hv : isFin v = true) (hc : 0 ≤ c) (h : Bd (qv v - c) e) : Bd (qv (rg v) - c) e := by
  have h1 := (qv_nn (rg_sg v)).2
  have h2 := qv_rg_abs hv
  have h3 : (qv (rg v) - qv v) * (qv (rg v) + qv v) = 0 := by grind
  rcases Rat.mul_eq_zero.1 h3 with h4 | h4
  · exact h.of_eq (by grind)
  · exact ⟨by have := h.1; have := h.2; grind, by have := h.1; grind⟩
theorem eighth_nn {a : Nat} (ha : isFin a = true) (sa : sg a = false) (h8 : qv a ≤ 1 / 8) : 0 ≤ qv (wEighth_0 a) ∧ 0 ≤ qv (wEighth_1 a) := by
  obtain ⟨t1, t2, t3, t4⟩ := eta_small
  have na := (qv_nn sa).2
  obtain ⟨c0, c1⟩ := eighth_cs ha sa h8
  obtain ⟨q1, q2, q3, q4, q5, q6⟩ := cs_q na h8
  refine ⟨by have := c0.1; grind, ?_⟩
  rw [eighth_1]
  generalize hb : feq a 4593671619917905920 = b
  cases b with
  | true => rw [cond_true, half_q.2]; decide +kernel
  | false =>
    rw [cond_false]
    obtain ⟨cc1, cc2⟩ := circ_q
    have hac : Bd (qv a * qv 4618760256179416344) 1 := by rw [cir_q]; exact ⟨by grind, Rat.le_trans q2 (by decide +kernel)⟩
    obtain ⟨y1, y2⟩ := mul_q ha cc1 hac (by decide +kernel)
    have sy : sg (fmul a 4618760256179416344) = false := sg_mul ha cc1 (by rw [sa]; rfl)
    rw [cir_q] at y2
    have hY : YY ≤ 7853981634 / 10000000000 := by decide +kernel
    generalize fmul a 4618760256179416344 = y at *
    have ny := (qv_nn sy).2
    have hy : qv y ≤ 78539817 / 100000000 := by
      have h1 := y2.2
      have h2 := Rat.le_trans q2 hY
      have he : eta ≤ 1 / 1000000000000 := by decide +kernel
      clear q2 q3 q4 q5 q6 c0 c1 cc2 hY
      grind
    have by' : Bd (qv y) (78539817 / 100000000) := ⟨by grind, hy⟩
    have hyy := by'.mul by'
    obtain ⟨z1, z2⟩ := mul_q y1 y1 hyy (by decide +kernel)
    have sz : sg (fmul y y) = false := sg_mul y1 y1 rfl
    have nz := (qv_nn sz).2
    have hz : qv (fmul y y) ≤ ZZ := by
      have h1 := hyy.2
      have h2 := z2.2
      have h3 : (78539817 / 100000000 : Rat) * (78539817 / 100000000) + (78539817 / 100000000 * (78539817 / 100000000) * eta + tau) ≤ ZZ := by decide +kernel
      grind
    obtain ⟨S1, S2, S3, S4, S5⟩ := sinE_err z1 nz hz
    have ss := sg_of_pos S1 (by have := S2.1; grind)
    exact (qv_nn (sg_mul S1 y1 (by rw [ss, sy]))).2
theorem fx_of_qv {x y : Nat} : (qv x ≤ qv y → fx x ≤ fx y) ∧ (fx x ≤ fx y → qv x ≤ qv y) := ⟨qv_le_fx, fx_le_qv⟩
theorem rabs_rg {x : Nat} (h : isFin x = true) : qv (rg x) = rabs (qv x) := by
  have h1 := (qv_nn (rg_sg x)).2
  have h2 := qv_rg_abs h
  have h3 : (qv (rg x) - qv x) * (qv (rg x) + qv x) = 0 := by grind
  unfold rabs
  by_cases hn : qv x < 0
  · rw [if_pos hn]
    rcases Rat.mul_eq_zero.1 h3 with h4 | h4 <;> grind
  · rw [if_neg hn]
    rcases Rat.mul_eq_zero.1 h3 with h4 | h4 <;> grind
/-- re and im of an eighth's numbers. -/
theorem clean_of {v r : Nat} (hv : Canon v) (hfv : isFin v = true) (hr : r = fadd v 0 ∨ r = fadd (aneg false v) 0) : isFin r = true ∧ rg r = rg v := by
  rcases hr with rfl | rfl
  · exact rg_clean hv hfv
  · obtain ⟨n1, n2, n3⟩ := rg_neg hv hfv
    obtain ⟨m1, m2⟩ := rg_clean n3 n1
    exact ⟨m1, by rw [m2, n2]⟩
theorem sides1 {a re im : Nat} (ha : isFin a = true) (sa : sg a = false) (h8 : qv a ≤ 1 / 8) (h1 : re = fadd (wEighth_0 a) 0 ∨ re = fadd (aneg false (wEighth_0 a)) 0) (h2 : im = fadd (wEighth_1 a) 0 ∨ im = fadd (aneg false (wEighth_1 a)) 0) : Sides re im (qv a) 1 (4 * eta) := by
  obtain ⟨p1, p2, p3, p4, _⟩ := eighth_pair ha sa h8
  obtain ⟨c0, c1⟩ := eighth_cs ha sa h8
  have na := (qv_nn sa).2
  obtain ⟨q1, q2, q3, q4, q5, q6⟩ := cs_q na h8
  obtain ⟨_, r1⟩ := clean_of p3 p1 h1
  obtain ⟨_, r2⟩ := clean_of p4 p2 h2
  refine ⟨na, by grind, .inl ⟨h8, ?_, ?_⟩⟩
  · rw [r1]; exact ((abs_bd p1 (by grind) c0).of_eq (by grind)).mono (by grind)
  · rw [r2]; exact ((abs_bd p2 (by grind) c1).of_eq (by grind)).mono (by grind)
theorem sides2 {a re im : Nat} (ha : isFin a = true) (sa : sg a = false) (h8 : qv a ≤ 1 / 8) (h1 : re = fadd (wEighth_1 a) 0 ∨ re = fadd (aneg false (wEighth_1 a)) 0) (h2 : im = fadd (wEighth_0 a) 0 ∨ im = fadd (aneg false (wEighth_0 a)) 0) : Sides re im (1 / 4 - qv a) 1 (4 * eta) := by
  obtain ⟨p1, p2, p3, p4, _⟩ := eighth_pair ha sa h8
  obtain ⟨c0, c1⟩ := eighth_cs ha sa h8
  have na := (qv_nn sa).2
  obtain ⟨q1, q2, q3, q4, q5, q6⟩ := cs_q na h8
  obtain ⟨_, r1⟩ := clean_of p4 p2 h1
  obtain ⟨_, r2⟩ := clean_of p3 p1 h2
  have e : 1 / 4 - (1 / 4 - qv a) = qv a := by grind
  refine ⟨by grind, by grind, .inr ⟨by grind, ?_, ?_⟩⟩
  · rw [e, r1]; exact ((abs_bd p2 (by grind) c1).of_eq (by grind)).mono (by grind)
  · rw [e, r2]; exact ((abs_bd p1 (by grind) c0).of_eq (by grind)).mono (by grind)
theorem nn_of {v : Nat} (hc : Canon v) (hf : isFin v = true) (h : 0 ≤ qv v) : 0 ≤ qv (fadd v 0) ∧ qv (fadd (aneg false v) 0) ≤ 0 := by
  obtain ⟨n1, n2, n3⟩ := qv_neg hc hf
  rw [(qv_clean hc hf).2, (qv_clean n3 n1).2, n2]
  exact ⟨h, by grind⟩
theorem bd_l5 {a : Rat} (h0 : 0 ≤ a) (h1 : a ≤ 1 / 4) : Bd (1 / 4 - a) (1 / 2) := ⟨by grind, by grind⟩
theorem bd_l6 {a : Rat} (h0 : 0 ≤ a) (h1 : a ≤ 1 / 2) : Bd (1 / 2 - a) (1 / 2) := ⟨by grind, by grind⟩
theorem bd_l1 {a b c : Rat} (h1 : Bd (c - (1 / 4 - b)) (1 / 2 * eta + tau)) (h2 : Bd (b - (1 / 2 - a)) (1 / 2 * eta + tau)) (t3 : 0 ≤ tau) (t4 : tau ≤ eta / 1000000000000) : Bd (a - (1 / 2 - (1 / 4 - c))) (2 * eta) := by
  have h := h1.sub h2
  exact ⟨by have := h1.1; have := h1.2; have := h2.1; have := h2.2; grind, by have := h1.1; have := h1.2; have := h2.1; have := h2.2; grind⟩
theorem bd_l2 {a b : Rat} (h2 : Bd (b - (1 / 2 - a)) (1 / 2 * eta + tau)) (t1 : 0 ≤ eta) (t3 : 0 ≤ tau) (t4 : tau ≤ eta / 1000000000000) : Bd (a - (1 / 2 - b)) (2 * eta) := ⟨by have := h2.1; have := h2.2; grind, by have := h2.1; have := h2.2; grind⟩
theorem bd_l3 {a c : Rat} (h2 : Bd (c - (1 / 4 - a)) (1 / 2 * eta + tau)) (t1 : 0 ≤ eta) (t3 : 0 ≤ tau) (t4 : tau ≤ eta / 1000000000000) : Bd (a - (1 / 4 - c)) (2 * eta) := ⟨by have := h2.1; have := h2.2; grind, by have := h2.1; have := h2.2; grind⟩
theorem bd_l4 {a : Rat} (t1 : 0 ≤ eta) : Bd (a - a) (2 * eta) := ⟨by grind, by grind⟩
/-- A turn's sides: where they stand, and on which sides. -/
theorem turn_sides {x : Nat} (hc : Canon x) (hf : isFin x = true) : isFin (wrapP x) = true ∧ ∃ (left : Bool) (β : Rat), Sides (wTurn_0 x) (wTurn_1 x) β 1 (4 * eta) ∧ Bd (rabs (qv (wrapP x)) - bif left then 1 / 2 - β else β) (2 * eta) ∧
    (left = false → 0 ≤ qv (wTurn_0 x)) ∧ (left = true → qv (wTurn_0 x) ≤ 0) ∧ (qv (wrapP x) < 0 → qv (wTurn_1 x) ≤ 0) ∧ (0 ≤ qv (wrapP x) → 0 ≤ qv (wTurn_1 x)) ∧
    (left = true → 1 / 4 ≤ rabs (qv (wrapP x))) ∧ (left = false → rabs (qv (wrapP x)) ≤ 1 / 4) := by
  obtain ⟨t1, t2, t3, t4⟩ := eta_small
  obtain ⟨w1, _, w2, w3, _⟩ := wrap_val hc hf
  have hww : feq (wrapP x) (wrapP x) = true := by rw [feq_fin w1 w1]; exact decide_eq_true rfl
  obtain ⟨f0, f1⟩ := turn_form hww
  have hh := fx_half
  have ea := fabs_rg w1
  have fa := fin_rg w1
  have sa := rg_sg (wrapP x)
  have hrab := rabs_rg w1
  obtain ⟨o1, o2⟩ := oct_q
  obtain ⟨p1, p2⟩ := quart_q
  obtain ⟨u1, u2⟩ := hlf_q
  have ha2 : qv (rg (wrapP x)) ≤ 1 / 2 := by
    rw [← u2]
    refine fx_le_qv ?_
    have e := fx_rg sa
    rw [rg_rg] at e
    have := fx_abs (wrapP x)
    have eh : half = 4602678819172646912 := rfl
    rw [← eh]
    omega
  refine ⟨w1, ?_⟩
  rw [f0, f1, ea, ← hrab]
  have na := (qv_nn sa).2
  have hsign := flt_qv w1 fin_zero
  rw [zero_q] at hsign
  generalize rg (wrapP x) = a at *
  -- the imaginary part's sign
  have im : ∀ {I : Nat}, Canon I → isFin I = true → 0 ≤ qv I → (qv (wrapP x) < 0 → qv (bif flt (wrapP x) 0 then fadd (aneg false I) 0 else fadd I 0) ≤ 0) ∧ (0 ≤ qv (wrapP x) → 0 ≤ qv (bif flt (wrapP x) 0 then fadd (aneg false I) 0 else fadd I 0)) := by
    intro I cI fI nI
    obtain ⟨k1, k2⟩ := nn_of cI fI nI
    cases hs : flt (wrapP x) 0 with
    | true => have := hsign.1 hs; exact ⟨fun _ => k2, fun h => by grind⟩
    | false => have := hsign.2 hs; exact ⟨fun h => by grind, fun _ => k1⟩
  have ims : ∀ (I : Nat), (bif flt (wrapP x) 0 then fadd (aneg false I) 0 else fadd I 0) = fadd I 0 ∨ (bif flt (wrapP x) 0 then fadd (aneg false I) 0 else fadd I 0) = fadd (aneg false I) 0 := by
    intro I; cases flt (wrapP x) 0 <;> simp
  have qa : 0 ≤ fx a ∧ 2 * fx a ≤ (U : Int) := by
    have h1 := qv_le_fx (x := 0) (y := a) (by rw [zero_q]; exact na)
    have h2 := qv_le_fx (x := a) (y := 4602678819172646912) (by rw [u2]; exact ha2)
    have eh : half = 4602678819172646912 := rfl
    rw [← eh] at h2
    rw [fx_0] at h1
    omega
  obtain ⟨hq, h8⟩ := fx_quart
  have sh : sg half = false := by decide
  have s4 : sg 4598175219545276416 = false := by decide
  have r4 : (fxr (rg 4598175219545276416) : Int) = fx 4598175219545276416 := rfl
  have r8 : (fxr (rg 4593671619917905920) : Int) = fx 4593671619917905920 := rfl
  have eh : half = 4602678819172646912 := rfl
  rw [← eh] at u2
  unfold turnR turnI
  rw [← eh]
  by_cases g1 : fx 4598175219545276416 < fx a
  · have g1' : fgt a 4598175219545276416 = true := by rw [fgt_fin fa p1]; exact decide_eq_true g1
    obtain ⟨b1, b2, b3, b4⟩ := sub_range fin_half fa sh sa (d := 4598175219545276416) (by decide) (by omega) (by omega)
    have ha4 := (fgt_qv fa p1).1 g1'
    rw [p2] at ha4
    have hB : Bd (qv half - qv a) (1 / 2) := by rw [u2]; exact bd_l6 na ha2
    obtain ⟨_, b5⟩ := sub_q fin_half fa hB (by decide +kernel)
    rw [u2] at b5
    simp only [g1', cond_true]
    generalize fsub half a = b at *
    have nb := (qv_nn b2).2
    by_cases g2 : fx 4593671619917905920 < fx b
    · have g2' : fgt b 4593671619917905920 = true := by rw [fgt_fin b1 o1]; exact decide_eq_true g2
      obtain ⟨c1, c2, c3, c4⟩ := sub_range p1 b1 s4 b2 (d := 4593671619917905920) (by decide) (by omega) (by omega)
      have hle : qv b ≤ 1 / 4 := by rw [← p2]; exact fx_le_qv (by omega)
      have hC : Bd (qv 4598175219545276416 - qv b) (1 / 2) := by rw [p2]; exact bd_l5 nb hle
      obtain ⟨_, c5⟩ := sub_q p1 b1 hC (by decide +kernel)
      rw [p2] at c5
      simp only [g2', cond_true]
      generalize fsub 4598175219545276416 b = c at *
      have hc8 : qv c ≤ 1 / 8 := by rw [← o2]; exact fx_le_qv (by omega)
      obtain ⟨e0, e1, e2, e3, _⟩ := eighth_pair c1 c2 hc8
      obtain ⟨z0, z1⟩ := eighth_nn c1 c2 hc8
      obtain ⟨i1, i2⟩ := im e2 e0 z0
      refine ⟨true, 1 / 4 - qv c, sides2 c1 c2 hc8 (.inr rfl) (ims _), ?_, (by intro h; cases h), fun _ => (nn_of e3 e1 z1).2, i1, i2, fun _ => Rat.le_of_lt ha4, (by intro h; cases h)⟩
      rw [cond_true]
      exact bd_l1 c5 b5 t3 t4
    · have g2' : fgt b 4593671619917905920 = false := by rw [fgt_fin b1 o1]; exact decide_eq_false g2
      simp only [g2', cond_false]
      have hb8 : qv b ≤ 1 / 8 := by rw [← o2]; exact fx_le_qv (by omega)
      obtain ⟨e0, e1, e2, e3, _⟩ := eighth_pair b1 b2 hb8
      obtain ⟨z0, z1⟩ := eighth_nn b1 b2 hb8
      obtain ⟨i1, i2⟩ := im e3 e1 z1
      refine ⟨true, qv b, sides1 b1 b2 hb8 (.inr rfl) (ims _), ?_, (by intro h; cases h), fun _ => (nn_of e2 e0 z0).2, i1, i2, fun _ => Rat.le_of_lt ha4, (by intro h; cases h)⟩
      rw [cond_true]
      exact bd_l2 b5 t1 t3 t4
  · have g1' : fgt a 4598175219545276416 = false := by rw [fgt_fin fa p1]; exact decide_eq_false g1
    have ha4 := (fgt_qv fa p1).2 g1'
    rw [p2] at ha4
    simp only [g1', cond_false]
    by_cases g2 : fx 4593671619917905920 < fx a
    · have g2' : fgt a 4593671619917905920 = true := by rw [fgt_fin fa o1]; exact decide_eq_true g2
      obtain ⟨c1, c2, c3, c4⟩ := sub_range p1 fa s4 sa (d := 4593671619917905920) (by decide) (by omega) (by omega)
      have hC : Bd (qv 4598175219545276416 - qv a) (1 / 2) := by rw [p2]; exact bd_l5 na ha4
      obtain ⟨_, c5⟩ := sub_q p1 fa hC (by decide +kernel)
      rw [p2] at c5
      simp only [g2', cond_true]
      generalize fsub 4598175219545276416 a = c at *
      have hc8 : qv c ≤ 1 / 8 := by rw [← o2]; exact fx_le_qv (by omega)
      obtain ⟨e0, e1, e2, e3, _⟩ := eighth_pair c1 c2 hc8
      obtain ⟨z0, z1⟩ := eighth_nn c1 c2 hc8
      obtain ⟨i1, i2⟩ := im e2 e0 z0
      refine ⟨false, 1 / 4 - qv c, sides2 c1 c2 hc8 (.inl rfl) (ims _), ?_, fun _ => (nn_of e3 e1 z1).1, (by intro h; cases h), i1, i2, (by intro h; cases h), fun _ => ha4⟩
      rw [cond_false]
      exact bd_l3 c5 t1 t3 t4
    · have g2' : fgt a 4593671619917905920 = false := by rw [fgt_fin fa o1]; exact decide_eq_false g2
      simp only [g2', cond_false]
      have hb8 : qv a ≤ 1 / 8 := by rw [← o2]; exact fx_le_qv (by omega)
      obtain ⟨e0, e1, e2, e3, _⟩ := eighth_pair fa sa hb8
      obtain ⟨z0, z1⟩ := eighth_nn fa sa hb8
      obtain ⟨i1, i2⟩ := im e3 e1 z1
      refine ⟨false, qv a, sides1 fa sa hb8 (.inl rfl) (ims _), ?_, fun _ => (nn_of e2 e0 z0).1, (by intro h; cases h), i1, i2, (by intro h; cases h), fun _ => ha4⟩
      rw [cond_false]
      exact bd_l4 t1
end Go.Lk
end

section
/- BeamBack: quotients with a sign; products by one; turns that are not wrapped. -/
namespace Go.Lk
set_option linter.unusedSimpArgs false
set_option linter.unusedVariables false
set_option maxRecDepth 10000
set_option maxHeartbeats 1000000
theorem div_s {x y : Nat} (hx : isFin x = true) (hy : isFin y = true) (sy : sg y = false) (h0 : 0 < qv y) (hle : qv (rg x) ≤ qv y) :
    isFin (fdiv x y) = true ∧ Bd (qv (fdiv x y) * qv y - qv x) (qv (rg x) * eta + tau * qv y) := by
  have hU := UR_pos
  obtain ⟨ex, nx⟩ := qv_nn (rg_sg x)
  rw [rg_rg] at ex
  obtain ⟨ey, ny⟩ := qv_nn sy
  have hY : fxr (rg y) ≠ 0 := by
    intro h
    rw [h] at ey
    have : qv y * UR = 0 := ey
    rcases Rat.mul_eq_zero.1 this with h1 | h1 <;> grind
  obtain ⟨r, e, hr⟩ := fdiv_near hx hy hY
  rw [sy, Bool.xor_false] at e
  have hXY : fxr (rg x) ≤ fxr (rg y) := by
    refine Rat.natCast_le_natCast.1 ?_
    rw [← ex, ← ey]
    exact Rat.mul_le_mul_of_nonneg_right hle (by grind)
  have hone : r ≤ rg fone := hr.le_of (by have := rg_one_lt; unfold infR; omega) (by rw [fxr_one, Nat.mul_comm U]; exact Nat.mul_le_mul_right _ hXY)
  have ho := rg_one_lt
  obtain ⟨e1, e2⟩ := hr.err (by omega) (by unfold infR; omega)
  have hf : isFin (wd false r) = true := fin_wd (by omega)
  have hsg : sg (wd false r) = false := sg_wd (by omega)
  rw [e]
  refine ⟨fin_wd (by omega), ?_⟩
  have main : Bd (qv (wd false r) * qv y - qv (rg x)) (qv (rg x) * eta + tau * qv y) := by
    obtain ⟨er, nr⟩ := qv_nn hsg
    rw [rg_wd (by omega)] at er
    have h52 : (2 : Nat) ^ 52 = 4503599627370496 := by decide
    rw [h52] at e1 e2
    have m1 : max (4503599627370496 * fxr (rg y)) (fxr (rg x) * U) ≤ 4503599627370496 * fxr (rg y) + fxr (rg x) * U := by omega
    have k1 : 4503599627370496 * (fxr r * fxr (rg y)) ≤ 4503599627370496 * (fxr (rg x) * U) + (4503599627370496 * fxr (rg y) + fxr (rg x) * U) := by omega
    have k2 : 4503599627370496 * (fxr (rg x) * U) ≤ 4503599627370496 * (fxr r * fxr (rg y)) + (4503599627370496 * fxr (rg y) + fxr (rg x) * U) := by omega
    have k1 := Rat.natCast_le_natCast.2 k1
    have k2 := Rat.natCast_le_natCast.2 k2
    simp only [Rat.natCast_mul, Rat.natCast_add] at k1 k2
    rw [← er, ← ex, ← ey] at k1 k2
    have e3 : ((4503599627370496 : Nat) : Rat) = 4503599627370496 := by rfl
    have e4 : ((U : Nat) : Rat) = UR := rfl
    rw [e3, e4] at k1 k2
    have ht := tau_UR
    have ht2 : qv y * UR ≤ tau * qv y * (UR * UR) := by
      have := Rat.mul_le_mul_of_nonneg_right ht (c := qv y * UR) (Rat.mul_nonneg ny (by grind))
      grind
    have e5 : qv (rg x) * eta * (UR * UR) * 4503599627370496 = qv (rg x) * (UR * UR) := by unfold eta; grind
    have hUU : 0 < UR * UR := Rat.mul_pos hU hU
    generalize qv (wd false r) = q at *
    constructor
    · refine Rat.le_of_mul_le_mul_right (c := UR * UR) ?_ hUU
      grind
    · refine Rat.le_of_mul_le_mul_right (c := UR * UR) ?_ hUU
      grind
  have s1 : ∀ s : Bool, qv (wd s r) = bif s then -qv (wd false r) else qv (wd false r) := by
    intro s
    cases s with
    | false => rfl
    | true =>
      rw [cond_true]
      unfold qv
      rw [fx_wd (by omega), fx_wd (by omega)]
      have : sgn true (fxr r) = -sgn false (fxr r) := by unfold sgn; simp
      rw [this, Rat.intCast_neg, Rat.div_def, Rat.div_def, Rat.neg_mul]
  have s2 : qv x = bif sg x then -qv (rg x) else qv (rg x) := by
    have e5 : fx (rg x) = (fxr (rg x) : Int) := by rw [fx_rg (rg_sg x), rg_rg]
    unfold qv
    rw [e5]
    unfold fx
    cases sg x with
    | false => rfl
    | true =>
      rw [cond_true]
      have : sgn true (fxr (rg x)) = -((fxr (rg x) : Nat) : Int) := by unfold sgn; simp
      rw [this, Rat.intCast_neg, Rat.div_def, Rat.div_def, Rat.neg_mul]
  rw [s1 (sg x), s2]
  cases sg x with
  | false => exact main
  | true => exact main.neg.of_eq (by simp only [cond_true]; grind)
theorem wrap_less {x : Nat} (hc : Canon x) (hf : isFin x = true) (h : Bd (qv x) (4995 / 10000)) : qv (wrapP x) = qv x := by
  obtain ⟨w1, ⟨t, ht⟩, w2, w3, _⟩ := wrap_val hc hf
  have hU := U_pos
  have u2 := hlf_q
  have u3 : qv 13826050856027422720 = -1 / 2 := (qv_const (n := -1) (d := 2) (by decide) (by decide +kernel)).trans (by decide +kernel)
  have h1 : fx x ≤ fx 4602678819172646912 := qv_le_fx (by rw [u2.2]; exact Rat.le_trans h.2 (by decide +kernel))
  have h2 : fx (13826050856027422720) ≤ fx x := qv_le_fx (by rw [u3]; exact Rat.le_trans (by decide +kernel) h.1)
  have e1 : fx 4602678819172646912 * 2 = (U : Int) := by decide +kernel
  have e2 : fx 13826050856027422720 * 2 = -(U : Int) := by decide +kernel
  have hne : fx x ≠ fx 4602678819172646912 := fun he => by
    have : qv x = qv 4602678819172646912 := congrArg (fun z : Int => (z : Rat) / UR) he
    have h3 := h.2
    rw [this, u2.2] at h3
    exact absurd h3 (by decide +kernel)
  have hne2 : fx x ≠ fx 13826050856027422720 := fun he => by
    have : qv x = qv 13826050856027422720 := congrArg (fun z : Int => (z : Rat) / UR) he
    have h3 := h.1
    rw [this, u3] at h3
    exact absurd h3 (by decide +kernel)
  have h0 : t = 0 := by
    have k1 : 2 * (t * (U : Int)) < 2 * (U : Int) := by omega
    have k2 : -(2 * (U : Int)) < 2 * (t * (U : Int)) := by omega
    have p1 : t < 1 := by
      refine Int.not_le.1 fun h => ?_
      have := Int.mul_le_mul_of_nonneg_right h (show (0 : Int) ≤ (U : Int) by omega)
      omega
    have p2 : -1 < t := by
      refine Int.not_le.1 fun h => ?_
      have := Int.mul_le_mul_of_nonneg_right h (show (0 : Int) ≤ (U : Int) by omega)
      omega
    omega
  unfold qv
  rw [ht, h0, Int.zero_mul, Int.add_zero]
theorem fmul_1 {x : Nat} (hl : x < 2 ^ 64) (hx : isFin x = true) : fmul x 4607182418800017408 = x := by
  obtain ⟨r, e, hr⟩ := fmul_near hx one_q.1
  have ho : fxr (rg 4607182418800017408) = U := fxr_one
  have hi : rg x ≤ infR := by have := of_decide_eq_true hx; unfold infR; omega
  rw [ho] at hr
  have h1 : r ≤ rg x := hr.le_of hi (Nat.le_refl _)
  have h2 : rg x ≤ r := hr.ge_of hi (Nat.le_refl _)
  rw [e, Nat.le_antisymm h1 h2, show sg 4607182418800017408 = false by decide, Bool.xor_false, wd_sg hl]
theorem fmul_z {x : Nat} {b : Bool} (hx : isFin x = true) : ∃ s, fmul x (wd b 0) = wd s 0 := by
  have h0 : rg (wd b 0) = 0 := rg_wd (by decide)
  obtain ⟨r, e, hr⟩ := fmul_near hx (show isFin (wd b 0) = true from fin_wd (by decide))
  have : r = 0 := Nat.le_zero.1 (hr.le_of (Nat.zero_le _) (by rw [h0, fxr_zero]; omega))
  exact ⟨_, by rw [e, this]⟩
theorem fx_rnd_fx {x : Nat} {z : Bool} (hx : x < 2 ^ 64) (hf : isFin x = true) : isFin (rnd z (fx x)) = true ∧ fx (rnd z (fx x)) = fx x := by
  by_cases h : fx x = 0
  · rw [h]
    have e : rnd z 0 = wd z 0 := by unfold rnd; rw [if_pos rfl]
    rw [e, fx_wd (by decide), fxr_zero, sgn_zero]
    exact ⟨fin_wd (by decide), rfl⟩
  · rw [rnd_fx hx hf (fun h0 => absurd h0 h)]
    exact ⟨hf, rfl⟩
/-- A number by the conjugate of 1. -/
theorem by_one {c s : Nat} (cc : Canon c) (cs : Canon s) (fc : isFin c = true) (fs : isFin s = true) :
    isFin (nMul_0 c s 4607182418800017408 (nCj_0 4607182418800017408 0)) = true ∧ qv (nMul_0 c s 4607182418800017408 (nCj_0 4607182418800017408 0)) = qv c ∧
    isFin (nMul_1 c s 4607182418800017408 (nCj_0 4607182418800017408 0)) = true ∧ qv (nMul_1 c s 4607182418800017408 (nCj_0 4607182418800017408 0)) = qv s := by
  have hz : nCj_0 4607182418800017408 0 = wd true 0 := by decide +kernel
  have fz : ∀ b, isFin (wd b 0) = true := fun b => fin_wd (by decide)
  have xz : ∀ b, fx (wd b 0) = 0 := fun b => by rw [fx_wd (by decide), fxr_zero, sgn_zero]
  obtain ⟨b1, e1⟩ := fmul_z (b := true) fs
  obtain ⟨b2, e2⟩ := fmul_z (b := true) fc
  unfold nMul_0 nMul_1
  rw [hz, e1, e2, fmul_1 cc.lt fc, fmul_1 cs.lt fs, fsub_fin fc (fz _), fadd_fin (fz _) fs, xz, xz, Int.sub_zero, Int.zero_add]
  obtain ⟨r1, r2⟩ := fx_rnd_fx (z := sg c && !sg (wd b1 0)) cc.lt fc
  obtain ⟨q1, q2⟩ := fx_rnd_fx (z := sg (wd b2 0) && sg s) cs.lt fs
  refine ⟨r1, ?_, q1, ?_⟩
  · exact congrArg (fun z : Int => (z : Rat) / UR) r2
  · exact congrArg (fun z : Int => (z : Rat) / UR) q2
end Go.Lk
end

section
/- BeamBack: the plain law. -/
namespace Go.Lk
set_option linter.unusedSimpArgs false
set_option linter.unusedVariables false
set_option maxRecDepth 10000
set_option maxHeartbeats 1000000
theorem sides_eq {a b a' b' : Nat} {β r e : Rat} (h : Sides a b β r e) (h1 : qv (rg a') = qv (rg a)) (h2 : qv (rg b') = qv (rg b)) : Sides a' b' β r e := by
  unfold Sides at h ⊢
  rw [h1, h2]; exact h
/-- The first angle is the way that was turned. -/
theorem first_angle {q : Nat} (cq : Canon q) (fq : isFin q = true) (hq : Bd (qv q) (4995 / 10000)) :
    isFin (wAngle_0 (nMul_0 (wTurn_0 q) (wTurn_1 q) 4607182418800017408 (nCj_0 4607182418800017408 0)) (nMul_1 (wTurn_0 q) (wTurn_1 q) 4607182418800017408 (nCj_0 4607182418800017408 0))) = true ∧
    Bd (qv (wAngle_0 (nMul_0 (wTurn_0 q) (wTurn_1 q) 4607182418800017408 (nCj_0 4607182418800017408 0)) (nMul_1 (wTurn_0 q) (wTurn_1 q) 4607182418800017408 (nCj_0 4607182418800017408 0))) - qv q) (46 * eta) := by
  obtain ⟨t1, t2, t3, t4⟩ := eta_small
  obtain ⟨w1, left, β, s1, s2, s3, s4, s5, s6, s7, s8⟩ := turn_sides cq fq
  obtain ⟨f0, f1, _⟩ := turn_near cq fq
  have c0 : Canon (wTurn_0 q) := by rw [(turn_form (by rw [feq_fin w1 w1]; exact decide_eq_true rfl)).1]; unfold turnR; exact canon_bif (canon_bif (Canon.fadd _ _) (Canon.fadd _ _)) (canon_bif (Canon.fadd _ _) (Canon.fadd _ _))
  have c1 : Canon (wTurn_1 q) := by rw [(turn_form (by rw [feq_fin w1 w1]; exact decide_eq_true rfl)).2]; exact canon_bif (Canon.fadd _ _) (Canon.fadd _ _)
  obtain ⟨b1, b2, b3, b4⟩ := by_one c0 c1 f0 f1
  rw [wrap_less cq fq hq] at s2 s5 s6
  have e0 : qv (rg (nMul_0 (wTurn_0 q) (wTurn_1 q) 4607182418800017408 (nCj_0 4607182418800017408 0))) = qv (rg (wTurn_0 q)) := by rw [rabs_rg b1, rabs_rg f0, b2]
  have e1 : qv (rg (nMul_1 (wTurn_0 q) (wTurn_1 q) 4607182418800017408 (nCj_0 4607182418800017408 0))) = qv (rg (wTurn_1 q)) := by rw [rabs_rg b3, rabs_rg f1, b4]
  have hS := sides_eq s1 e0 e1
  have hw : rabs (qv q) ≤ 4995 / 10000 := by
    unfold rabs
    by_cases h : qv q < 0
    · rw [if_pos h]; have := hq.1; grind
    · rw [if_neg h]; exact hq.2
  obtain ⟨a1, a2⟩ := angle_near (by unfold nMul_0; exact Canon.fsub _ _) (by unfold nMul_1; exact Canon.fadd _ _) b1 b3 hS (by decide +kernel) (by decide +kernel) s2 hw (by rw [b2]; exact s3) (by rw [b2]; exact s4)
    (fun h1 h2 => by rw [b4] at h2; have := s5 h1; grind) (fun h1 h2 => by rw [b4] at h2; have := s6 h1; grind)
  exact ⟨a1, a2.mono (by grind)⟩
theorem sq_near {R t : Nat} (ft : isFin t = true) (st : sg t = false) (ht : qv t ≤ 1) (hR : R = fsqrt t) : isFin R = true ∧ sg R = false ∧ Bd (qv R * qv R - qv t) (4 * eta) := by
  obtain ⟨t1, t2, t3, t4⟩ := eta_small
  obtain ⟨q1, q2, l, l0, l1, l2, l3, l4⟩ := sqrt_q ft st (by grind)
  subst hR
  have nR := (qv_nn q2).2
  generalize qv (fsqrt t) = R at *
  generalize qv t = T at *
  have hl1 : l ≤ 1 := by
    refine Rat.not_lt.1 fun h => ?_
    have := Rat.mul_lt_mul_of_pos_left h (show 0 < l by grind)
    grind
  have k1 := Rat.mul_le_mul_of_nonneg_right hl1 t1
  have hR1 : R ≤ l + (eta + tau) := by grind
  have k2 : R * R ≤ (l + (eta + tau)) * (l + (eta + tau)) := sqr_le nR hR1
  have k3 : l * l ≤ R * R := sqr_le l0 l2
  have k4 : (l + l * eta + tau) * (l + l * eta + tau) ≤ (l + (eta + tau)) * (l + (eta + tau)) := by
    have := Rat.mul_nonneg l0 t1
    exact sqr_le (by grind) (by grind)
  have k5 : (l + (eta + tau)) * (l + (eta + tau)) ≤ l * l + 4 * eta := by
    have h1 := Rat.mul_le_mul_of_nonneg_right hl1 (c := eta + tau) (by grind)
    have h2 : (eta + tau) * (eta + tau) ≤ eta := by decide +kernel
    grind
  exact ⟨q1, q2, by grind, by grind⟩
/-- A root that is near what it should be. -/
theorem root_near {R C c m D e : Rat} (hR : 0 ≤ R) (hC : c ≤ C) (hc : 0 < c) (h : Bd (R * R - C * C) D) (hD : D ≤ c * c / 10) (hm : D * (100 / 188) ≤ e * c) : Bd (R - C) e := by
  have hD0 := h.nonneg
  have hlow : 9 / 10 * c ≤ R := by
    refine Rat.not_lt.1 fun hlt => ?_
    have k1 := sqr_le hR (Rat.le_of_lt hlt)
    have k2 := sqr_le (Rat.le_of_lt hc) hC
    have := h.1
    have k3 := Rat.mul_pos hc hc
    grind
  have hlow2 : 94 / 100 * C ≤ R := by
    refine Rat.not_lt.1 fun hlt => ?_
    have k1 := sqr_le hR (Rat.le_of_lt hlt)
    have k2 := sqr_le (Rat.le_of_lt hc) hC
    have := h.1
    have k3 := Rat.mul_pos hc hc
    grind
  refine Bd.cancel (G := R + C) (by grind) ((h.of_eq (by grind)).mono ?_)
  have he : 0 ≤ e := by
    refine Rat.not_lt.1 fun hlt => ?_
    have := Rat.mul_lt_mul_of_pos_right hlt hc
    grind
  have k := Rat.mul_nonneg he (show 0 ≤ R + C - 188 / 100 * c by grind)
  grind
def es : Rat := 49152 * eta
/-- What is found of the sine. -/
theorem sine_near {d s : Nat} (cd : Canon d) (cs : Canon s) (fd : isFin d = true) (fs : isFin s = true) (d0 : 1 / 1024 ≤ qv d) (d1 : qv d ≤ 1 / 2) (hσ : Bd (qv (wTurn_1 s)) (9984 / 10000)) :
    isFin (fdiv (wAngle_0 (nMul_0 (wTurn_0 (fmul d (wTurn_1 s))) (wTurn_1 (fmul d (wTurn_1 s))) 4607182418800017408 (nCj_0 4607182418800017408 0)) (nMul_1 (wTurn_0 (fmul d (wTurn_1 s))) (wTurn_1 (fmul d (wTurn_1 s))) 4607182418800017408 (nCj_0 4607182418800017408 0))) d) = true ∧
    Bd (qv (fdiv (wAngle_0 (nMul_0 (wTurn_0 (fmul d (wTurn_1 s))) (wTurn_1 (fmul d (wTurn_1 s))) 4607182418800017408 (nCj_0 4607182418800017408 0)) (nMul_1 (wTurn_0 (fmul d (wTurn_1 s))) (wTurn_1 (fmul d (wTurn_1 s))) 4607182418800017408 (nCj_0 4607182418800017408 0))) d) - qv (wTurn_1 s)) es := by
  obtain ⟨t1, t2, t3, t4⟩ := eta_small
  obtain ⟨_, f1, _⟩ := turn_near cs fs
  have hdB : Bd (qv d) (qv d) := ⟨by grind, Rat.le_refl⟩
  have hp := hdB.mul hσ
  obtain ⟨q1, q2⟩ := mul_q fd f1 (hp.mono (show qv d * (9984 / 10000) ≤ 1 / 2 by grind)) (by decide +kernel)
  have cq : Canon (fmul d (wTurn_1 s)) := Canon.fmul _ _
  generalize fmul d (wTurn_1 s) = q at *
  have hq : Bd (qv q) (4995 / 10000) := ((hp.add q2).of_eq (by grind)).mono (by grind)
  obtain ⟨a1, a2⟩ := first_angle cq q1 hq
  generalize wAngle_0 (nMul_0 (wTurn_0 q) (wTurn_1 q) 4607182418800017408 (nCj_0 4607182418800017408 0)) (nMul_1 (wTurn_0 q) (wTurn_1 q) 4607182418800017408 (nCj_0 4607182418800017408 0)) = A at *
  have hA : Bd (qv A) (qv d * (9984 / 10000) + 48 * eta) := ((hp.add q2).add a2 |>.of_eq (by grind)).mono (by grind)
  have e50 : 48 * eta ≤ 1 / 1024 * (16 / 10000) := by decide +kernel
  have hle : qv (rg A) ≤ qv d := by
    rw [rabs_rg a1]
    unfold rabs
    by_cases h : qv A < 0
    · rw [if_pos h]; have := hA.1; grind
    · rw [if_neg h]; have := hA.2; grind
  have sd : sg d = false := sg_of_pos fd (by grind)
  obtain ⟨s1, s2⟩ := div_s a1 fd sd (by grind) hle
  refine ⟨s1, ?_⟩
  have k1 : qv (rg A) * eta ≤ eta := by have := Rat.mul_le_mul_of_nonneg_right (show qv (rg A) ≤ 1 by grind) t1; grind
  have k2 : tau * qv d ≤ tau := by have := Rat.mul_le_mul_of_nonneg_left (show qv d ≤ 1 by grind) t3; grind
  refine Bd.cancel (G := qv d) (by grind) ?_
  have hs := ((s2.add a2).add q2).of_eq (s := (qv (fdiv A d) - qv (wTurn_1 s)) * qv d) (by grind)
  refine hs.mono ?_
  have k3 := Rat.mul_le_mul_of_nonneg_left d0 (c := es) (by decide +kernel)
  have k4 : es * (1 / 1024) = 48 * eta := by decide +kernel
  clear hs s2 a2 q2 hp hA hq
  grind
theorem es_small : es ≤ 1 / 80000000000 ∧ 0 ≤ es ∧ 4 * eta ≤ es / 10000 := by decide +kernel
theorem rabs_le {x e : Rat} (h : Bd x e) : rabs x ≤ e := by
  unfold rabs
  by_cases h0 : x < 0
  · rw [if_pos h0]; have := h.1; grind
  · rw [if_neg h0]; exact h.2
theorem rabs_diff {x y e : Rat} (h : Bd (x - y) e) : Bd (rabs x - rabs y) e := by
  obtain ⟨h1, h2⟩ := h
  unfold rabs
  by_cases hx : x < 0
  · rw [if_pos hx]
    by_cases hy : y < 0
    · rw [if_pos hy]; exact ⟨by grind, by grind⟩
    · rw [if_neg hy]; exact ⟨by grind, by grind⟩
  · rw [if_neg hx]
    by_cases hy : y < 0
    · rw [if_pos hy]; exact ⟨by grind, by grind⟩
    · rw [if_neg hy]; exact ⟨by grind, by grind⟩
/-- The sine is not too near 1. -/
theorem sin_le {a b : Nat} {β : Rat} (h : Sides a b β 1 (4 * eta)) (hβ : β ≤ 2402 / 10000) : qv (rg b) ≤ 9984 / 10000 := by
  obtain ⟨t1, t2, t3, t4⟩ := eta_small
  have t5 : 4 * eta ≤ 1 / 100000 := by decide +kernel
  obtain ⟨r1, r2, _, _⟩ := cir_le
  obtain ⟨h0, h4, hc⟩ := h
  rcases hc with ⟨h8, _, hb⟩ | ⟨h8, _, hb⟩
  · obtain ⟨_, _, _, _, q5, _⟩ := cs_q h0 h8
    have := hb.2; grind
  · obtain ⟨y0, y1, _⟩ := cs_q (show 0 ≤ 1 / 4 - β by grind) (by grind)
    obtain ⟨_, _, _, r4, _⟩ := cs_range y0 y1
    have hy : 615 / 10000 ≤ (1 / 4 - β) * cir := by
      have := Rat.mul_le_mul_of_nonneg_right (show 98 / 10000 ≤ 1 / 4 - β by grind) (c := cir) (by grind)
      grind
    have := sqr_le (show (0 : Rat) ≤ 615 / 10000 by decide +kernel) hy
    have := hb.2
    grind
/-- The root, near the cosine. -/
theorem cos_near {S : Nat} {C Z c : Rat} (fS : isFin S = true) (hY : qv (rg S) ≤ 9985 / 10000) (hC : c ≤ C) (hc : 547 / 10000 ≤ c) (hZ : 0 ≤ Z) (hZ1 : Z ≤ 1) (hone : Bd (C * C + Z * Z - 1) (eta / 20)) (h : Bd (qv (rg S) - Z) (es + 4 * eta)) :
    isFin (fsqrt (fsub 4607182418800017408 (fmul S S))) = true ∧ sg (fsqrt (fsub 4607182418800017408 (fmul S S))) = false ∧ Bd (qv (fsqrt (fsub 4607182418800017408 (fmul S S))) - C) (20 * es) := by
  obtain ⟨t1, t2, t3, t4⟩ := eta_small
  obtain ⟨z1, z2, z3⟩ := es_small
  have nY := (qv_nn (rg_sg S)).2
  have hYY := qv_rg_abs fS
  have k1 := sqr_le nY hY
  have hB : Bd (qv S * qv S) (998 / 1000) := by rw [← hYY]; exact ⟨by have := sq_nn (qv (rg S)); grind, by grind⟩
  obtain ⟨m1, m2⟩ := mul_q fS fS hB (by decide +kernel)
  obtain ⟨o1, o2⟩ := one_q
  have n2 := sq_nn (qv S)
  have sm := sg_mul fS fS rfl
  have nm := (qv_nn sm).2
  have hm1 : qv (fmul S S) ≤ 1 := by have h2 := m2.2; have h3 := hB.2; grind
  have hT : Bd (qv 4607182418800017408 - qv (fmul S S)) 1 := by
    rw [o2]
    exact ⟨by grind, by grind⟩
  obtain ⟨s1, s2⟩ := sub_q o1 m1 hT (by decide +kernel)
  rw [o2] at s2 hT
  have hpos : 0 < qv (fsub 4607182418800017408 (fmul S S)) := by have := s2.1; have := m2.2; have := hB.2; grind
  have hle : qv (fsub 4607182418800017408 (fmul S S)) ≤ 1 := by
    have k0 := qv_le_fx (x := fmul S S) (y := 4607182418800017408) (by rw [o2]; exact hm1)
    have k9 := qv_le_fx (x := 0) (y := fmul S S) (by rw [zero_q]; exact nm)
    rw [fx_0] at k9
    have r1 : (fxr (rg 4607182418800017408) : Int) = fx 4607182418800017408 := rfl
    obtain ⟨_, _, b3, _⟩ := sub_range o1 m1 (by decide) sm (d := 4607182418800017408) (by decide) (by omega) (by omega)
    rw [← o2]
    exact fx_le_qv (by omega)
  obtain ⟨q1, q2, q3⟩ := sq_near s1 (sg_of_pos s1 hpos) hle rfl
  refine ⟨q1, q2, ?_⟩
  have nR := (qv_nn q2).2
  have hd : Bd (Z * Z - qv (rg S) * qv (rg S)) ((es + 4 * eta) * 2) := by
    have h2 : Bd (Z + qv (rg S)) 2 := ⟨by grind, by grind⟩
    exact ((h.neg).mul h2).of_eq (by grind)
  have hall := (((q3.add s2).sub m2).add (hd.sub hone)).of_eq (s := qv (fsqrt (fsub 4607182418800017408 (fmul S S))) * qv (fsqrt (fsub 4607182418800017408 (fmul S S))) - C * C) (by rw [hYY]; grind)
  have hD := hall.mono (B := 201 / 100 * es) (by clear hall hd q3 s2 m2 hT hB; grind)
  refine root_near (c := c) (m := 0) nR hC (by grind) hD ?_ ?_
  · have := sqr_le (show (0 : Rat) ≤ 547 / 10000 by decide +kernel) hc
    grind
  · have := Rat.mul_nonneg z2 (show 0 ≤ c - 547 / 10000 by grind)
    grind
/-- There and back. -/
theorem back_near {s S : Nat} (cs : Canon s) (fs : isFin s = true) (hs : Bd (qv s) (2401 / 10000)) (cS : Canon S) (fS : isFin S = true) (hS : Bd (qv S - qv (wTurn_1 s)) es) :
    isFin (wAngle_0 (fsqrt (fsub 4607182418800017408 (fmul S S))) S) = true ∧ Bd (qv (wAngle_0 (fsqrt (fsub 4607182418800017408 (fmul S S))) S) - qv s) (81 * es) := by
  obtain ⟨t1, t2, t3, t4⟩ := eta_small
  obtain ⟨z1, z2, z3⟩ := es_small
  obtain ⟨f0, f1, _⟩ := turn_near cs fs
  obtain ⟨w1, left, β, h1, h2, h3, h4, h5, h6, h7, h8⟩ := turn_sides cs fs
  rw [wrap_less cs fs (hs.mono (by decide +kernel))] at h2 h5 h6 h7 h8
  have hw : rabs (qv s) ≤ 2401 / 10000 := by
    unfold rabs
    by_cases h : qv s < 0
    · rw [if_pos h]; have := hs.1; grind
    · rw [if_neg h]; exact hs.2
  have hL : left = false := by
    cases left with
    | false => rfl
    | true => have := h7 rfl; grind
  subst hL
  simp only [cond_false] at h2
  have hβ0 := h1.1
  have hβ4 : β ≤ 2402 / 10000 := by
    have h9 := h2.1
    have t5 : 2 * eta ≤ 1 / 10000 := by decide +kernel
    grind
  have hV := sin_le h1 hβ4
  have hd : Bd (qv (rg S) - qv (rg (wTurn_1 s))) es := by rw [rabs_rg fS, rabs_rg f1]; exact rabs_diff hS
  have hY : qv (rg S) ≤ 9985 / 10000 := by have := hd.2; grind
  -- where the sine is nearly nought
  have small : Bd (qv (wTurn_1 s)) es → rabs (qv s) ≤ 20 * es / 5 := by
    intro h
    have h9 : qv (rg (wTurn_1 s)) ≤ es := by rw [rabs_rg f1]; exact rabs_le h
    obtain ⟨_, _, hc⟩ := h1
    rcases hc with ⟨k8, _, kb⟩ | ⟨k8, _, kb⟩
    · obtain ⟨_, _, q3, _⟩ := cs_q hβ0 k8
      have := kb.1; have := h2.2; grind
    · obtain ⟨_, _, _, q4, _⟩ := cs_q (show 0 ≤ 1 / 4 - β by grind) (by grind)
      have := kb.1; grind
  have fin : ∀ {R : Nat}, Canon R → isFin R = true → sg R = false → Sides R S β 1 (20 * es) → 0 ≤ qv R → isFin (wAngle_0 R S) = true ∧ Bd (qv (wAngle_0 R S) - qv s) (81 * es) := by
    intro R cR fR sR hsd nR
    obtain ⟨a1, a2⟩ := angle_near (left := false) cR cS fR fS hsd (by decide +kernel) (by grind) (by simpa only [cond_false] using h2) (by grind) (fun _ => nR) (fun h => by cases h)
      (fun k1 k2 => small ⟨by have := hS.2; grind, by have := h5 k1; grind⟩) (fun k1 k2 => small ⟨by have := h6 k1; grind, by have := hS.1; grind⟩)
    exact ⟨a1, a2.mono (by grind)⟩
  obtain ⟨_, _, hc⟩ := h1
  rcases hc with ⟨k8, ka, kb⟩ | ⟨k8, ka, kb⟩
  · obtain ⟨y0, y1, q3, q4, q5, q6⟩ := cs_q hβ0 k8
    obtain ⟨g1, _, _⟩ := G_pos y0 y1
    have hz : Bd (qv (rg S) - sF (β * cir)) (es + 4 * eta) := ((hd.add kb).of_eq (by grind)).mono (by grind)
    obtain ⟨c1, c2, c3⟩ := cos_near fS hY (Rat.le_refl (a := cF (β * cir))) (by grind) (by grind) (by grind) g1 hz
    exact fin (Canon.fsqrt _) c1 c2 ⟨hβ0, by grind, .inl ⟨k8, ((abs_bd c1 (by grind) c3).of_eq (by grind)).mono (by grind), (hz.of_eq (by grind)).mono (by grind)⟩⟩ (qv_nn c2).2
  · obtain ⟨y0, y1, q3, q4, q5, q6⟩ := cs_q (show 0 ≤ 1 / 4 - β by grind) (by grind)
    obtain ⟨g1, _, _⟩ := G_pos y0 y1
    obtain ⟨r1, r2, _, _⟩ := cir_le
    obtain ⟨_, _, _, _, r5, _⟩ := cs_range y0 y1
    have hy : 615 / 10000 ≤ (1 / 4 - β) * cir := by
      have := Rat.mul_le_mul_of_nonneg_right (show 98 / 10000 ≤ 1 / 4 - β by grind) (c := cir) (by grind)
      grind
    have hz : Bd (qv (rg S) - cF ((1 / 4 - β) * cir)) (es + 4 * eta) := ((hd.add kb).of_eq (by grind)).mono (by grind)
    obtain ⟨c1, c2, c3⟩ := cos_near fS hY (Rat.le_refl (a := sF ((1 / 4 - β) * cir))) (by grind) (by grind) (by grind) (g1.of_eq (by grind)) hz
    exact fin (Canon.fsqrt _) c1 c2 ⟨hβ0, by grind, .inr ⟨k8, ((abs_bd c1 (by grind) c3).of_eq (by grind)).mono (by grind), (hz.of_eq (by grind)).mono (by grind)⟩⟩ (qv_nn c2).2
end Go.Lk
end
