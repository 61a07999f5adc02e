/- Places: the document's are the program's. -/
import Derived.Test.YtmomainjlncogaaLkGH
import Derived.Test.YtmomainjlncogaaLkPT
import Derived.Test.YtmomainjlncogaaLkFN
namespace Go.Lk
open Go.Proofs
open Ieee (Format Datum Toward)
set_option maxRecDepth 100000
set_option linter.unusedSimpArgs false
set_option linter.unusedVariables false

theorem fin_fabs {a : Nat} (h : isFin a = true) : isFin (fabs a) = true ∧ fx (fabs a) = (fxr (rg a) : Int) ∧ sg (fabs a) = false := by
  rw [fabs_fin h]
  have hs : sg (rg a) = false := by
    unfold sg; have := rg_lt a
    have : rg a / 2 ^ 63 = 0 := Nat.div_eq_of_lt this
    rw [this]; rfl
  refine ⟨by unfold isFin; rw [rg_rg]; exact h, ?_, hs⟩
  unfold fx; rw [hs, rg_rg]; rfl
theorem rEnd_abs {a : Nat} (h : Canon a) : rEnd_0 (fabs a) = fgt (fabs a) 9218868437227405311 := by
  unfold rEnd_0
  have hm : isFin 18442240474082181119 = true := by decide
  have : flt (fabs a) 18442240474082181119 = false := by
    rcases h.three with h' | ⟨s, rfl⟩ | rfl
    · obtain ⟨f1, f2, f3⟩ := fin_fabs h'
      rw [flt_fin f1 hm, f2]
      have : fx 18442240474082181119 < 0 := by decide +kernel
      exact decide_eq_false (by omega)
    · cases s <;> decide +kernel
    · decide +kernel
  rw [this]
  cases fgt (fabs a) 9218868437227405311 <;> rfl
theorem nan_fabs {a : Nat} : isNaN (fabs a) = isNaN a := by
  unfold fabs
  cases h : isNaN a
  · rw [cond_false, nan_rg (rg_rg a)]; exact h
  · rw [cond_true]; exact isNaN_qnan
theorem abs_eq {a b : Nat} (ha : Canon a) (hb : Canon b) : rAbs_0 a b = wAbs_0 a b := by
  unfold rAbs_0 wAbs_0 wKind_0
  rw [rEnd_abs ha, rEnd_abs hb, feq_self, feq_self, nan_fabs, nan_fabs, feq_self, feq_self]
  cases fgt (fabs a) 9218868437227405311
  · cases fgt (fabs b) 9218868437227405311
    · cases isNaN a
      · cases isNaN b <;> rfl
      · rfl
    · rfl
  · rfl

theorem part_eq (q : Nat) : wPart_0 q = bif fgt q 4601133428098527026 then fsub 4593671619917905920 (rPart_0 (fdiv (fsub 4607182418800017408 q) (fadd 4607182418800017408 q))) else rPart_0 q := by
  unfold wPart_0 rPart_0
  cases fgt q 4601133428098527026 <;> rfl
theorem slope_eq {a b : Nat} (ha : isFin a = true) (hb : isFin b = true) : fdiv (fmin (fabs a) (fabs b)) (fmax (fabs a) (fabs b)) = bif fgt (fabs b) (fabs a) then fdiv (fabs a) (fabs b) else fdiv (fabs b) (fabs a) := by
  obtain ⟨a1, a2, a3⟩ := fin_fabs ha
  obtain ⟨b1, b2, b3⟩ := fin_fabs hb
  rw [fgt_fin b1 a1]
  unfold fmin fmax
  rw [order_fin a1 b1]
  have hneg : (dbl.read (fabs a)).neg = false := by
    obtain ⟨m, p, e, _⟩ := read_fin a1
    rw [e, a3]; rfl
  rcases Int.lt_trichotomy (fx (fabs a)) (fx (fabs b)) with h | h | h
  · rw [cmp_lt.2 h, decide_eq_true h]; rfl
  · rw [cmp_eq.2 h, decide_eq_false (by omega)]
    simp only [hneg]
    rfl
  · rw [cmp_gt.2 h, decide_eq_false (by omega)]; rfl
theorem inf_split {a : Nat} (h : Canon a) {α : Type} (x y : α) : (bif feq a a then (bif fgt (fabs a) 9218868437227405311 then x else y) else x) = bif isFin a then y else x := by
  rw [← inf_test h]
  cases feq a a
  · rfl
  · cases fgt (fabs a) 9218868437227405311 <;> rfl
theorem clean_fsub (x y : Nat) : rClean_0 (fsub x y) = fadd (fsub x y) 0 := clean_eq (Canon.fsub _ _)
theorem clean_nsub (x y : Nat) : rClean_0 (aneg false (fsub x y)) = fadd (aneg false (fsub x y)) 0 := clean_eq (Canon.fsub _ _).aneg
theorem Canon.rPart (q : Nat) : Canon (rPart_0 q) := by unfold rPart_0; exact Canon.fdiv _ _
theorem clean_part (x : Nat) : rClean_0 (rPart_0 x) = fadd (rPart_0 x) 0 := clean_eq (Canon.rPart _)
theorem clean_npart (x : Nat) : rClean_0 (aneg false (rPart_0 x)) = fadd (aneg false (rPart_0 x)) 0 := clean_eq (Canon.rPart _).aneg
theorem angle_eq {a b : Nat} (ha : Canon a) (hb : Canon b) : rAngle_0 a b = wAngle_0 a b := by
  unfold rAngle_0 wAngle_0
  rw [inf_split hb, inf_split ha, fin_test ha, fin_test hb]
  cases h1 : isFin a
  · simp only [cond_false]
  cases h2 : isFin b
  · simp only [cond_true, cond_false]
  simp only [cond_true, slope_eq h1 h2, part_eq, clean_fsub, clean_nsub, clean_part, clean_npart]
  cases h3 : fgt (fabs b) (fabs a)
  all_goals simp only [cond_true, cond_false]
  · cases h4 : fgt (fdiv (fabs b) (fabs a)) 4601133428098527026
    all_goals
      simp only [cond_true, cond_false]
      cases feq a 0 <;> cases feq b 0 <;> simp only [cond_true, cond_false, Bool.and_false, Bool.false_and, Bool.and_true, Bool.true_and]
  · cases h4 : fgt (fdiv (fabs a) (fabs b)) 4601133428098527026
    all_goals
      simp only [cond_true, cond_false]
      cases feq a 0 <;> cases feq b 0 <;> simp only [cond_true, cond_false, Bool.and_false, Bool.false_and, Bool.and_true, Bool.true_and]

theorem fturn_eq {x : Nat} (h : Canon x) : fturn x = aneg false x := by
  rw [aneg_eq]
  unfold fturn
  cases hn : isNaN x
  · rw [cond_false]
    have hr : rg x ≤ 2047 * 2 ^ 52 := by
      rw [isNaN_iff] at hn
      have := of_decide_eq_false hn
      omega
    have h1 : fneg (wd (sg x) (rg x)) = wd (!sg x) (rg x) := fneg_wd hr
    rw [wd_sg h.lt] at h1
    exact h1.symm
  · rw [cond_true]
    unfold fneg
    rw [hn]; rfl
theorem Canon.rnd (z : Bool) (T : Int) : Canon (rnd z T) := by
  unfold Lk.rnd
  split
  · exact ⟨wd_lt (by decide), fun h => by cases z <;> revert h <;> decide +kernel⟩
  · refine ⟨wd_lt (rung_lt _), fun h => ?_⟩
    rw [isNaN_iff, rg_wd (rung_lt _)] at h
    have := of_decide_eq_true h
    have := rung_le T.natAbs
    omega
theorem Canon.cond {c : Bool} {x y : Nat} (hx : Canon x) (hy : Canon y) : Canon (bif c then x else y) := by cases c; exact hy; exact hx
theorem Canon.turn_im (x : Nat) : Canon (wTurn_1 x) := by
  unfold wTurn_1
  repeat' (first | with_reducible exact Canon.fadd _ _ | with_reducible exact Canon.wrapP _ | with_reducible refine Canon.cond ?_ ?_)
theorem Canon.turn_re (x : Nat) : Canon (wTurn_0 x) := by
  unfold wTurn_0
  repeat' (first | with_reducible exact Canon.fadd _ _ | with_reducible exact Canon.wrapP _ | with_reducible refine Canon.cond ?_ ?_)

theorem isFin_eq {b : Nat} (h : Canon b) : rIsFin_0 b = isFin b := by
  unfold rIsFin_0
  have h1 : isFin 9218868437227405311 = true := by decide
  have h2 : isFin 18442240474082181119 = true := by decide
  rcases h.three with h' | ⟨s, rfl⟩ | rfl
  · rw [feq_self, fin_num h', fle_fin h' h1, fge_fin h' h2, h']
    have hr : rg b < 2047 * 2 ^ 52 := of_decide_eq_true h'
    have h3 : fxr (rg b) ≤ fxr 9218868437227405311 := fxr_le.2 (by omega)
    have h4 : fx 9218868437227405311 = (fxr 9218868437227405311 : Int) := rfl
    have h5 : fx 18442240474082181119 = -(fxr 9218868437227405311 : Int) := by
      have : (18442240474082181119 : Nat) = wd true 9218868437227405311 := by decide
      rw [this, fx_wd (by decide)]; rfl
    have hb := fx_abs b
    rw [h4, h5, decide_eq_true (by omega), decide_eq_true (by omega)]
    rfl
  · cases s <;> decide +kernel
  · decide +kernel
theorem round_eq (x : Nat) : rRound_0 x = wPos_0 x := rfl
theorem sector_eq {b : Nat} (h : Canon b) (n : Int) : wSector_0 b n = rSector_0 b n ∧ wSector_1 b n = rSector_1 b n ∧ okSec b n = okRSec b n := by
  unfold wSector_0 rSector_0 wSector_1 rSector_1 okSec okRSec
  rw [isFin_eq h, fin_test h, rWrap_eq h, round_eq]
  exact ⟨rfl, rfl, rfl⟩

/-! ### The sector's number fits -/
theorem pos_bound {w : Nat} (hf : isFin w = true) (hb : (fx w).natAbs ≤ U) : isFin (wPos_0 w) = true ∧ fxr (rg (wPos_0 w)) ≤ U := by
  have h1 := fx_one
  have e : 4607182418800017408 = fone := rfl
  unfold wPos_0
  rw [e, flt_fin hf fin_zero, fx_0]
  have hz : isFin 0 = true ∧ fxr (rg 0) ≤ U := ⟨fin_zero, by rw [show rg 0 = 0 from rfl, fxr_zero]; exact Nat.zero_le _⟩
  by_cases h0 : fx w < 0
  · rw [decide_eq_true h0, cond_true]
    have hT : (fx w + fx fone).natAbs ≤ fxr (rg fone) := by rw [fxr_one]; omega
    have h2 := rnd_le (z := sg w && sg fone) rg_one_lt hT
    rw [← fadd_fin hf fin_one, fxr_one] at h2
    cases fge (fadd w fone) fone
    · exact h2
    · exact hz
  · rw [decide_eq_false h0, cond_false]
    cases fge w fone
    · exact ⟨hf, by rw [← fx_abs]; exact hb⟩
    · exact hz
theorem near_small {n : Int} (h1 : 1 ≤ n) (h2 : n ≤ 4096) : isFin (FloatKind.f64.nearest n) = true ∧ fxr (rg (FloatKind.f64.nearest n)) ≤ fxr 4661225614328463360 := by
  have e : FloatKind.f64.nearest n = dbl.nearest (decide (n < 0)) n.natAbs 0 := rfl
  rw [e, nearest_eq _ _ _ (by omega), U_of]
  have h3 : fxr 4661225614328463360 = 4096 * U := by decide +kernel
  have h4 : rung (n.natAbs * U) ≤ 4661225614328463360 := rung_le_of (by rw [h3]; exact Nat.mul_le_mul_right _ (by omega))
  exact ⟨fin_wd (by omega), by rw [rg_wd (by omega)]; exact fxr_le.2 h4⟩
theorem sec_ok {b : Nat} (h : Canon b) (n : Int) : okSec b n = true := by
  unfold okSec
  rw [fin_test h]
  cases h1 : decide (n < 1)
  · cases h2 : decide (n > 4096)
    · cases h3 : isFin b
      · rfl
      · have h1 := of_decide_eq_false h1
        have h2 := of_decide_eq_false h2
        obtain ⟨w1, w2⟩ := wrap_bound h h3
        obtain ⟨p1, p2⟩ := pos_bound w1 w2
        obtain ⟨n1, n2⟩ := near_small (n := n) (by omega) (by omega)
        have e4 : fxr 4661225614328463360 = 4096 * U := by decide +kernel
        obtain ⟨q1, q2⟩ := fmul_le p1 n1 (R := 4661225614328463360) (by decide) (by
          rw [e4] at n2 ⊢
          calc _ ≤ U * (4096 * U) := Nat.mul_le_mul p2 n2
            _ = 4096 * U * U := Nat.mul_comm _ _)
        have e5 : fxr 4661226713840091136 = 4097 * U := by decide +kernel
        have hU := U_pos
        obtain ⟨r1, r2⟩ := ffloor_le q1 (R := 4661226713840091136) (by decide) (by
          rw [e5]
          refine Nat.mul_le_mul_right _ ?_
          rw [e4] at q2
          have : fxr (rg (fmul (wPos_0 (wrapP b)) (FloatKind.f64.nearest n))) / U ≤ 4096 := (Nat.div_le_iff_le_mul_add_pred hU).2 (by rw [Nat.mul_comm]; omega)
          omega)
        have := okI_fin r1 (by
          rw [e5] at r2
          have : fxr (rg (ffloor (fmul (wPos_0 (wrapP b)) (FloatKind.f64.nearest n)))) / U ≤ 4097 := (Nat.div_le_iff_le_mul_add_pred hU).2 (by rw [Nat.mul_comm]; omega)
          omega)
        rw [this]; rfl
    · rfl
  · rfl
theorem gTurns_true {m b u v t x y : Nat} {n : Int} (hm : Canon m) (hb : Canon b) (ht : Canon t) (hx : Canon x) (hy : Canon y) : gTurns_0 m b u v t x y n = true := by
  unfold gTurns_0
  obtain ⟨s1, s2, s3⟩ := sector_eq hb n
  have a1 : rTo_0 m b = wTo_0 m b := by unfold rTo_0 wTo_0; rw [turn_im hb, fmul_comm]
  have a2 : rTo_1 m b = wTo_1 m b := by unfold rTo_1 wTo_1; rw [turn_re hb, fmul_comm]
  have a3 : rFrom_0 x y = wFrom_0 x y := abs_eq hy hx
  have a4 : rFrom_1 x y = wFrom_1 x y := by unfold rFrom_1 wFrom_1; rw [angle_eq hy hx, round_eq]
  have a5 : rMoved_0 u v t x y = wMoved_0 u v t x y := by unfold rMoved_0 wMoved_0; rw [turn_re ht, turn_im ht]
  have a6 : rMoved_1 u v t x y = wMoved_1 u v t x y := by unfold rMoved_1 wMoved_1; rw [turn_re ht, turn_im ht]
  have a7 : rBack_0 u v t x y = wBack_0 u v t x y := by unfold rBack_0 wBack_0; rw [turn_re ht, turn_im ht, fturn_eq (Canon.turn_im t)]
  have a8 : rBack_1 u v t x y = wBack_1 u v t x y := by unfold rBack_1 wBack_1; rw [turn_re ht, turn_im ht, fturn_eq (Canon.turn_im t)]
  rw [a1, a2, a3, a4, a5, a6, a7, a8, s1, s2]
  unfold gSameP_0
  simp [sameF_refl]
theorem placeTurns_call {m b u v t x y : Nat} {n : Int} (hm : Canon m) (hb : Canon b) (ht : Canon t) (hx : Canon x) (hy : Canon y) (σ : AHeap) :
    CallR Try.prog false 10 [.float .f64 m, .float .f64 b, .agg #[.float .f64 u, .float .f64 v, .float .f64 t], .agg #[.float .f64 x, .float .f64 y], .int .i64 n] σ (.bool true) σ := by
  have h1 := sec_ok hb n
  have h2 : okRSec b n = true := by rw [← (sector_eq hb n).2.2]; exact h1
  have h := gTurns_ok m b u v t x y n σ (fun _ _ _ _ _ _ _ => h1) (fun _ _ _ _ _ _ _ => h2) (fun _ _ _ _ _ _ _ => h1) (fun _ _ _ _ _ _ _ => h2) (fun _ _ _ _ _ _ => h1) (fun _ _ _ _ _ _ => h2) (fun _ _ _ _ _ => h1) (fun _ _ _ _ _ => h2) (fun _ _ _ _ => h1) (fun _ _ _ _ => h2)
  rw [gTurns_true hm hb ht hx hy] at h
  exact h
end Go.Lk
