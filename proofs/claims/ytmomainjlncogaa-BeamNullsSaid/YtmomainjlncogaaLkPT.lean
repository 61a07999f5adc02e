/- The document's turns are the program's. -/
import Derived.Test.YtmomainjlncogaaLkGC
namespace Go.Lk
open Go.Proofs
set_option maxRecDepth 100000
set_option linter.unusedSimpArgs false
set_option linter.unusedVariables false

theorem aneg_eq (x : Nat) : aneg false x = fneg x := rfl
theorem Canon.aneg {x : Nat} (h : Canon x) : Canon (aneg false x) := h.fneg
theorem clean_eq {v : Nat} (h : Canon v) : rClean_0 v = fadd v 0 := by unfold rClean_0; rw [fadd_zero h]
theorem fabs_fin {x : Nat} (h : isFin x = true) : fabs x = rg x := by unfold fabs; rw [fin_num h]; rfl
theorem Canon.fabs {x : Nat} : Canon (fabs x) := by
  unfold Lk.fabs
  cases h : isNaN x
  · exact ⟨Nat.lt_trans (rg_lt x) (by decide), fun h' => by rw [cond_false, nan_rg (rg_rg x), h] at h'; cases h'⟩
  · exact Canon.qnan
theorem inf_test {x : Nat} (h : Canon x) : (bif feq x x then !fgt (fabs x) 9218868437227405311 else false) = isFin x := by
  rcases h.three with h' | ⟨s, rfl⟩ | rfl
  · rw [feq_self, fin_num h', h', fabs_fin h']
    have hr : rg x < 2047 * 2 ^ 52 := of_decide_eq_true h'
    have hm : isFin 9218868437227405311 = true := by decide
    have hf : isFin (rg x) = true := by unfold isFin; rw [rg_rg]; exact h'
    rw [fgt_fin hf hm]
    have h1 : fx (rg x) = fxr (rg x) := by
      have : sg (rg x) = false := by
        unfold sg; have := rg_lt x
        have : rg x / 2 ^ 63 = 0 := Nat.div_eq_of_lt this
        rw [this]; rfl
      unfold fx; rw [this, rg_rg]; rfl
    have h2 : fx 9218868437227405311 = fxr 9218868437227405311 := by
      unfold fx; rfl
    have h3 : fxr (rg x) ≤ fxr 9218868437227405311 := fxr_le.2 (by omega)
    have : ¬ fx 9218868437227405311 < fx (rg x) := by rw [h1, h2]; omega
    simp [this]
  · cases s <;> decide +kernel
  · decide +kernel
theorem rWrap_eq {x : Nat} (h : Canon x) : rWrap_0 x = wrapP x := by
  rw [wrap_eq h]
  unfold rWrap_0 wrapR wStep half fone mhalf
  rw [← inf_test h]
  cases feq x x
  · rfl
  · cases fgt (fabs x) 9218868437227405311
    · simp only [cond_true, cond_false, Bool.not_false, aneg_eq]
      cases flt x 0
      · rfl
      · rfl
    · rfl

theorem turn_re {x : Nat} (hx : Canon x) : rTurn_0 x = wTurn_0 x := by
  unfold rTurn_0 wTurn_0
  rw [rWrap_eq hx]
  have hw : Canon (wrapP x) := Canon.wrapP x
  generalize wrapP x = w at hw ⊢
  cases h0 : feq w w
  · simp only [cond_false]
    rw [feq_self] at h0
    exact (hw.nan (by simpa using h0)).symm
  simp only [cond_true]
  cases h1 : fgt (fabs w) 4598175219545276416
  all_goals simp only [cond_true, cond_false]
  · cases h2 : fgt (fabs w) 4593671619917905920
    all_goals simp only [cond_true, cond_false]
    · generalize fabs w = a
      cases h3 : feq a 4593671619917905920 <;> cases flt w 0 <;> simp only [wEighth_0, wEighth_1, h3, cond_true, cond_false] <;> first | decide +kernel | with_reducible exact clean_eq (Canon.fadd _ _)
    · generalize fsub 4598175219545276416 (fabs w) = a
      cases h3 : feq a 4593671619917905920 <;> cases flt w 0 <;> simp only [wEighth_0, wEighth_1, h3, cond_true, cond_false] <;> first | decide +kernel | with_reducible exact clean_eq (Canon.fmul _ _)
  · cases h2 : fgt (fsub 4602678819172646912 (fabs w)) 4593671619917905920
    all_goals simp only [cond_true, cond_false]
    · generalize fsub 4602678819172646912 (fabs w) = a
      cases h3 : feq a 4593671619917905920 <;> cases flt w 0 <;> simp only [wEighth_0, wEighth_1, h3, cond_true, cond_false] <;> first | decide +kernel | with_reducible exact clean_eq (Canon.aneg (Canon.fadd _ _))
    · generalize fsub 4598175219545276416 (fsub 4602678819172646912 (fabs w)) = a
      cases h3 : feq a 4593671619917905920 <;> cases flt w 0 <;> simp only [wEighth_0, wEighth_1, h3, cond_true, cond_false] <;> first | decide +kernel | with_reducible exact clean_eq (Canon.aneg (Canon.fmul _ _))
theorem turn_im {x : Nat} (hx : Canon x) : rTurn_1 x = wTurn_1 x := by
  unfold rTurn_1 wTurn_1
  rw [rWrap_eq hx]
  have hw : Canon (wrapP x) := Canon.wrapP x
  generalize wrapP x = w at hw ⊢
  cases h0 : feq w w
  · simp only [cond_false]
    rw [feq_self] at h0
    exact (hw.nan (by simpa using h0)).symm
  simp only [cond_true]
  cases h1 : fgt (fabs w) 4598175219545276416
  all_goals simp only [cond_true, cond_false]
  · cases h2 : fgt (fabs w) 4593671619917905920
    all_goals simp only [cond_true, cond_false]
    · generalize fabs w = a
      cases h3 : feq a 4593671619917905920 <;> cases flt w 0 <;> simp only [wEighth_0, wEighth_1, h3, cond_true, cond_false] <;> first | decide +kernel | with_reducible exact clean_eq (Canon.fmul _ _) | with_reducible exact clean_eq (Canon.aneg (Canon.fmul _ _))
    · generalize fsub 4598175219545276416 (fabs w) = a
      cases h3 : feq a 4593671619917905920 <;> cases flt w 0 <;> simp only [wEighth_0, wEighth_1, h3, cond_true, cond_false] <;> first | decide +kernel | with_reducible exact clean_eq (Canon.fadd _ _) | with_reducible exact clean_eq (Canon.aneg (Canon.fadd _ _))
  · cases h2 : fgt (fsub 4602678819172646912 (fabs w)) 4593671619917905920
    all_goals simp only [cond_true, cond_false]
    · generalize fsub 4602678819172646912 (fabs w) = a
      cases h3 : feq a 4593671619917905920 <;> cases flt w 0 <;> simp only [wEighth_0, wEighth_1, h3, cond_true, cond_false] <;> first | decide +kernel | with_reducible exact clean_eq (Canon.fmul _ _) | with_reducible exact clean_eq (Canon.aneg (Canon.fmul _ _))
    · generalize fsub 4598175219545276416 (fsub 4602678819172646912 (fabs w)) = a
      cases h3 : feq a 4593671619917905920 <;> cases flt w 0 <;> simp only [wEighth_0, wEighth_1, h3, cond_true, cond_false] <;> first | decide +kernel | with_reducible exact clean_eq (Canon.fadd _ _) | with_reducible exact clean_eq (Canon.aneg (Canon.fadd _ _))

theorem sameF_refl (a : Nat) : gSameF_0 a a = true := by
  unfold gSameF_0
  cases feq a a
  · rfl
  · simp
theorem same_refl (a b : Nat) : gSame_0 a b a b = true := by
  unfold gSame_0
  rw [sameF_refl, sameF_refl]; rfl
theorem gWraps_true {x : Nat} (h : Canon x) : gWraps_0 x = true := by
  unfold gWraps_0
  rw [rWrap_eq h, turn_re h, turn_im h, sameF_refl, same_refl]; rfl
theorem unit_re (k n : Int) : rUnit_0 k n = wUnit_0 k n := by
  unfold rUnit_0 wUnit_0
  simp only [turn_re (Canon.fdiv _ _)]
theorem unit_im (k n : Int) : rUnit_1 k n = wUnit_1 k n := by
  unfold rUnit_1 wUnit_1
  simp only [turn_im (Canon.fdiv _ _)]
theorem gUnits_true (k n : Int) : gUnits_0 k n = true := by
  unfold gUnits_0
  rw [unit_re, unit_im, same_refl]; rfl
theorem turnWraps_call {x : Nat} (h : Canon x) (σ : AHeap) : CallR Try.prog false 4 [.float .f64 x] σ (.bool true) σ := by
  have := gWraps_ok x σ
  rw [gWraps_true h] at this
  exact this
theorem turnUnits_call (k n : Int) (σ : AHeap) : CallR Try.prog false 5 [.int .i64 k, .int .i64 n] σ (.bool true) σ := by
  have := gUnits_ok k n σ
  rw [gUnits_true] at this
  exact this
end Go.Lk
