/- Floats: the kind of what is finite, the greater of two, magnitudes by themselves. -/
import Derived.Test.YtmomainjlncogaaLkJX
import Derived.Test.YtmomainjlncogaaLkRB
namespace Go.Lk
open Ieee (Format Datum)
set_option linter.unusedSimpArgs false
set_option linter.unusedVariables false
set_option maxRecDepth 100000
theorem bAbs_kind {a b : Nat} (ha : isFin a = true) (hb : isFin b = true) : bKind_0 a b = 0 := by
  have key : ∀ {x : Nat}, isFin x = true → feq x x = true ∧ fgt (fabs x) 9218868437227405311 = false := by
    intro x hx
    have e : fabs x = rg x := by unfold fabs; rw [fin_num hx]; rfl
    have hr : rg x < 2047 * 2 ^ 52 := of_decide_eq_true hx
    have hm : isFin 9218868437227405311 = true := by decide
    have hf : isFin (rg x) = true := by unfold isFin; rw [rg_rg]; exact hx
    have hs : sg (rg x) = false := by
      unfold sg; have := rg_lt x
      have : rg x / 2 ^ 63 = 0 := Nat.div_eq_of_lt this
      rw [this]; rfl
    refine ⟨by rw [feq_fin hx hx]; exact decide_eq_true rfl, ?_⟩
    rw [e, fgt_fin hf hm]
    have h1 : fx (rg x) = fxr (rg x) := by unfold fx; rw [hs, rg_rg]; rfl
    have h2 : fx 9218868437227405311 = fxr 9218868437227405311 := rfl
    have h3 : fxr (rg x) ≤ fxr 9218868437227405311 := fxr_le.2 (by omega)
    exact decide_eq_false (by rw [h1, h2]; omega)
  unfold bKind_0
  rw [(key ha).1, (key hb).1, (key ha).2, (key hb).2]
  rfl
theorem max_min {A B : Nat} (hA : isFin A = true) (hB : isFin B = true) (sA : sg A = false) (sB : sg B = false) :
    (fmax A B = A ∧ fmin A B = B ∧ qv B ≤ qv A) ∨ (fmax A B = B ∧ fmin A B = A ∧ qv A ≤ qv B) := by
  have hU := UR_pos
  have le : ∀ {x y : Nat}, fx x ≤ fx y → qv x ≤ qv y := by
    intro x y h
    refine Rat.le_of_mul_le_mul_right (c := UR) ?_ hU
    rw [qv_U, qv_U]; exact Rat.intCast_le_intCast.2 h
  have hneg : (dbl.read A).neg = false := by
    obtain ⟨m, p, e, _⟩ := read_fin hA
    rw [e, sA]; rfl
  unfold fmax fmin
  rw [order_fin hA hB]
  rcases Int.lt_trichotomy (fx A) (fx B) with h | h | h
  · right
    rw [cmp_lt.2 h]
    exact ⟨rfl, rfl, le (by omega)⟩
  · left
    rw [cmp_eq.2 h]
    simp only [hneg]
    exact ⟨rfl, rfl, le (by omega)⟩
  · left
    rw [cmp_gt.2 h]
    exact ⟨rfl, rfl, le (by omega)⟩
/-! ### Magnitudes by themselves -/
theorem rg_sg (x : Nat) : sg (rg x) = false := by
  unfold sg; have := rg_lt x
  have : rg x / 2 ^ 63 = 0 := Nat.div_eq_of_lt this
  rw [this]; rfl
theorem fin_rg {x : Nat} (h : isFin x = true) : isFin (rg x) = true := by unfold isFin; rw [rg_rg]; exact h
theorem fabs_rg {x : Nat} (h : isFin x = true) : fabs x = rg x := by unfold fabs; rw [fin_num h]; rfl
end Go.Lk
