/- Whole numbers as floats: sums and products are exact below 2^53. -/
import Derived.Test.YtmomainjlncogaaLkPSA
import Derived.Test.YtmomainjlncogaaLkMX
namespace Go.Lk
open Ieee (Format Datum Toward)
set_option linter.unusedSimpArgs false
set_option linter.unusedVariables false
/-- The float x is the whole number z. -/
def IsW (x : Nat) (z : Int) : Prop := isFin x = true ∧ fx x = z * (U : Int)
theorem U_form : ∃ u, U = 2 ^ u := by obtain ⟨u, _, h⟩ := U_spec; exact ⟨u, h⟩
theorem rnd_w {s : Bool} {z : Int} (h : z.natAbs < 2 ^ 53) : IsW (rnd s (z * (U : Int))) z := by
  obtain ⟨u, hu⟩ := U_form
  obtain ⟨r1, r2, _⟩ := rnd_exact (z := s) (T := z * (U : Int)) (R := 4850376798678024192) (by decide) (by
    rw [Int.natAbs_mul, Int.natAbs_natCast, fxr_big]
    exact Nat.mul_le_mul_right _ (by omega)) ⟨z.natAbs, u, by rw [Int.natAbs_mul, Int.natAbs_natCast, hu], h⟩
  exact ⟨r1, r2⟩
theorem IsW.add {x y : Nat} {a b : Int} (hx : IsW x a) (hy : IsW y b) (h : (a + b).natAbs < 2 ^ 53) : IsW (fadd x y) (a + b) := by
  rw [fadd_fin hx.1 hy.1, hx.2, hy.2, ← Int.add_mul]
  exact rnd_w h
theorem IsW.sub {x y : Nat} {a b : Int} (hx : IsW x a) (hy : IsW y b) (h : (a - b).natAbs < 2 ^ 53) : IsW (fsub x y) (a - b) := by
  rw [fsub_fin hx.1 hy.1, hx.2, hy.2, ← Int.sub_mul]
  exact rnd_w h
theorem IsW.abs {x : Nat} {a : Int} (hx : IsW x a) : fxr (rg x) = a.natAbs * U := by
  have := fx_abs x
  rw [hx.2, Int.natAbs_mul, Int.natAbs_natCast] at this
  exact this.symm
theorem IsW.sg_of {x : Nat} {a : Int} (hx : IsW x a) (h : a ≠ 0) : sg x = decide (a < 0) := by
  have hU := U_pos
  have h1 : fx x ≠ 0 := by rw [hx.2]; exact Int.mul_ne_zero h (by omega)
  rw [sg_fx h1, hx.2]
  by_cases h0 : a < 0
  · rw [decide_eq_true h0]
    exact decide_eq_true (Int.mul_neg_of_neg_of_pos h0 (by omega))
  · rw [decide_eq_false h0]
    refine decide_eq_false fun h2 => ?_
    have : 0 ≤ a * (U : Int) := Int.mul_nonneg (by omega) (by omega)
    omega
theorem IsW.mul {x y : Nat} {a b : Int} (hx : IsW x a) (hy : IsW y b) (h : (a * b).natAbs < 2 ^ 53) : IsW (fmul x y) (a * b) := by
  obtain ⟨r, e, hr⟩ := fmul_near hx.1 hy.1
  have hU := U_pos
  obtain ⟨u, hu⟩ := U_form
  rw [hx.abs, hy.abs] at hr
  obtain ⟨l1, l2⟩ := rung_small (T := (a * b).natAbs * U) (r := 4850376798678024192) (by rw [fxr_big]; exact Nat.mul_le_mul_right _ (by omega)) (by decide) ⟨(a * b).natAbs, u, by rw [hu], h⟩
  have key : fxr (rung ((a * b).natAbs * U)) * U = a.natAbs * U * (b.natAbs * U) := by
    rw [l2, Int.natAbs_mul, Nat.mul_assoc, Nat.mul_assoc, Nat.mul_assoc, ← Nat.mul_assoc U, Nat.mul_comm U b.natAbs, Nat.mul_assoc]
  have e1 := hr.le_of (R := rung ((a * b).natAbs * U)) (by unfold infR; omega) (by omega)
  have e2 := hr.ge_of (R := rung ((a * b).natAbs * U)) (by unfold infR; omega) (by omega)
  have er : r = rung ((a * b).natAbs * U) := by omega
  rw [e, er]
  refine ⟨fin_wd l1, ?_⟩
  rw [fx_wd (rung_lt _), l2, sgn_mul]
  have hs : sgn (sg x ^^ sg y) (a * b).natAbs = a * b := by
    by_cases ha : a = 0
    · subst ha; simp [sgn]
    · by_cases hb : b = 0
      · subst hb; simp [sgn]
      · rw [hx.sg_of ha, hy.sg_of hb]
        unfold sgn
        rcases Int.lt_or_le a 0 with h1 | h1
        · rcases Int.lt_or_le b 0 with h2 | h2
          · rw [decide_eq_true h1, decide_eq_true h2]
            have : 0 < a * b := Int.mul_pos_of_neg_of_neg h1 h2
            simp; omega
          · rw [decide_eq_true h1, decide_eq_false (by omega)]
            have : a * b < 0 := Int.mul_neg_of_neg_of_pos h1 (by omega)
            simp; omega
        · rcases Int.lt_or_le b 0 with h2 | h2
          · rw [decide_eq_false (by omega), decide_eq_true h2]
            have : a * b < 0 := Int.mul_neg_of_pos_of_neg (by omega) h2
            simp; omega
          · rw [decide_eq_false (by omega), decide_eq_false (by omega)]
            have : 0 ≤ a * b := Int.mul_nonneg h1 h2
            simp; omega
  rw [hs]
theorem IsW.neg {x : Nat} {a : Int} (hl : x < 2 ^ 64) (hx : IsW x a) : IsW (fneg x) (-a) := by
  obtain ⟨n1, n2, _⟩ := fneg_fin hl hx.1
  exact ⟨n1, by rw [n2, hx.2, Int.neg_mul]⟩
theorem isW_near {n : Int} (h : n.natAbs < 2 ^ 53) : IsW (FloatKind.f64.nearest n) n := ⟨(near_fx h).1, (near_fx h).2.1⟩
theorem isW_0 : IsW 0 0 := ⟨fin_zero, by rw [fx_0]; simp⟩
theorem isW_m0 : IsW (2 ^ 63) 0 := ⟨by decide, by rw [Int.zero_mul]; decide +kernel⟩
theorem isW_1 : IsW 4607182418800017408 1 := ⟨fin_one, by rw [Int.one_mul]; exact fx_one⟩
theorem isW_m1 : IsW 13830554455654793216 (-1) := ⟨by decide, by decide +kernel⟩
theorem IsW.feq_of {x y : Nat} {a : Int} (hx : IsW x a) (hy : IsW y a) : feq x y = true := by
  rw [feq_fin hx.1 hy.1, hx.2, hy.2]; exact decide_eq_true rfl
theorem mul_U_le {a b : Int} : a * (U : Int) ≤ b * (U : Int) ↔ a ≤ b := by
  have hU := U_pos
  constructor
  · intro h
    rcases Int.lt_or_le b a with h1 | h1
    · have : b * (U : Int) < a * (U : Int) := Int.mul_lt_mul_of_pos_right h1 (by omega)
      omega
    · exact h1
  · intro h; exact Int.mul_le_mul_of_nonneg_right h (by omega)
theorem IsW.feq_iff {x y : Nat} {a b : Int} (hx : IsW x a) (hy : IsW y b) : feq x y = decide (a = b) := by
  rw [feq_fin hx.1 hy.1, hx.2, hy.2]
  by_cases h : a = b
  · subst h; rw [decide_eq_true rfl, decide_eq_true rfl]
  · rw [decide_eq_false h]
    refine decide_eq_false fun h2 => h ?_
    have h3 : a ≤ b := mul_U_le.1 (by omega)
    have h4 : b ≤ a := mul_U_le.1 (by omega)
    omega
theorem IsW.fgt_iff {x y : Nat} {a b : Int} (hx : IsW x a) (hy : IsW y b) : fgt x y = decide (b < a) := by
  rw [fgt_fin hx.1 hy.1, hx.2, hy.2]
  by_cases h : b < a
  · rw [decide_eq_true h]
    refine decide_eq_true ?_
    rcases Int.lt_or_le (b * (U : Int)) (a * (U : Int)) with h1 | h1
    · exact h1
    · have := mul_U_le.1 h1; omega
  · rw [decide_eq_false h]
    refine decide_eq_false fun h2 => ?_
    have : a * (U : Int) ≤ b * (U : Int) := mul_U_le.2 (by omega)
    omega
/-- Its floor is itself. -/
theorem IsW.floor_of {x : Nat} {a : Int} (hx : IsW x a) (h : a.natAbs < 2 ^ 53) : IsW (ffloor x) a := by
  have hU := U_pos
  rw [ffloor_fin hx.1, hx.abs, Nat.mul_div_cancel _ hU, Nat.mul_mod_left]
  have : (sg x && (0 : Nat) != 0).toNat = 0 := by simp
  rw [this, Nat.add_zero]
  obtain ⟨u, hu⟩ := U_form
  obtain ⟨l1, l2⟩ := rung_small (T := a.natAbs * U) (r := 4850376798678024192) (by rw [fxr_big]; exact Nat.mul_le_mul_right _ (by omega)) (by decide) ⟨a.natAbs, u, by rw [hu], h⟩
  refine ⟨fin_wd l1, ?_⟩
  rw [fx_wd (rung_lt _), l2, ← hx.2]
  unfold fx
  rw [hx.abs]
/-- Its magnitude. -/
theorem IsW.fabs_of {x : Nat} {a : Int} (hx : IsW x a) : IsW (fabs x) (a.natAbs : Int) := by
  have e : Lk.fabs x = rg x := by unfold Lk.fabs; rw [fin_num hx.1]; rfl
  have hs : Lk.sg (rg x) = false := by
    unfold Lk.sg; have := rg_lt x
    have : rg x / 2 ^ 63 = 0 := Nat.div_eq_of_lt this
    rw [this]; rfl
  rw [e]
  refine ⟨by unfold isFin; rw [rg_rg]; exact hx.1, ?_⟩
  unfold fx
  rw [hs, rg_rg, hx.abs, ← Int.natCast_mul]
  rfl
/-! ### Sums -/
def sumZ (z : Nat → Int) : Nat → Int
  | 0 => 0
  | k + 1 => sumZ z k + z k
theorem sumZ_bound {z : Nat → Int} {B : Nat} : ∀ {m : Nat}, (∀ i, i < m → (z i).natAbs ≤ B) → (sumZ z m).natAbs ≤ m * B
  | 0, _ => by simp [sumZ]
  | m + 1, h => by
    have h1 := sumZ_bound (m := m) (B := B) fun i hi => h i (by omega)
    have h2 := h m (by omega)
    show (sumZ z m + z m).natAbs ≤ _
    rw [Nat.add_mul, Nat.one_mul]
    omega
theorem sumZ_congr {z w : Nat → Int} : ∀ {m : Nat}, (∀ i, i < m → z i = w i) → sumZ z m = sumZ w m
  | 0, _ => rfl
  | m + 1, h => by
    show sumZ z m + z m = sumZ w m + w m
    rw [sumZ_congr fun i hi => h i (by omega), h m (by omega)]
theorem sumZ_add (z w : Nat → Int) : ∀ m, sumZ (fun i => z i + w i) m = sumZ z m + sumZ w m
  | 0 => rfl
  | m + 1 => by
    show sumZ (fun i => z i + w i) m + (z m + w m) = sumZ z m + z m + (sumZ w m + w m)
    rw [sumZ_add z w m]; omega
theorem sumZ_const (c : Int) : ∀ m, sumZ (fun _ => c) m = m * c
  | 0 => by simp [sumZ]
  | m + 1 => by
    show sumZ (fun _ => c) m + c = _
    rw [sumZ_const c m, show ((m + 1 : Nat) : Int) = (m : Int) + 1 by omega, Int.add_mul, Int.one_mul]
end Go.Lk
