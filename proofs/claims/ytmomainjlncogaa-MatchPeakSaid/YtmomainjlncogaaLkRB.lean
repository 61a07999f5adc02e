/- Quotients and roots as rational numbers; polynomials. -/
import Derived.Test.YtmomainjlncogaaLkRA
namespace Go.Lk
set_option linter.unusedSimpArgs false
set_option linter.unusedVariables false

theorem qv_nn {x : Nat} (h : sg x = false) : qv x * UR = ((fxr (rg x) : Nat) : Rat) ∧ 0 ≤ qv x := by
  have hU := UR_pos
  have e : qv x * UR = ((fxr (rg x) : Nat) : Rat) := by rw [qv_U, fx_rg h]; rfl
  refine ⟨e, ?_⟩
  refine Rat.le_of_mul_le_mul_right (c := UR) ?_ hU
  rw [e, Rat.zero_mul]
  exact Rat.natCast_nonneg
theorem tau_UR : 1 ≤ tau * UR := by have := UR_big; unfold tau; grind
/-- A quotient of what is not below nought. -/
theorem div_q {x y : Nat} (hx : isFin x = true) (hy : isFin y = true) (sx : sg x = false) (sy : sg y = false) (h0 : 0 < qv y) (hle : qv x ≤ qv y) :
    isFin (fdiv x y) = true ∧ sg (fdiv x y) = false ∧ Bd (qv (fdiv x y) * qv y - qv x) (qv x * eta + tau * qv y) := by
  have hU := UR_pos
  obtain ⟨ex, nx⟩ := qv_nn sx
  obtain ⟨ey, ny⟩ := qv_nn sy
  have hY : fxr (rg y) ≠ 0 := by
    intro h
    rw [h] at ey
    have : qv y * UR = 0 := ey
    rcases Rat.mul_eq_zero.1 this with h1 | h1 <;> grind
  obtain ⟨r, e, hr⟩ := fdiv_near hx hy hY
  rw [sx, sy] at e
  have hXY : fxr (rg x) ≤ fxr (rg y) := by
    refine Rat.natCast_le_natCast.1 ?_
    rw [← ex, ← ey]
    exact Rat.mul_le_mul_of_nonneg_right hle (by grind)
  have hone : r ≤ rg fone := hr.le_of (by have := rg_one_lt; unfold infR; omega) (by rw [fxr_one, Nat.mul_comm U]; exact Nat.mul_le_mul_right _ hXY)
  have ho := rg_one_lt
  obtain ⟨e1, e2⟩ := hr.err (by omega) (by unfold infR; omega)
  have hf : isFin (wd false r) = true := fin_wd (by omega)
  have hsg : sg (wd false r) = false := sg_wd (by omega)
  simp only [Bool.xor_self] at e
  rw [e]
  refine ⟨hf, hsg, ?_⟩
  obtain ⟨er, nr⟩ := qv_nn hsg
  rw [rg_wd (by omega)] at er
  have h52 : (2 : Nat) ^ 52 = 4503599627370496 := by decide
  rw [h52] at e1 e2
  have m1 : max (4503599627370496 * fxr (rg y)) (fxr (rg x) * U) ≤ 4503599627370496 * fxr (rg y) + fxr (rg x) * U := by omega
  have k1 : 4503599627370496 * (fxr r * fxr (rg y)) ≤ 4503599627370496 * (fxr (rg x) * U) + (4503599627370496 * fxr (rg y) + fxr (rg x) * U) := by omega
  have k2 : 4503599627370496 * (fxr (rg x) * U) ≤ 4503599627370496 * (fxr r * fxr (rg y)) + (4503599627370496 * fxr (rg y) + fxr (rg x) * U) := by omega
  have k1 := Rat.natCast_le_natCast.2 k1
  have k2 := Rat.natCast_le_natCast.2 k2
  simp only [Rat.natCast_mul, Rat.natCast_add] at k1 k2
  rw [← er, ← ex, ← ey] at k1 k2
  have e3 : ((4503599627370496 : Nat) : Rat) = 4503599627370496 := by rfl
  have e4 : ((U : Nat) : Rat) = UR := rfl
  rw [e3, e4] at k1 k2
  have ht := tau_UR
  have ht2 : qv y * UR ≤ tau * qv y * (UR * UR) := by
    have := Rat.mul_le_mul_of_nonneg_right ht (c := qv y * UR) (Rat.mul_nonneg ny (by grind))
    grind
  have e5 : qv x * eta * (UR * UR) * 4503599627370496 = qv x * (UR * UR) := by unfold eta; grind
  have hUU : 0 < UR * UR := Rat.mul_pos hU hU
  generalize qv (wd false r) = q at *
  constructor
  · refine Rat.le_of_mul_le_mul_right (c := UR * UR) ?_ hUU
    grind
  · refine Rat.le_of_mul_le_mul_right (c := UR * UR) ?_ hUU
    grind
/-- A root of what is not below nought, and not great. -/
theorem sqrt_q {x : Nat} (hx : isFin x = true) (sx : sg x = false) (hB : qv x ≤ 1048576) : isFin (fsqrt x) = true ∧ sg (fsqrt x) = false ∧ ∃ l : Rat, 0 ≤ l ∧ l * l ≤ qv x ∧ l ≤ qv (fsqrt x) ∧ qv (fsqrt x) ≤ l + l * eta + tau ∧ qv x ≤ (l + l * eta + tau) * (l + l * eta + tau) := by
  have hU := UR_pos
  obtain ⟨ex, nx⟩ := qv_nn sx
  obtain ⟨r, e, hr, hbr⟩ := fsqrt_near hx sx
  have hXU : ((fxr (rg x) * U : Nat) : Rat) = qv x * UR * UR := by rw [Rat.natCast_mul, ← ex]; rfl
  have hbig : fxr (rg x) * U < fxr 4850376798678024192 * fxr 4850376798678024192 := by
    have h1 : fxr (rg x) ≤ 1048576 * U := by
      refine Rat.natCast_le_natCast.1 ?_
      rw [← ex, Rat.natCast_mul]
      exact Rat.mul_le_mul_of_nonneg_right hB (by grind)
    have hU0 := U_pos
    rw [fxr_big]
    calc fxr (rg x) * U ≤ 1048576 * U * U := Nat.mul_le_mul_right _ h1
      _ < 2 ^ 54 * U * (2 ^ 54 * U) := by
        rw [show 2 ^ 54 * U * (2 ^ 54 * U) = 2 ^ 108 * (U * U) by rw [show (2 : Nat) ^ 108 = 2 ^ 54 * 2 ^ 54 by decide, Nat.mul_mul_mul_comm], Nat.mul_assoc]
        exact Nat.mul_lt_mul_of_pos_right (by decide) (Nat.mul_pos hU0 hU0)
  have hr54 : r ≤ 4850376798678024192 := (hbr _ (by decide)).2 (Nat.le_of_lt hbig)
  have hf : isFin (wd false r) = true := fin_wd (by omega)
  have hsg : sg (wd false r) = false := sg_wd (by omega)
  rw [e]
  refine ⟨hf, hsg, ?_⟩
  -- the greatest L with fxr L * fxr L ≤ XU
  have key : ∀ k, k ≤ 4850376798678024192 → fxr (4850376798678024192 - k) * fxr (4850376798678024192 - k) ≤ fxr (rg x) * U → ∃ L, L < 4850376798678024192 ∧ fxr L * fxr L ≤ fxr (rg x) * U ∧ fxr (rg x) * U < fxr (L + 1) * fxr (L + 1) := by
    intro k
    induction k with
    | zero => intro _ k; rw [Nat.sub_zero] at k; omega
    | succ k ih =>
      intro hk hL
      rcases Nat.lt_or_ge (fxr (rg x) * U) (fxr (4850376798678024192 - k) * fxr (4850376798678024192 - k)) with h1 | h1
      · refine ⟨4850376798678024192 - (k + 1), by omega, hL, ?_⟩
        rw [show 4850376798678024192 - (k + 1) + 1 = 4850376798678024192 - k by omega]
        exact h1
      · exact ih (by omega) h1
  obtain ⟨L, hL, h1, h2⟩ := key 4850376798678024192 (Nat.le_refl _) (by rw [Nat.sub_self, fxr_zero]; omega)
  have hge := (hbr L (by unfold infR; omega)).1 h1
  have hle := (hbr (L + 1) (by unfold infR; omega)).2 (Nat.le_of_lt h2)
  have hg := fxr_gap L
  have m1 : max (2 ^ 52) (fxr L) ≤ 2 ^ 52 + fxr L := by omega
  have hg2 : 4503599627370496 * fxr (L + 1) ≤ 4503599627370496 * fxr L + (4503599627370496 + fxr L) := by
    have h52 : (2 : Nat) ^ 52 = 4503599627370496 := by decide
    rw [h52] at hg m1; omega
  obtain ⟨er, nr⟩ := qv_nn hsg
  rw [rg_wd (by omega)] at er
  have a1 : fxr L ≤ fxr r := fxr_le.2 hge
  have a2 : fxr r ≤ fxr (L + 1) := fxr_le.2 hle
  -- as rational numbers
  have hl : ((fxr L : Nat) : Rat) / UR * UR = ((fxr L : Nat) : Rat) := by grind
  have hl' : ((fxr (L + 1) : Nat) : Rat) / UR * UR = ((fxr (L + 1) : Nat) : Rat) := by grind
  have hl0 : 0 ≤ ((fxr L : Nat) : Rat) / UR := by
    refine Rat.le_of_mul_le_mul_right (c := UR) ?_ hU
    rw [hl, Rat.zero_mul]; exact Rat.natCast_nonneg
  have b1 := Rat.natCast_le_natCast.2 h1
  have b2 := Rat.natCast_le_natCast.2 (Nat.le_of_lt h2)
  have b3 := Rat.natCast_le_natCast.2 hg2
  have b4 := Rat.natCast_le_natCast.2 a1
  have b5 := Rat.natCast_le_natCast.2 a2
  rw [hXU, Rat.natCast_mul] at b1 b2
  simp only [Rat.natCast_mul, Rat.natCast_add] at b3
  have e3 : ((4503599627370496 : Nat) : Rat) = 4503599627370496 := by rfl
  rw [e3] at b3
  rw [← hl, ← hl'] at b3
  rw [← hl] at b1 b4
  rw [← hl'] at b2 b5
  rw [← er] at b4 b5
  generalize ((fxr L : Nat) : Rat) / UR = l at *
  generalize ((fxr (L + 1) : Nat) : Rat) / UR = l2 at *
  have ht := tau_UR
  have hUU : 0 < UR * UR := Rat.mul_pos hU hU
  have c1 : l ≤ qv (wd false r) := Rat.le_of_mul_le_mul_right b4 hU
  have c2 : qv (wd false r) ≤ l2 := Rat.le_of_mul_le_mul_right b5 hU
  have c3 : l2 ≤ l + l * eta + tau := by
    refine Rat.le_of_mul_le_mul_right (c := UR) ?_ hU
    have e5 : l * eta * UR * 4503599627370496 = l * UR := by unfold eta; grind
    grind
  have c4 : l * l ≤ qv x := by
    refine Rat.le_of_mul_le_mul_right (c := UR * UR) ?_ hUU
    grind
  have c5 : qv x ≤ l2 * l2 := by
    refine Rat.le_of_mul_le_mul_right (c := UR * UR) ?_ hUU
    grind
  have c6 : 0 ≤ l2 := by grind
  refine ⟨l, hl0, c4, c1, by grind, Rat.le_trans c5 ?_⟩
  have d1 := Rat.mul_le_mul_of_nonneg_right c3 (c := l2) c6
  have d2 := Rat.mul_le_mul_of_nonneg_left c3 (c := l + l * eta + tau) (by grind)
  exact Rat.le_trans d1 d2
/-! ### Polynomials -/
def pe : List Rat → Rat → Rat
  | [], _ => 0
  | c :: l, z => c + z * pe l z
def padd : List Rat → List Rat → List Rat
  | [], m => m
  | l, [] => l
  | a :: l, b :: m => (a + b) :: padd l m
def pscale (k : Rat) : List Rat → List Rat
  | [] => []
  | a :: l => k * a :: pscale k l
def pmul : List Rat → List Rat → List Rat
  | [], _ => []
  | a :: l, m => padd (pscale a m) (0 :: pmul l m)
theorem pe_add (z : Rat) : ∀ l m, pe (padd l m) z = pe l z + pe m z
  | [], m => by simp only [padd, pe]; grind
  | a :: l, [] => by simp only [padd, pe]; grind
  | a :: l, b :: m => by simp only [padd, pe, pe_add z l m]; grind
theorem pe_scale (z k : Rat) : ∀ l, pe (pscale k l) z = k * pe l z
  | [] => by simp only [pscale, pe]; grind
  | a :: l => by simp only [pscale, pe, pe_scale z k l]; grind
theorem pe_mul (z : Rat) : ∀ l m, pe (pmul l m) z = pe l z * pe m z
  | [], m => by simp only [pmul, pe]; grind
  | a :: l, m => by simp only [pmul, pe, pe_add, pe_scale, pe_mul z l m]; grind
def rabs (r : Rat) : Rat := if r < 0 then -r else r
theorem bd_rabs (r : Rat) : Bd r (rabs r) := by
  unfold rabs Bd
  by_cases h : r < 0
  · rw [if_pos h]; constructor <;> grind
  · rw [if_neg h]; constructor <;> grind
theorem pe_bd {z Z : Rat} (h0 : 0 ≤ z) (h1 : z ≤ Z) : ∀ l, Bd (pe l z) (pe (l.map rabs) Z)
  | [] => Bd.zero
  | a :: l => (bd_rabs a).add (Bd.mul (⟨by grind, h1⟩ : Bd z Z) (pe_bd h0 h1 l))
end Go.Lk
