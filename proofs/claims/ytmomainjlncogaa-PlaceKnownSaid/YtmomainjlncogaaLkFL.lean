/- Finite floats as whole multiples of the least place. -/
import Derived.Test.YtmomainjlncogaaLkMM
namespace Go.Lk
open Ieee (Format Datum Toward)
set_option linter.unusedSimpArgs false
set_option linter.unusedVariables false

theorem lp_eq : dbl.leastPlace = -1074 := by decide +kernel
theorem bin_eq : dbl.binade = 2 ^ 52 := by decide +kernel
theorem inf_eq : dbl.infRung = 2047 * 2 ^ 52 := by decide +kernel
theorem sw_eq : dbl.signWeight = 2 ^ 63 := by decide +kernel
theorem fb_eq : dbl.fractionBits = 52 := by decide +kernel

/-! ### To the nearest, ties to even -/
def rne (n d : Nat) : Nat := n / 2 ^ d + (decide (2 ^ d < 2 * (n % 2 ^ d)) || (2 ^ d == 2 * (n % 2 ^ d) && n / 2 ^ d % 2 == 1)).toNat

theorem pow_ge {a b : Nat} (h : a ≤ b) : 2 ^ a ≤ 2 ^ b := Nat.pow_le_pow_right (by decide) h
theorem pow_gt {a b : Nat} (h : a < b) : 2 ^ a < 2 ^ b := Nat.pow_lt_pow_right (by decide) h

theorem cut_gap (n d : Nat) (h : ¬ d ≤ n.log2 + 2) : 4 * n < 2 ^ (n.log2 + 2) * 2 ∧ n < 2 ^ d ∧ 2 * n < 2 ^ d ∧ 2 * n < 2 ^ (n.log2 + 2) := by
  have h1 : n < 2 ^ (n.log2 + 1) := Nat.lt_log2_self
  have h2 : 2 ^ (n.log2 + 2) ≤ 2 ^ d := pow_ge (by omega)
  have h3 : 2 ^ (n.log2 + 2) = 2 * 2 ^ (n.log2 + 1) := by rw [Nat.pow_succ]; omega
  omega

theorem cut_even (s : Bool) (n d : Nat) : Toward.even.cut s n d = rne n d := by
  unfold Toward.cut rne
  simp only [Nat.shiftLeft_eq, Nat.one_mul]
  rcases Nat.lt_or_ge (n.log2 + 2) d with h | h
  · obtain ⟨g1, g2, g3, g4⟩ := cut_gap n d (by omega)
    rw [Nat.min_eq_right (by omega)]
    have a1 : n / 2 ^ (n.log2 + 2) = 0 := Nat.div_eq_of_lt (by omega)
    have a2 : n % 2 ^ (n.log2 + 2) = n := Nat.mod_eq_of_lt (by omega)
    have a3 : n / 2 ^ d = 0 := Nat.div_eq_of_lt (by omega)
    have a4 : n % 2 ^ d = n := Nat.mod_eq_of_lt (by omega)
    rw [a1, a2, a3, a4]
    have b1 : decide (2 ^ (n.log2 + 2) < 2 * n) = false := by simp; omega
    have b2 : decide (2 ^ d < 2 * n) = false := by simp; omega
    rw [b1, b2]
    simp
  · rw [Nat.min_eq_left (by omega)]
theorem cut_zero (s : Bool) (n d : Nat) : Toward.zero.cut s n d = n / 2 ^ d := by
  unfold Toward.cut
  simp only [Nat.shiftLeft_eq, Nat.one_mul]
  rcases Nat.lt_or_ge (n.log2 + 2) d with h | h
  · obtain ⟨g1, g2, g3, g4⟩ := cut_gap n d (by omega)
    rw [Nat.min_eq_right (by omega), Nat.div_eq_of_lt (by omega), Nat.div_eq_of_lt (by omega)]; rfl
  · rw [Nat.min_eq_left (by omega)]; rfl
theorem cut_down (s : Bool) (n d : Nat) : Toward.down.cut s n d = n / 2 ^ d + (s && n % 2 ^ d != 0).toNat := by
  unfold Toward.cut
  simp only [Nat.shiftLeft_eq, Nat.one_mul]
  rcases Nat.lt_or_ge (n.log2 + 2) d with h | h
  · obtain ⟨g1, g2, g3, g4⟩ := cut_gap n d (by omega)
    rw [Nat.min_eq_right (by omega), Nat.div_eq_of_lt (by omega), Nat.div_eq_of_lt (by omega), Nat.mod_eq_of_lt (by omega), Nat.mod_eq_of_lt (by omega)]
  · rw [Nat.min_eq_left (by omega)]

theorem rne_shl (n d k : Nat) : rne (n * 2 ^ k) (d + k) = rne n d := by
  unfold rne
  have hk : 0 < 2 ^ k := Nat.two_pow_pos k
  rw [Nat.pow_add, Nat.mul_div_mul_right _ _ hk, Nat.mul_mod_mul_right]
  have e1 : decide (2 ^ d * 2 ^ k < 2 * (n % 2 ^ d * 2 ^ k)) = decide (2 ^ d < 2 * (n % 2 ^ d)) := by
    rw [← Nat.mul_assoc]
    exact decide_eq_decide.2 (Nat.mul_lt_mul_right hk)
  have e2 : (2 ^ d * 2 ^ k == 2 * (n % 2 ^ d * 2 ^ k)) = (2 ^ d == 2 * (n % 2 ^ d)) := by
    rw [← Nat.mul_assoc, Bool.eq_iff_iff]
    simp only [beq_iff_eq]
    exact ⟨fun h => Nat.eq_of_mul_eq_mul_right hk h, fun h => congrArg (· * 2 ^ k) h⟩
  rw [e1, e2]
theorem rne_exact (n k : Nat) : rne (n * 2 ^ k) k = n := by
  unfold rne
  have hk : 0 < 2 ^ k := Nat.two_pow_pos k
  rw [Nat.mul_div_cancel _ hk, Nat.mul_mod_left]
  have : (2 ^ k == 2 * 0) = false := by simp
  rw [this]
  simp
theorem rne_zero (n : Nat) : rne n 0 = n := by have := rne_exact n 0; simpa using this
theorem rne_le (n d : Nat) : rne n d ≤ n / 2 ^ d + 1 := by
  unfold rne; cases (decide (2 ^ d < 2 * (n % 2 ^ d)) || (2 ^ d == 2 * (n % 2 ^ d) && n / 2 ^ d % 2 == 1)) <;> simp [Bool.toNat]
theorem rne_ge (n d : Nat) : n / 2 ^ d ≤ rne n d := Nat.le_add_right _ _

/-! ### Words -/
/-- What a rung stands for, in units of the least place. -/
def fxr (r : Nat) : Nat := if r < 2 ^ 52 then r else (2 ^ 52 + r % 2 ^ 52) * 2 ^ (r / 2 ^ 52 - 1)
/-- How many digits are dropped of so many units. -/
def kd52 (T : Nat) : Nat := T.log2 - 52
/-- The rung nearest to so many units. -/
def rung (T : Nat) : Nat := min (kd52 T * 2 ^ 52 + rne T (kd52 T)) (2047 * 2 ^ 52)
def sgn (s : Bool) (n : Nat) : Int := if s then -(n : Int) else n
def wd (s : Bool) (r : Nat) : Nat := if s then 2 ^ 63 + r else r

theorem word_eq (s : Bool) (r : Nat) : dbl.word s r = wd s r := by unfold Format.word wd; rw [sw_eq]

theorem log2_shl {m : Nat} (j : Nat) (h : m ≠ 0) : (m * 2 ^ j).log2 = m.log2 + j := by
  have hp : 0 < 2 ^ j := Nat.two_pow_pos j
  have h0 : m * 2 ^ j ≠ 0 := Nat.mul_ne_zero h (by omega)
  have a1 : 2 ^ m.log2 ≤ m := Nat.log2_self_le h
  have a2 : m < 2 ^ (m.log2 + 1) := Nat.lt_log2_self
  refine (Nat.log2_eq_iff h0).2 ⟨?_, ?_⟩
  · rw [Nat.pow_add]; exact Nat.mul_le_mul_right _ a1
  · rw [show m.log2 + j + 1 = (m.log2 + 1) + j by omega, Nat.pow_add]; exact Nat.mul_lt_mul_of_pos_right a2 hp
theorem nearest_eq (s : Bool) (m : Nat) (p : Int) (hp : -1074 ≤ p) : dbl.nearest s m p = wd s (rung (m * 2 ^ (p + 1074).toNat)) := by
  unfold Format.nearest
  rcases Nat.eq_zero_or_pos m with rfl | hm
  · simp [word_eq, rung, kd52, rne]
  rw [if_neg (by omega)]
  simp only [fb_eq, lp_eq, bin_eq, inf_eq, word_eq, cut_even, Nat.shiftLeft_eq]
  generalize hj : (p + 1074).toNat = j
  have hpj : p = (j : Int) - 1074 := by omega
  subst hpj
  have hl : (m * 2 ^ j).log2 = m.log2 + j := log2_shl j (by omega)
  unfold rung kd52
  rw [hl]
  generalize hkk : m.log2 + j - 52 = k
  have hlast : max ((j : Int) - 1074 + m.log2 - (52 : Nat)) (-1074) = (k : Int) - 1074 := by omega
  rw [hlast]
  have e1 : ((k : Int) - 1074 - -1074).toNat = k := by omega
  rw [e1]
  congr 2
  rcases Nat.le_total k j with h | h
  · have e2 : ((j : Int) - 1074 - ((k : Int) - 1074)).toNat = j - k := by omega
    have e3 : ((k : Int) - 1074 - ((j : Int) - 1074)).toNat = 0 := by omega
    rw [e2, e3, rne_zero]
    have : m * 2 ^ j = m * 2 ^ (j - k) * 2 ^ k := by rw [Nat.mul_assoc, ← Nat.pow_add]; congr 2; omega
    rw [this, rne_exact]
  · have e2 : ((j : Int) - 1074 - ((k : Int) - 1074)).toNat = 0 := by omega
    have e3 : ((k : Int) - 1074 - ((j : Int) - 1074)).toNat = k - j := by omega
    rw [e2, e3]
    simp only [Nat.pow_zero, Nat.mul_one]
    have := rne_shl m (k - j) j
    rw [show k - j + j = k by omega] at this
    rw [this]

/-- A word, read. -/
def rd (x : Nat) : Bool × Nat := (x / 2 ^ 63 % 2 == 1, x % 2 ^ 63)
theorem rd_wd {s : Bool} {r : Nat} (h : r < 2 ^ 63) : rd (wd s r) = (s, r) := by
  unfold rd wd
  cases s <;> simp <;> omega
theorem wd_rd {x : Nat} (h : x < 2 ^ 64) : wd (rd x).1 (rd x).2 = x := by
  unfold rd wd
  simp only [beq_iff_eq]
  split <;> omega
def sg (x : Nat) : Bool := x / 2 ^ 63 % 2 == 1
def rg (x : Nat) : Nat := x % 2 ^ 63
theorem sg_wd {s : Bool} {r : Nat} (h : r < 2 ^ 63) : sg (wd s r) = s := congrArg Prod.fst (rd_wd (s := s) h)
theorem rg_wd {s : Bool} {r : Nat} (h : r < 2 ^ 63) : rg (wd s r) = r := congrArg Prod.snd (rd_wd (s := s) h)
theorem wd_sg {x : Nat} (h : x < 2 ^ 64) : wd (sg x) (rg x) = x := wd_rd h

def isFin (x : Nat) : Bool := decide (rg x < 2047 * 2 ^ 52)
/-- The value, in units of the least place. -/
def fx (x : Nat) : Int := sgn (sg x) (fxr (rg x))

/-- A finite word's datum. -/
theorem read_fin {x : Nat} (h : isFin x = true) : ∃ m p, dbl.read x = .number (sg x) m p ∧ -1074 ≤ p ∧ m * 2 ^ (p + 1074).toNat = fxr (rg x) ∧ m < 2 ^ 53 := by
  have h' : rg x < 2047 * 2 ^ 52 := of_decide_eq_true h
  unfold Format.read
  simp only [sw_eq, bin_eq, inf_eq, lp_eq]
  change ∃ m p, (if rg x < 2 ^ 52 then _ else _) = _ ∧ _
  unfold fxr
  split
  · rename_i h1
    exact ⟨_, _, rfl, by omega, by simp [rg], by show rg x < 2 ^ 53; omega⟩
  · rename_i h1
    change ∃ m p, (if rg x < 2047 * 2 ^ 52 then _ else _) = _ ∧ _
    rw [if_pos h']
    refine ⟨_, _, rfl, by omega, ?_, by have := Nat.mod_lt (rg x) (show 0 < 2 ^ 52 by decide); show 2 ^ 52 + rg x % 2 ^ 52 < _; omega⟩
    show (2 ^ 52 + rg x % 2 ^ 52) * 2 ^ ((-1074 : Int) + ((rg x / 2 ^ 52 - 1 : Nat) : Int) + 1074).toNat = _
    congr 2
    omega
theorem read_inf {x : Nat} (h : rg x = 2047 * 2 ^ 52) : dbl.read x = .infinity (sg x) := by
  unfold Format.read
  simp only [sw_eq, bin_eq, inf_eq, lp_eq]
  change (if rg x < 2 ^ 52 then _ else if rg x < 2047 * 2 ^ 52 then _ else if rg x = 2047 * 2 ^ 52 then _ else _) = _
  rw [if_neg (by omega), if_neg (by omega), if_pos h]
  rfl
theorem read_big {x : Nat} (h : 2047 * 2 ^ 52 < rg x) : isNaN x = true := by
  unfold isNaN Format.read
  simp only [sw_eq, bin_eq, inf_eq, lp_eq]
  change Datum.isNaN (if rg x < 2 ^ 52 then _ else if rg x < 2047 * 2 ^ 52 then _ else if rg x = 2047 * 2 ^ 52 then _ else _) = _
  rw [if_neg (by omega), if_neg (by omega), if_neg (by omega)]
  rfl
theorem isNaN_iff (x : Nat) : isNaN x = decide (2047 * 2 ^ 52 < rg x) := by
  rcases Nat.lt_trichotomy (rg x) (2047 * 2 ^ 52) with h | h | h
  · obtain ⟨m, p, hr, _⟩ := read_fin (x := x) (decide_eq_true h)
    have : isNaN x = false := by unfold isNaN; rw [hr]; rfl
    rw [this]; symm; simp; omega
  · have : isNaN x = false := by unfold isNaN; rw [read_inf h]; rfl
    rw [this]; symm; simp; omega
  · rw [read_big h]; symm; simp; omega
theorem three (x : Nat) : isFin x = true ∨ rg x = 2047 * 2 ^ 52 ∨ isNaN x = true := by
  rw [isNaN_iff]; unfold isFin; simp only [decide_eq_true_eq]; omega
theorem fin_num {x : Nat} (h : isFin x = true) : isNaN x = false := by
  rw [isNaN_iff]; unfold isFin at h; simp only [decide_eq_true_eq] at h; simp; omega

/-! ### Rungs -/
theorem fxr_add {k c : Nat} (h : (k = 0 ∧ c < 2 ^ 53) ∨ (2 ^ 52 ≤ c ∧ c ≤ 2 ^ 53)) : fxr (k * 2 ^ 52 + c) = c * 2 ^ k := by
  unfold fxr
  rcases h with ⟨rfl, h⟩ | ⟨h1, h2⟩
  · simp only [Nat.zero_mul, Nat.zero_add, Nat.pow_zero, Nat.mul_one]
    split
    · rfl
    · have : c / 2 ^ 52 = 1 := by omega
      rw [this]; simp only [Nat.sub_self, Nat.pow_zero, Nat.mul_one]; omega
  · rw [if_neg (by omega)]
    rcases Nat.lt_or_ge c (2 ^ 53) with h3 | h3
    · have e1 : (k * 2 ^ 52 + c) / 2 ^ 52 = k + 1 := by omega
      have e2 : (k * 2 ^ 52 + c) % 2 ^ 52 = c - 2 ^ 52 := by omega
      have e3 : 2 ^ 52 + (c - 2 ^ 52) = c := by omega
      rw [e1, e2, e3, Nat.add_sub_cancel]
    · have hc : c = 2 ^ 53 := by omega
      subst hc
      have e1 : (k * 2 ^ 52 + 2 ^ 53) / 2 ^ 52 = k + 2 := by omega
      have e2 : (k * 2 ^ 52 + 2 ^ 53) % 2 ^ 52 = 0 := by omega
      rw [e1, e2]
      have : k + 2 - 1 = k + 1 := by omega
      rw [this, Nat.pow_succ]
      omega

theorem log2_lt {T k : Nat} (h : T < 2 ^ (k + 1)) : T.log2 ≤ k := by
  rcases Nat.eq_zero_or_pos T with rfl | hT
  · simp
  · exact Nat.lt_succ_iff.1 ((Nat.log2_lt (by omega)).2 h)

/-- What is dropped and kept. -/
theorem kept_range (T : Nat) : (kd52 T = 0 ∧ rne T (kd52 T) < 2 ^ 53) ∨ (2 ^ 52 ≤ rne T (kd52 T) ∧ rne T (kd52 T) ≤ 2 ^ 53) := by
  unfold kd52
  rcases Nat.lt_or_ge T (2 ^ 53) with h | h
  · left
    have : T.log2 ≤ 52 := log2_lt (by simpa using h)
    have e : T.log2 - 52 = 0 := by omega
    rw [e, rne_zero]
    exact ⟨rfl, h⟩
  · right
    have h1 : 53 ≤ T.log2 := by
      rcases Nat.lt_or_ge T.log2 53 with h' | h'
      · have := (Nat.log2_lt (n := T) (k := 53) (by omega)).1 h'
        omega
      · exact h'
    have a1 : 2 ^ T.log2 ≤ T := Nat.log2_self_le (by omega)
    have a2 : T < 2 ^ (T.log2 + 1) := Nat.lt_log2_self
    generalize hk : T.log2 - 52 = k at *
    have e1 : 2 ^ T.log2 = 2 ^ 52 * 2 ^ k := by rw [← Nat.pow_add]; congr 1; omega
    have e2 : 2 ^ (T.log2 + 1) = 2 ^ 53 * 2 ^ k := by rw [← Nat.pow_add]; congr 1; omega
    have hp : 0 < 2 ^ k := Nat.two_pow_pos k
    have b1 : 2 ^ 52 ≤ T / 2 ^ k := (Nat.le_div_iff_mul_le hp).2 (by omega)
    have b2 : T / 2 ^ k < 2 ^ 53 := (Nat.div_lt_iff_lt_mul hp).2 (by omega)
    have := rne_le T k
    have := rne_ge T k
    omega

theorem rung_val {T : Nat} (h : rung T < 2047 * 2 ^ 52) : fxr (rung T) = rne T (kd52 T) * 2 ^ kd52 T := by
  unfold rung at h ⊢
  rw [Nat.min_def] at h ⊢
  split
  · exact fxr_add (kept_range T)
  · rename_i h1; rw [if_neg h1] at h; omega
theorem rung_le (T : Nat) : rung T ≤ 2047 * 2 ^ 52 := Nat.min_le_right ..
theorem rung_lt (T : Nat) : rung T < 2 ^ 63 := Nat.lt_of_le_of_lt (rung_le T) (by decide)

theorem exact_rne {c j T : Nat} (hT : T = c * 2 ^ j) (hc : c < 2 ^ 53) : rne T (kd52 T) * 2 ^ kd52 T = T := by
  have hk : kd52 T ≤ j := by
    unfold kd52
    have : T < 2 ^ (52 + j + 1) := by
      rw [hT, show 52 + j + 1 = 53 + j by omega, Nat.pow_add]
      exact Nat.mul_lt_mul_of_pos_right hc (Nat.two_pow_pos j)
    have := log2_lt this
    omega
  have e : T = c * 2 ^ (j - kd52 T) * 2 ^ kd52 T := by
    rw [Nat.mul_assoc, ← Nat.pow_add, Nat.sub_add_cancel hk]; exact hT
  have := rne_exact (c * 2 ^ (j - kd52 T)) (kd52 T)
  rw [← e] at this
  rw [this, ← e]

theorem fxr_form (r : Nat) : ∃ c j, fxr r = c * 2 ^ j ∧ c < 2 ^ 53 := by
  unfold fxr
  split
  · exact ⟨r, 0, by simp, by omega⟩
  · exact ⟨_, _, rfl, by have := Nat.mod_lt r (show 0 < 2 ^ 52 by decide); omega⟩

/-- Rungs stand in order. -/
theorem fxr_step (r : Nat) : fxr r < fxr (r + 1) := by
  have hr := fxr_add (k := r / 2 ^ 52 - 1) (c := r - (r / 2 ^ 52 - 1) * 2 ^ 52) (by
    rcases Nat.lt_or_ge r (2 ^ 53) with h | h
    · left; omega
    · right; omega)
  have hr1 := fxr_add (k := r / 2 ^ 52 - 1) (c := r - (r / 2 ^ 52 - 1) * 2 ^ 52 + 1) (by
    rcases Nat.lt_or_ge r (2 ^ 53 - 1) with h | h
    · left; omega
    · right; omega)
  have e : (r / 2 ^ 52 - 1) * 2 ^ 52 + (r - (r / 2 ^ 52 - 1) * 2 ^ 52) = r := by omega
  have e1 : (r / 2 ^ 52 - 1) * 2 ^ 52 + (r - (r / 2 ^ 52 - 1) * 2 ^ 52 + 1) = r + 1 := by omega
  rw [e] at hr
  rw [e1] at hr1
  rw [hr, hr1]
  exact Nat.mul_lt_mul_of_pos_right (by omega) (Nat.two_pow_pos _)
theorem fxr_mono {r r' : Nat} (h : r < r') : fxr r < fxr r' := by
  induction h with
  | refl => exact fxr_step r
  | step _ ih => exact Nat.lt_trans ih (fxr_step _)
theorem fxr_inj {r r' : Nat} (h : fxr r = fxr r') : r = r' := by
  rcases Nat.lt_trichotomy r r' with h' | h' | h'
  · have := fxr_mono h'; omega
  · exact h'
  · have := fxr_mono h'; omega
theorem fxr_le {r r' : Nat} : fxr r ≤ fxr r' ↔ r ≤ r' := by
  constructor
  · intro h
    rcases Nat.lt_or_ge r' r with h' | h'
    · have := fxr_mono h'; omega
    · exact h'
  · intro h
    rcases Nat.lt_or_eq_of_le h with h' | rfl
    · exact Nat.le_of_lt (fxr_mono h')
    · exact Nat.le_refl _
theorem fxr_zero : fxr 0 = 0 := by decide

/-- A value that the format has is its own nearest. -/
theorem rung_fxr {r : Nat} (h : r ≤ 2047 * 2 ^ 52) : rung (fxr r) = r := by
  obtain ⟨c, j, e, hc⟩ := fxr_form r
  have h1 := exact_rne e hc
  have h2 := fxr_add (kept_range (fxr r))
  rw [h1] at h2
  have := fxr_inj h2
  unfold rung
  omega
theorem rung_exact {c j T : Nat} (hT : T = c * 2 ^ j) (hc : c < 2 ^ 53) (hr : rung T < 2047 * 2 ^ 52) : fxr (rung T) = T := by
  rw [rung_val hr, exact_rne hT hc]
theorem rung_zero : rung 0 = 0 := by decide
theorem rung_small {T r : Nat} (h : T ≤ fxr r) (hr : r < 2047 * 2 ^ 52) (he : ∃ c j, T = c * 2 ^ j ∧ c < 2 ^ 53) : rung T < 2047 * 2 ^ 52 ∧ fxr (rung T) = T := by
  obtain ⟨c, j, e, hc⟩ := he
  have h1 := exact_rne e hc
  have h2 := fxr_add (kept_range T)
  rw [h1] at h2
  have h3 : kd52 T * 2 ^ 52 + rne T (kd52 T) ≤ r := fxr_le.1 (by rw [h2]; exact h)
  have : rung T < 2047 * 2 ^ 52 := by unfold rung; omega
  exact ⟨this, rung_exact e hc this⟩
theorem rung_pos {T : Nat} (h : 0 < T) : 0 < rung T := by
  have h1 := kept_range T
  unfold rung
  rcases Nat.eq_zero_or_pos (kd52 T) with h0 | h0
  · rw [h0, rne_zero]; omega
  · rcases h1 with h1 | h1 <;> omega
end Go.Lk
