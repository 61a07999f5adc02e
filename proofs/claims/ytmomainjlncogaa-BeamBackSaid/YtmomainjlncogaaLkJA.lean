import Derived.Test.YtmomainjlncogaaLkLD
section
/- Finite floats as whole multiples of the least place. -/
namespace Go.Lk
open Ieee (Format Datum Toward)
set_option linter.unusedSimpArgs false
set_option linter.unusedVariables false

theorem lp_eq : dbl.leastPlace = -1074 := by decide +kernel
theorem bin_eq : dbl.binade = 2 ^ 52 := by decide +kernel
theorem inf_eq : dbl.infRung = 2047 * 2 ^ 52 := by decide +kernel
theorem sw_eq : dbl.signWeight = 2 ^ 63 := by decide +kernel
theorem fb_eq : dbl.fractionBits = 52 := by decide +kernel

/-! ### To the nearest, ties to even -/
def rne (n d : Nat) : Nat := n / 2 ^ d + (decide (2 ^ d < 2 * (n % 2 ^ d)) || (2 ^ d == 2 * (n % 2 ^ d) && n / 2 ^ d % 2 == 1)).toNat

theorem pow_ge {a b : Nat} (h : a ≤ b) : 2 ^ a ≤ 2 ^ b := Nat.pow_le_pow_right (by decide) h
theorem pow_gt {a b : Nat} (h : a < b) : 2 ^ a < 2 ^ b := Nat.pow_lt_pow_right (by decide) h

theorem cut_gap (n d : Nat) (h : ¬ d ≤ n.log2 + 2) : 4 * n < 2 ^ (n.log2 + 2) * 2 ∧ n < 2 ^ d ∧ 2 * n < 2 ^ d ∧ 2 * n < 2 ^ (n.log2 + 2) := by
  have h1 : n < 2 ^ (n.log2 + 1) := Nat.lt_log2_self
  have h2 : 2 ^ (n.log2 + 2) ≤ 2 ^ d := pow_ge (by omega)
  have h3 : 2 ^ (n.log2 + 2) = 2 * 2 ^ (n.log2 + 1) := by rw [Nat.pow_succ]; omega
  omega

theorem cut_even (s : Bool) (n d : Nat) : Toward.even.cut s n d = rne n d := by
  unfold Toward.cut rne
  simp only [Nat.shiftLeft_eq, Nat.one_mul]
  rcases Nat.lt_or_ge (n.log2 + 2) d with h | h
  · obtain ⟨g1, g2, g3, g4⟩ := cut_gap n d (by omega)
    rw [Nat.min_eq_right (by omega)]
    have a1 : n / 2 ^ (n.log2 + 2) = 0 := Nat.div_eq_of_lt (by omega)
    have a2 : n % 2 ^ (n.log2 + 2) = n := Nat.mod_eq_of_lt (by omega)
    have a3 : n / 2 ^ d = 0 := Nat.div_eq_of_lt (by omega)
    have a4 : n % 2 ^ d = n := Nat.mod_eq_of_lt (by omega)
    rw [a1, a2, a3, a4]
    have b1 : decide (2 ^ (n.log2 + 2) < 2 * n) = false := by simp; omega
    have b2 : decide (2 ^ d < 2 * n) = false := by simp; omega
    rw [b1, b2]
    simp
  · rw [Nat.min_eq_left (by omega)]
theorem cut_zero (s : Bool) (n d : Nat) : Toward.zero.cut s n d = n / 2 ^ d := by
  unfold Toward.cut
  simp only [Nat.shiftLeft_eq, Nat.one_mul]
  rcases Nat.lt_or_ge (n.log2 + 2) d with h | h
  · obtain ⟨g1, g2, g3, g4⟩ := cut_gap n d (by omega)
    rw [Nat.min_eq_right (by omega), Nat.div_eq_of_lt (by omega), Nat.div_eq_of_lt (by omega)]; rfl
  · rw [Nat.min_eq_left (by omega)]; rfl
theorem cut_down (s : Bool) (n d : Nat) : Toward.down.cut s n d = n / 2 ^ d + (s && n % 2 ^ d != 0).toNat := by
  unfold Toward.cut
  simp only [Nat.shiftLeft_eq, Nat.one_mul]
  rcases Nat.lt_or_ge (n.log2 + 2) d with h | h
  · obtain ⟨g1, g2, g3, g4⟩ := cut_gap n d (by omega)
    rw [Nat.min_eq_right (by omega), Nat.div_eq_of_lt (by omega), Nat.div_eq_of_lt (by omega), Nat.mod_eq_of_lt (by omega), Nat.mod_eq_of_lt (by omega)]
  · rw [Nat.min_eq_left (by omega)]

theorem rne_shl (n d k : Nat) : rne (n * 2 ^ k) (d + k) = rne n d := by
  unfold rne
  have hk : 0 < 2 ^ k := Nat.two_pow_pos k
  rw [Nat.pow_add, Nat.mul_div_mul_right _ _ hk, Nat.mul_mod_mul_right]
  have e1 : decide (2 ^ d * 2 ^ k < 2 * (n % 2 ^ d * 2 ^ k)) = decide (2 ^ d < 2 * (n % 2 ^ d)) := by
    rw [← Nat.mul_assoc]
    exact decide_eq_decide.2 (Nat.mul_lt_mul_right hk)
  have e2 : (2 ^ d * 2 ^ k == 2 * (n % 2 ^ d * 2 ^ k)) = (2 ^ d == 2 * (n % 2 ^ d)) := by
    rw [← Nat.mul_assoc, Bool.eq_iff_iff]
    simp only [beq_iff_eq]
    exact ⟨fun h => Nat.eq_of_mul_eq_mul_right hk h, fun h => congrArg (· * 2 ^ k) h⟩
  rw [e1, e2]
theorem rne_exact (n k : Nat) : rne (n * 2 ^ k) k = n := by
  unfold rne
  have hk : 0 < 2 ^ k := Nat.two_pow_pos k
  rw [Nat.mul_div_cancel _ hk, Nat.mul_mod_left]
  have : (2 ^ k == 2 * 0) = false := by simp
  rw [this]
  simp
theorem rne_zero (n : Nat) : rne n 0 = n := by have := rne_exact n 0; simpa using this
theorem rne_le (n d : Nat) : rne n d ≤ n / 2 ^ d + 1 := by
  unfold rne; cases (decide (2 ^ d < 2 * (n % 2 ^ d)) || (2 ^ d == 2 * (n % 2 ^ d) && n / 2 ^ d % 2 == 1)) <;> simp [Bool.toNat]
theorem rne_ge (n d : Nat) : n / 2 ^ d ≤ rne n d := Nat.le_add_right _ _

/-! ### Words -/
/-- What a rung stands for, in units of the least place. -/
def fxr (r : Nat) : Nat := if r < 2 ^ 52 then r else (2 ^ 52 + r % 2 ^ 52) * 2 ^ (r / 2 ^ 52 - 1)
/-- How many digits are dropped of so many units. -/
def kd52 (T : Nat) : Nat := T.log2 - 52
/-- The rung nearest to so many units. -/
def rung (T : Nat) : Nat := min (kd52 T * 2 ^ 52 + rne T (kd52 T)) (2047 * 2 ^ 52)
def sgn (s : Bool) (n : Nat) : Int := if s then -(n : Int) else n
def wd (s : Bool) (r : Nat) : Nat := if s then 2 ^ 63 + r else r

theorem word_eq (s : Bool) (r : Nat) : dbl.word s r = wd s r := by unfold Format.word wd; rw [sw_eq]

theorem log2_shl {m : Nat} (j : Nat) (h : m ≠ 0) : (m * 2 ^ j).log2 = m.log2 + j := by
  have hp : 0 < 2 ^ j := Nat.two_pow_pos j
  have h0 : m * 2 ^ j ≠ 0 := Nat.mul_ne_zero h (by omega)
  have a1 : 2 ^ m.log2 ≤ m := Nat.log2_self_le h
  have a2 : m < 2 ^ (m.log2 + 1) := Nat.lt_log2_self
  refine (Nat.log2_eq_iff h0).2 ⟨?_, ?_⟩
  · rw [Nat.pow_add]; exact Nat.mul_le_mul_right _ a1
  · rw [show m.log2 + j + 1 = (m.log2 + 1) + j by omega, Nat.pow_add]; exact Nat.mul_lt_mul_of_pos_right a2 hp
theorem nearest_eq (s : Bool) (m : Nat) (p : Int) (hp : -1074 ≤ p) : dbl.nearest s m p = wd s (rung (m * 2 ^ (p + 1074).toNat)) := by
  unfold Format.nearest
  rcases Nat.eq_zero_or_pos m with rfl | hm
  · simp [word_eq, rung, kd52, rne]
  rw [if_neg (by omega)]
  simp only [fb_eq, lp_eq, bin_eq, inf_eq, word_eq, cut_even, Nat.shiftLeft_eq]
  generalize hj : (p + 1074).toNat = j
  have hpj : p = (j : Int) - 1074 := by omega
  subst hpj
  have hl : (m * 2 ^ j).log2 = m.log2 + j := log2_shl j (by omega)
  unfold rung kd52
  rw [hl]
  generalize hkk : m.log2 + j - 52 = k
  have hlast : max ((j : Int) - 1074 + m.log2 - (52 : Nat)) (-1074) = (k : Int) - 1074 := by omega
  rw [hlast]
  have e1 : ((k : Int) - 1074 - -1074).toNat = k := by omega
  rw [e1]
  congr 2
  rcases Nat.le_total k j with h | h
  · have e2 : ((j : Int) - 1074 - ((k : Int) - 1074)).toNat = j - k := by omega
    have e3 : ((k : Int) - 1074 - ((j : Int) - 1074)).toNat = 0 := by omega
    rw [e2, e3, rne_zero]
    have : m * 2 ^ j = m * 2 ^ (j - k) * 2 ^ k := by rw [Nat.mul_assoc, ← Nat.pow_add]; congr 2; omega
    rw [this, rne_exact]
  · have e2 : ((j : Int) - 1074 - ((k : Int) - 1074)).toNat = 0 := by omega
    have e3 : ((k : Int) - 1074 - ((j : Int) - 1074)).toNat = k - j := by omega
    rw [e2, e3]
    simp only [Nat.pow_zero, Nat.mul_one]
    have := rne_shl m (k - j) j
    rw [show k - j + j = k by omega] at this
    rw [this]

/-- A word, read. -/
def rd (x : Nat) : Bool × Nat := (x / 2 ^ 63 % 2 == 1, x % 2 ^ 63)
theorem rd_wd {s : Bool} {r : Nat} (h : r < 2 ^ 63) : rd (wd s r) = (s, r) := by
  unfold rd wd
  cases s <;> simp <;> omega
theorem wd_rd {x : Nat} (h : x < 2 ^ 64) : wd (rd x).1 (rd x).2 = x := by
  unfold rd wd
  simp only [beq_iff_eq]
  split <;> omega
def sg (x : Nat) : Bool := x / 2 ^ 63 % 2 == 1
def rg (x : Nat) : Nat := x % 2 ^ 63
theorem sg_wd {s : Bool} {r : Nat} (h : r < 2 ^ 63) : sg (wd s r) = s := congrArg Prod.fst (rd_wd (s := s) h)
theorem rg_wd {s : Bool} {r : Nat} (h : r < 2 ^ 63) : rg (wd s r) = r := congrArg Prod.snd (rd_wd (s := s) h)
theorem wd_sg {x : Nat} (h : x < 2 ^ 64) : wd (sg x) (rg x) = x := wd_rd h

def isFin (x : Nat) : Bool := decide (rg x < 2047 * 2 ^ 52)
/-- The value, in units of the least place. -/
def fx (x : Nat) : Int := sgn (sg x) (fxr (rg x))

/-- A finite word's datum. -/
theorem read_fin {x : Nat} (h : isFin x = true) : ∃ m p, dbl.read x = .number (sg x) m p ∧ -1074 ≤ p ∧ m * 2 ^ (p + 1074).toNat = fxr (rg x) ∧ m < 2 ^ 53 := by
  have h' : rg x < 2047 * 2 ^ 52 := of_decide_eq_true h
  unfold Format.read
  simp only [sw_eq, bin_eq, inf_eq, lp_eq]
  change ∃ m p, (if rg x < 2 ^ 52 then _ else _) = _ ∧ _
  unfold fxr
  split
  · rename_i h1
    exact ⟨_, _, rfl, by omega, by simp [rg], by show rg x < 2 ^ 53; omega⟩
  · rename_i h1
    change ∃ m p, (if rg x < 2047 * 2 ^ 52 then _ else _) = _ ∧ _
    rw [if_pos h']
    refine ⟨_, _, rfl, by omega, ?_, by have := Nat.mod_lt (rg x) (show 0 < 2 ^ 52 by decide); show 2 ^ 52 + rg x % 2 ^ 52 < _; omega⟩
    show (2 ^ 52 + rg x % 2 ^ 52) * 2 ^ ((-1074 : Int) + ((rg x / 2 ^ 52 - 1 : Nat) : Int) + 1074).toNat = _
    congr 2
    omega
theorem read_inf {x : Nat} (h : rg x = 2047 * 2 ^ 52) : dbl.read x = .infinity (sg x) := by
  unfold Format.read
  simp only [sw_eq, bin_eq, inf_eq, lp_eq]
  change (if rg x < 2 ^ 52 then _ else if rg x < 2047 * 2 ^ 52 then _ else if rg x = 2047 * 2 ^ 52 then _ else _) = _
  rw [if_neg (by omega), if_neg (by omega), if_pos h]
  rfl
theorem read_big {x : Nat} (h : 2047 * 2 ^ 52 < rg x) : isNaN x = true := by
  unfold isNaN Format.read
  simp only [sw_eq, bin_eq, inf_eq, lp_eq]
  change Datum.isNaN (if rg x < 2 ^ 52 then _ else if rg x < 2047 * 2 ^ 52 then _ else if rg x = 2047 * 2 ^ 52 then _ else _) = _
  rw [if_neg (by omega), if_neg (by omega), if_neg (by omega)]
  rfl
theorem isNaN_iff (x : Nat) : isNaN x = decide (2047 * 2 ^ 52 < rg x) := by
  rcases Nat.lt_trichotomy (rg x) (2047 * 2 ^ 52) with h | h | h
  · obtain ⟨m, p, hr, _⟩ := read_fin (x := x) (decide_eq_true h)
    have : isNaN x = false := by unfold isNaN; rw [hr]; rfl
    rw [this]; symm; simp; omega
  · have : isNaN x = false := by unfold isNaN; rw [read_inf h]; rfl
    rw [this]; symm; simp; omega
  · rw [read_big h]; symm; simp; omega
theorem three (x : Nat) : isFin x = true ∨ rg x = 2047 * 2 ^ 52 ∨ isNaN x = true := by
  rw [isNaN_iff]; unfold isFin; simp only [decide_eq_true_eq]; omega
theorem fin_num {x : Nat} (h : isFin x = true) : isNaN x = false := by
  rw [isNaN_iff]; unfold isFin at h; simp only [decide_eq_true_eq] at h; simp; omega

/-! ### Rungs -/
theorem fxr_add {k c : Nat} (h : (k = 0 ∧ c < 2 ^ 53) ∨ (2 ^ 52 ≤ c ∧ c ≤ 2 ^ 53)) : fxr (k * 2 ^ 52 + c) = c * 2 ^ k := by
  unfold fxr
  rcases h with ⟨rfl, h⟩ | ⟨h1, h2⟩
  · simp only [Nat.zero_mul, Nat.zero_add, Nat.pow_zero, Nat.mul_one]
    split
    · rfl
    · have : c / 2 ^ 52 = 1 := by omega
      rw [this]; simp only [Nat.sub_self, Nat.pow_zero, Nat.mul_one]; omega
  · rw [if_neg (by omega)]
    rcases Nat.lt_or_ge c (2 ^ 53) with h3 | h3
    · have e1 : (k * 2 ^ 52 + c) / 2 ^ 52 = k + 1 := by omega
      have e2 : (k * 2 ^ 52 + c) % 2 ^ 52 = c - 2 ^ 52 := by omega
      have e3 : 2 ^ 52 + (c - 2 ^ 52) = c := by omega
      rw [e1, e2, e3, Nat.add_sub_cancel]
    · have hc : c = 2 ^ 53 := by omega
      subst hc
      have e1 : (k * 2 ^ 52 + 2 ^ 53) / 2 ^ 52 = k + 2 := by omega
      have e2 : (k * 2 ^ 52 + 2 ^ 53) % 2 ^ 52 = 0 := by omega
      rw [e1, e2]
      have : k + 2 - 1 = k + 1 := by omega
      rw [this, Nat.pow_succ]
      omega

theorem log2_lt {T k : Nat} (h : T < 2 ^ (k + 1)) : T.log2 ≤ k := by
  rcases Nat.eq_zero_or_pos T with rfl | hT
  · simp
  · exact Nat.lt_succ_iff.1 ((Nat.log2_lt (by omega)).2 h)

/-- What is dropped and kept. -/
theorem kept_range (T : Nat) : (kd52 T = 0 ∧ rne T (kd52 T) < 2 ^ 53) ∨ (2 ^ 52 ≤ rne T (kd52 T) ∧ rne T (kd52 T) ≤ 2 ^ 53) := by
  unfold kd52
  rcases Nat.lt_or_ge T (2 ^ 53) with h | h
  · left
    have : T.log2 ≤ 52 := log2_lt (by simpa using h)
    have e : T.log2 - 52 = 0 := by omega
    rw [e, rne_zero]
    exact ⟨rfl, h⟩
  · right
    have h1 : 53 ≤ T.log2 := by
      rcases Nat.lt_or_ge T.log2 53 with h' | h'
      · have := (Nat.log2_lt (n := T) (k := 53) (by omega)).1 h'
        omega
      · exact h'
    have a1 : 2 ^ T.log2 ≤ T := Nat.log2_self_le (by omega)
    have a2 : T < 2 ^ (T.log2 + 1) := Nat.lt_log2_self
    generalize hk : T.log2 - 52 = k at *
    have e1 : 2 ^ T.log2 = 2 ^ 52 * 2 ^ k := by rw [← Nat.pow_add]; congr 1; omega
    have e2 : 2 ^ (T.log2 + 1) = 2 ^ 53 * 2 ^ k := by rw [← Nat.pow_add]; congr 1; omega
    have hp : 0 < 2 ^ k := Nat.two_pow_pos k
    have b1 : 2 ^ 52 ≤ T / 2 ^ k := (Nat.le_div_iff_mul_le hp).2 (by omega)
    have b2 : T / 2 ^ k < 2 ^ 53 := (Nat.div_lt_iff_lt_mul hp).2 (by omega)
    have := rne_le T k
    have := rne_ge T k
    omega

theorem rung_val {T : Nat} (h : rung T < 2047 * 2 ^ 52) : fxr (rung T) = rne T (kd52 T) * 2 ^ kd52 T := by
  unfold rung at h ⊢
  rw [Nat.min_def] at h ⊢
  split
  · exact fxr_add (kept_range T)
  · rename_i h1; rw [if_neg h1] at h; omega
theorem rung_le (T : Nat) : rung T ≤ 2047 * 2 ^ 52 := Nat.min_le_right ..
theorem rung_lt (T : Nat) : rung T < 2 ^ 63 := Nat.lt_of_le_of_lt (rung_le T) (by decide)

theorem exact_rne {c j T : Nat} (hT : T = c * 2 ^ j) (hc : c < 2 ^ 53) : rne T (kd52 T) * 2 ^ kd52 T = T := by
  have hk : kd52 T ≤ j := by
    unfold kd52
    have : T < 2 ^ (52 + j + 1) := by
      rw [hT, show 52 + j + 1 = 53 + j by omega, Nat.pow_add]
      exact Nat.mul_lt_mul_of_pos_right hc (Nat.two_pow_pos j)
    have := log2_lt this
    omega
  have e : T = c * 2 ^ (j - kd52 T) * 2 ^ kd52 T := by
    rw [Nat.mul_assoc, ← Nat.pow_add, Nat.sub_add_cancel hk]; exact hT
  have := rne_exact (c * 2 ^ (j - kd52 T)) (kd52 T)
  rw [← e] at this
  rw [this, ← e]

theorem fxr_form (r : Nat) : ∃ c j, fxr r = c * 2 ^ j ∧ c < 2 ^ 53 := by
  unfold fxr
  split
  · exact ⟨r, 0, by simp, by omega⟩
  · exact ⟨_, _, rfl, by have := Nat.mod_lt r (show 0 < 2 ^ 52 by decide); omega⟩

/-- Rungs stand in order. -/
theorem fxr_step (r : Nat) : fxr r < fxr (r + 1) := by
  have hr := fxr_add (k := r / 2 ^ 52 - 1) (c := r - (r / 2 ^ 52 - 1) * 2 ^ 52) (by
    rcases Nat.lt_or_ge r (2 ^ 53) with h | h
    · left; omega
    · right; omega)
  have hr1 := fxr_add (k := r / 2 ^ 52 - 1) (c := r - (r / 2 ^ 52 - 1) * 2 ^ 52 + 1) (by
    rcases Nat.lt_or_ge r (2 ^ 53 - 1) with h | h
    · left; omega
    · right; omega)
  have e : (r / 2 ^ 52 - 1) * 2 ^ 52 + (r - (r / 2 ^ 52 - 1) * 2 ^ 52) = r := by omega
  have e1 : (r / 2 ^ 52 - 1) * 2 ^ 52 + (r - (r / 2 ^ 52 - 1) * 2 ^ 52 + 1) = r + 1 := by omega
  rw [e] at hr
  rw [e1] at hr1
  rw [hr, hr1]
  exact Nat.mul_lt_mul_of_pos_right (by omega) (Nat.two_pow_pos _)
theorem fxr_mono {r r' : Nat} (h : r < r') : fxr r < fxr r' := by
  induction h with
  | refl => exact fxr_step r
  | step _ ih => exact Nat.lt_trans ih (fxr_step _)
theorem fxr_inj {r r' : Nat} (h : fxr r = fxr r') : r = r' := by
  rcases Nat.lt_trichotomy r r' with h' | h' | h'
  · have := fxr_mono h'; omega
  · exact h'
  · have := fxr_mono h'; omega
theorem fxr_le {r r' : Nat} : fxr r ≤ fxr r' ↔ r ≤ r' := by
  constructor
  · intro h
    rcases Nat.lt_or_ge r' r with h' | h'
    · have := fxr_mono h'; omega
    · exact h'
  · intro h
    rcases Nat.lt_or_eq_of_le h with h' | rfl
    · exact Nat.le_of_lt (fxr_mono h')
    · exact Nat.le_refl _
theorem fxr_zero : fxr 0 = 0 := by decide

/-- A value that the format has is its own nearest. -/
theorem rung_fxr {r : Nat} (h : r ≤ 2047 * 2 ^ 52) : rung (fxr r) = r := by
  obtain ⟨c, j, e, hc⟩ := fxr_form r
  have h1 := exact_rne e hc
  have h2 := fxr_add (kept_range (fxr r))
  rw [h1] at h2
  have := fxr_inj h2
  unfold rung
  omega
theorem rung_exact {c j T : Nat} (hT : T = c * 2 ^ j) (hc : c < 2 ^ 53) (hr : rung T < 2047 * 2 ^ 52) : fxr (rung T) = T := by
  rw [rung_val hr, exact_rne hT hc]
theorem rung_zero : rung 0 = 0 := by decide
theorem rung_small {T r : Nat} (h : T ≤ fxr r) (hr : r < 2047 * 2 ^ 52) (he : ∃ c j, T = c * 2 ^ j ∧ c < 2 ^ 53) : rung T < 2047 * 2 ^ 52 ∧ fxr (rung T) = T := by
  obtain ⟨c, j, e, hc⟩ := he
  have h1 := exact_rne e hc
  have h2 := fxr_add (kept_range T)
  rw [h1] at h2
  have h3 : kd52 T * 2 ^ 52 + rne T (kd52 T) ≤ r := fxr_le.1 (by rw [h2]; exact h)
  have : rung T < 2047 * 2 ^ 52 := by unfold rung; omega
  exact ⟨this, rung_exact e hc this⟩
theorem rung_pos {T : Nat} (h : 0 < T) : 0 < rung T := by
  have h1 := kept_range T
  unfold rung
  rcases Nat.eq_zero_or_pos (kd52 T) with h0 | h0
  · rw [h0, rne_zero]; omega
  · rcases h1 with h1 | h1 <;> omega
end Go.Lk
end

section
/- Sums, differences and the order of finite floats. -/
namespace Go.Lk
open Ieee (Format Datum Toward)
set_option linter.unusedSimpArgs false
set_option linter.unusedVariables false

theorem sgn_mul (s : Bool) (a b : Nat) : sgn s (a * b) = sgn s a * (b : Int) := by
  unfold sgn; cases s <;> simp [Int.natCast_mul, Int.neg_mul]
theorem sgn_abs (s : Bool) (a : Nat) : (sgn s a).natAbs = a := by unfold sgn; cases s <;> simp
theorem sgn_zero (s : Bool) : sgn s 0 = 0 := by cases s <;> rfl
theorem sgn_not (s : Bool) (a : Nat) : sgn (!s) a = - sgn s a := by cases s <;> simp [sgn]
theorem sgn_eq_zero {s : Bool} {a : Nat} : sgn s a = 0 ↔ a = 0 := by cases s <;> simp [sgn]; 
theorem signed_eq (s : Bool) (m u : Nat) : Ieee.signed s m u = sgn s (m * 2 ^ u) := by
  unfold Ieee.signed sgn; rw [Nat.shiftLeft_eq]

/-- So many units, to the nearest; of none the sign that is told. -/
def rnd (z : Bool) (T : Int) : Nat := if T = 0 then wd z 0 else wd (decide (T < 0)) (rung T.natAbs)

theorem sum_write {s t : Bool} {m n : Nat} {i j : Int} (hi : -1074 ≤ i) (hj : -1074 ≤ j) :
    ((Datum.number s m i).sum (.number t n j)).map dbl.write = some (rnd (s && t) (sgn s (m * 2 ^ (i + 1074).toNat) + sgn t (n * 2 ^ (j + 1074).toNat))) := by
  simp only [Datum.sum, Option.map_some, signed_eq]
  congr 1
  generalize hb : min i j = base
  have hb1 : -1074 ≤ base := by omega
  have hs : ∀ (k : Int) (r : Bool) (q : Nat), base ≤ k → sgn r (q * 2 ^ (k + 1074).toNat) = sgn r (q * 2 ^ (k - base).toNat) * ((2 ^ (base + 1074).toNat : Nat) : Int) := by
    intro k r q hk
    rw [← sgn_mul, Nat.mul_assoc, ← Nat.pow_add]
    congr 3
    omega
  rw [hs i s m (by omega), hs j t n (by omega), ← Int.add_mul]
  generalize sgn s (m * 2 ^ (i - base).toNat) + sgn t (n * 2 ^ (j - base).toNat) = T
  show dbl.nearest (if T = 0 then s && t else decide (T < 0)) T.natAbs base = _
  rw [nearest_eq _ _ _ hb1]
  generalize (base + 1074).toNat = k
  have hp : 0 < (2 ^ k : Nat) := Nat.two_pow_pos k
  have hp' : (0 : Int) < ((2 ^ k : Nat) : Int) := by exact_mod_cast hp
  unfold rnd
  by_cases hT : T = 0
  · subst hT
    simp [rung_zero]
  · have h1 : ¬ T * ((2 ^ k : Nat) : Int) = 0 := by
      intro h; rcases Int.mul_eq_zero.1 h with h | h
      · exact hT h
      · omega
    rw [if_neg hT, if_neg h1]
    have h2 : decide (T * ((2 ^ k : Nat) : Int) < 0) = decide (T < 0) := by
      refine decide_eq_decide.2 ⟨fun h => ?_, fun h => ?_⟩
      · rcases Int.lt_or_le T 0 with h' | h'
        · exact h'
        · have := Int.mul_nonneg h' (Int.le_of_lt hp'); omega
      · exact Int.mul_neg_of_neg_of_pos h hp'
    rw [h2]
    congr 2
    rw [Int.natAbs_mul]
    rfl

theorem fadd_fin {x y : Nat} (hx : isFin x = true) (hy : isFin y = true) : fadd x y = rnd (sg x && sg y) (fx x + fx y) := by
  obtain ⟨m, i, e1, h1, h2, _⟩ := read_fin hx
  obtain ⟨n, j, e2, h3, h4, _⟩ := read_fin hy
  unfold fadd Format.add
  rw [e1, e2, sum_write h1 h3]
  unfold fx
  rw [h2, h4]
  rfl
theorem fsub_fin {x y : Nat} (hx : isFin x = true) (hy : isFin y = true) : fsub x y = rnd (sg x && !sg y) (fx x - fx y) := by
  obtain ⟨m, i, e1, h1, h2, _⟩ := read_fin hx
  obtain ⟨n, j, e2, h3, h4, _⟩ := read_fin hy
  unfold fsub Format.sub
  rw [e1, e2]
  simp only [Datum.opposite]
  rw [sum_write h1 h3]
  unfold fx
  rw [h2, h4, sgn_not, Int.sub_eq_add_neg]
  rfl

theorem cmp_lt {a b : Int} : compare a b = .lt ↔ a < b := by
  show compareOfLessAndEq a b = _ ↔ _; unfold compareOfLessAndEq; split <;> (try split) <;> simp <;> omega
theorem cmp_eq {a b : Int} : compare a b = .eq ↔ a = b := by
  show compareOfLessAndEq a b = _ ↔ _; unfold compareOfLessAndEq; split <;> (try split) <;> simp <;> omega
theorem cmp_gt {a b : Int} : compare a b = .gt ↔ b < a := by
  show compareOfLessAndEq a b = _ ↔ _; unfold compareOfLessAndEq; split <;> (try split) <;> simp <;> omega

theorem compare_mul (a b c : Int) (hc : 0 < c) : compare (a * c) (b * c) = compare a b := by
  have h1 : a * c < b * c ↔ a < b := ⟨fun h => Int.lt_of_mul_lt_mul_right h (Int.le_of_lt hc), fun h => Int.mul_lt_mul_of_pos_right h hc⟩
  have h2 : a * c = b * c ↔ a = b := ⟨fun h => Int.eq_of_mul_eq_mul_right (by omega) h, fun h => by rw [h]⟩
  rcases Int.lt_trichotomy a b with h | h | h
  · have h' := h1.2 h
    rw [show compare a b = .lt from cmp_lt.2 h, show compare (a * c) (b * c) = .lt from cmp_lt.2 h']
  · subst h
    rw [show compare a a = .eq from cmp_eq.2 rfl, show compare (a * c) (a * c) = .eq from cmp_eq.2 rfl]
  · have h' : b * c < a * c := Int.mul_lt_mul_of_pos_right h hc
    rw [show compare a b = .gt from cmp_gt.2 h, show compare (a * c) (b * c) = .gt from cmp_gt.2 h']
theorem order_fin {x y : Nat} (hx : isFin x = true) (hy : isFin y = true) : dbl.order x y = some (compare (fx x) (fx y)) := by
  obtain ⟨m, i, e1, h1, h2, _⟩ := read_fin hx
  obtain ⟨n, j, e2, h3, h4, _⟩ := read_fin hy
  unfold Format.order
  rw [e1, e2]
  simp only [Datum.order, signed_eq]
  congr 1
  unfold fx
  rw [← h2, ← h4]
  generalize hb : min i j = base
  have hs : ∀ (k : Int) (r : Bool) (q : Nat), base ≤ k → -1074 ≤ base → sgn r (q * 2 ^ (k + 1074).toNat) = sgn r (q * 2 ^ (k - base).toNat) * ((2 ^ (base + 1074).toNat : Nat) : Int) := by
    intro k r q hk hb
    rw [← sgn_mul, Nat.mul_assoc, ← Nat.pow_add]
    congr 3
    omega
  rw [hs i _ _ (by omega) (by omega), hs j _ _ (by omega) (by omega), compare_mul _ _ _ (Int.natCast_pos.2 (Nat.two_pow_pos _))]

theorem flt_fin {x y : Nat} (hx : isFin x = true) (hy : isFin y = true) : flt x y = decide (fx x < fx y) := by
  unfold flt; rw [order_fin hx hy, Bool.eq_iff_iff]; simp [cmp_lt]
theorem fgt_fin {x y : Nat} (hx : isFin x = true) (hy : isFin y = true) : fgt x y = decide (fx y < fx x) := by
  unfold fgt; rw [order_fin hx hy, Bool.eq_iff_iff]; simp [cmp_gt]
theorem feq_fin {x y : Nat} (hx : isFin x = true) (hy : isFin y = true) : feq x y = decide (fx x = fx y) := by
  unfold feq; rw [order_fin hx hy, Bool.eq_iff_iff]; simp [cmp_eq]
theorem fle_fin {x y : Nat} (hx : isFin x = true) (hy : isFin y = true) : fle x y = decide (fx x ≤ fx y) := by
  unfold fle; rw [order_fin hx hy, Bool.eq_iff_iff]; simp [cmp_lt, cmp_eq]; omega
theorem fge_fin {x y : Nat} (hx : isFin x = true) (hy : isFin y = true) : fge x y = decide (fx y ≤ fx x) := by
  unfold fge; rw [order_fin hx hy, Bool.eq_iff_iff]; simp [cmp_gt, cmp_eq]; omega

/-! ### NaN and infinity -/
theorem ord_nan_l {x y : Nat} (h : isNaN x = true) : dbl.order x y = none := by
  obtain ⟨s, t, e⟩ := read_nan h; unfold Format.order; rw [e, order_nan_l]
theorem ord_nan_r {x y : Nat} (h : isNaN y = true) : dbl.order x y = none := by
  obtain ⟨s, t, e⟩ := read_nan h; unfold Format.order; rw [e, order_nan_r]
theorem feq_nan_l {x y : Nat} (h : isNaN x = true) : feq x y = false := by unfold feq; rw [ord_nan_l h]; rfl
theorem feq_nan_r {x y : Nat} (h : isNaN y = true) : feq x y = false := by unfold feq; rw [ord_nan_r h]; rfl
theorem flt_nan_l {x y : Nat} (h : isNaN x = true) : flt x y = false := by unfold flt; rw [ord_nan_l h]; rfl
theorem flt_nan_r {x y : Nat} (h : isNaN y = true) : flt x y = false := by unfold flt; rw [ord_nan_r h]; rfl
theorem fgt_nan_l {x y : Nat} (h : isNaN x = true) : fgt x y = false := by unfold fgt; rw [ord_nan_l h]; rfl
theorem fgt_nan_r {x y : Nat} (h : isNaN y = true) : fgt x y = false := by unfold fgt; rw [ord_nan_r h]; rfl
theorem fle_nan_l {x y : Nat} (h : isNaN x = true) : fle x y = false := by unfold fle; rw [ord_nan_l h]; rfl
theorem fle_nan_r {x y : Nat} (h : isNaN y = true) : fle x y = false := by unfold fle; rw [ord_nan_r h]; rfl
theorem fge_nan_l {x y : Nat} (h : isNaN x = true) : fge x y = false := by unfold fge; rw [ord_nan_l h]; rfl
theorem fge_nan_r {x y : Nat} (h : isNaN y = true) : fge x y = false := by unfold fge; rw [ord_nan_r h]; rfl
theorem fadd_nan_l {x y : Nat} (h : isNaN x = true) : fadd x y = qnan := by
  obtain ⟨s, t, e⟩ := read_nan h; unfold fadd Format.add; rw [e, sum_nan_l]; rfl
theorem fadd_nan_r {x y : Nat} (h : isNaN y = true) : fadd x y = qnan := by
  obtain ⟨s, t, e⟩ := read_nan h; unfold fadd Format.add; rw [e, sum_nan_r]; rfl
theorem fsub_nan_l {x y : Nat} (h : isNaN x = true) : fsub x y = qnan := by
  obtain ⟨s, t, e⟩ := read_nan h; unfold fsub Format.sub; rw [e, sum_nan_l]; rfl
theorem fsub_nan_r {x y : Nat} (h : isNaN y = true) : fsub x y = qnan := by
  obtain ⟨s, t, e⟩ := read_nan h; unfold fsub Format.sub; rw [e, opp_nan, sum_nan_r]; rfl
theorem fmul_nan_l {x y : Nat} (h : isNaN x = true) : fmul x y = qnan := by
  obtain ⟨s, t, e⟩ := read_nan h; unfold fmul Format.mul; rw [e, product_nan_l]; rfl
theorem fmul_nan_r {x y : Nat} (h : isNaN y = true) : fmul x y = qnan := by
  obtain ⟨s, t, e⟩ := read_nan h; unfold fmul Format.mul; rw [e, product_nan_r]; rfl
theorem fdiv_nan_l {x y : Nat} (h : isNaN x = true) : fdiv x y = qnan := by
  obtain ⟨s, t, e⟩ := read_nan h; unfold fdiv Format.div; rw [e, quotient_nan_l]; rfl
theorem fdiv_nan_r {x y : Nat} (h : isNaN y = true) : fdiv x y = qnan := by
  obtain ⟨s, t, e⟩ := read_nan h; unfold fdiv Format.div; rw [e, quotient_nan_r]; rfl

/-! ### Canonical words -/
structure Canon (x : Nat) : Prop where
  lt : x < 2 ^ 64
  nan : isNaN x = true → x = qnan
theorem Canon.can {x : Nat} (h : x < 2 ^ 64) : Canon (can x) := by
  cases hn : isNaN x
  · rw [can_of_num hn]; exact ⟨h, fun h' => by rw [hn] at h'; cases h'⟩
  · rw [can_of_nan hn]; exact ⟨by decide, fun _ => rfl⟩
theorem Canon.qnan : Canon qnan := ⟨by decide, fun _ => rfl⟩
theorem Canon.orN {o : Option Nat} (hl : ∀ r, o = some r → r < 2 ^ 64) (hn : ∀ r, o = some r → isNaN r = false) : Canon (Lk.orN o) := by
  cases o with
  | none => exact Canon.qnan
  | some r => exact ⟨hl r rfl, fun h => by rw [show Lk.orN (some r) = r from rfl, hn r rfl] at h; cases h⟩
theorem w64 : 2 ^ dbl.width = 2 ^ 64 := by decide +kernel
theorem Canon.fadd (x y : Nat) : Canon (fadd x y) := Canon.orN (fun r h => by have := dbl.add_lt h; rw [w64] at this; exact this) (fun r h => add_num h)
theorem Canon.fsub (x y : Nat) : Canon (fsub x y) := Canon.orN (fun r h => by have := dbl.sub_lt h; rw [w64] at this; exact this) (fun r h => sub_num h)
theorem Canon.fmul (x y : Nat) : Canon (fmul x y) := Canon.orN (fun r h => by have := dbl.mul_lt h; rw [w64] at this; exact this) (fun r h => mul_num h)
theorem Canon.fdiv (x y : Nat) : Canon (fdiv x y) := Canon.orN (fun r h => by have := dbl.div_lt h; rw [w64] at this; exact this) (fun r h => div_num h)
theorem Canon.fsqrt (x : Nat) : Canon (fsqrt x) := Canon.orN (fun r h => by have := dbl.sqrt_lt h; rw [w64] at this; exact this) (fun r h => sqrt_num h)
theorem Canon.ffloor (x : Nat) : Canon (ffloor x) := by
  unfold Lk.ffloor
  cases hn : isNaN x
  · exact ⟨by have := dbl.write_lt ((dbl.read x).integral .down); rw [w64] at this; exact this, fun h => by rw [cond_false, isNaN_write (integral_num hn)] at h; cases h⟩
  · exact Canon.qnan
theorem Canon.ftrunc (x : Nat) : Canon (ftrunc x) := by
  unfold Lk.ftrunc
  cases hn : isNaN x
  · exact ⟨by have := dbl.write_lt ((dbl.read x).integral .zero); rw [w64] at this; exact this, fun h => by rw [cond_false, isNaN_write (integral_num hn)] at h; cases h⟩
  · exact Canon.qnan

/-- The three kinds. -/
theorem Canon.three {x : Nat} (h : Canon x) : isFin x = true ∨ (∃ s, x = wd s (2047 * 2 ^ 52)) ∨ x = Lk.qnan := by
  rcases Lk.three x with h' | h' | h'
  · exact .inl h'
  · exact .inr (.inl ⟨sg x, by rw [← h', wd_sg h.lt]⟩)
  · exact .inr (.inr (h.nan h'))
theorem wd_lt {s : Bool} {r : Nat} (h : r < 2 ^ 63) : wd s r < 2 ^ 64 := by unfold wd; split <;> omega
theorem fin_wd {s : Bool} {r : Nat} (h : r < 2047 * 2 ^ 52) : isFin (wd s r) = true := by
  unfold isFin; rw [rg_wd (by omega)]; exact decide_eq_true h
theorem fx_wd {s : Bool} {r : Nat} (h : r < 2 ^ 63) : fx (wd s r) = sgn s (fxr r) := by unfold fx; rw [rg_wd h, sg_wd h]

/-- A word is what its sign and its value say. -/
theorem word_ext {x y : Nat} (hx : x < 2 ^ 64) (hy : y < 2 ^ 64) (hs : sg x = sg y) (hf : fx x = fx y) : x = y := by
  have h1 : fxr (rg x) = fxr (rg y) := by
    unfold fx at hf; have := congrArg Int.natAbs hf; rwa [sgn_abs, sgn_abs] at this
  rw [← wd_sg hx, ← wd_sg hy, hs, fxr_inj h1]

theorem sgn_neg {s : Bool} {a : Nat} (h : sgn s a ≠ 0) : s = decide (sgn s a < 0) := by
  cases s <;> simp [sgn] at h ⊢ <;> omega

/-- What the format has is its own nearest. -/
theorem rnd_fx {x : Nat} {z : Bool} (hx : x < 2 ^ 64) (hf : isFin x = true) (hz : fx x = 0 → sg x = z) : rnd z (fx x) = x := by
  unfold rnd
  have hr : rg x < 2047 * 2 ^ 52 := of_decide_eq_true hf
  split
  · rename_i h
    have : fxr (rg x) = 0 := sgn_eq_zero.1 h
    have : rg x = 0 := fxr_inj (by rw [this, fxr_zero])
    rw [← hz h, ← this, wd_sg hx]
  · rename_i h
    have h1 : decide (fx x < 0) = sg x := (sgn_neg h).symm
    have h2 : (fx x).natAbs = fxr (rg x) := sgn_abs _ _
    rw [h1, h2, rung_fxr (by omega), wd_sg hx]
theorem fin_zero : isFin 0 = true := by decide
theorem fx_0 : fx 0 = 0 := by decide
theorem sg_0 : sg 0 = false := by decide

theorem fsub_self_fin {x : Nat} (h : isFin x = true) : fsub x x = 0 := by
  rw [fsub_fin h h, Int.sub_self]; cases sg x <;> rfl
theorem fsub_self_inf (s : Bool) : fsub (wd s (2047 * 2 ^ 52)) (wd s (2047 * 2 ^ 52)) = qnan := by cases s <;> decide +kernel
/-- x - x is nought just of finite ones. -/
theorem fin_test {x : Nat} (h : Canon x) : feq (fsub x x) 0 = isFin x := by
  rcases h.three with h | ⟨s, rfl⟩ | rfl
  · rw [fsub_self_fin h, h]; decide +kernel
  · rw [fsub_self_inf, feq_nan_l isNaN_qnan]; cases s <;> decide +kernel
  · rw [fsub_nan_l isNaN_qnan, feq_nan_l isNaN_qnan]; decide +kernel

/-- +0 added: a nought loses its sign. -/
theorem fadd_zero {x : Nat} (h : Canon x) : fadd x 0 = bif feq x 0 then 0 else x := by
  rcases h.three with h' | ⟨s, rfl⟩ | rfl
  · rw [fadd_fin h' fin_zero, feq_fin h' fin_zero, fx_0, Int.add_zero, sg_0, Bool.and_false]
    by_cases h0 : fx x = 0
    · rw [h0]; rfl
    · rw [decide_eq_false h0, rnd_fx h.lt h' (fun h => absurd h h0)]; rfl
  · cases s <;> decide +kernel
  · rw [fadd_nan_l isNaN_qnan, feq_nan_l isNaN_qnan]; rfl
theorem rnd_zero {z : Bool} {T : Int} (h : feq (rnd z T) 0 = true) (hT : (rung T.natAbs) < 2047 * 2 ^ 52) : T = 0 := by
  unfold rnd at h
  split at h
  · assumption
  · rename_i h0
    have h1 := rung_pos (T := T.natAbs) (by omega)
    rw [feq_fin (fin_wd hT) fin_zero, fx_wd (by omega), fx_0] at h
    have := sgn_eq_zero.1 (of_decide_eq_true h)
    have : rung T.natAbs = 0 := fxr_inj (by rw [this, fxr_zero])
    omega
/-- A sum or a difference is -0 of noughts alone; so +0 added to it makes no difference. -/
theorem fadd_zero_of {x : Nat} (h : Canon x) (hz : x ≠ 2 ^ 63) : fadd x 0 = x := by
  rw [fadd_zero h]
  cases he : feq x 0
  · rfl
  · rcases h.three with h' | ⟨s, rfl⟩ | rfl
    · rw [feq_fin h' fin_zero, fx_0] at he
      have : fxr (rg x) = 0 := sgn_eq_zero.1 (of_decide_eq_true he)
      have h0 : rg x = 0 := fxr_inj (by rw [this, fxr_zero])
      have e := wd_sg h.lt
      rw [h0] at e
      cases hs : sg x
      · rw [hs] at e; exact e
      · rw [hs] at e; exact absurd e.symm hz
    · cases s <;> simp [feq] at he <;> revert he <;> decide +kernel
    · rw [feq_nan_l isNaN_qnan] at he; cases he
theorem rnd_neg0 {z : Bool} {T : Int} (h : rnd z T = 2 ^ 63) : T = 0 ∧ z = true := by
  unfold rnd at h
  split at h
  · rename_i h0
    refine ⟨h0, ?_⟩
    cases z
    · simp [wd] at h
    · rfl
  · rename_i h0
    have h1 := rung_pos (T := T.natAbs) (by omega)
    have h2 := rung_lt T.natAbs
    unfold wd at h
    split at h <;> omega

theorem fmul_comm (x y : Nat) : fmul x y = fmul y x := by
  unfold fmul Format.mul
  have : ∀ d e : Datum, d.product e = e.product d := by
    intro d e
    cases d <;> cases e <;> simp only [Datum.product] <;> (try rfl)
    all_goals (try rw [Bool.xor_comm])
    rw [Nat.mul_comm, Int.add_comm]
  rw [this]
theorem fadd_comm (x y : Nat) : fadd x y = fadd y x := by
  unfold fadd Format.add
  have : ∀ d e : Datum, d.sum e = e.sum d := by
    intro d e
    cases d <;> cases e <;> simp only [Datum.sum] <;> (try rfl)
    · rename_i s m i t n j
      rw [Int.min_comm j i, Int.add_comm, Bool.and_comm]
    · rename_i s t
      by_cases h : s = t
      · subst h; rfl
      · rw [if_neg h, if_neg (fun h' => h h'.symm)]
  rw [this]
end Go.Lk
end
