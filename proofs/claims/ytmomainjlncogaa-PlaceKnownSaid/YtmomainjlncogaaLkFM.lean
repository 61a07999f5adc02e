/- Sums, differences and the order of finite floats. -/
import Derived.Test.YtmomainjlncogaaLkFL
namespace Go.Lk
open Ieee (Format Datum Toward)
set_option linter.unusedSimpArgs false
set_option linter.unusedVariables false

theorem sgn_mul (s : Bool) (a b : Nat) : sgn s (a * b) = sgn s a * (b : Int) := by
  unfold sgn; cases s <;> simp [Int.natCast_mul, Int.neg_mul]
theorem sgn_abs (s : Bool) (a : Nat) : (sgn s a).natAbs = a := by unfold sgn; cases s <;> simp
theorem sgn_zero (s : Bool) : sgn s 0 = 0 := by cases s <;> rfl
theorem sgn_not (s : Bool) (a : Nat) : sgn (!s) a = - sgn s a := by cases s <;> simp [sgn]
theorem sgn_eq_zero {s : Bool} {a : Nat} : sgn s a = 0 ↔ a = 0 := by cases s <;> simp [sgn]; 
theorem signed_eq (s : Bool) (m u : Nat) : Ieee.signed s m u = sgn s (m * 2 ^ u) := by
  unfold Ieee.signed sgn; rw [Nat.shiftLeft_eq]

/-- So many units, to the nearest; of none the sign that is told. -/
def rnd (z : Bool) (T : Int) : Nat := if T = 0 then wd z 0 else wd (decide (T < 0)) (rung T.natAbs)

theorem sum_write {s t : Bool} {m n : Nat} {i j : Int} (hi : -1074 ≤ i) (hj : -1074 ≤ j) :
    ((Datum.number s m i).sum (.number t n j)).map dbl.write = some (rnd (s && t) (sgn s (m * 2 ^ (i + 1074).toNat) + sgn t (n * 2 ^ (j + 1074).toNat))) := by
  simp only [Datum.sum, Option.map_some, signed_eq]
  congr 1
  generalize hb : min i j = base
  have hb1 : -1074 ≤ base := by omega
  have hs : ∀ (k : Int) (r : Bool) (q : Nat), base ≤ k → sgn r (q * 2 ^ (k + 1074).toNat) = sgn r (q * 2 ^ (k - base).toNat) * ((2 ^ (base + 1074).toNat : Nat) : Int) := by
    intro k r q hk
    rw [← sgn_mul, Nat.mul_assoc, ← Nat.pow_add]
    congr 3
    omega
  rw [hs i s m (by omega), hs j t n (by omega), ← Int.add_mul]
  generalize sgn s (m * 2 ^ (i - base).toNat) + sgn t (n * 2 ^ (j - base).toNat) = T
  show dbl.nearest (if T = 0 then s && t else decide (T < 0)) T.natAbs base = _
  rw [nearest_eq _ _ _ hb1]
  generalize (base + 1074).toNat = k
  have hp : 0 < (2 ^ k : Nat) := Nat.two_pow_pos k
  have hp' : (0 : Int) < ((2 ^ k : Nat) : Int) := by exact_mod_cast hp
  unfold rnd
  by_cases hT : T = 0
  · subst hT
    simp [rung_zero]
  · have h1 : ¬ T * ((2 ^ k : Nat) : Int) = 0 := by
      intro h; rcases Int.mul_eq_zero.1 h with h | h
      · exact hT h
      · omega
    rw [if_neg hT, if_neg h1]
    have h2 : decide (T * ((2 ^ k : Nat) : Int) < 0) = decide (T < 0) := by
      refine decide_eq_decide.2 ⟨fun h => ?_, fun h => ?_⟩
      · rcases Int.lt_or_le T 0 with h' | h'
        · exact h'
        · have := Int.mul_nonneg h' (Int.le_of_lt hp'); omega
      · exact Int.mul_neg_of_neg_of_pos h hp'
    rw [h2]
    congr 2
    rw [Int.natAbs_mul]
    rfl

theorem fadd_fin {x y : Nat} (hx : isFin x = true) (hy : isFin y = true) : fadd x y = rnd (sg x && sg y) (fx x + fx y) := by
  obtain ⟨m, i, e1, h1, h2, _⟩ := read_fin hx
  obtain ⟨n, j, e2, h3, h4, _⟩ := read_fin hy
  unfold fadd Format.add
  rw [e1, e2, sum_write h1 h3]
  unfold fx
  rw [h2, h4]
  rfl
theorem fsub_fin {x y : Nat} (hx : isFin x = true) (hy : isFin y = true) : fsub x y = rnd (sg x && !sg y) (fx x - fx y) := by
  obtain ⟨m, i, e1, h1, h2, _⟩ := read_fin hx
  obtain ⟨n, j, e2, h3, h4, _⟩ := read_fin hy
  unfold fsub Format.sub
  rw [e1, e2]
  simp only [Datum.opposite]
  rw [sum_write h1 h3]
  unfold fx
  rw [h2, h4, sgn_not, Int.sub_eq_add_neg]
  rfl

theorem cmp_lt {a b : Int} : compare a b = .lt ↔ a < b := by
  show compareOfLessAndEq a b = _ ↔ _; unfold compareOfLessAndEq; split <;> (try split) <;> simp <;> omega
theorem cmp_eq {a b : Int} : compare a b = .eq ↔ a = b := by
  show compareOfLessAndEq a b = _ ↔ _; unfold compareOfLessAndEq; split <;> (try split) <;> simp <;> omega
theorem cmp_gt {a b : Int} : compare a b = .gt ↔ b < a := by
  show compareOfLessAndEq a b = _ ↔ _; unfold compareOfLessAndEq; split <;> (try split) <;> simp <;> omega

theorem compare_mul (a b c : Int) (hc : 0 < c) : compare (a * c) (b * c) = compare a b := by
  have h1 : a * c < b * c ↔ a < b := ⟨fun h => Int.lt_of_mul_lt_mul_right h (Int.le_of_lt hc), fun h => Int.mul_lt_mul_of_pos_right h hc⟩
  have h2 : a * c = b * c ↔ a = b := ⟨fun h => Int.eq_of_mul_eq_mul_right (by omega) h, fun h => by rw [h]⟩
  rcases Int.lt_trichotomy a b with h | h | h
  · have h' := h1.2 h
    rw [show compare a b = .lt from cmp_lt.2 h, show compare (a * c) (b * c) = .lt from cmp_lt.2 h']
  · subst h
    rw [show compare a a = .eq from cmp_eq.2 rfl, show compare (a * c) (a * c) = .eq from cmp_eq.2 rfl]
  · have h' : b * c < a * c := Int.mul_lt_mul_of_pos_right h hc
    rw [show compare a b = .gt from cmp_gt.2 h, show compare (a * c) (b * c) = .gt from cmp_gt.2 h']
theorem order_fin {x y : Nat} (hx : isFin x = true) (hy : isFin y = true) : dbl.order x y = some (compare (fx x) (fx y)) := by
  obtain ⟨m, i, e1, h1, h2, _⟩ := read_fin hx
  obtain ⟨n, j, e2, h3, h4, _⟩ := read_fin hy
  unfold Format.order
  rw [e1, e2]
  simp only [Datum.order, signed_eq]
  congr 1
  unfold fx
  rw [← h2, ← h4]
  generalize hb : min i j = base
  have hs : ∀ (k : Int) (r : Bool) (q : Nat), base ≤ k → -1074 ≤ base → sgn r (q * 2 ^ (k + 1074).toNat) = sgn r (q * 2 ^ (k - base).toNat) * ((2 ^ (base + 1074).toNat : Nat) : Int) := by
    intro k r q hk hb
    rw [← sgn_mul, Nat.mul_assoc, ← Nat.pow_add]
    congr 3
    omega
  rw [hs i _ _ (by omega) (by omega), hs j _ _ (by omega) (by omega), compare_mul _ _ _ (Int.natCast_pos.2 (Nat.two_pow_pos _))]

theorem flt_fin {x y : Nat} (hx : isFin x = true) (hy : isFin y = true) : flt x y = decide (fx x < fx y) := by
  unfold flt; rw [order_fin hx hy, Bool.eq_iff_iff]; simp [cmp_lt]
theorem fgt_fin {x y : Nat} (hx : isFin x = true) (hy : isFin y = true) : fgt x y = decide (fx y < fx x) := by
  unfold fgt; rw [order_fin hx hy, Bool.eq_iff_iff]; simp [cmp_gt]
theorem feq_fin {x y : Nat} (hx : isFin x = true) (hy : isFin y = true) : feq x y = decide (fx x = fx y) := by
  unfold feq; rw [order_fin hx hy, Bool.eq_iff_iff]; simp [cmp_eq]
theorem fle_fin {x y : Nat} (hx : isFin x = true) (hy : isFin y = true) : fle x y = decide (fx x ≤ fx y) := by
  unfold fle; rw [order_fin hx hy, Bool.eq_iff_iff]; simp [cmp_lt, cmp_eq]; omega
theorem fge_fin {x y : Nat} (hx : isFin x = true) (hy : isFin y = true) : fge x y = decide (fx y ≤ fx x) := by
  unfold fge; rw [order_fin hx hy, Bool.eq_iff_iff]; simp [cmp_gt, cmp_eq]; omega

/-! ### NaN and infinity -/
theorem ord_nan_l {x y : Nat} (h : isNaN x = true) : dbl.order x y = none := by
  obtain ⟨s, t, e⟩ := read_nan h; unfold Format.order; rw [e, order_nan_l]
theorem ord_nan_r {x y : Nat} (h : isNaN y = true) : dbl.order x y = none := by
  obtain ⟨s, t, e⟩ := read_nan h; unfold Format.order; rw [e, order_nan_r]
theorem feq_nan_l {x y : Nat} (h : isNaN x = true) : feq x y = false := by unfold feq; rw [ord_nan_l h]; rfl
theorem feq_nan_r {x y : Nat} (h : isNaN y = true) : feq x y = false := by unfold feq; rw [ord_nan_r h]; rfl
theorem flt_nan_l {x y : Nat} (h : isNaN x = true) : flt x y = false := by unfold flt; rw [ord_nan_l h]; rfl
theorem flt_nan_r {x y : Nat} (h : isNaN y = true) : flt x y = false := by unfold flt; rw [ord_nan_r h]; rfl
theorem fgt_nan_l {x y : Nat} (h : isNaN x = true) : fgt x y = false := by unfold fgt; rw [ord_nan_l h]; rfl
theorem fgt_nan_r {x y : Nat} (h : isNaN y = true) : fgt x y = false := by unfold fgt; rw [ord_nan_r h]; rfl
theorem fle_nan_l {x y : Nat} (h : isNaN x = true) : fle x y = false := by unfold fle; rw [ord_nan_l h]; rfl
theorem fle_nan_r {x y : Nat} (h : isNaN y = true) : fle x y = false := by unfold fle; rw [ord_nan_r h]; rfl
theorem fge_nan_l {x y : Nat} (h : isNaN x = true) : fge x y = false := by unfold fge; rw [ord_nan_l h]; rfl
theorem fge_nan_r {x y : Nat} (h : isNaN y = true) : fge x y = false := by unfold fge; rw [ord_nan_r h]; rfl
theorem fadd_nan_l {x y : Nat} (h : isNaN x = true) : fadd x y = qnan := by
  obtain ⟨s, t, e⟩ := read_nan h; unfold fadd Format.add; rw [e, sum_nan_l]; rfl
theorem fadd_nan_r {x y : Nat} (h : isNaN y = true) : fadd x y = qnan := by
  obtain ⟨s, t, e⟩ := read_nan h; unfold fadd Format.add; rw [e, sum_nan_r]; rfl
theorem fsub_nan_l {x y : Nat} (h : isNaN x = true) : fsub x y = qnan := by
  obtain ⟨s, t, e⟩ := read_nan h; unfold fsub Format.sub; rw [e, sum_nan_l]; rfl
theorem fsub_nan_r {x y : Nat} (h : isNaN y = true) : fsub x y = qnan := by
  obtain ⟨s, t, e⟩ := read_nan h; unfold fsub Format.sub; rw [e, opp_nan, sum_nan_r]; rfl
theorem fmul_nan_l {x y : Nat} (h : isNaN x = true) : fmul x y = qnan := by
  obtain ⟨s, t, e⟩ := read_nan h; unfold fmul Format.mul; rw [e, product_nan_l]; rfl
theorem fmul_nan_r {x y : Nat} (h : isNaN y = true) : fmul x y = qnan := by
  obtain ⟨s, t, e⟩ := read_nan h; unfold fmul Format.mul; rw [e, product_nan_r]; rfl
theorem fdiv_nan_l {x y : Nat} (h : isNaN x = true) : fdiv x y = qnan := by
  obtain ⟨s, t, e⟩ := read_nan h; unfold fdiv Format.div; rw [e, quotient_nan_l]; rfl
theorem fdiv_nan_r {x y : Nat} (h : isNaN y = true) : fdiv x y = qnan := by
  obtain ⟨s, t, e⟩ := read_nan h; unfold fdiv Format.div; rw [e, quotient_nan_r]; rfl

/-! ### Canonical words -/
structure Canon (x : Nat) : Prop where
  lt : x < 2 ^ 64
  nan : isNaN x = true → x = qnan
theorem Canon.can {x : Nat} (h : x < 2 ^ 64) : Canon (can x) := by
  cases hn : isNaN x
  · rw [can_of_num hn]; exact ⟨h, fun h' => by rw [hn] at h'; cases h'⟩
  · rw [can_of_nan hn]; exact ⟨by decide, fun _ => rfl⟩
theorem Canon.qnan : Canon qnan := ⟨by decide, fun _ => rfl⟩
theorem Canon.orN {o : Option Nat} (hl : ∀ r, o = some r → r < 2 ^ 64) (hn : ∀ r, o = some r → isNaN r = false) : Canon (Lk.orN o) := by
  cases o with
  | none => exact Canon.qnan
  | some r => exact ⟨hl r rfl, fun h => by rw [show Lk.orN (some r) = r from rfl, hn r rfl] at h; cases h⟩
theorem w64 : 2 ^ dbl.width = 2 ^ 64 := by decide +kernel
theorem Canon.fadd (x y : Nat) : Canon (fadd x y) := Canon.orN (fun r h => by have := dbl.add_lt h; rw [w64] at this; exact this) (fun r h => add_num h)
theorem Canon.fsub (x y : Nat) : Canon (fsub x y) := Canon.orN (fun r h => by have := dbl.sub_lt h; rw [w64] at this; exact this) (fun r h => sub_num h)
theorem Canon.fmul (x y : Nat) : Canon (fmul x y) := Canon.orN (fun r h => by have := dbl.mul_lt h; rw [w64] at this; exact this) (fun r h => mul_num h)
theorem Canon.fdiv (x y : Nat) : Canon (fdiv x y) := Canon.orN (fun r h => by have := dbl.div_lt h; rw [w64] at this; exact this) (fun r h => div_num h)
theorem Canon.fsqrt (x : Nat) : Canon (fsqrt x) := Canon.orN (fun r h => by have := dbl.sqrt_lt h; rw [w64] at this; exact this) (fun r h => sqrt_num h)
theorem Canon.ffloor (x : Nat) : Canon (ffloor x) := by
  unfold Lk.ffloor
  cases hn : isNaN x
  · exact ⟨by have := dbl.write_lt ((dbl.read x).integral .down); rw [w64] at this; exact this, fun h => by rw [cond_false, isNaN_write (integral_num hn)] at h; cases h⟩
  · exact Canon.qnan
theorem Canon.ftrunc (x : Nat) : Canon (ftrunc x) := by
  unfold Lk.ftrunc
  cases hn : isNaN x
  · exact ⟨by have := dbl.write_lt ((dbl.read x).integral .zero); rw [w64] at this; exact this, fun h => by rw [cond_false, isNaN_write (integral_num hn)] at h; cases h⟩
  · exact Canon.qnan

/-- The three kinds. -/
theorem Canon.three {x : Nat} (h : Canon x) : isFin x = true ∨ (∃ s, x = wd s (2047 * 2 ^ 52)) ∨ x = Lk.qnan := by
  rcases Lk.three x with h' | h' | h'
  · exact .inl h'
  · exact .inr (.inl ⟨sg x, by rw [← h', wd_sg h.lt]⟩)
  · exact .inr (.inr (h.nan h'))
theorem wd_lt {s : Bool} {r : Nat} (h : r < 2 ^ 63) : wd s r < 2 ^ 64 := by unfold wd; split <;> omega
theorem fin_wd {s : Bool} {r : Nat} (h : r < 2047 * 2 ^ 52) : isFin (wd s r) = true := by
  unfold isFin; rw [rg_wd (by omega)]; exact decide_eq_true h
theorem fx_wd {s : Bool} {r : Nat} (h : r < 2 ^ 63) : fx (wd s r) = sgn s (fxr r) := by unfold fx; rw [rg_wd h, sg_wd h]

/-- A word is what its sign and its value say. -/
theorem word_ext {x y : Nat} (hx : x < 2 ^ 64) (hy : y < 2 ^ 64) (hs : sg x = sg y) (hf : fx x = fx y) : x = y := by
  have h1 : fxr (rg x) = fxr (rg y) := by
    unfold fx at hf; have := congrArg Int.natAbs hf; rwa [sgn_abs, sgn_abs] at this
  rw [← wd_sg hx, ← wd_sg hy, hs, fxr_inj h1]

theorem sgn_neg {s : Bool} {a : Nat} (h : sgn s a ≠ 0) : s = decide (sgn s a < 0) := by
  cases s <;> simp [sgn] at h ⊢ <;> omega

/-- What the format has is its own nearest. -/
theorem rnd_fx {x : Nat} {z : Bool} (hx : x < 2 ^ 64) (hf : isFin x = true) (hz : fx x = 0 → sg x = z) : rnd z (fx x) = x := by
  unfold rnd
  have hr : rg x < 2047 * 2 ^ 52 := of_decide_eq_true hf
  split
  · rename_i h
    have : fxr (rg x) = 0 := sgn_eq_zero.1 h
    have : rg x = 0 := fxr_inj (by rw [this, fxr_zero])
    rw [← hz h, ← this, wd_sg hx]
  · rename_i h
    have h1 : decide (fx x < 0) = sg x := (sgn_neg h).symm
    have h2 : (fx x).natAbs = fxr (rg x) := sgn_abs _ _
    rw [h1, h2, rung_fxr (by omega), wd_sg hx]
theorem fin_zero : isFin 0 = true := by decide
theorem fx_0 : fx 0 = 0 := by decide
theorem sg_0 : sg 0 = false := by decide

theorem fsub_self_fin {x : Nat} (h : isFin x = true) : fsub x x = 0 := by
  rw [fsub_fin h h, Int.sub_self]; cases sg x <;> rfl
theorem fsub_self_inf (s : Bool) : fsub (wd s (2047 * 2 ^ 52)) (wd s (2047 * 2 ^ 52)) = qnan := by cases s <;> decide +kernel
/-- x - x is nought just of finite ones. -/
theorem fin_test {x : Nat} (h : Canon x) : feq (fsub x x) 0 = isFin x := by
  rcases h.three with h | ⟨s, rfl⟩ | rfl
  · rw [fsub_self_fin h, h]; decide +kernel
  · rw [fsub_self_inf, feq_nan_l isNaN_qnan]; cases s <;> decide +kernel
  · rw [fsub_nan_l isNaN_qnan, feq_nan_l isNaN_qnan]; decide +kernel

/-- +0 added: a nought loses its sign. -/
theorem fadd_zero {x : Nat} (h : Canon x) : fadd x 0 = bif feq x 0 then 0 else x := by
  rcases h.three with h' | ⟨s, rfl⟩ | rfl
  · rw [fadd_fin h' fin_zero, feq_fin h' fin_zero, fx_0, Int.add_zero, sg_0, Bool.and_false]
    by_cases h0 : fx x = 0
    · rw [h0]; rfl
    · rw [decide_eq_false h0, rnd_fx h.lt h' (fun h => absurd h h0)]; rfl
  · cases s <;> decide +kernel
  · rw [fadd_nan_l isNaN_qnan, feq_nan_l isNaN_qnan]; rfl
theorem rnd_zero {z : Bool} {T : Int} (h : feq (rnd z T) 0 = true) (hT : (rung T.natAbs) < 2047 * 2 ^ 52) : T = 0 := by
  unfold rnd at h
  split at h
  · assumption
  · rename_i h0
    have h1 := rung_pos (T := T.natAbs) (by omega)
    rw [feq_fin (fin_wd hT) fin_zero, fx_wd (by omega), fx_0] at h
    have := sgn_eq_zero.1 (of_decide_eq_true h)
    have : rung T.natAbs = 0 := fxr_inj (by rw [this, fxr_zero])
    omega
/-- A sum or a difference is -0 of noughts alone; so +0 added to it makes no difference. -/
theorem fadd_zero_of {x : Nat} (h : Canon x) (hz : x ≠ 2 ^ 63) : fadd x 0 = x := by
  rw [fadd_zero h]
  cases he : feq x 0
  · rfl
  · rcases h.three with h' | ⟨s, rfl⟩ | rfl
    · rw [feq_fin h' fin_zero, fx_0] at he
      have : fxr (rg x) = 0 := sgn_eq_zero.1 (of_decide_eq_true he)
      have h0 : rg x = 0 := fxr_inj (by rw [this, fxr_zero])
      have e := wd_sg h.lt
      rw [h0] at e
      cases hs : sg x
      · rw [hs] at e; exact e
      · rw [hs] at e; exact absurd e.symm hz
    · cases s <;> simp [feq] at he <;> revert he <;> decide +kernel
    · rw [feq_nan_l isNaN_qnan] at he; cases he
theorem rnd_neg0 {z : Bool} {T : Int} (h : rnd z T = 2 ^ 63) : T = 0 ∧ z = true := by
  unfold rnd at h
  split at h
  · rename_i h0
    refine ⟨h0, ?_⟩
    cases z
    · simp [wd] at h
    · rfl
  · rename_i h0
    have h1 := rung_pos (T := T.natAbs) (by omega)
    have h2 := rung_lt T.natAbs
    unfold wd at h
    split at h <;> omega

theorem fmul_comm (x y : Nat) : fmul x y = fmul y x := by
  unfold fmul Format.mul
  have : ∀ d e : Datum, d.product e = e.product d := by
    intro d e
    cases d <;> cases e <;> simp only [Datum.product] <;> (try rfl)
    all_goals (try rw [Bool.xor_comm])
    rw [Nat.mul_comm, Int.add_comm]
  rw [this]
theorem fadd_comm (x y : Nat) : fadd x y = fadd y x := by
  unfold fadd Format.add
  have : ∀ d e : Datum, d.sum e = e.sum d := by
    intro d e
    cases d <;> cases e <;> simp only [Datum.sum] <;> (try rfl)
    · rename_i s m i t n j
      rw [Int.min_comm j i, Int.add_comm, Bool.and_comm]
    · rename_i s t
      by_cases h : s = t
      · subst h; rfl
      · rw [if_neg h, if_neg (fun h' => h h'.symm)]
  rw [this]
end Go.Lk
