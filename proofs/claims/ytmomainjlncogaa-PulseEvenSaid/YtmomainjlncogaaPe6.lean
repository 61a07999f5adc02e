import Derived.Test.YtmomainjlncogaaPe5
section
/- The squares' sum of the program's sine and cosine is near 1. -/
namespace Go.Lk
set_option linter.unusedSimpArgs false
set_option linter.unusedVariables false
set_option maxRecDepth 10000
def cosE (z : Nat) : Nat := fadd (fmul (cosP z) z) 4607182418800017408
def sinE (z : Nat) : Nat := fadd (fmul (sinP z) z) 4607182418800017408
def cosR (ζ : Rat) : Rat := 1 + ζ * pe cosT ζ
def sinR (ζ : Rat) : Rat := 1 + ζ * pe sinT ζ
theorem neg_tail {ζ a : Rat} {l : List Rat} (h0 : 0 ≤ ζ) (h1 : ζ ≤ ZZ) (hl : pe (l.map rabs) ZZ ≤ 1 / 20) (ha : a ≤ -(1 / 10)) : pe (a :: l) ζ ≤ 0 := by
  have hb := pe_bd h0 h1 l
  have h2 : Bd (ζ * pe l ζ) (ZZ * pe (l.map rabs) ZZ) := Bd.mul (⟨by grind, h1⟩ : Bd ζ ZZ) hb
  have h3 : ZZ * pe (l.map rabs) ZZ ≤ ZZ * (1 / 20) := Rat.mul_le_mul_of_nonneg_left hl (by decide +kernel)
  have h4 : ZZ * (1 / 20) ≤ 1 / 10 := by decide +kernel
  show a + ζ * pe l ζ ≤ 0
  have := h2.2
  grind
theorem one_range {ζ P A : Rat} (h0 : 0 ≤ ζ) (h1 : ζ ≤ ZZ) (hP : Bd P A) (hn : P ≤ 0) (hA : A ≤ 527 / 1000) : 0 ≤ 1 + ζ * P ∧ 1 + ζ * P ≤ 1 ∧ 6 / 10 ≤ 1 + ζ * P := by
  have k1 := Rat.mul_nonneg (a := ζ) (b := -P) h0 (by grind)
  have h2 : Bd (ζ * P) (ZZ * A) := Bd.mul (⟨by grind, h1⟩ : Bd ζ ZZ) hP
  have h3 : ZZ * A ≤ ZZ * (527 / 1000) := Rat.mul_le_mul_of_nonneg_left hA (by decide +kernel)
  have h4 : ZZ * (527 / 1000) ≤ 4 / 10 := by decide +kernel
  have := h2.1
  refine ⟨by grind, by grind, by grind⟩
theorem cosE_err {z : Nat} (hz : isFin z = true) (h0 : 0 ≤ qv z) (h1 : qv z ≤ ZZ) : isFin (cosE z) = true ∧ Bd (qv (cosE z) - cosR (qv z)) (1684 / 1000 * eta) ∧ 0 ≤ cosR (qv z) ∧ cosR (qv z) ≤ 1 ∧ 6 / 10 ≤ cosR (qv z) := by
  obtain ⟨p1, p2, p3⟩ := cosP_err hz h0 h1
  have hneg : pe cosT (qv z) ≤ 0 := neg_tail h0 h1 (by decide +kernel) (by decide +kernel)
  obtain ⟨o1, o2, o3⟩ := one_range h0 h1 p3 hneg (by decide +kernel)
  obtain ⟨s1, s2⟩ := h_step p1 hz one_q.1 one_q.2 h0 h1 (by decide +kernel) p2 p3 (A' := 1) ⟨by grind, o2⟩ (by decide +kernel) (by decide +kernel)
  exact ⟨s1, s2.mono (by decide +kernel), o1, o2, o3⟩
theorem sinE_err {z : Nat} (hz : isFin z = true) (h0 : 0 ≤ qv z) (h1 : qv z ≤ ZZ) : isFin (sinE z) = true ∧ Bd (qv (sinE z) - sinR (qv z)) (1220 / 1000 * eta) ∧ 0 ≤ sinR (qv z) ∧ sinR (qv z) ≤ 1 ∧ 6 / 10 ≤ sinR (qv z) := by
  obtain ⟨p1, p2, p3⟩ := sinP_err hz h0 h1
  have hneg : pe sinT (qv z) ≤ 0 := neg_tail h0 h1 (by decide +kernel) (by decide +kernel)
  obtain ⟨o1, o2, o3⟩ := one_range h0 h1 p3 hneg (by decide +kernel)
  obtain ⟨s1, s2⟩ := h_step p1 hz one_q.1 one_q.2 h0 h1 (by decide +kernel) p2 p3 (A' := 1) ⟨by grind, o2⟩ (by decide +kernel) (by decide +kernel)
  exact ⟨s1, s2.mono (by decide +kernel), o1, o2, o3⟩
/-- cos² + sin², but for a little. -/
def sqD : List Rat := padd (padd (pmul (1 :: cosT) (1 :: cosT)) (0 :: pmul (1 :: sinT) (1 :: sinT))) [-1]
theorem sq_one {ζ : Rat} (h0 : 0 ≤ ζ) (h1 : ζ ≤ ZZ) : Bd (cosR ζ * cosR ζ + ζ * (sinR ζ * sinR ζ) - 1) (eta / 20) := by
  have h := (pe_bd h0 h1 sqD).mono (B := eta / 20) (by decide +kernel)
  have e : pe sqD ζ = cosR ζ * cosR ζ + ζ * (sinR ζ * sinR ζ) - 1 := by
    unfold sqD
    rw [pe_add, pe_add, pe_mul]
    have e1 : pe (0 :: pmul (1 :: sinT) (1 :: sinT)) ζ = ζ * (pe (1 :: sinT) ζ * pe (1 :: sinT) ζ) := by
      show 0 + ζ * pe (pmul (1 :: sinT) (1 :: sinT)) ζ = _
      rw [pe_mul]; grind
    have e2 : pe [-1] ζ = -1 := by show -1 + ζ * 0 = -1; grind
    rw [e1, e2]
    show (1 + ζ * pe cosT ζ) * (1 + ζ * pe cosT ζ) + ζ * ((1 + ζ * pe sinT ζ) * (1 + ζ * pe sinT ζ)) + -1 = _
    unfold cosR sinR
    grind
  exact h.of_eq e
theorem sq_bd {x y A e : Rat} (h : Bd (x - y) e) (hy : Bd y A) : Bd (x * x - y * y) (e * (2 * A + e)) := by
  have h2 : Bd (x + y) (2 * A + e) := ((h.add hy).add hy).of_eq (by grind) |>.mono (by grind)
  exact (h.mul h2).of_eq (by grind)
/-- The two of an eighth of a turn. -/
theorem eighth_near {a : Nat} (ha : isFin a = true) (sa : sg a = false) (h8 : qv a ≤ 1 / 8) :
    isFin (cosE (fmul (fmul a 4618760256179416344) (fmul a 4618760256179416344))) = true ∧ isFin (fmul (sinE (fmul (fmul a 4618760256179416344) (fmul a 4618760256179416344))) (fmul a 4618760256179416344)) = true ∧
    Bd (qv (cosE (fmul (fmul a 4618760256179416344) (fmul a 4618760256179416344))) * qv (cosE (fmul (fmul a 4618760256179416344) (fmul a 4618760256179416344))) +
      qv (fmul (sinE (fmul (fmul a 4618760256179416344) (fmul a 4618760256179416344))) (fmul a 4618760256179416344)) * qv (fmul (sinE (fmul (fmul a 4618760256179416344) (fmul a 4618760256179416344))) (fmul a 4618760256179416344)) - 1) (68 / 10 * eta) := by
  obtain ⟨t1, t2, t3, t4⟩ := eta_small
  obtain ⟨c1, c2⟩ := circ_q
  have na := (qv_nn sa).2
  have sc : sg 4618760256179416344 = false := by decide
  have sgm : ∀ {x y : Nat}, isFin x = true → isFin y = true → sg x = sg y → sg (fmul x y) = false := by
    intro x y hx hy hs
    obtain ⟨r, e, hr⟩ := fmul_near hx hy
    rw [e, sg_wd (by have := hr.1; unfold infR at this; omega), hs, Bool.xor_self]
  have hac : Bd (qv a * qv 4618760256179416344) (785398163398 / 1000000000000) := by
    rw [c2]
    have k1 := Rat.mul_nonneg (a := qv a) (b := 884279719003555 / 140737488355328) na (by decide +kernel)
    have k2 := Rat.mul_le_mul_of_nonneg_right h8 (c := 884279719003555 / 140737488355328) (by decide +kernel)
    have k3 : (1 / 8 : Rat) * (884279719003555 / 140737488355328) ≤ 785398163398 / 1000000000000 := by decide +kernel
    constructor <;> grind
  obtain ⟨y1, y2⟩ := mul_q ha c1 hac (by decide +kernel)
  have sy : sg (fmul a 4618760256179416344) = false := sgm ha c1 (by rw [sa, sc])
  generalize fmul a 4618760256179416344 = y at *
  have ny := (qv_nn sy).2
  have hy : qv y ≤ 78539817 / 100000000 := by
    have h1 := hac.2
    have h2 := y2.2
    have h3 : 785398163398 / 1000000000000 * eta + tau ≤ 1 / 1000000000 := by decide +kernel
    grind
  have by' : Bd (qv y) (78539817 / 100000000) := ⟨by grind, hy⟩
  have hyy := by'.mul by'
  obtain ⟨z1, z2⟩ := mul_q y1 y1 hyy (by decide +kernel)
  have sz : sg (fmul y y) = false := sgm y1 y1 rfl
  generalize fmul y y = z at *
  have nz := (qv_nn sz).2
  have hz : qv z ≤ ZZ := by
    have h1 := hyy.2
    have h2 := z2.2
    have h3 : (78539817 / 100000000 : Rat) * (78539817 / 100000000) + (78539817 / 100000000 * (78539817 / 100000000) * eta + tau) ≤ ZZ := by decide +kernel
    grind
  obtain ⟨C1, C2, C3, C4, C5⟩ := cosE_err z1 nz hz
  obtain ⟨S1, S2, S3, S4, S5⟩ := sinE_err z1 nz hz
  have hone := sq_one nz hz
  have bC : Bd (cosR (qv z)) 1 := ⟨by grind, C4⟩
  have bS : Bd (sinR (qv z)) 1 := ⟨by grind, S4⟩
  generalize cosR (qv z) = C at *
  generalize sinR (qv z) = S at *
  have q1 := sq_bd C2 bC
  have q2 := sq_bd S2 bS
  -- the sine itself
  have bS2 : Bd (qv (sinE z)) (1 + 1220 / 1000 * eta) := (bS.add S2).of_eq (by grind)
  have bσ := bS2.mul by'
  obtain ⟨s1, s2⟩ := mul_q S1 y1 bσ (by decide +kernel)
  refine ⟨C1, s1, ?_⟩
  have q3 := sq_bd s2 bσ
  generalize qv (fmul (sinE z) y) = s at *
  generalize qv (sinE z) = p at *
  generalize qv (cosE z) = c at *
  -- σ² - S² ζ
  have q4 : Bd ((p * p - S * S) * (qv y * qv y)) (1220 / 1000 * eta * (2 * 1 + 1220 / 1000 * eta) * (78539817 / 100000000 * (78539817 / 100000000))) := q2.mul hyy
  have q5 : Bd (S * S * (qv y * qv y - qv z)) (1 * 1 * (78539817 / 100000000 * (78539817 / 100000000) * eta + tau)) := (bS.mul bS).mul (z2.neg.of_eq (by grind))
  have hall := ((((q1.add q3).add q4).add q5).add hone).of_eq (s := c * c + s * s - 1) (by grind)
  exact hall.mono (by decide +kernel)
end Go.Lk
end

section
/- A magnitude, reckoned, of what has the magnitude 1 but for a little. -/
namespace Go.Lk
set_option linter.unusedSimpArgs false
set_option linter.unusedVariables false
set_option maxRecDepth 10000
theorem lt_of_sq {x k K : Rat} (hk : 0 ≤ k) (h : x * x ≤ K) (hK : K < k * k) : x < k := by
  refine Rat.not_le.1 fun hx => ?_
  have h1 := Rat.mul_le_mul_of_nonneg_right hx (c := k) hk
  have h2 := Rat.mul_le_mul_of_nonneg_left hx (c := x) (by grind)
  grind
theorem gt_of_sq {x k K : Rat} (hx : 0 ≤ x) (h : K ≤ x * x) (hK : k * k < K) : k < x := by
  refine Rat.not_le.1 fun hk => ?_
  have h1 := Rat.mul_le_mul_of_nonneg_right hk (c := x) hx
  have h2 := Rat.mul_le_mul_of_nonneg_left hk (c := k) (by grind)
  grind
/-- The greater one m and the smaller one n: m √(1 + (n/m)²). -/
theorem abs_core {m n : Nat} (hm : isFin m = true) (hn : isFin n = true) (sm : sg m = false) (sn : sg n = false) (hle : qv n ≤ qv m) (hG : Bd (qv m * qv m + qv n * qv n - 1) (68 / 10 * eta)) :
    isFin (fmul m (fsqrt (fadd 4607182418800017408 (fmul (fdiv n m) (fdiv n m))))) = true ∧ Bd (qv (fmul m (fsqrt (fadd 4607182418800017408 (fmul (fdiv n m) (fdiv n m))))) - 1) (8 * eta) := by
  obtain ⟨t1, t2, t3, t4⟩ := eta_small
  have nm := (qv_nn sm).2
  have nn := (qv_nn sn).2
  obtain ⟨g1, g2⟩ := hG
  have hnn : qv n * qv n ≤ qv m * qv m := by
    have h1 := Rat.mul_le_mul_of_nonneg_right hle (c := qv n) nn
    have h2 := Rat.mul_le_mul_of_nonneg_left hle (c := qv m) nm
    grind
  have hn2 : 0 ≤ qv n * qv n := Rat.mul_nonneg nn nn
  have e68 : 68 / 10 * eta ≤ 1 / 100000 := by decide +kernel
  have mhi : qv m < 10001 / 10000 := lt_of_sq (K := 1 + 1 / 100000) (by decide +kernel) (by grind) (by decide +kernel)
  have mlo : 7 / 10 < qv m := gt_of_sq (K := 1 / 2 - 1 / 100000) nm (by grind) (by decide +kernel)
  have nhi : qv n < 70712 / 100000 := lt_of_sq (K := 1 / 2 + 1 / 100000) (by decide +kernel) (by grind) (by decide +kernel)
  -- the quotient
  obtain ⟨q1, sq, q2⟩ := div_q hn hm sn sm (by grind) hle
  have nq := (qv_nn sq).2
  have q3 : Bd (qv (fdiv n m) * qv m - qv n) (7073 / 10000 * eta) := q2.mono (by
    have h1 := Rat.mul_le_mul_of_nonneg_right (Rat.le_of_lt nhi) (c := eta) t1
    have h2 := Rat.mul_le_mul_of_nonneg_left (Rat.le_of_lt mhi) (c := tau) t3
    have h3 : 70712 / 100000 * eta + tau * (10001 / 10000) ≤ 7073 / 10000 * eta := by decide +kernel
    grind)
  have qhi : qv (fdiv n m) ≤ 10001 / 10000 := by
    refine Rat.not_lt.1 fun h => ?_
    have h1 : (qv (fdiv n m) - 1) * qv m ≤ 7073 / 10000 * eta := by have := q3.2; grind
    have h2 := Rat.mul_le_mul_of_nonneg_left (Rat.le_of_lt mlo) (c := qv (fdiv n m) - 1) (by grind)
    have h3 : 7073 / 10000 * eta < 1 / 10000 * (7 / 10) := by decide +kernel
    grind
  generalize fdiv n m = q at *
  have bq : Bd (qv q) (10001 / 10000) := ⟨by grind, qhi⟩
  have bqq := bq.mul bq
  obtain ⟨p1, p2⟩ := mul_q q1 q1 bqq (by decide +kernel)
  have nqq : 0 ≤ qv q * qv q := Rat.mul_nonneg nq nq
  generalize fmul q q = p at *
  have hone := one_q
  have bp : Bd (qv 4607182418800017408 + qv p) (20004 / 10000) := by
    rw [hone.2]
    have h1 := p2.1; have h2 := p2.2; have h3 := bqq.2
    have h4 : (10001 / 10000 : Rat) * (10001 / 10000) + (10001 / 10000 * (10001 / 10000) * eta + tau) ≤ 10003 / 10000 := by decide +kernel
    have h5 : (10001 / 10000 : Rat) * (10001 / 10000) * eta + tau ≤ 1 / 10000 := by decide +kernel
    constructor <;> grind
  obtain ⟨s1, s2⟩ := add_q hone.1 p1 bp (by decide +kernel)
  generalize fadd 4607182418800017408 p = s at *
  rw [hone.2] at s2
  have e5 : (10001 / 10000 : Rat) * (10001 / 10000) * eta + tau ≤ 10003 / 10000 * eta := by decide +kernel
  have e6 : (20004 / 10000 : Rat) * eta + tau ≤ 20005 / 10000 * eta := by decide +kernel
  have p3 := p2.mono e5
  have s3 := s2.mono e6
  have hS : 9 / 10 ≤ qv s ∧ qv s ≤ 3 := by
    have h1 := s3.1; have h2 := s3.2; have h3 := p3.1; have h4 := p3.2; have h5 := bqq.2
    have h6 : (10003 / 10000 : Rat) * eta ≤ 1 / 100 := by decide +kernel
    have h7 : (20005 / 10000 : Rat) * eta ≤ 1 / 100 := by decide +kernel
    have h8 : (10001 / 10000 : Rat) * (10001 / 10000) ≤ 11 / 10 := by decide +kernel
    constructor <;> grind
  have ssg : sg s = false := by
    have hU := UR_pos
    have h1 : 0 < qv s * UR := Rat.mul_pos (by grind) hU
    rw [qv_U] at h1
    have h2 : 0 < fx s := by exact_mod_cast h1
    rw [sg_fx (by omega)]
    exact decide_eq_false (by omega)
  obtain ⟨r1, sr, l, hl0, hll, hlr, hrl, hsl⟩ := sqrt_q s1 ssg (by grind)
  generalize fsqrt s = r at *
  have nr := (qv_nn sr).2
  -- m² s is near 1
  have bm : Bd (qv m) (10001 / 10000) := ⟨by grind, Rat.le_of_lt mhi⟩
  have bn : Bd (qv n) (70712 / 100000) := ⟨by grind, Rat.le_of_lt nhi⟩
  have k1 : Bd (qv m * qv m * (qv s - (1 + qv p))) (10001 / 10000 * (10001 / 10000) * (20005 / 10000 * eta)) := (bm.mul bm).mul s3
  have k2 : Bd (qv m * qv m * (qv p - qv q * qv q)) (10001 / 10000 * (10001 / 10000) * (10003 / 10000 * eta)) := (bm.mul bm).mul p3
  have k3 := sq_bd q3 bn
  have hK := (((k1.add k2).add k3).add (⟨g1, g2⟩ : Bd _ (68 / 10 * eta))).of_eq (s := qv m * qv m * qv s - 1) (by grind)
  have hK := hK.mono (B := 1081 / 100 * eta) (by decide +kernel)
  obtain ⟨K1, K2⟩ := hK
  have nml : 0 ≤ qv m * l := Rat.mul_nonneg nm hl0
  have nmm : 0 ≤ qv m * qv m := Rat.mul_nonneg nm nm
  -- from above
  have up : qv m * l < 1 + 5406 / 1000 * eta := by
    refine lt_of_sq (K := 1 + 1081 / 100 * eta) (by decide +kernel) ?_ (by decide +kernel)
    have h1 := Rat.mul_le_mul_of_nonneg_left hll (c := qv m * qv m) nmm
    grind
  -- from below
  have hlt0 : 0 ≤ l + l * eta + tau := by
    have := Rat.mul_nonneg hl0 t1
    grind
  have lo : 1 - 5406 / 1000 * eta < qv m * (l + l * eta + tau) := by
    refine gt_of_sq (K := 1 - 1081 / 100 * eta) (Rat.mul_nonneg nm hlt0) ?_ (by decide +kernel)
    have h1 := Rat.mul_le_mul_of_nonneg_left hsl (c := qv m * qv m) nmm
    grind
  have hmr1 := Rat.mul_le_mul_of_nonneg_left hlr (c := qv m) nm
  have hmr2 := Rat.mul_le_mul_of_nonneg_left hrl (c := qv m) nm
  have hτ := Rat.mul_le_mul_of_nonneg_left (Rat.le_of_lt mhi) (c := tau) t3
  have e1 : qv m * (l + l * eta + tau) = qv m * l + qv m * l * eta + tau * qv m := by grind
  have upe := Rat.mul_le_mul_of_nonneg_right (Rat.le_of_lt up) (c := eta) t1
  have n1 : (1 + 5406 / 1000 * eta) + (1 + 5406 / 1000 * eta) * eta + tau * (10001 / 10000) ≤ 1 + 6407 / 1000 * eta := by decide +kernel
  have n2 : (1 + 5406 / 1000 * eta) * eta + tau * (10001 / 10000) ≤ 1001 / 1000 * eta := by decide +kernel
  have MRhi : qv m * qv r ≤ 1 + 6407 / 1000 * eta := by grind
  have MRlo : 1 - 6407 / 1000 * eta ≤ qv m * qv r := by grind
  have n3 : 1 + 6407 / 1000 * eta ≤ 10001 / 10000 := by decide +kernel
  have n4 : 6407 / 1000 * eta ≤ 1 / 10000 := by decide +kernel
  obtain ⟨f1, f2⟩ := mul_q hm r1 (B := 10001 / 10000) ⟨by grind, by grind⟩ (by decide +kernel)
  refine ⟨f1, ?_⟩
  have n5 : 10001 / 10000 * eta + tau + 6407 / 1000 * eta ≤ 8 * eta := by decide +kernel
  have h1 := f2.1
  have h2 := f2.2
  constructor <;> grind
end Go.Lk
end

section
/- The points of the circle have the magnitude 1, but for a little. -/
namespace Go.Lk
open Ieee (Format Datum)
set_option linter.unusedSimpArgs false
set_option linter.unusedVariables false
set_option maxRecDepth 100000
theorem qv_rg_abs {x : Nat} (h : isFin x = true) : qv (rg x) * qv (rg x) = qv x * qv x := by
  have hs : ∀ s (n : Nat), ((sgn s n : Int) : Rat) * ((sgn s n : Int) : Rat) = ((n : Nat) : Rat) * ((n : Nat) : Rat) := by
    intro s n
    cases s
    · rfl
    · show ((-(n : Int) : Int) : Rat) * ((-(n : Int) : Int) : Rat) = _
      rw [Rat.intCast_neg]
      show -((n : Nat) : Rat) * -((n : Nat) : Rat) = _
      grind
  have e1 : ((fx (rg x) : Int) : Rat) * ((fx (rg x) : Int) : Rat) = ((fx x : Int) : Rat) * ((fx x : Int) : Rat) := by
    unfold fx
    rw [hs, hs, rg_rg]
  unfold qv
  rw [Rat.div_def, Rat.div_def]
  have e2 : ∀ a b c : Rat, a * a = b * b → a * c * (a * c) = b * c * (b * c) := by intro a b c h; grind
  exact e2 _ _ _ e1
/-- What a nought added leaves of a magnitude. -/
theorem rg_clean {v : Nat} (hc : Canon v) (hf : isFin v = true) : isFin (fadd v 0) = true ∧ rg (fadd v 0) = rg v := by
  rw [fadd_zero hc]
  cases h : feq v 0
  · exact ⟨hf, rfl⟩
  · rw [feq_fin hf fin_zero, fx_0] at h
    have h0 : fx v = 0 := of_decide_eq_true h
    have : fxr (rg v) = 0 := by have := fx_abs v; omega
    rw [← fxr_zero] at this
    have := fxr_inj this
    exact ⟨fin_zero, by rw [this]; rfl⟩
theorem rg_neg {v : Nat} (hc : Canon v) (hf : isFin v = true) : isFin (aneg false v) = true ∧ rg (aneg false v) = rg v ∧ Canon (aneg false v) := by
  obtain ⟨n1, n2, n3⟩ := fneg_fin hc.lt hf
  have hr : rg v < 2047 * 2 ^ 52 := of_decide_eq_true hf
  refine ⟨n1, ?_, hc.fneg⟩
  have h1 : fneg (wd (sg v) (rg v)) = wd (!sg v) (rg v) := fneg_wd (by omega)
  rw [wd_sg hc.lt] at h1
  show rg (fneg v) = rg v
  rw [h1, rg_wd (by omega)]
/-- Abs of two whose magnitudes are those of E0 and E1, in either order. -/
theorem abs_near {re im E0 E1 : Nat} (hre : isFin re = true) (him : isFin im = true) (h0 : isFin E0 = true) (h1 : isFin E1 = true) (h : (rg re = rg E0 ∧ rg im = rg E1) ∨ (rg re = rg E1 ∧ rg im = rg E0))
    (hG : Bd (qv E0 * qv E0 + qv E1 * qv E1 - 1) (68 / 10 * eta)) : isFin (bAbs_0 re im) = true ∧ Bd (qv (bAbs_0 re im) - 1) (8 * eta) ∧ Bd (qv re * qv re + qv im * qv im - 1) (68 / 10 * eta) := by
  have hG2 : Bd (qv (rg re) * qv (rg re) + qv (rg im) * qv (rg im) - 1) (68 / 10 * eta) := by
    rw [← qv_rg_abs h0, ← qv_rg_abs h1] at hG
    rcases h with ⟨e1, e2⟩ | ⟨e1, e2⟩
    · rw [e1, e2]; exact hG
    · rw [e1, e2]; exact hG.of_eq (by grind)
  rw [← and_assoc]
  refine ⟨?_, by rw [qv_rg_abs hre, qv_rg_abs him] at hG2; exact hG2⟩
  unfold bAbs_0
  rw [bAbs_kind hre him, fabs_rg hre, fabs_rg him]
  have k1 : ((0 : Int) == Int.ofNat 1) = false := by decide
  have k2 : ((0 : Int) == Int.ofNat 2) = false := by decide
  rw [k1, k2, cond_false, cond_false]
  have main : ∀ {m n : Nat}, isFin m = true → isFin n = true → sg m = false → sg n = false → qv n ≤ qv m → Bd (qv m * qv m + qv n * qv n - 1) (68 / 10 * eta) →
      isFin (bif feq m 0 then 0 else fmul m (fsqrt (fadd 4607182418800017408 (fmul (fdiv n m) (fdiv n m))))) = true ∧ Bd (qv (bif feq m 0 then 0 else fmul m (fsqrt (fadd 4607182418800017408 (fmul (fdiv n m) (fdiv n m))))) - 1) (8 * eta) := by
    intro m n fm fn sm sn hle hg
    have hz : feq m 0 = false := by
      rw [feq_fin fm fin_zero, fx_0]
      refine decide_eq_false fun h => ?_
      have e : qv m = 0 := by unfold qv; rw [h]; decide +kernel
      have nn := (qv_nn sn).2
      have e2 : qv n = 0 := by grind
      have := hg.1
      rw [e, e2] at this
      revert this; decide +kernel
    rw [hz, cond_false]
    exact abs_core fm fn sm sn hle hg
  rcases max_min (fin_rg hre) (fin_rg him) (rg_sg re) (rg_sg im) with ⟨e1, e2, e3⟩ | ⟨e1, e2, e3⟩
  · rw [e1, e2]
    exact main (fin_rg hre) (fin_rg him) (rg_sg _) (rg_sg _) e3 hG2
  · rw [e1, e2]
    exact main (fin_rg him) (fin_rg hre) (rg_sg _) (rg_sg _) e3 (hG2.of_eq (by grind))
/-! ### An eighth of a turn -/
theorem half_q : isFin 4604544271217802189 = true ∧ qv 4604544271217802189 = 6369051672525773 / 9007199254740992 := ⟨by decide, (qv_const (n := 6369051672525773) (d := 9007199254740992) (by decide) (by decide +kernel)).trans (by decide +kernel)⟩
theorem eighth_pair {a : Nat} (ha : isFin a = true) (sa : sg a = false) (h8 : qv a ≤ 1 / 8) :
    isFin (wEighth_0 a) = true ∧ isFin (wEighth_1 a) = true ∧ Canon (wEighth_0 a) ∧ Canon (wEighth_1 a) ∧ Bd (qv (wEighth_0 a) * qv (wEighth_0 a) + qv (wEighth_1 a) * qv (wEighth_1 a) - 1) (68 / 10 * eta) := by
  have e0 : wEighth_0 a = bif feq a 4593671619917905920 then 4604544271217802189 else cosE (fmul (fmul a 4618760256179416344) (fmul a 4618760256179416344)) := by kernel_rfl
  have e1 : wEighth_1 a = bif feq a 4593671619917905920 then 4604544271217802189 else fmul (sinE (fmul (fmul a 4618760256179416344) (fmul a 4618760256179416344))) (fmul a 4618760256179416344) := by kernel_rfl
  rw [e0, e1]
  cases feq a 4593671619917905920
  · obtain ⟨h1, h2, h3⟩ := eighth_near ha sa h8
    simp only [cond_false]
    refine ⟨h1, h2, ?_, ?_, h3⟩
    · unfold cosE; exact Canon.fadd _ _
    · exact Canon.fmul _ _
  · obtain ⟨h1, h2⟩ := half_q
    simp only [cond_true]
    refine ⟨h1, h1, ⟨by decide, fun h => ?_⟩, ⟨by decide, fun h => ?_⟩, ?_⟩
    · rw [fin_num h1] at h; cases h
    · rw [fin_num h1] at h; cases h
    · rw [h2]
      exact ⟨by decide +kernel, by decide +kernel⟩
/-- A difference of what is no greater and not below nought. -/
theorem sub_range {c y d : Nat} (hc : isFin c = true) (hy : isFin y = true) (sc : sg c = false) (sy : sg y = false) (hd : rg d < 2047 * 2 ^ 52) (h0 : 0 ≤ fx c - fx y) (h1 : fx c - fx y ≤ (fxr (rg d) : Int)) :
    isFin (fsub c y) = true ∧ sg (fsub c y) = false ∧ fx (fsub c y) ≤ (fxr (rg d) : Int) ∧ 0 ≤ fx (fsub c y) := by
  rw [fsub_fin hc hy]
  obtain ⟨r1, r2⟩ := rnd_le (z := sg c && !sg y) (T := fx c - fx y) hd (by omega)
  have hs : sg (rnd (sg c && !sg y) (fx c - fx y)) = false := by
    rw [sc, Bool.false_and]
    unfold rnd
    split
    · decide
    · rw [sg_wd (rung_lt _)]; exact decide_eq_false (by omega)
  have e := fx_rg hs
  exact ⟨r1, hs, by omega, by omega⟩
theorem qv_le {x : Nat} {n d : Nat} (hd : 0 < d) (h : fx x * d ≤ n * (U : Int)) : qv x ≤ (n : Rat) / (d : Rat) := by
  have hU := UR_pos
  have hd' : (0 : Rat) < (d : Rat) := Rat.natCast_pos.2 hd
  have h1 := Rat.intCast_le_intCast.2 h
  rw [Rat.intCast_mul, Rat.intCast_mul, ← qv_U] at h1
  have h2 : qv x * UR * (d : Rat) ≤ (n : Rat) * UR := h1
  have h3 : qv x * (d : Rat) ≤ (n : Rat) := Rat.le_of_mul_le_mul_right (c := UR) (by grind) hU
  have h4 : (n : Rat) / (d : Rat) * (d : Rat) = n := by grind
  exact Rat.le_of_mul_le_mul_right (c := (d : Rat)) (by grind) hd'
theorem fx_quart : fx 4598175219545276416 * 4 = (U : Int) ∧ fx 4593671619917905920 * 8 = (U : Int) := by decide +kernel
/-- A point of the circle. -/
theorem turn_near {x : Nat} (hc : Canon x) (hf : isFin x = true) : isFin (wTurn_0 x) = true ∧ isFin (wTurn_1 x) = true ∧ isFin (bAbs_0 (wTurn_0 x) (wTurn_1 x)) = true ∧ Bd (qv (bAbs_0 (wTurn_0 x) (wTurn_1 x)) - 1) (8 * eta) ∧ Bd (qv (wTurn_0 x) * qv (wTurn_0 x) + qv (wTurn_1 x) * qv (wTurn_1 x) - 1) (68 / 10 * eta) := by
  obtain ⟨w1, _, w2, w3, _⟩ := wrap_val hc hf
  have hww : feq (wrapP x) (wrapP x) = true := by rw [feq_fin w1 w1]; exact decide_eq_true rfl
  have hh := fx_half
  obtain ⟨hq, h8⟩ := fx_quart
  have f4 : isFin 4598175219545276416 = true := by decide
  have f8 : isFin 4593671619917905920 = true := by decide
  have sh : sg half = false := by decide
  have s4 : sg 4598175219545276416 = false := by decide
  have r4 : (fxr (rg 4598175219545276416) : Int) = fx 4598175219545276416 := rfl
  have r8 : (fxr (rg 4593671619917905920) : Int) = fx 4593671619917905920 := rfl
  have eh : half = 4602678819172646912 := rfl
  have ea := fabs_rg w1
  have fa := fin_rg w1
  have sa := rg_sg (wrapP x)
  have qa : 0 ≤ fx (rg (wrapP x)) ∧ 2 * fx (rg (wrapP x)) ≤ (U : Int) := by
    have e := fx_rg sa
    rw [rg_rg] at e
    have := fx_abs (wrapP x)
    omega
  -- the end of each way
  have fin : ∀ {a re im : Nat}, isFin a = true → sg a = false → fx a ≤ fx 4593671619917905920 →
      (re = fadd (wEighth_0 a) 0 ∨ re = fadd (aneg false (wEighth_0 a)) 0) ∧ (im = fadd (wEighth_1 a) 0 ∨ im = fadd (aneg false (wEighth_1 a)) 0) ∨ (re = fadd (wEighth_1 a) 0 ∨ re = fadd (aneg false (wEighth_1 a)) 0) ∧ (im = fadd (wEighth_0 a) 0 ∨ im = fadd (aneg false (wEighth_0 a)) 0) →
      isFin re = true ∧ isFin im = true ∧ isFin (bAbs_0 re im) = true ∧ Bd (qv (bAbs_0 re im) - 1) (8 * eta) ∧ Bd (qv re * qv re + qv im * qv im - 1) (68 / 10 * eta) := by
    intro a re im ha hs h18 hcase
    obtain ⟨p1, p2, p3, p4, p5⟩ := eighth_pair ha hs (by
      have := qv_le (x := a) (n := 1) (d := 8) (by decide) (by omega)
      exact this)
    have cl : ∀ {v r : Nat}, Canon v → isFin v = true → (r = fadd v 0 ∨ r = fadd (aneg false v) 0) → isFin r = true ∧ rg r = rg v := by
      intro v r hv hfv hr
      rcases hr with rfl | rfl
      · exact rg_clean hv hfv
      · obtain ⟨n1, n2, n3⟩ := rg_neg hv hfv
        obtain ⟨m1, m2⟩ := rg_clean n3 n1
        exact ⟨m1, by rw [m2, n2]⟩
    rcases hcase with ⟨h1, h2⟩ | ⟨h1, h2⟩
    · obtain ⟨a1, a2⟩ := cl p3 p1 h1
      obtain ⟨b1, b2⟩ := cl p4 p2 h2
      exact ⟨a1, b1, abs_near a1 b1 p1 p2 (.inl ⟨a2, b2⟩) p5⟩
    · obtain ⟨a1, a2⟩ := cl p4 p2 h1
      obtain ⟨b1, b2⟩ := cl p3 p1 h2
      exact ⟨a1, b1, abs_near a1 b1 p1 p2 (.inr ⟨a2, b2⟩) p5⟩
  unfold wTurn_0 wTurn_1
  rw [hww, ea, ← eh]
  simp only [cond_true]
  generalize hw : rg (wrapP x) = a at *
  by_cases g1 : fx 4598175219545276416 < fx a
  · have g1' : fgt a 4598175219545276416 = true := by rw [fgt_fin fa f4]; exact decide_eq_true g1
    rw [g1', cond_true, cond_true]
    obtain ⟨b1, b2, b3, b4⟩ := sub_range fin_half fa sh sa (d := 4598175219545276416) (by decide) (by omega) (by omega)
    generalize fsub half a = b at *
    by_cases g2 : fx 4593671619917905920 < fx b
    · have g2' : fgt b 4593671619917905920 = true := by rw [fgt_fin b1 f8]; exact decide_eq_true g2
      rw [g2', cond_true, cond_true]
      obtain ⟨c1, c2, c3, c4⟩ := sub_range f4 b1 s4 b2 (d := 4593671619917905920) (by decide) (by omega) (by omega)
      cases flt (wrapP x) 0
      · exact fin c1 c2 (by omega) (.inr ⟨.inr rfl, .inl rfl⟩)
      · exact fin c1 c2 (by omega) (.inr ⟨.inr rfl, .inr rfl⟩)
    · have g2' : fgt b 4593671619917905920 = false := by rw [fgt_fin b1 f8]; exact decide_eq_false g2
      rw [g2', cond_false, cond_false]
      cases flt (wrapP x) 0
      · exact fin b1 b2 (by omega) (.inl ⟨.inr rfl, .inl rfl⟩)
      · exact fin b1 b2 (by omega) (.inl ⟨.inr rfl, .inr rfl⟩)
  · have g1' : fgt a 4598175219545276416 = false := by rw [fgt_fin fa f4]; exact decide_eq_false g1
    rw [g1', cond_false, cond_false]
    by_cases g2 : fx 4593671619917905920 < fx a
    · have g2' : fgt a 4593671619917905920 = true := by rw [fgt_fin fa f8]; exact decide_eq_true g2
      rw [g2', cond_true, cond_true]
      obtain ⟨c1, c2, c3, c4⟩ := sub_range f4 fa s4 sa (d := 4593671619917905920) (by decide) (by omega) (by omega)
      cases flt (wrapP x) 0
      · exact fin c1 c2 (by omega) (.inr ⟨.inl rfl, .inl rfl⟩)
      · exact fin c1 c2 (by omega) (.inr ⟨.inl rfl, .inr rfl⟩)
    · have g2' : fgt a 4593671619917905920 = false := by rw [fgt_fin fa f8]; exact decide_eq_false g2
      rw [g2', cond_false, cond_false]
      cases flt (wrapP x) 0
      · exact fin fa sa (by omega) (.inl ⟨.inl rfl, .inl rfl⟩)
      · exact fin fa sa (by omega) (.inl ⟨.inl rfl, .inr rfl⟩)
/-- The laws' own test: is a magnitude within 2^-49 of 1? -/
theorem near_test {r : Nat} (hf : isFin r = true) (h : Bd (qv r - 1) (8 * eta)) : fle (fabs (fsub r 4607182418800017408)) 4386506037058863104 = true := by
  have hU := UR_pos
  have ho := fx_one
  have eo : fone = 4607182418800017408 := rfl
  have f49 : isFin 4386506037058863104 = true := by decide
  have v49 : (fxr (rg 4386506037058863104) : Int) * 562949953421312 = (U : Int) ∧ (fx 4386506037058863104 : Int) = fxr (rg 4386506037058863104) := by decide +kernel
  have hT : (fx r - fx fone).natAbs ≤ fxr (rg 4386506037058863104) := by
    have h1 : Bd ((fx r - (U : Int) : Int) : Rat) (8 * eta * UR) := by
      rw [Rat.intCast_sub, ← qv_U r]
      show Bd (qv r * UR - UR) _
      have k1 := Rat.mul_le_mul_of_nonneg_right h.1 (c := UR) (by grind)
      have k2 := Rat.mul_le_mul_of_nonneg_right h.2 (c := UR) (by grind)
      constructor <;> grind
    have h2 := abs_cast h1
    have h3 : (((fx r - (U : Int)).natAbs * 562949953421312 : Nat) : Rat) ≤ ((U : Nat) : Rat) := by
      rw [Rat.natCast_mul]
      have e8 : 8 * eta * UR * 562949953421312 = UR := by unfold eta; grind
      have := Rat.mul_le_mul_of_nonneg_right h2 (c := 562949953421312) (by decide)
      show _ * (562949953421312 : Rat) ≤ UR
      grind
    have h4 := Rat.natCast_le_natCast.1 h3
    rw [ho]
    omega
  rw [← eo]
  obtain ⟨r1, r2⟩ := rnd_le (z := sg r && !sg fone) (by decide : rg 4386506037058863104 < 2047 * 2 ^ 52) hT
  rw [← fsub_fin hf fin_one] at r1 r2
  rw [fabs_rg r1, fle_fin (fin_rg r1) f49]
  refine decide_eq_true ?_
  have e := fx_rg (rg_sg (fsub r fone))
  rw [rg_rg] at e
  omega
end Go.Lk
end

section
/- A turn the other way round: the conjugate. -/
namespace Go.Lk
open Ieee (Format Datum)
set_option linter.unusedSimpArgs false
set_option linter.unusedVariables false
set_option maxRecDepth 100000
/-! ### By its magnitude and its sign -/
def turnR (a : Nat) : Nat := bif fgt a 4598175219545276416 then (bif fgt (fsub 4602678819172646912 a) 4593671619917905920 then fadd (aneg false (wEighth_1 (fsub 4598175219545276416 (fsub 4602678819172646912 a)))) 0 else fadd (aneg false (wEighth_0 (fsub 4602678819172646912 a))) 0)
  else (bif fgt a 4593671619917905920 then fadd (wEighth_1 (fsub 4598175219545276416 a)) 0 else fadd (wEighth_0 a) 0)
def turnI (a : Nat) : Nat := bif fgt a 4598175219545276416 then (bif fgt (fsub 4602678819172646912 a) 4593671619917905920 then wEighth_0 (fsub 4598175219545276416 (fsub 4602678819172646912 a)) else wEighth_1 (fsub 4602678819172646912 a))
  else (bif fgt a 4593671619917905920 then wEighth_0 (fsub 4598175219545276416 a) else wEighth_1 a)
theorem turn_form {x : Nat} (h : feq (wrapP x) (wrapP x) = true) : wTurn_0 x = turnR (fabs (wrapP x)) ∧ wTurn_1 x = bif flt (wrapP x) 0 then fadd (aneg false (turnI (fabs (wrapP x)))) 0 else fadd (turnI (fabs (wrapP x))) 0 := by
  unfold wTurn_0 wTurn_1 turnR turnI
  rw [h]
  simp only [cond_true]
  cases fgt (fabs (wrapP x)) 4598175219545276416
  · cases fgt (fabs (wrapP x)) 4593671619917905920 <;> cases flt (wrapP x) 0 <;> simp only [cond_true, cond_false, and_self]
  · cases fgt (fsub 4602678819172646912 (fabs (wrapP x))) 4593671619917905920 <;> cases flt (wrapP x) 0 <;> simp only [cond_true, cond_false, and_self]
theorem canon_eighth (a : Nat) : Canon (wEighth_0 a) ∧ Canon (wEighth_1 a) := by
  have k : Canon 4604544271217802189 := ⟨by decide, fun h => by rw [fin_num half_q.1] at h; cases h⟩
  have e0 : wEighth_0 a = bif feq a 4593671619917905920 then 4604544271217802189 else cosE (fmul (fmul a 4618760256179416344) (fmul a 4618760256179416344)) := by kernel_rfl
  have e1 : wEighth_1 a = bif feq a 4593671619917905920 then 4604544271217802189 else fmul (sinE (fmul (fmul a 4618760256179416344) (fmul a 4618760256179416344))) (fmul a 4618760256179416344) := by kernel_rfl
  rw [e0, e1]
  cases feq a 4593671619917905920
  · simp only [cond_false]
    exact ⟨by unfold cosE; exact Canon.fadd _ _, Canon.fmul _ _⟩
  · exact ⟨k, k⟩
theorem Canon.turnI (a : Nat) : Canon (turnI a) := by
  unfold Lk.turnI
  cases fgt a 4598175219545276416
  · cases fgt a 4593671619917905920
    · exact (canon_eighth _).2
    · exact (canon_eighth _).1
  · cases fgt (Lk.fsub 4602678819172646912 a) 4593671619917905920
    · exact (canon_eighth _).2
    · exact (canon_eighth _).1
theorem rg_of_fx {x y : Nat} (h : (fx x).natAbs = (fx y).natAbs) : rg x = rg y := by rw [fx_abs, fx_abs] at h; exact fxr_inj h
/-! ### A product with the other sign -/
/-! ### Bounds -/
end Go.Lk
end

section
/- Derivatives of functions of rational numbers. -/
namespace Go.Lk
set_option linter.unusedSimpArgs false
set_option linter.unusedVariables false
set_option maxHeartbeats 1000000

theorem rabs_nn (r : Rat) : 0 ≤ rabs r := by
  unfold rabs
  by_cases h : r < 0
  · rw [if_pos h]; grind
  · rw [if_neg h]; grind
/-- f has the derivative f' between a and b; all is bounded. -/
def Df (a b : Rat) (f f' : Rat → Rat) : Prop :=
  ∃ K : Rat, ∀ u v, a ≤ u → u ≤ b → a ≤ v → v ≤ b → Bd (f u) K ∧ Bd (f' u) K ∧ Bd (f u - f v) (K * rabs (u - v)) ∧ Bd (f u - f v - f' v * (u - v)) (K * (rabs (u - v) * rabs (u - v)))
variable {a b : Rat} {f f' g g' : Rat → Rat}
theorem Df.congr (h : Df a b f f') (e : ∀ u, f u = g u) (e' : ∀ u, f' u = g' u) : Df a b g g' := by
  obtain ⟨K, h⟩ := h
  refine ⟨K, fun u v h1 h2 h3 h4 => ?_⟩
  have := h u v h1 h2 h3 h4
  rwa [e, e, e', e'] at this
theorem Df.const (c : Rat) : Df a b (fun _ => c) (fun _ => 0) := by
  refine ⟨rabs c, fun u v _ _ _ _ => ?_⟩
  have k1 := rabs_nn c
  have k2 := rabs_nn (u - v)
  have k3 := Rat.mul_nonneg k1 k2
  have k4 := Rat.mul_nonneg k1 (Rat.mul_nonneg k2 k2)
  refine ⟨bd_rabs c, ⟨by grind, by grind⟩, ⟨by grind, by grind⟩, ⟨by grind, by grind⟩⟩
theorem Df.id (a b : Rat) : Df a b (fun u => u) (fun _ => 1) := by
  refine ⟨rabs a + rabs b + 1, fun u v h1 h2 _ _ => ?_⟩
  have ka := bd_rabs a
  have kb := bd_rabs b
  have k1 := rabs_nn a
  have k2 := rabs_nn b
  have k3 := rabs_nn (u - v)
  have k4 := Rat.mul_nonneg (a := rabs a + rabs b) (b := rabs (u - v)) (by grind) k3
  have k5 := Rat.mul_nonneg (a := rabs a + rabs b + 1) (b := rabs (u - v) * rabs (u - v)) (by grind) (Rat.mul_nonneg k3 k3)
  have k6 := bd_rabs (u - v)
  refine ⟨⟨by have := ka.1; grind, by have := kb.2; grind⟩, ⟨by grind, by grind⟩, ⟨by have := k6.1; grind, by have := k6.2; grind⟩, ⟨by grind, by grind⟩⟩
theorem Df.add (h : Df a b f f') (k : Df a b g g') : Df a b (fun u => f u + g u) (fun u => f' u + g' u) := by
  obtain ⟨K, h⟩ := h
  obtain ⟨L, k⟩ := k
  refine ⟨K + L, fun u v h1 h2 h3 h4 => ?_⟩
  obtain ⟨p1, p2, p3, p4⟩ := h u v h1 h2 h3 h4
  obtain ⟨q1, q2, q3, q4⟩ := k u v h1 h2 h3 h4
  exact ⟨p1.add q1, p2.add q2, ((p3.add q3).of_eq (by grind)).mono (by grind), ((p4.add q4).of_eq (by grind)).mono (by grind)⟩
theorem Df.mul (h : Df a b f f') (k : Df a b g g') : Df a b (fun u => f u * g u) (fun u => f' u * g u + f u * g' u) := by
  obtain ⟨K, h⟩ := h
  obtain ⟨L, k⟩ := k
  refine ⟨3 * (K * L), fun u v h1 h2 h3 h4 => ?_⟩
  obtain ⟨p1, p2, p3, p4⟩ := h u v h1 h2 h3 h4
  obtain ⟨q1, q2, q3, q4⟩ := k u v h1 h2 h3 h4
  obtain ⟨p1', p2', _, _⟩ := h v v h3 h4 h3 h4
  obtain ⟨q1', q2', _, _⟩ := k v v h3 h4 h3 h4
  have hK := p1.nonneg
  have hL := q1.nonneg
  have hKL := Rat.mul_nonneg hK hL
  have hr := rabs_nn (u - v)
  have hb := bd_rabs (u - v)
  have hKr := Rat.mul_nonneg hKL hr
  refine ⟨(p1.mul q1).mono (by grind), ((p2.mul q1).add (p1.mul q2)).mono (by grind), (((p1.mul q3).add (q1'.mul p3)).of_eq (by grind)).mono (by grind), ?_⟩
  exact (((p1.mul q4).add (q1'.mul p4)).add ((p3.mul q2').mul hb) |>.of_eq (by grind)).mono (by grind)
theorem inv_nn {m : Rat} (h : 0 < m) : 0 ≤ m⁻¹ ∧ m * m⁻¹ = 1 := ⟨Rat.le_of_lt (Rat.inv_pos.2 h), Rat.mul_inv_cancel _ (by grind)⟩
/-! ### Polynomials -/
def dl : List Rat → List Rat
  | [] => []
  | _ :: l => padd l (0 :: dl l)
theorem Df.pe (h : Df a b f f') : ∀ l, Df a b (fun u => pe l (f u)) (fun u => Lk.pe (dl l) (f u) * f' u)
  | [] => (Df.const 0).congr (fun _ => rfl) (fun u => by simp only [dl, Lk.pe]; grind)
  | c :: l => ((Df.const c).add (h.mul (Df.pe h l))).congr (fun _ => rfl) (fun u => by simp only [dl, pe_add, Lk.pe]; grind)
/-! ### The mean -/
theorem arch {X E D : Rat} (h : ∀ n : Nat, X ≤ E + D * ((n + 1 : Nat) : Rat)⁻¹) : X ≤ E := by
  rcases Rat.le_total (a := X) (b := E) with h1 | h1
  · exact h1
  by_cases h2 : X = E
  · rw [h2]; exact Rat.le_refl
  have h3 : 0 < X - E := by grind
  obtain ⟨n, hn⟩ : ∃ n : Nat, D < (X - E) * ((n + 1 : Nat) : Rat) := by
    refine ⟨(D / (X - E)).ceil.toNat, ?_⟩
    have h4 : D / (X - E) ≤ (((D / (X - E)).ceil : Int) : Rat) := Rat.le_ceil
    have h5 : (((D / (X - E)).ceil : Int) : Rat) ≤ (((D / (X - E)).ceil.toNat : Nat) : Rat) := by
      have : (D / (X - E)).ceil ≤ ((D / (X - E)).ceil.toNat : Int) := Int.self_le_toNat _
      exact_mod_cast this
    have h6 : D = (X - E) * (D / (X - E)) := (Rat.mul_comm _ _).trans (Rat.div_mul_cancel (by grind)) |>.symm
    have h7 := Rat.mul_le_mul_of_nonneg_left (Rat.le_trans h4 h5) (c := X - E) (by grind)
    have h8 : (((D / (X - E)).ceil.toNat + 1 : Nat) : Rat) = (((D / (X - E)).ceil.toNat : Nat) : Rat) + 1 := by
      exact_mod_cast rfl
    rw [h8]
    grind
  have h4 := h n
  have hp : (0 : Rat) < ((n + 1 : Nat) : Rat) := Rat.natCast_pos.2 (by omega)
  have h5 : ((n + 1 : Nat) : Rat) * ((n + 1 : Nat) : Rat)⁻¹ = 1 := Rat.mul_inv_cancel _ (by grind)
  have h6 := Rat.mul_le_mul_of_nonneg_right h4 (c := ((n + 1 : Nat) : Rat)) (by grind)
  generalize ((n + 1 : Nat) : Rat) = N at *
  have h7 : (E + D * N⁻¹) * N = E * N + D * (N * N⁻¹) := by grind
  rw [h7, h5] at h6
  grind
theorem Df.steps {ε σ : Rat} (h : Df a b f f') (hd : ∀ v, a ≤ v → v ≤ b → Bd (f' v - σ) ε) : ∃ K : Rat, 0 ≤ K ∧ ∀ (t : Rat), 0 ≤ t → ∀ n : Nat, a + (n : Rat) * t ≤ b → Bd (f (a + (n : Rat) * t) - f a - σ * ((n : Rat) * t)) ((n : Rat) * (ε * t + K * (t * t))) := by
  obtain ⟨K, h⟩ := h
  by_cases hab : a ≤ b
  · have hK := (h a a (by grind) hab (by grind) hab).1.nonneg
    refine ⟨K, hK, fun t ht n => ?_⟩
    induction n with
    | zero =>
      intro _
      have e : a + ((0 : Nat) : Rat) * t = a := by
        have : ((0 : Nat) : Rat) = 0 := rfl
        rw [this]; grind
      rw [e]
      have : ((0 : Nat) : Rat) = 0 := rfl
      rw [this]
      exact ⟨by grind, by grind⟩
    | succ n ih =>
      intro hn
      have e : ((n + 1 : Nat) : Rat) = (n : Rat) + 1 := by exact_mod_cast rfl
      rw [e] at hn ⊢
      have hn0 : (0 : Rat) ≤ (n : Rat) := by exact_mod_cast Nat.zero_le n
      have hnt := Rat.mul_nonneg hn0 ht
      have h1 : a + (n : Rat) * t ≤ b := by grind
      have h2 := ih h1
      obtain ⟨_, _, _, h3⟩ := h (a + ((n : Rat) + 1) * t) (a + (n : Rat) * t) (by grind) hn (by grind) h1
      have e2 : a + ((n : Rat) + 1) * t - (a + (n : Rat) * t) = t := by grind
      rw [e2] at h3
      have e3 : rabs t = t := by unfold rabs; rw [if_neg (by grind)]
      rw [e3] at h3
      have h4 := (hd (a + (n : Rat) * t) (by grind) h1).mul (⟨by grind, by grind⟩ : Bd t t)
      exact (((h2.add h4).add h3).of_eq (by grind)).mono (by grind)
  · exact ⟨0, by grind, fun t ht n hn => by
      have hn0 : (0 : Rat) ≤ (n : Rat) := by exact_mod_cast Nat.zero_le n
      have := Rat.mul_nonneg hn0 ht
      exact absurd hn (by grind)⟩
theorem Df.mean {ε σ : Rat} (h : Df a b f f') (hab : a ≤ b) (hd : ∀ v, a ≤ v → v ≤ b → Bd (f' v - σ) ε) : Bd (f b - f a - σ * (b - a)) (ε * (b - a)) := by
  obtain ⟨K, hK, h⟩ := h.steps hd
  have hN : ∀ n : Nat, Bd (f b - f a - σ * (b - a)) (ε * (b - a) + K * ((b - a) * (b - a)) * ((n + 1 : Nat) : Rat)⁻¹) := by
    intro n
    have hp : (0 : Rat) < ((n + 1 : Nat) : Rat) := Rat.natCast_pos.2 (by omega)
    have h5 : ((n + 1 : Nat) : Rat) * ((n + 1 : Nat) : Rat)⁻¹ = 1 := Rat.mul_inv_cancel _ (by grind)
    have h6 : 0 ≤ ((n + 1 : Nat) : Rat)⁻¹ := (inv_nn hp).1
    have h7 := h ((b - a) * ((n + 1 : Nat) : Rat)⁻¹) (Rat.mul_nonneg (by grind) h6) (n + 1)
    generalize ((n + 1 : Nat) : Rat) = N at *
    have e : N * ((b - a) * N⁻¹) = b - a := by
      have : N * ((b - a) * N⁻¹) = (b - a) * (N * N⁻¹) := by grind
      rw [this, h5]; grind
    rw [e, show a + (b - a) = b by grind] at h7
    refine (h7 Rat.le_refl).mono ?_
    have e2 : N * (ε * ((b - a) * N⁻¹) + K * ((b - a) * N⁻¹ * ((b - a) * N⁻¹))) = (ε * (b - a) + K * ((b - a) * (b - a)) * N⁻¹) * (N * N⁻¹) := by grind
    rw [e2, h5]; grind
  refine ⟨?_, arch fun n => (hN n).2⟩
  have := arch (X := -(f b - f a - σ * (b - a))) (E := ε * (b - a)) (D := K * ((b - a) * (b - a))) fun n => by have := (hN n).1; grind
  grind
end Go.Lk
end

section
/- The arctangent's sum of powers, of sine over cosine, is the angle, but for a little. -/
namespace Go.Lk
set_option linter.unusedSimpArgs false
set_option linter.unusedVariables false
set_option maxRecDepth 10000
set_option maxHeartbeats 1000000
/-! ### Sine and cosine -/
def sL : List Rat := 1 :: sinT
def cL : List Rat := 1 :: cosT
def sD (y : Rat) : Rat := pe sL (y * y) + y * (pe (dl sL) (y * y) * (y + y))
def cD (y : Rat) : Rat := pe (dl cL) (y * y) * (y + y)
def sF (y : Rat) : Rat := y * pe sL (y * y)
def cF (y : Rat) : Rat := pe cL (y * y)
theorem Df.sq (a b : Rat) : Df a b (fun y => y * y) (fun y => y + y) := ((Df.id a b).mul (Df.id a b)).congr (fun _ => rfl) (fun u => by grind)
theorem Df.cF (a b : Rat) : Df a b cF cD := (Df.pe (Df.sq a b) cL).congr (fun _ => rfl) (fun _ => rfl)
theorem Df.sF (a b : Rat) : Df a b sF sD := ((Df.id a b).mul (Df.pe (Df.sq a b) sL)).congr (fun _ => rfl) (fun u => by unfold sD; grind)
/-! ### The arctangent -/
end Go.Lk
end

section
/- The arctangent's sum of powers, of sine over cosine and of its complement. -/
namespace Go.Lk
set_option linter.unusedSimpArgs false
set_option linter.unusedVariables false
set_option maxRecDepth 10000
set_option maxHeartbeats 1000000
theorem sq_nn (x : Rat) : 0 ≤ x * x := by
  rcases Rat.le_total (a := 0) (b := x) with h | h
  · exact Rat.mul_nonneg h h
  · have := Rat.mul_nonneg (a := -x) (b := -x) (by grind) (by grind); grind
theorem sqr_le {x y : Rat} (h0 : 0 ≤ x) (h : x ≤ y) : x * x ≤ y * y := by
  have h1 := Rat.mul_le_mul_of_nonneg_left h h0
  have h2 := Rat.mul_le_mul_of_nonneg_right h (c := y) (by grind)
  grind
/-- A whole circle, as the program has it; an eighth. -/
def cir : Rat := 884279719003555 / 140737488355328
def YY : Rat := cir / 8
theorem YY_sq : YY * YY ≤ ZZ := by decide +kernel
theorem low_tail {ζ a : Rat} {l : List Rat} (h0 : 0 ≤ ζ) (h1 : ζ ≤ ZZ) (hl : ZZ * pe (l.map rabs) ZZ ≤ 3 / 100) (ha : a ≤ -(1 / 2)) : pe (a :: l) ζ ≤ -(47 / 100) := by
  have h2 := (Bd.mul (⟨by grind, h1⟩ : Bd ζ ZZ) (pe_bd h0 h1 l)).2
  show a + ζ * pe l ζ ≤ -(47 / 100)
  grind
theorem cosT_bd {ζ : Rat} (h0 : 0 ≤ ζ) (h : ζ ≤ ZZ) : -(527 / 1000) ≤ pe cosT ζ ∧ pe cosT ζ ≤ -(47 / 100) := by
  refine ⟨((pe_bd h0 h cosT).mono (B := 527 / 1000) (by decide +kernel)).1, ?_⟩
  exact low_tail h0 h (by decide +kernel) (by decide +kernel)
theorem sinT_bd {ζ : Rat} (h0 : 0 ≤ ζ) (h : ζ ≤ ZZ) : -(172 / 1000) ≤ pe sinT ζ ∧ pe sinT ζ ≤ 0 := by
  refine ⟨((pe_bd h0 h sinT).mono (B := 172 / 1000) (by decide +kernel)).1, neg_tail h0 h (by decide +kernel) (by decide +kernel)⟩
theorem cs_range {y : Rat} (h0 : 0 ≤ y) (h : y ≤ YY) : 0 ≤ y * y ∧ y * y ≤ ZZ ∧ 1 - (527 / 1000) * (y * y) ≤ cF y ∧ cF y ≤ 1 - (47 / 100) * (y * y) ∧ (89 / 100) * y ≤ sF y ∧ sF y ≤ y ∧ 6 / 10 ≤ cF y := by
  have h1 := sq_nn y
  have h2 := Rat.le_trans (sqr_le h0 h) YY_sq
  obtain ⟨c1, c2⟩ := cosT_bd h1 h2
  obtain ⟨s1, s2⟩ := sinT_bd h1 h2
  have ec : cF y = 1 + (y * y) * pe cosT (y * y) := rfl
  have es : sF y = y * (1 + (y * y) * pe sinT (y * y)) := rfl
  have hz : ZZ ≤ 617 / 1000 := by decide +kernel
  generalize pe cosT (y * y) = C at *
  generalize pe sinT (y * y) = S at *
  have k1 := Rat.mul_nonneg h1 (show 0 ≤ C + 527 / 1000 by grind)
  have k2 := Rat.mul_nonneg h1 (show 0 ≤ -(47 / 100) - C by grind)
  have k3 := Rat.mul_nonneg h1 (show 0 ≤ S + 172 / 1000 by grind)
  have k4 := Rat.mul_nonneg h0 (Rat.mul_nonneg h1 (show 0 ≤ -S by grind))
  have k5 := Rat.mul_nonneg h0 (show 0 ≤ (y * y) * (S + 172 / 1000) + (172 / 1000) * (617 / 1000 - y * y) by grind)
  rw [ec, es]
  refine ⟨h1, h2, by grind, by grind, by grind, by grind, by grind⟩
end Go.Lk
end

section
/- Unit; the document's; equal floats. -/
namespace Go.Lk
open Go.Proofs
set_option maxRecDepth 100000
set_option maxHeartbeats 0
set_option linter.unusedVariables false
set_option linter.unusedSimpArgs false
def sTurn : PureFn
  | [.float .f64 x] => some (.complex .f64 (wTurn_0 x) (wTurn_1 x))
  | _ => none
theorem sTurn_ok : IsPure Try.prog false 36 sTurn := by
  intro args v σ h
  unfold sTurn at h
  split at h
  · cases h; exact wTurn_ok _ σ
  · cases h
noncomputable def t6 : Tab := (t5.addP 36 sTurn)
theorem t6_ok : t6.Ok Try.prog false := (Tab.Ok.addP t5_ok sTurn_ok)
noncomputable def L6 : Lib := ⟨Try.prog, false, t6, [(181, Try.f181), (160, Try.f160), (55, Try.f55), (33, Try.f33), (128, Try.f128), (207, Try.f207), (122, Try.f122), (135, Try.f135)], []⟩
theorem L6_fp : ∀ e, e ∈ L6.pures → Try.prog.funcs[e.1]? = some e.2 := fs_cons Try.func181 (fs_cons Try.func160 (fs_cons Try.func55 (fs_cons Try.func33 (fs_cons Try.func128 (fs_cons Try.func207 (fs_cons Try.func122 (fs_cons Try.func135 (fs_nil))))))))
theorem L6_fh : ∀ e, e ∈ L6.heaps → Try.prog.funcs[e.1]? = some e.2.2 := gs_nil
theorem L6_p1 (gp : Nat → PureFn) (g : Nat → HeapFn) : (L6.pures.all fun e => fnOk (L6.mk' gp g) e.2) = true := by kernel_rfl
theorem L6_h1 (gp : Nat → PureFn) (g : Nat → HeapFn) : (L6.heaps.all fun e => fnOk (L6.mk' gp g) e.2.2 && (!e.2.1 || fnRo (L6.mk' gp g) e.2.2)) = true := by kernel_rfl
theorem L6_ok : L6.Ok := ⟨t6_ok, mixed, L6_fp, L6_fh, L6_p1, L6_h1⟩
noncomputable def dL6 : Cfg := L6.cfg 100 4
theorem dL6_ok : dL6.Ok := L6_ok.cfg 100 4

theorem wUnit_fok : fnOk (dL6) Try.f37 = true := by kernel_rfl
theorem wUnit_p0 (k : Int) (n : Int) (σ : AHeap) (h0 : (decide (n < 1)) = true) : CallR Try.prog false 37 [Value.int .i64 k, Value.int .i64 n] σ (Value.complex .f64 0 0) σ := CallR.of_DO_pure (C := dL6) dL6_ok Try.func37 wUnit_fok (n := 100) (orc := [(6, Item.br true)]) (ps := [(bP (decide (n < 1)) true)]) (σ1 := []) (by kernel_rfl) ⟨bP_of (fun x => x) h0, trivial⟩ rfl rfl
theorem wUnit_p1 (k : Int) (n : Int) (σ : AHeap) (h0 : (decide (n < 1)) = false) (h1 : (decide (k.tmod n < 0)) = true) (h2 : (decide (IntKind.i64.wrap (k.tmod n + n) > IntKind.i64.wrap (n - IntKind.i64.wrap (k.tmod n + n)))) = true) : CallR Try.prog false 37 [Value.int .i64 k, Value.int .i64 n] σ (Value.complex .f64 (wTurn_0 (fdiv (FloatKind.f64.nearest (IntKind.i64.wrap (IntKind.i64.wrap (k.tmod n + n) - n))) (FloatKind.f64.nearest n))) (wTurn_1 (fdiv (FloatKind.f64.nearest (IntKind.i64.wrap (IntKind.i64.wrap (k.tmod n + n) - n))) (FloatKind.f64.nearest n)))) σ := CallR.of_DO_pure (C := dL6) dL6_ok Try.func37 wUnit_fok (n := 100) (orc := [(6, Item.br false), (12, Item.res (Value.int .i64 (k.tmod n))), (19, Item.br true), (38, Item.br true)]) (ps := [(bP (decide (n < 1)) false), (qF (Value.int .i64 (k.tmod n)) ([]) (n) = some (Value.int .i64 (k.tmod n), [])), (bP (decide (k.tmod n < 0)) true), (bP (decide (IntKind.i64.wrap (k.tmod n + n) > IntKind.i64.wrap (n - IntKind.i64.wrap (k.tmod n + n)))) true)]) (σ1 := []) (by kernel_rfl) ⟨bP_of (fun x => x) h0, ⟨qF_ok _ _ (by try simp only [decide_eq_true_eq, decide_eq_false_iff_not, Int.not_lt, Int.not_le] at *; omega), ⟨bP_of (fun x => x) h1, ⟨bP_of (fun x => x) h2, trivial⟩⟩⟩⟩ rfl rfl
theorem wUnit_p2 (k : Int) (n : Int) (σ : AHeap) (h0 : (decide (n < 1)) = false) (h1 : (decide (k.tmod n < 0)) = true) (h2 : (decide (IntKind.i64.wrap (k.tmod n + n) > IntKind.i64.wrap (n - IntKind.i64.wrap (k.tmod n + n)))) = false) : CallR Try.prog false 37 [Value.int .i64 k, Value.int .i64 n] σ (Value.complex .f64 (wTurn_0 (fdiv (FloatKind.f64.nearest (IntKind.i64.wrap (k.tmod n + n))) (FloatKind.f64.nearest n))) (wTurn_1 (fdiv (FloatKind.f64.nearest (IntKind.i64.wrap (k.tmod n + n))) (FloatKind.f64.nearest n)))) σ := CallR.of_DO_pure (C := dL6) dL6_ok Try.func37 wUnit_fok (n := 100) (orc := [(6, Item.br false), (12, Item.res (Value.int .i64 (k.tmod n))), (19, Item.br true), (38, Item.br false)]) (ps := [(bP (decide (n < 1)) false), (qF (Value.int .i64 (k.tmod n)) ([]) (n) = some (Value.int .i64 (k.tmod n), [])), (bP (decide (k.tmod n < 0)) true), (bP (decide (IntKind.i64.wrap (k.tmod n + n) > IntKind.i64.wrap (n - IntKind.i64.wrap (k.tmod n + n)))) false)]) (σ1 := []) (by kernel_rfl) ⟨bP_of (fun x => x) h0, ⟨qF_ok _ _ (by try simp only [decide_eq_true_eq, decide_eq_false_iff_not, Int.not_lt, Int.not_le] at *; omega), ⟨bP_of (fun x => x) h1, ⟨bP_of (fun x => x) h2, trivial⟩⟩⟩⟩ rfl rfl
theorem wUnit_p3 (k : Int) (n : Int) (σ : AHeap) (h0 : (decide (n < 1)) = false) (h1 : (decide (k.tmod n < 0)) = false) (h2 : (decide (k.tmod n > IntKind.i64.wrap (n - k.tmod n))) = true) : CallR Try.prog false 37 [Value.int .i64 k, Value.int .i64 n] σ (Value.complex .f64 (wTurn_0 (fdiv (FloatKind.f64.nearest (IntKind.i64.wrap (k.tmod n - n))) (FloatKind.f64.nearest n))) (wTurn_1 (fdiv (FloatKind.f64.nearest (IntKind.i64.wrap (k.tmod n - n))) (FloatKind.f64.nearest n)))) σ := CallR.of_DO_pure (C := dL6) dL6_ok Try.func37 wUnit_fok (n := 100) (orc := [(6, Item.br false), (12, Item.res (Value.int .i64 (k.tmod n))), (19, Item.br false), (30, Item.br true)]) (ps := [(bP (decide (n < 1)) false), (qF (Value.int .i64 (k.tmod n)) ([]) (n) = some (Value.int .i64 (k.tmod n), [])), (bP (decide (k.tmod n < 0)) false), (bP (decide (k.tmod n > IntKind.i64.wrap (n - k.tmod n))) true)]) (σ1 := []) (by kernel_rfl) ⟨bP_of (fun x => x) h0, ⟨qF_ok _ _ (by try simp only [decide_eq_true_eq, decide_eq_false_iff_not, Int.not_lt, Int.not_le] at *; omega), ⟨bP_of (fun x => x) h1, ⟨bP_of (fun x => x) h2, trivial⟩⟩⟩⟩ rfl rfl
theorem wUnit_p4 (k : Int) (n : Int) (σ : AHeap) (h0 : (decide (n < 1)) = false) (h1 : (decide (k.tmod n < 0)) = false) (h2 : (decide (k.tmod n > IntKind.i64.wrap (n - k.tmod n))) = false) : CallR Try.prog false 37 [Value.int .i64 k, Value.int .i64 n] σ (Value.complex .f64 (wTurn_0 (fdiv (FloatKind.f64.nearest (k.tmod n)) (FloatKind.f64.nearest n))) (wTurn_1 (fdiv (FloatKind.f64.nearest (k.tmod n)) (FloatKind.f64.nearest n)))) σ := CallR.of_DO_pure (C := dL6) dL6_ok Try.func37 wUnit_fok (n := 100) (orc := [(6, Item.br false), (12, Item.res (Value.int .i64 (k.tmod n))), (19, Item.br false), (30, Item.br false)]) (ps := [(bP (decide (n < 1)) false), (qF (Value.int .i64 (k.tmod n)) ([]) (n) = some (Value.int .i64 (k.tmod n), [])), (bP (decide (k.tmod n < 0)) false), (bP (decide (k.tmod n > IntKind.i64.wrap (n - k.tmod n))) false)]) (σ1 := []) (by kernel_rfl) ⟨bP_of (fun x => x) h0, ⟨qF_ok _ _ (by try simp only [decide_eq_true_eq, decide_eq_false_iff_not, Int.not_lt, Int.not_le] at *; omega), ⟨bP_of (fun x => x) h1, ⟨bP_of (fun x => x) h2, trivial⟩⟩⟩⟩ rfl rfl
def wUnit_t (k : Int) (n : Int) : Value := (bif decide (n < 1) then (Value.complex .f64 0 0) else (bif decide (k.tmod n < 0) then (bif decide (IntKind.i64.wrap (k.tmod n + n) > IntKind.i64.wrap (n - IntKind.i64.wrap (k.tmod n + n))) then (Value.complex .f64 (wTurn_0 (fdiv (FloatKind.f64.nearest (IntKind.i64.wrap (IntKind.i64.wrap (k.tmod n + n) - n))) (FloatKind.f64.nearest n))) (wTurn_1 (fdiv (FloatKind.f64.nearest (IntKind.i64.wrap (IntKind.i64.wrap (k.tmod n + n) - n))) (FloatKind.f64.nearest n)))) else (Value.complex .f64 (wTurn_0 (fdiv (FloatKind.f64.nearest (IntKind.i64.wrap (k.tmod n + n))) (FloatKind.f64.nearest n))) (wTurn_1 (fdiv (FloatKind.f64.nearest (IntKind.i64.wrap (k.tmod n + n))) (FloatKind.f64.nearest n))))) else (bif decide (k.tmod n > IntKind.i64.wrap (n - k.tmod n)) then (Value.complex .f64 (wTurn_0 (fdiv (FloatKind.f64.nearest (IntKind.i64.wrap (k.tmod n - n))) (FloatKind.f64.nearest n))) (wTurn_1 (fdiv (FloatKind.f64.nearest (IntKind.i64.wrap (k.tmod n - n))) (FloatKind.f64.nearest n)))) else (Value.complex .f64 (wTurn_0 (fdiv (FloatKind.f64.nearest (k.tmod n)) (FloatKind.f64.nearest n))) (wTurn_1 (fdiv (FloatKind.f64.nearest (k.tmod n)) (FloatKind.f64.nearest n)))))))
theorem wUnit_c (k : Int) (n : Int) (σ : AHeap) : CallR Try.prog false 37 [Value.int .i64 k,
  Value.int .i64 n] σ (wUnit_t k n) σ := by
  unfold wUnit_t
  exact (CallR.bif (fun h0 => (wUnit_p0 k n σ h0)) (fun h0 => (CallR.bif (fun h1 => (CallR.bif (fun h2 => (wUnit_p1 k n σ h0 h1 h2)) (fun h2 => (wUnit_p2 k n σ h0 h1 h2)))) (fun h1 => (CallR.bif (fun h2 => (wUnit_p3 k n σ h0 h1 h2)) (fun h2 => (wUnit_p4 k n σ h0 h1 h2)))))))
def wUnit_0 (k : Int) (n : Int) : Nat := (bif decide (n < 1) then 0 else (bif decide (k.tmod n < 0) then (bif decide (IntKind.i64.wrap (k.tmod n + n) > IntKind.i64.wrap (n - IntKind.i64.wrap (k.tmod n + n))) then wTurn_0 (fdiv (FloatKind.f64.nearest (IntKind.i64.wrap (IntKind.i64.wrap (k.tmod n + n) - n))) (FloatKind.f64.nearest n)) else wTurn_0 (fdiv (FloatKind.f64.nearest (IntKind.i64.wrap (k.tmod n + n))) (FloatKind.f64.nearest n))) else (bif decide (k.tmod n > IntKind.i64.wrap (n - k.tmod n)) then wTurn_0 (fdiv (FloatKind.f64.nearest (IntKind.i64.wrap (k.tmod n - n))) (FloatKind.f64.nearest n)) else wTurn_0 (fdiv (FloatKind.f64.nearest (k.tmod n)) (FloatKind.f64.nearest n)))))
def wUnit_1 (k : Int) (n : Int) : Nat := (bif decide (n < 1) then 0 else (bif decide (k.tmod n < 0) then (bif decide (IntKind.i64.wrap (k.tmod n + n) > IntKind.i64.wrap (n - IntKind.i64.wrap (k.tmod n + n))) then wTurn_1 (fdiv (FloatKind.f64.nearest (IntKind.i64.wrap (IntKind.i64.wrap (k.tmod n + n) - n))) (FloatKind.f64.nearest n)) else wTurn_1 (fdiv (FloatKind.f64.nearest (IntKind.i64.wrap (k.tmod n + n))) (FloatKind.f64.nearest n))) else (bif decide (k.tmod n > IntKind.i64.wrap (n - k.tmod n)) then wTurn_1 (fdiv (FloatKind.f64.nearest (IntKind.i64.wrap (k.tmod n - n))) (FloatKind.f64.nearest n)) else wTurn_1 (fdiv (FloatKind.f64.nearest (k.tmod n)) (FloatKind.f64.nearest n)))))
theorem wUnit_v (k : Int) (n : Int) : wUnit_t k n = Go.Value.complex Go.FloatKind.f64 (wUnit_0 k n) (wUnit_1 k n) := by
  unfold wUnit_t wUnit_0 wUnit_1
  cases (decide (n < 1)) with
  | true =>
    kernel_rfl
  | false =>
    cases (decide (k.tmod n < 0)) with
    | true =>
      cases (decide (IntKind.i64.wrap (k.tmod n + n) > IntKind.i64.wrap (n - IntKind.i64.wrap (k.tmod n + n)))) with
      | true =>
        kernel_rfl
      | false =>
        kernel_rfl
    | false =>
      cases (decide (k.tmod n > IntKind.i64.wrap (n - k.tmod n))) with
      | true =>
        kernel_rfl
      | false =>
        kernel_rfl
theorem wUnit_ok (k : Int) (n : Int) (σ : AHeap) : CallR Try.prog false 37 [Value.int .i64 k,
  Value.int .i64 n] σ (Go.Value.complex Go.FloatKind.f64 (wUnit_0 k n) (wUnit_1 k n)) σ := by
  have h := wUnit_c k n σ
  rw [wUnit_v] at h
  exact h
def sUnit : PureFn
  | [.int .i64 k, .int .i64 n] => some (.complex .f64 (wUnit_0 k n) (wUnit_1 k n))
  | _ => none
theorem sUnit_ok : IsPure Try.prog false 37 sUnit := by
  intro args v σ h
  unfold sUnit at h
  split at h
  · cases h; exact wUnit_ok _ _ σ
  · cases h
noncomputable def t7 : Tab := (t6.addP 37 sUnit)
theorem t7_ok : t7.Ok Try.prog false := (Tab.Ok.addP t6_ok sUnit_ok)
noncomputable def t8 : Tab := t7
theorem t8_ok : t8.Ok Try.prog false := t7_ok
end Go.Lk
end

section
/- The sign turned over, by the words. -/
namespace Go.Lk
open Go.Proofs
set_option maxRecDepth 100000
set_option maxHeartbeats 0
set_option linter.unusedVariables false
set_option linter.unusedSimpArgs false
end Go.Lk
end

section
/- Angles, magnitudes; the document's. -/
namespace Go.Lk
open Go.Proofs
set_option maxRecDepth 100000
set_option maxHeartbeats 0
set_option linter.unusedVariables false
set_option linter.unusedSimpArgs false
end Go.Lk
end

section
/- The program's sine, cosine and arctangent, as floats. -/
namespace Go.Lk
set_option linter.unusedSimpArgs false
set_option linter.unusedVariables false
set_option maxRecDepth 10000
set_option maxHeartbeats 1000000
theorem pe_lip {Z u v e : Rat} (l : List Rat) (h0 : 0 ≤ u) (h1 : u ≤ Z) (k0 : 0 ≤ v) (k1 : v ≤ Z) (h : Bd (u - v) e) : Bd (pe l u - pe l v) (pe ((dl l).map rabs) Z * e) := by
  have hD : 0 ≤ pe ((dl l).map rabs) Z := (pe_bd h0 h1 (dl l)).nonneg
  have go : ∀ {u v : Rat}, 0 ≤ u → v ≤ Z → u ≤ v → Bd (pe l v - pe l u) (pe ((dl l).map rabs) Z * (v - u)) := by
    intro u v h0 k1 huv
    have m := ((Df.id u v).pe l).mean (σ := 0) (ε := pe ((dl l).map rabs) Z) huv (fun w h1 h2 => by
      exact (pe_bd (show 0 ≤ w by grind) (show w ≤ Z by grind) (dl l)).of_eq (by grind))
    exact m.of_eq (by grind)
  rcases Rat.le_total (a := u) (b := v) with huv | huv
  · have h2 := Rat.mul_le_mul_of_nonneg_left (show v - u ≤ e by have := h.1; grind) hD
    exact ((go h0 k1 huv).neg.of_eq (by grind)).mono h2
  · have h2 := Rat.mul_le_mul_of_nonneg_left (show u - v ≤ e by have := h.2; grind) hD
    exact (go k0 h1 huv).mono h2
theorem sg_mul {x y : Nat} (hx : isFin x = true) (hy : isFin y = true) (hs : sg x = sg y) : sg (fmul x y) = false := by
  obtain ⟨r, e, hr⟩ := fmul_near hx hy
  rw [e, sg_wd (by have := hr.1; unfold infR at this; omega), hs, Bool.xor_self]
theorem cir_q : qv 4618760256179416344 = cir := circ_q.2
theorem cir_le : cir ≤ 6283185308 / 1000000000 ∧ 6283185307 / 1000000000 ≤ cir ∧ YY = cir * (1 / 8) ∧ ZZ ≤ 617 / 1000 := by decide +kernel
/-- An eighth: how near its two numbers are. -/
theorem eighth_cs0 {a : Nat} (ha : isFin a = true) (sa : sg a = false) (h8 : qv a ≤ 1 / 8) :
    Bd (qv (cosE (fmul (fmul a 4618760256179416344) (fmul a 4618760256179416344))) - cF (qv a * cir)) (4 * eta) ∧
    Bd (qv (fmul (sinE (fmul (fmul a 4618760256179416344) (fmul a 4618760256179416344))) (fmul a 4618760256179416344)) - sF (qv a * cir)) (4 * eta) := by
  obtain ⟨t1, t2, t3, t4⟩ := eta_small
  obtain ⟨c1, c2⟩ := circ_q
  obtain ⟨r1, r2, r3, r4⟩ := cir_le
  have na := (qv_nn sa).2
  have k1 := Rat.mul_nonneg na (show 0 ≤ cir by grind)
  have k2 := Rat.mul_le_mul_of_nonneg_right h8 (c := cir) (by grind)
  have hYY : qv a * cir ≤ YY := by grind
  have hac : Bd (qv a * qv 4618760256179416344) (785398163398 / 1000000000000) := by
    rw [cir_q]
    have k3 : (1 / 8 : Rat) * cir ≤ 785398163398 / 1000000000000 := by decide +kernel
    constructor <;> grind
  obtain ⟨y1, y2⟩ := mul_q ha c1 hac (by decide +kernel)
  rw [cir_q] at y2 hac
  have sy : sg (fmul a 4618760256179416344) = false := sg_mul ha c1 (by rw [sa]; rfl)
  generalize fmul a 4618760256179416344 = y at *
  have ny := (qv_nn sy).2
  have hy : qv y ≤ 78539817 / 100000000 := by
    have h1 := hac.2
    have h2 := y2.2
    have h3 : 785398163398 / 1000000000000 * eta + tau ≤ 1 / 1000000000 := by decide +kernel
    grind
  have by' : Bd (qv y) (78539817 / 100000000) := ⟨by grind, hy⟩
  have hyy := by'.mul by'
  obtain ⟨z1, z2⟩ := mul_q y1 y1 hyy (by decide +kernel)
  have sz : sg (fmul y y) = false := sg_mul y1 y1 rfl
  generalize fmul y y = z at *
  have nz := (qv_nn sz).2
  have hz : qv z ≤ ZZ := by
    have h1 := hyy.2
    have h2 := z2.2
    have h3 : (78539817 / 100000000 : Rat) * (78539817 / 100000000) + (78539817 / 100000000 * (78539817 / 100000000) * eta + tau) ≤ ZZ := by decide +kernel
    grind
  obtain ⟨C1, C2, C3, C4, C5⟩ := cosE_err z1 nz hz
  obtain ⟨S1, S2, S3, S4, S5⟩ := sinE_err z1 nz hz
  obtain ⟨w1, w2, w3, w4, w5, w6, w7⟩ := cs_range k1 hYY
  generalize qv a * cir = α at *
  -- the squares
  have bα : Bd α (786 / 1000) := ⟨by grind, by have := hac.2; grind⟩
  have hsq : Bd (qv y * qv y - α * α) ((785398163398 / 1000000000000 * eta + tau) * (78539817 / 100000000 + 786 / 1000)) := (y2.mul (by'.add bα)).of_eq (by grind)
  have hdz : Bd (qv z - α * α) (19 / 10 * eta) := ((z2.add hsq).of_eq (by grind)).mono (by decide +kernel)
  have lc := (pe_lip (Z := ZZ) cL nz hz w1 w2 hdz).mono (B := 12 / 10 * eta) (by decide +kernel)
  have ls := (pe_lip (Z := ZZ) sL nz hz w1 w2 hdz).mono (B := 5 / 10 * eta) (by decide +kernel)
  constructor
  · exact ((C2.add lc).of_eq (by show qv (cosE z) - pe cL (qv z) + _ = _; unfold cF; grind)).mono (by grind)
  · have dS : Bd (qv (sinE z) - pe sL (α * α)) (1220 / 1000 * eta + 5 / 10 * eta) := (S2.add ls).of_eq (by show qv (sinE z) - pe sL (qv z) + _ = _; grind)
    have bS0 : Bd (pe sL (qv z)) 1 := ⟨by show -1 ≤ sinR (qv z); grind, S4⟩
    have bS2 : Bd (qv (sinE z)) (1 + 1220 / 1000 * eta) := (bS0.add S2).of_eq (by show pe sL (qv z) + (qv (sinE z) - pe sL (qv z)) = _; grind)
    have bSα : Bd (pe sL (α * α)) (1 + 5 / 10 * eta) := (bS0.sub ls).of_eq (by grind)
    obtain ⟨s1, s2⟩ := mul_q S1 y1 (bS2.mul by') (by decide +kernel)
    have e1 := dS.mul by'
    have e2 := bSα.mul y2
    exact (((s2.add e1).add e2).of_eq (by unfold sF; grind)).mono (by decide +kernel)
theorem YY_near : Bd (6369051672525773 / 9007199254740992 - cF YY) (4 * eta) ∧ Bd (6369051672525773 / 9007199254740992 - sF YY) (4 * eta) := ⟨⟨by decide +kernel, by decide +kernel⟩, ⟨by decide +kernel, by decide +kernel⟩⟩
theorem oct_q : isFin 4593671619917905920 = true ∧ qv 4593671619917905920 = 1 / 8 := ⟨by decide, (qv_const (n := 1) (d := 8) (by decide) (by decide +kernel)).trans (by decide +kernel)⟩
theorem oct_eq {a : Nat} (ha : isFin a = true) (h : feq a 4593671619917905920 = true) : qv a = 1 / 8 := by
  rw [feq_fin ha oct_q.1] at h
  have h1 := of_decide_eq_true h
  have h2 : qv a = qv 4593671619917905920 := congrArg (fun z : Int => (z : Rat) / UR) h1
  exact h2.trans oct_q.2
theorem oct_cir {a : Nat} (h : qv a = 1 / 8) : qv a * cir = YY := by
  have := cir_le.2.2.1
  rw [h, this]; grind
theorem eighth_0 (a : Nat) : wEighth_0 a = bif feq a 4593671619917905920 then 4604544271217802189 else cosE (fmul (fmul a 4618760256179416344) (fmul a 4618760256179416344)) := by kernel_rfl
theorem eighth_1 (a : Nat) : wEighth_1 a = bif feq a 4593671619917905920 then 4604544271217802189 else fmul (sinE (fmul (fmul a 4618760256179416344) (fmul a 4618760256179416344))) (fmul a 4618760256179416344) := by kernel_rfl
theorem eighth_cs {a : Nat} (ha : isFin a = true) (sa : sg a = false) (h8 : qv a ≤ 1 / 8) :
    Bd (qv (wEighth_0 a) - cF (qv a * cir)) (4 * eta) ∧ Bd (qv (wEighth_1 a) - sF (qv a * cir)) (4 * eta) := by
  rw [eighth_0, eighth_1]
  generalize h : feq a 4593671619917905920 = b
  cases b with
  | false =>
    rw [cond_false, cond_false]
    exact eighth_cs0 ha sa h8
  | true =>
    rw [cond_true, cond_true, oct_cir (oct_eq ha h), half_q.2]
    exact YY_near
end Go.Lk
end

section
/- The arctangent, as the program reckons it. -/
namespace Go.Lk
set_option linter.unusedSimpArgs false
set_option linter.unusedVariables false
set_option maxRecDepth 10000
set_option maxHeartbeats 1000000
theorem sg_of_pos {x : Nat} (hx : isFin x = true) (h : 0 < qv x) : sg x = false := by
  cases hs : sg x with
  | false => rfl
  | true =>
    have h1 := qv_U x
    have h2 : fx x ≤ 0 := by unfold fx sgn; rw [hs]; simp
    have h3 : ((fx x : Int) : Rat) ≤ 0 := by exact_mod_cast h2
    have h4 := Rat.mul_pos h UR_pos
    grind
end Go.Lk
end

section
/- The arctangent, as the program reckons it, of a slope near sine over cosine. -/
namespace Go.Lk
set_option linter.unusedSimpArgs false
set_option linter.unusedVariables false
set_option maxRecDepth 10000
set_option maxHeartbeats 1000000
theorem qv_le_fx {x y : Nat} (h : qv x ≤ qv y) : fx x ≤ fx y := by
  have h1 := Rat.mul_le_mul_of_nonneg_right h (c := UR) (Rat.le_of_lt UR_pos)
  rw [qv_U, qv_U] at h1
  exact Rat.intCast_le_intCast.1 h1
theorem sg_sub {x y : Nat} (hx : isFin x = true) (hy : isFin y = true) (sx : sg x = false) (h : qv y ≤ qv x) : sg (fsub x y) = false := by
  rw [fsub_fin hx hy, sx, Bool.false_and]
  have := qv_le_fx h
  unfold rnd
  split
  · decide
  · rw [sg_wd (rung_lt _)]
    exact decide_eq_false (by omega)
/-- The other slope, as a float. -/
theorem other {q : Nat} (hq : isFin q = true) (sq : sg q = false) (h1 : qv q ≤ 1) (h2 : 41421356 / 100000000 ≤ qv q) :
    isFin (fdiv (fsub 4607182418800017408 q) (fadd 4607182418800017408 q)) = true ∧ sg (fdiv (fsub 4607182418800017408 q) (fadd 4607182418800017408 q)) = false ∧
    Bd (qv (fdiv (fsub 4607182418800017408 q) (fadd 4607182418800017408 q)) * (1 + qv q) - (1 - qv q)) (6 * eta) ∧ qv (fdiv (fsub 4607182418800017408 q) (fadd 4607182418800017408 q)) ≤ 45 / 100 := by
  obtain ⟨t1, t2, t3, t4⟩ := eta_small
  obtain ⟨o1, o2⟩ := one_q
  have bu : Bd (qv 4607182418800017408 - qv q) 1 := by rw [o2]; exact ⟨by grind, by grind⟩
  have bv : Bd (qv 4607182418800017408 + qv q) 2 := by rw [o2]; exact ⟨by grind, by grind⟩
  obtain ⟨u1, u2⟩ := sub_q o1 hq bu (by decide +kernel)
  obtain ⟨v1, v2⟩ := add_q o1 hq bv (by decide +kernel)
  have su := sg_sub o1 hq (by decide) (by rw [o2]; exact h1)
  rw [o2] at u2 v2
  generalize fsub 4607182418800017408 q = u at *
  generalize fadd 4607182418800017408 q = v at *
  generalize qv q = Q at *
  have nu := (qv_nn su).2
  have hu : qv u ≤ 586 / 1000 := by have := u2.2; grind
  have hv : 1414 / 1000 ≤ qv v := by have := v2.1; grind
  have hv2 : qv v ≤ 3 := by have := v2.2; grind
  have sv := sg_of_pos v1 (by grind)
  obtain ⟨d1, d2, d3⟩ := div_q u1 v1 su sv (by grind) (by grind)
  have nd := (qv_nn d2).2
  generalize fdiv u v = w at *
  have kt : tau * qv v ≤ tau * 3 := Rat.mul_le_mul_of_nonneg_left hv2 t3
  have ku : qv u * eta ≤ 586 / 1000 * eta := Rat.mul_le_mul_of_nonneg_right hu t1
  have hw : qv w ≤ 45 / 100 := by
    refine Rat.not_lt.1 fun hlt => ?_
    have k1 := Rat.mul_le_mul_of_nonneg_left hv (c := qv w) (by grind)
    have := d3.2
    grind
  have bw : Bd (qv w) (45 / 100) := ⟨by grind, hw⟩
  have e1 := bw.mul v2
  have hs := ((d3.sub e1).add u2).of_eq (s := qv w * (1 + Q) - (1 - Q)) (by grind)
  refine ⟨d1, d2, hs.mono ?_, hw⟩
  clear hs e1 d3 u2 v2 bu bv bw
  grind
end Go.Lk
end

section
/- The angle in the first eighth, from two sides that are near its cosine and sine. -/
namespace Go.Lk
set_option linter.unusedSimpArgs false
set_option linter.unusedVariables false
set_option maxRecDepth 10000
set_option maxHeartbeats 1000000
theorem le_cancel {r x z : Rat} (hr : 0 < r) (h : r * x ≤ r * z) : x ≤ z := Rat.not_lt.1 fun h2 => by have := Rat.mul_lt_mul_of_pos_left h2 hr; grind
end Go.Lk
end

section
/- The angle in the first quarter. -/
namespace Go.Lk
set_option linter.unusedSimpArgs false
set_option linter.unusedVariables false
set_option maxRecDepth 10000
set_option maxHeartbeats 1000000
end Go.Lk
end

section
/- Angles and magnitudes of numbers; the document's. -/
namespace Go.Lk
open Go.Proofs
set_option maxRecDepth 100000
set_option maxHeartbeats 0
set_option linter.unusedVariables false
set_option linter.unusedSimpArgs false
end Go.Lk
end

section
/- Angles of any two sides. -/
namespace Go.Lk
set_option linter.unusedSimpArgs false
set_option linter.unusedVariables false
set_option maxRecDepth 10000
set_option maxHeartbeats 1000000
def Sides (a b : Nat) (β r e : Rat) : Prop := 0 ≤ β ∧ β ≤ 1 / 4 ∧
  ((β ≤ 1 / 8 ∧ Bd (qv (rg a) - r * cF (β * cir)) (r * e) ∧ Bd (qv (rg b) - r * sF (β * cir)) (r * e)) ∨
   (1 / 8 ≤ β ∧ Bd (qv (rg a) - r * sF ((1 / 4 - β) * cir)) (r * e) ∧ Bd (qv (rg b) - r * cF ((1 / 4 - β) * cir)) (r * e)))
theorem cs_q {β : Rat} (h0 : 0 ≤ β) (h1 : β ≤ 1 / 8) : 0 ≤ β * cir ∧ β * cir ≤ YY ∧ 55 / 10 * β ≤ sF (β * cir) ∧ 6 / 10 ≤ cF (β * cir) ∧ sF (β * cir) ≤ 786 / 1000 ∧ cF (β * cir) ≤ 1 := by
  obtain ⟨r1, r2, r3, r4⟩ := cir_le
  have y0 := Rat.mul_nonneg h0 (show 0 ≤ cir by grind)
  have y1 : β * cir ≤ YY := by have := Rat.mul_le_mul_of_nonneg_right h1 (c := cir) (by grind); grind
  obtain ⟨q1, q2, q3, q4, q5, q6, q7⟩ := cs_range y0 y1
  have hY : YY ≤ 786 / 1000 := by decide +kernel
  have := Rat.mul_nonneg h0 (show 0 ≤ cir - 628 / 100 by grind)
  exact ⟨y0, y1, by grind, q7, by grind, by grind⟩
/-- No second side: no angle. -/
theorem Sides.flat {a b : Nat} {β r e : Rat} (h : Sides a b β r e) (hr : 0 < r) (he : e ≤ 1 / 100000) (hb : qv (rg b) = 0) : β ≤ e / 5 := by
  obtain ⟨h0, h1, h2⟩ := h
  rcases h2 with ⟨h2, h3, h4⟩ | ⟨h2, h3, h4⟩
  · obtain ⟨_, _, q3, _⟩ := cs_q h0 h2
    have : sF (β * cir) ≤ e := le_cancel hr (by have := h4.1; rw [hb] at this; grind)
    grind
  · obtain ⟨_, _, _, q4, _⟩ := cs_q (show 0 ≤ 1 / 4 - β by grind) (by grind)
    have : cF ((1 / 4 - β) * cir) ≤ e := le_cancel hr (by have := h4.1; rw [hb] at this; grind)
    grind
theorem Sides.pos {a b : Nat} {β r e : Rat} (h : Sides a b β r e) (hr : 0 < r) (he : e ≤ 1 / 100000) : 0 < qv (rg a) ∨ 0 < qv (rg b) := by
  obtain ⟨h0, h1, h2⟩ := h
  have key : ∀ {v c : Rat}, 6 / 10 ≤ c → Bd (v - r * c) (r * e) → 0 < v := by
    intro v c hc hv
    have k1 := Rat.mul_le_mul_of_nonneg_left hc (c := r) (Rat.le_of_lt hr)
    have k2 := Rat.mul_le_mul_of_nonneg_left he (c := r) (Rat.le_of_lt hr)
    have := hv.1
    grind
  rcases h2 with ⟨h2, h3, h4⟩ | ⟨h2, h3, h4⟩
  · exact .inl (key (cs_q h0 h2).2.2.2.1 h3)
  · exact .inr (key (cs_q (show 0 ≤ 1 / 4 - β by grind) (by grind)).2.2.2.1 h4)
/-! ### Angle -/
theorem zero_q : qv 0 = 0 := by decide +kernel
end Go.Lk
end

section
/- The sides of a turn. -/
namespace Go.Lk
set_option linter.unusedSimpArgs false
set_option linter.unusedVariables false
set_option maxRecDepth 10000
set_option maxHeartbeats 1000000
theorem eighth_nn {a : Nat} (ha : isFin a = true) (sa : sg a = false) (h8 : qv a ≤ 1 / 8) : 0 ≤ qv (wEighth_0 a) ∧ 0 ≤ qv (wEighth_1 a) := by
  obtain ⟨t1, t2, t3, t4⟩ := eta_small
  have na := (qv_nn sa).2
  obtain ⟨c0, c1⟩ := eighth_cs ha sa h8
  obtain ⟨q1, q2, q3, q4, q5, q6⟩ := cs_q na h8
  refine ⟨by have := c0.1; grind, ?_⟩
  rw [eighth_1]
  generalize hb : feq a 4593671619917905920 = b
  cases b with
  | true => rw [cond_true, half_q.2]; decide +kernel
  | false =>
    rw [cond_false]
    obtain ⟨cc1, cc2⟩ := circ_q
    have hac : Bd (qv a * qv 4618760256179416344) 1 := by rw [cir_q]; exact ⟨by grind, Rat.le_trans q2 (by decide +kernel)⟩
    obtain ⟨y1, y2⟩ := mul_q ha cc1 hac (by decide +kernel)
    have sy : sg (fmul a 4618760256179416344) = false := sg_mul ha cc1 (by rw [sa]; rfl)
    rw [cir_q] at y2
    have hY : YY ≤ 7853981634 / 10000000000 := by decide +kernel
    generalize fmul a 4618760256179416344 = y at *
    have ny := (qv_nn sy).2
    have hy : qv y ≤ 78539817 / 100000000 := by
      have h1 := y2.2
      have h2 := Rat.le_trans q2 hY
      have he : eta ≤ 1 / 1000000000000 := by decide +kernel
      clear q2 q3 q4 q5 q6 c0 c1 cc2 hY
      grind
    have by' : Bd (qv y) (78539817 / 100000000) := ⟨by grind, hy⟩
    have hyy := by'.mul by'
    obtain ⟨z1, z2⟩ := mul_q y1 y1 hyy (by decide +kernel)
    have sz : sg (fmul y y) = false := sg_mul y1 y1 rfl
    have nz := (qv_nn sz).2
    have hz : qv (fmul y y) ≤ ZZ := by
      have h1 := hyy.2
      have h2 := z2.2
      have h3 : (78539817 / 100000000 : Rat) * (78539817 / 100000000) + (78539817 / 100000000 * (78539817 / 100000000) * eta + tau) ≤ ZZ := by decide +kernel
      grind
    obtain ⟨S1, S2, S3, S4, S5⟩ := sinE_err z1 nz hz
    have ss := sg_of_pos S1 (by have := S2.1; grind)
    exact (qv_nn (sg_mul S1 y1 (by rw [ss, sy]))).2
/-- re and im of an eighth's numbers. -/
theorem clean_of {v r : Nat} (hv : Canon v) (hfv : isFin v = true) (hr : r = fadd v 0 ∨ r = fadd (aneg false v) 0) : isFin r = true ∧ rg r = rg v := by
  rcases hr with rfl | rfl
  · exact rg_clean hv hfv
  · obtain ⟨n1, n2, n3⟩ := rg_neg hv hfv
    obtain ⟨m1, m2⟩ := rg_clean n3 n1
    exact ⟨m1, by rw [m2, n2]⟩
end Go.Lk
end

section
/- PulseEven: plain laws of turns and windows. -/
namespace Go.Lk
open Ieee (Format Datum)
set_option linter.unusedSimpArgs false
set_option linter.unusedVariables false
set_option maxRecDepth 100000
set_option maxHeartbeats 1000000
/-! ### Turned the other way: the same real part, to the bit -/
theorem turn_even {x y : Nat} (hx : Canon x) (hy : Canon y) (fx1 : isFin x = true) (fy1 : isFin y = true) (h : fx y = -fx x) : wTurn_0 y = wTurn_0 x := by
  obtain ⟨a1, ⟨t, a2⟩, a3, a4, a5⟩ := wrap_val hx fx1
  obtain ⟨b1, ⟨r, b2⟩, b3, b4, b5⟩ := wrap_val hy fy1
  have hU := U_pos
  have hww : feq (wrapP x) (wrapP x) = true := by rw [feq_fin a1 a1]; exact decide_eq_true rfl
  have hww' : feq (wrapP y) (wrapP y) = true := by rw [feq_fin b1 b1]; exact decide_eq_true rfl
  obtain ⟨x0, x1⟩ := turn_form hww
  obtain ⟨y0, y1⟩ := turn_form hww'
  have hsum : fx (wrapP x) + fx (wrapP y) = (t + r) * (U : Int) := by rw [a2, b2, h, Int.add_mul]; omega
  have habs : (fx (wrapP y)).natAbs = (fx (wrapP x)).natAbs := by
    by_cases h0 : t + r = 0
    · rw [h0, Int.zero_mul] at hsum; omega
    · have : t + r ≤ -1 ∨ 1 ≤ t + r := by omega
      rcases this with h1 | h1
      · have h2 : (t + r) * (U : Int) ≤ -1 * (U : Int) := Int.mul_le_mul_of_nonneg_right h1 (by omega)
        omega
      · have h2 : 1 * (U : Int) ≤ (t + r) * (U : Int) := Int.mul_le_mul_of_nonneg_right h1 (by omega)
        omega
  have hrg : rg (wrapP y) = rg (wrapP x) := rg_of_fx habs
  have hfab : fabs (wrapP y) = fabs (wrapP x) := by rw [fabs_rg a1, fabs_rg b1, hrg]
  rw [y0, x0, hfab]
theorem read_two {x y : Nat} (h : isFin x = true) (e : rg y = rg x) : ∃ m p, dbl.read x = .number (sg x) m p ∧ dbl.read y = .number (sg y) m p := by
  have h' : rg x < 2047 * 2 ^ 52 := of_decide_eq_true h
  have h'' : rg y < 2047 * 2 ^ 52 := by rw [e]; exact h'
  have k : ∀ {z : Nat}, rg z < 2047 * 2 ^ 52 → dbl.read z = if rg z < 2 ^ 52 then .number (sg z) (rg z) (-1074) else .number (sg z) (2 ^ 52 + rg z % 2 ^ 52) (-1074 + ((rg z / 2 ^ 52 - 1 : Nat) : Int)) := by
    intro z hz
    unfold Format.read
    simp only [sw_eq, bin_eq, inf_eq, lp_eq]
    change (if rg z < 2 ^ 52 then _ else _) = _
    split
    · rfl
    · change (if rg z < 2047 * 2 ^ 52 then _ else _) = _
      rw [if_pos hz]; rfl
  rw [k h', k h'', e]
  split
  · exact ⟨_, _, rfl, rfl⟩
  · exact ⟨_, _, rfl, rfl⟩
theorem near_one (E : Nat) (P : Int) : ∃ r, r < 2 ^ 63 ∧ ∀ s, dbl.nearest s E P = wd s r := by
  refine ⟨_, ?_, fun s => nearest_any s E P _ (-(P + 1074)).toNat (by omega) rfl⟩
  exact Nat.lt_of_le_of_lt (Nat.min_le_right _ _) (by decide)
theorem fdiv_one {x x' y : Nat} (hx : isFin x = true) (hrg : rg x' = rg x) (hy : isFin y = true) (hy0 : fxr (rg y) ≠ 0) : ∃ r, r < 2 ^ 63 ∧ fdiv x y = wd (sg x ^^ sg y) r ∧ fdiv x' y = wd (sg x' ^^ sg y) r := by
  obtain ⟨m, i, e1, e1'⟩ := read_two hx hrg
  obtain ⟨n, j, e2, h3, h4, _⟩ := read_fin hy
  have hn : n ≠ 0 := by rintro rfl; rw [Nat.zero_mul] at h4; exact hy0 h4.symm
  obtain ⟨r, hlt, k⟩ := near_one (2 * (m * 2 ^ (52 + 2 + n.log2 - m.log2) / n) + (m * 2 ^ (52 + 2 + n.log2 - m.log2) % n != 0).toNat) (i - j - (52 + 2 + n.log2 - m.log2 : Nat) - 1)
  refine ⟨r, hlt, ?_, ?_⟩
  · rw [← k]
    unfold fdiv Format.div
    rw [e1, e2]
    simp only [Datum.quotient, if_neg hn, fb_eq, Nat.shiftLeft_eq]
    rfl
  · rw [← k]
    unfold fdiv Format.div
    rw [e1', e2]
    simp only [Datum.quotient, if_neg hn, fb_eq, Nat.shiftLeft_eq]
    rfl
/-- A quotient of the other sign. -/
theorem fdiv_neg {x x' y : Nat} (hx : isFin x = true) (hx' : isFin x' = true) (hy : isFin y = true) (hy0 : fxr (rg y) ≠ 0) (h : fx x' = -fx x) : fx (fdiv x' y) = -fx (fdiv x y) := by
  obtain ⟨R, hlt, E1, E1'⟩ := fdiv_one hx (rg_of_fx (x := x') (y := x) (by omega)) hy hy0
  by_cases h0 : fx x = 0
  · obtain ⟨r, e, hN⟩ := fdiv_near hx hy hy0
    have hz : fxr (rg x) = 0 := by have := fx_abs x; omega
    have hr0 : r = 0 := by
      have := hN.le_of (R := 0) (Nat.zero_le _) (by rw [hz, Nat.zero_mul]; exact Nat.zero_le _)
      omega
    rw [E1] at e
    have e3 := congrArg rg e
    rw [rg_wd hlt, hr0, rg_wd (by decide)] at e3
    rw [E1, E1', e3, fx_wd (by decide), fx_wd (by decide), fxr_zero, sgn_zero, sgn_zero]; rfl
  · have s1 : sg x' = !sg x := by
      rw [sg_fx h0, sg_fx (by omega : fx x' ≠ 0)]
      by_cases h1 : fx x < 0
      · rw [decide_eq_true h1, decide_eq_false (by omega)]; rfl
      · rw [decide_eq_false h1, decide_eq_true (by omega)]; rfl
    rw [E1, E1', fx_wd hlt, fx_wd hlt, s1, show (!sg x ^^ sg y) = !(sg x ^^ sg y) by cases sg x <;> cases sg y <;> rfl, sgn_not]
/-- A quotient by one or more is finite, and no greater. -/
theorem fdiv_le {x y : Nat} (hx : isFin x = true) (hy : isFin y = true) (h : U ≤ fxr (rg y)) : isFin (fdiv x y) = true ∧ fxr (rg (fdiv x y)) ≤ fxr (rg x) := by
  have hU := U_pos
  have hlt : rg x < 2047 * 2 ^ 52 := of_decide_eq_true hx
  obtain ⟨r, e, hN⟩ := fdiv_near hx hy (by omega)
  have hr := hN.le_of (R := rg x) (by unfold infR; omega) (Nat.mul_le_mul_left _ h)
  rw [e]
  exact ⟨fin_wd (by omega), by rw [rg_wd (by omega)]; exact fxr_le.2 hr⟩
/-! ### A turn's real part is no greater than 1 -/
theorem rnd_ub {z : Bool} {T : Int} {R : Nat} (hR : R < 2047 * 2 ^ 52) (h : T ≤ fxr R) : fx (rnd z T) ≤ fxr R := by
  rcases Int.lt_or_le T 0 with h0 | h0
  · unfold rnd
    have hne : ¬ T = 0 := by clear h; omega
    rw [if_neg hne, fx_wd (rung_lt _), decide_eq_true h0]
    unfold sgn
    rw [if_pos rfl]
    generalize fxr (rung T.natAbs) = A
    generalize fxr R = B at *
    clear hR
    omega
  · have h3 : T.natAbs ≤ fxr R := by generalize fxr R = B at *; clear hR; omega
    obtain ⟨_, h2⟩ := rnd_le (z := z) hR h3
    have := fx_abs (rnd z T)
    generalize fxr R = B at *
    generalize fxr (rg (rnd z T)) = A at *
    clear hR h3
    omega
theorem neg_tail2 {ζ a : Rat} {l : List Rat} (h0 : 0 ≤ ζ) (h1 : ζ ≤ ZZ) (hl : pe (l.map rabs) ZZ ≤ 1 / 20) (ha : a ≤ -(1 / 5)) : pe (a :: l) ζ ≤ -(1 / 10) := by
  have hb := pe_bd h0 h1 l
  have h2 : Bd (ζ * pe l ζ) (ZZ * pe (l.map rabs) ZZ) := Bd.mul (⟨by grind, h1⟩ : Bd ζ ZZ) hb
  have h3 : ZZ * pe (l.map rabs) ZZ ≤ ZZ * (1 / 20) := Rat.mul_le_mul_of_nonneg_left hl (by decide +kernel)
  have h4 : ZZ * (1 / 20) ≤ 1 / 10 := by decide +kernel
  show a + ζ * pe l ζ ≤ -(1 / 10)
  have := h2.2
  grind
theorem cosP_neg {z : Nat} (hz : isFin z = true) (h0 : 0 ≤ qv z) (h1 : qv z ≤ ZZ) : qv (cosP z) < 0 := by
  obtain ⟨p1, p2, p3⟩ := cosP_err hz h0 h1
  have hneg : pe cosT (qv z) ≤ -(1 / 10) := neg_tail2 h0 h1 (by decide +kernel) (by decide +kernel)
  generalize pe cosT (qv z) = P at *
  have e5 : 58 / 100 * eta ≤ 1 / 100 := by decide +kernel
  have := p2.2
  grind
theorem cosE_le {z : Nat} (hz : isFin z = true) (h0 : 0 ≤ qv z) (h1 : qv z ≤ ZZ) (sz : sg z = false) : fxr (rg (cosE z)) ≤ U := by
  have hU := UR_pos
  obtain ⟨p1, p2, p3⟩ := cosP_err hz h0 h1
  have pn := cosP_neg hz h0 h1
  have sp : sg (cosP z) = true := by
    cases hs : sg (cosP z)
    · have := (qv_nn hs).2; grind
    · rfl
  obtain ⟨r, e, hr⟩ := fmul_near p1 hz
  rw [sp, sz] at e
  have hlt : r < 2 ^ 63 := by have := hr.1; unfold infR at this; omega
  have m0 : fx (fmul (cosP z) z) ≤ 0 := by
    rw [e, fx_wd hlt]
    show -((fxr r : Nat) : Int) ≤ 0
    omega
  have pb : Bd (qv (cosP z)) 1 := by
    have e5 : 58 / 100 * eta ≤ 1 / 100 := by decide +kernel
    exact ((p2.add p3).of_eq (by grind)).mono (by grind)
  have zb : Bd (qv z) 1 := ⟨by grind, Rat.le_trans h1 (by decide +kernel)⟩
  obtain ⟨f1, _⟩ := mul_q p1 hz (pb.mul zb) (by decide +kernel)
  obtain ⟨c1, c2, c3, c4, c5⟩ := cosE_err hz h0 h1
  have e6 : 1684 / 1000 * eta ≤ 1 / 10 := by decide +kernel
  have cp : 0 ≤ fx (cosE z) := by
    have h9 : qv 0 ≤ qv (cosE z) := by rw [zero_q]; have := c2.1; grind
    have := qv_le_fx h9
    rw [fx_0] at this
    exact this
  have up : fx (cosE z) ≤ fxr (rg fone) := by
    unfold cosE
    rw [fadd_fin f1 (by decide)]
    refine rnd_ub rg_one_lt ?_
    have h3 : fx 4607182418800017408 = (U : Int) := fx_one
    rw [h3, fxr_one]
    omega
  have := fx_abs (cosE z)
  rw [fxr_one] at up
  omega
theorem eighth_le {a : Nat} (ha : isFin a = true) (sa : sg a = false) (h8 : qv a ≤ 1 / 8) : fxr (rg (wEighth_0 a)) ≤ U ∧ fxr (rg (wEighth_1 a)) ≤ U := by
  have one_le : ∀ {v : Nat}, isFin v = true → 0 ≤ qv v → qv v ≤ 1 → fxr (rg v) ≤ U := by
    intro v hv h0 h1
    have k1 : fx 0 ≤ fx v := qv_le_fx (by rw [zero_q]; exact h0)
    have k2 : fx v ≤ fx 4607182418800017408 := qv_le_fx (by rw [one_q.2]; exact h1)
    have h3 : fx 4607182418800017408 = (U : Int) := fx_one
    rw [fx_0] at k1
    have := fx_abs v
    omega
  obtain ⟨p1, p2, p3, p4, p5⟩ := eighth_pair ha sa h8
  obtain ⟨n0, n1⟩ := eighth_nn ha sa h8
  have na := (qv_nn sa).2
  obtain ⟨c0, c1⟩ := eighth_cs ha sa h8
  obtain ⟨q1, q2, q3, q4, q5, q6⟩ := cs_q na h8
  have e4 : 4 * eta ≤ 1 / 100 := by decide +kernel
  refine ⟨?_, one_le p2 n1 (by have := c1.2; grind)⟩
  rw [eighth_0]
  generalize hb : feq a 4593671619917905920 = b
  cases b with
  | true => rw [cond_true]; decide +kernel
  | false =>
    rw [cond_false]
    obtain ⟨cc1, cc2⟩ := circ_q
    have hac : Bd (qv a * qv 4618760256179416344) 1 := by rw [cir_q]; exact ⟨by grind, Rat.le_trans q2 (by decide +kernel)⟩
    obtain ⟨y1, y2⟩ := mul_q ha cc1 hac (by decide +kernel)
    have sy : sg (fmul a 4618760256179416344) = false := sg_mul ha cc1 (by rw [sa]; rfl)
    rw [cir_q] at y2
    have hY : YY ≤ 7853981634 / 10000000000 := by decide +kernel
    generalize fmul a 4618760256179416344 = y at *
    have ny := (qv_nn sy).2
    have hy : qv y ≤ 78539817 / 100000000 := by
      have h1 := y2.2
      have h2 := Rat.le_trans q2 hY
      have he : eta ≤ 1 / 1000000000000 := by decide +kernel
      have ht : tau ≤ 1 / 1000000000000 := by decide +kernel
      clear q2 q3 q4 q5 q6 c0 c1 cc2 hY
      grind
    have by' : Bd (qv y) (78539817 / 100000000) := ⟨by grind, hy⟩
    have hyy := by'.mul by'
    obtain ⟨z1, z2⟩ := mul_q y1 y1 hyy (by decide +kernel)
    have sz : sg (fmul y y) = false := sg_mul y1 y1 rfl
    have nz := (qv_nn sz).2
    have hz : qv (fmul y y) ≤ ZZ := by
      have h1 := hyy.2
      have h2 := z2.2
      have h3 : (78539817 / 100000000 : Rat) * (78539817 / 100000000) + (78539817 / 100000000 * (78539817 / 100000000) * eta + tau) ≤ ZZ := by decide +kernel
      grind
    exact cosE_le z1 nz hz sz
theorem real_le {x : Nat} (hc : Canon x) (hf : isFin x = true) : fxr (rg (wTurn_0 x)) ≤ U := by
  obtain ⟨w1, _, w2, w3, _⟩ := wrap_val hc hf
  have hww : feq (wrapP x) (wrapP x) = true := by rw [feq_fin w1 w1]; exact decide_eq_true rfl
  have hh := fx_half
  obtain ⟨hq, h8⟩ := fx_quart
  have f4 : isFin 4598175219545276416 = true := by decide
  have f8 : isFin 4593671619917905920 = true := by decide
  have sh : sg half = false := by decide
  have s4 : sg 4598175219545276416 = false := by decide
  have r4 : (fxr (rg 4598175219545276416) : Int) = fx 4598175219545276416 := rfl
  have r8 : (fxr (rg 4593671619917905920) : Int) = fx 4593671619917905920 := rfl
  have eh : half = 4602678819172646912 := rfl
  have ea := fabs_rg w1
  have fa := fin_rg w1
  have sa := rg_sg (wrapP x)
  have qa : 0 ≤ fx (rg (wrapP x)) ∧ 2 * fx (rg (wrapP x)) ≤ (U : Int) := by
    have e := fx_rg sa
    rw [rg_rg] at e
    have := fx_abs (wrapP x)
    omega
  have fin : ∀ {a re : Nat}, isFin a = true → sg a = false → fx a ≤ fx 4593671619917905920 →
      (re = fadd (wEighth_0 a) 0 ∨ re = fadd (aneg false (wEighth_0 a)) 0) ∨ (re = fadd (wEighth_1 a) 0 ∨ re = fadd (aneg false (wEighth_1 a)) 0) → fxr (rg re) ≤ U := by
    intro a re ha hs h18 hcase
    have h8' : qv a ≤ 1 / 8 := by
      have := qv_le (x := a) (n := 1) (d := 8) (by decide) (by omega)
      exact this
    obtain ⟨p1, p2, p3, p4, p5⟩ := eighth_pair ha hs h8'
    obtain ⟨l0, l1⟩ := eighth_le ha hs h8'
    rcases hcase with h1 | h1
    · rw [(clean_of p3 p1 h1).2]; exact l0
    · rw [(clean_of p4 p2 h1).2]; exact l1
  rw [(turn_form hww).1, ea]
  unfold turnR
  rw [← eh]
  generalize hw : rg (wrapP x) = a at *
  by_cases g1 : fx 4598175219545276416 < fx a
  · have g1' : fgt a 4598175219545276416 = true := by rw [fgt_fin fa f4]; exact decide_eq_true g1
    rw [g1', cond_true]
    obtain ⟨b1, b2, b3, b4⟩ := sub_range fin_half fa sh sa (d := 4598175219545276416) (by decide) (by omega) (by omega)
    generalize fsub half a = b at *
    by_cases g2 : fx 4593671619917905920 < fx b
    · have g2' : fgt b 4593671619917905920 = true := by rw [fgt_fin b1 f8]; exact decide_eq_true g2
      rw [g2', cond_true]
      obtain ⟨c1, c2, c3, c4⟩ := sub_range f4 b1 s4 b2 (d := 4593671619917905920) (by decide) (by omega) (by omega)
      exact fin c1 c2 (by omega) (.inr (.inr rfl))
    · have g2' : fgt b 4593671619917905920 = false := by rw [fgt_fin b1 f8]; exact decide_eq_false g2
      rw [g2', cond_false]
      exact fin b1 b2 (by omega) (.inl (.inr rfl))
  · have g1' : fgt a 4598175219545276416 = false := by rw [fgt_fin fa f4]; exact decide_eq_false g1
    rw [g1', cond_false]
    by_cases g2 : fx 4593671619917905920 < fx a
    · have g2' : fgt a 4593671619917905920 = true := by rw [fgt_fin fa f8]; exact decide_eq_true g2
      rw [g2', cond_true]
      obtain ⟨c1, c2, c3, c4⟩ := sub_range f4 fa s4 sa (d := 4593671619917905920) (by decide) (by omega) (by omega)
      exact fin c1 c2 (by omega) (.inr (.inl rfl))
    · have g2' : fgt a 4593671619917905920 = false := by rw [fgt_fin fa f8]; exact decide_eq_false g2
      rw [g2', cond_false]
      exact fin fa sa (by omega) (.inl (.inl rfl))
end Go.Lk
end

section
/- The document's turns are the program's. -/
namespace Go.Lk
open Go.Proofs
set_option maxRecDepth 100000
set_option linter.unusedSimpArgs false
set_option linter.unusedVariables false

theorem Canon.aneg {x : Nat} (h : Canon x) : Canon (aneg false x) := h.fneg
theorem Canon.fabs {x : Nat} : Canon (fabs x) := by
  unfold Lk.fabs
  cases h : isNaN x
  · exact ⟨Nat.lt_trans (rg_lt x) (by decide), fun h' => by rw [cond_false, nan_rg (rg_rg x), h] at h'; cases h'⟩
  · exact Canon.qnan
end Go.Lk
end
