import Derived.Test.YtmomainjlncogaaLkW5
import Derived.Test.YtmomainjlncogaaLkW1
import Derived.Test.YtmomainjlncogaaLkGB
import Derived.Test.YtmomainjlncogaaLkGD
section
/- Floats: the kind of what is finite, the greater of two, magnitudes by themselves. -/
namespace Go.Lk
open Ieee (Format Datum)
set_option linter.unusedSimpArgs false
set_option linter.unusedVariables false
set_option maxRecDepth 100000
theorem bAbs_kind {a b : Nat} (ha : isFin a = true) (hb : isFin b = true) : bKind_0 a b = 0 := by
  have key : ∀ {x : Nat}, isFin x = true → feq x x = true ∧ fgt (fabs x) 9218868437227405311 = false := by
    intro x hx
    have e : fabs x = rg x := by unfold fabs; rw [fin_num hx]; rfl
    have hr : rg x < 2047 * 2 ^ 52 := of_decide_eq_true hx
    have hm : isFin 9218868437227405311 = true := by decide
    have hf : isFin (rg x) = true := by unfold isFin; rw [rg_rg]; exact hx
    have hs : sg (rg x) = false := by
      unfold sg; have := rg_lt x
      have : rg x / 2 ^ 63 = 0 := Nat.div_eq_of_lt this
      rw [this]; rfl
    refine ⟨by rw [feq_fin hx hx]; exact decide_eq_true rfl, ?_⟩
    rw [e, fgt_fin hf hm]
    have h1 : fx (rg x) = fxr (rg x) := by unfold fx; rw [hs, rg_rg]; rfl
    have h2 : fx 9218868437227405311 = fxr 9218868437227405311 := rfl
    have h3 : fxr (rg x) ≤ fxr 9218868437227405311 := fxr_le.2 (by omega)
    exact decide_eq_false (by rw [h1, h2]; omega)
  unfold bKind_0
  rw [(key ha).1, (key hb).1, (key ha).2, (key hb).2]
  rfl
theorem max_min {A B : Nat} (hA : isFin A = true) (hB : isFin B = true) (sA : sg A = false) (sB : sg B = false) :
    (fmax A B = A ∧ fmin A B = B ∧ qv B ≤ qv A) ∨ (fmax A B = B ∧ fmin A B = A ∧ qv A ≤ qv B) := by
  have hU := UR_pos
  have le : ∀ {x y : Nat}, fx x ≤ fx y → qv x ≤ qv y := by
    intro x y h
    refine Rat.le_of_mul_le_mul_right (c := UR) ?_ hU
    rw [qv_U, qv_U]; exact Rat.intCast_le_intCast.2 h
  have hneg : (dbl.read A).neg = false := by
    obtain ⟨m, p, e, _⟩ := read_fin hA
    rw [e, sA]; rfl
  unfold fmax fmin
  rw [order_fin hA hB]
  rcases Int.lt_trichotomy (fx A) (fx B) with h | h | h
  · right
    rw [cmp_lt.2 h]
    exact ⟨rfl, rfl, le (by omega)⟩
  · left
    rw [cmp_eq.2 h]
    simp only [hneg]
    exact ⟨rfl, rfl, le (by omega)⟩
  · left
    rw [cmp_gt.2 h]
    exact ⟨rfl, rfl, le (by omega)⟩
/-! ### Magnitudes by themselves -/
theorem rg_sg (x : Nat) : sg (rg x) = false := by
  unfold sg; have := rg_lt x
  have : rg x / 2 ^ 63 = 0 := Nat.div_eq_of_lt this
  rw [this]; rfl
theorem fin_rg {x : Nat} (h : isFin x = true) : isFin (rg x) = true := by unfold isFin; rw [rg_rg]; exact h
theorem fabs_rg {x : Nat} (h : isFin x = true) : fabs x = rg x := by unfold fabs; rw [fin_num h]; rfl
end Go.Lk
end

section
/- A magnitude, reckoned, of what has the magnitude 1 but for a little. -/
namespace Go.Lk
set_option linter.unusedSimpArgs false
set_option linter.unusedVariables false
set_option maxRecDepth 10000
theorem lt_of_sq {x k K : Rat} (hk : 0 ≤ k) (h : x * x ≤ K) (hK : K < k * k) : x < k := by
  refine Rat.not_le.1 fun hx => ?_
  have h1 := Rat.mul_le_mul_of_nonneg_right hx (c := k) hk
  have h2 := Rat.mul_le_mul_of_nonneg_left hx (c := x) (by grind)
  grind
theorem gt_of_sq {x k K : Rat} (hx : 0 ≤ x) (h : K ≤ x * x) (hK : k * k < K) : k < x := by
  refine Rat.not_le.1 fun hk => ?_
  have h1 := Rat.mul_le_mul_of_nonneg_right hk (c := x) hx
  have h2 := Rat.mul_le_mul_of_nonneg_left hk (c := k) (by grind)
  grind
/-- The greater one m and the smaller one n: m √(1 + (n/m)²). -/
theorem abs_core {m n : Nat} (hm : isFin m = true) (hn : isFin n = true) (sm : sg m = false) (sn : sg n = false) (hle : qv n ≤ qv m) (hG : Bd (qv m * qv m + qv n * qv n - 1) (68 / 10 * eta)) :
    isFin (fmul m (fsqrt (fadd 4607182418800017408 (fmul (fdiv n m) (fdiv n m))))) = true ∧ Bd (qv (fmul m (fsqrt (fadd 4607182418800017408 (fmul (fdiv n m) (fdiv n m))))) - 1) (8 * eta) := by
  obtain ⟨t1, t2, t3, t4⟩ := eta_small
  have nm := (qv_nn sm).2
  have nn := (qv_nn sn).2
  obtain ⟨g1, g2⟩ := hG
  have hnn : qv n * qv n ≤ qv m * qv m := by
    have h1 := Rat.mul_le_mul_of_nonneg_right hle (c := qv n) nn
    have h2 := Rat.mul_le_mul_of_nonneg_left hle (c := qv m) nm
    grind
  have hn2 : 0 ≤ qv n * qv n := Rat.mul_nonneg nn nn
  have e68 : 68 / 10 * eta ≤ 1 / 100000 := by decide +kernel
  have mhi : qv m < 10001 / 10000 := lt_of_sq (K := 1 + 1 / 100000) (by decide +kernel) (by grind) (by decide +kernel)
  have mlo : 7 / 10 < qv m := gt_of_sq (K := 1 / 2 - 1 / 100000) nm (by grind) (by decide +kernel)
  have nhi : qv n < 70712 / 100000 := lt_of_sq (K := 1 / 2 + 1 / 100000) (by decide +kernel) (by grind) (by decide +kernel)
  -- the quotient
  obtain ⟨q1, sq, q2⟩ := div_q hn hm sn sm (by grind) hle
  have nq := (qv_nn sq).2
  have q3 : Bd (qv (fdiv n m) * qv m - qv n) (7073 / 10000 * eta) := q2.mono (by
    have h1 := Rat.mul_le_mul_of_nonneg_right (Rat.le_of_lt nhi) (c := eta) t1
    have h2 := Rat.mul_le_mul_of_nonneg_left (Rat.le_of_lt mhi) (c := tau) t3
    have h3 : 70712 / 100000 * eta + tau * (10001 / 10000) ≤ 7073 / 10000 * eta := by decide +kernel
    grind)
  have qhi : qv (fdiv n m) ≤ 10001 / 10000 := by
    refine Rat.not_lt.1 fun h => ?_
    have h1 : (qv (fdiv n m) - 1) * qv m ≤ 7073 / 10000 * eta := by have := q3.2; grind
    have h2 := Rat.mul_le_mul_of_nonneg_left (Rat.le_of_lt mlo) (c := qv (fdiv n m) - 1) (by grind)
    have h3 : 7073 / 10000 * eta < 1 / 10000 * (7 / 10) := by decide +kernel
    grind
  generalize fdiv n m = q at *
  have bq : Bd (qv q) (10001 / 10000) := ⟨by grind, qhi⟩
  have bqq := bq.mul bq
  obtain ⟨p1, p2⟩ := mul_q q1 q1 bqq (by decide +kernel)
  have nqq : 0 ≤ qv q * qv q := Rat.mul_nonneg nq nq
  generalize fmul q q = p at *
  have hone := one_q
  have bp : Bd (qv 4607182418800017408 + qv p) (20004 / 10000) := by
    rw [hone.2]
    have h1 := p2.1; have h2 := p2.2; have h3 := bqq.2
    have h4 : (10001 / 10000 : Rat) * (10001 / 10000) + (10001 / 10000 * (10001 / 10000) * eta + tau) ≤ 10003 / 10000 := by decide +kernel
    have h5 : (10001 / 10000 : Rat) * (10001 / 10000) * eta + tau ≤ 1 / 10000 := by decide +kernel
    constructor <;> grind
  obtain ⟨s1, s2⟩ := add_q hone.1 p1 bp (by decide +kernel)
  generalize fadd 4607182418800017408 p = s at *
  rw [hone.2] at s2
  have e5 : (10001 / 10000 : Rat) * (10001 / 10000) * eta + tau ≤ 10003 / 10000 * eta := by decide +kernel
  have e6 : (20004 / 10000 : Rat) * eta + tau ≤ 20005 / 10000 * eta := by decide +kernel
  have p3 := p2.mono e5
  have s3 := s2.mono e6
  have hS : 9 / 10 ≤ qv s ∧ qv s ≤ 3 := by
    have h1 := s3.1; have h2 := s3.2; have h3 := p3.1; have h4 := p3.2; have h5 := bqq.2
    have h6 : (10003 / 10000 : Rat) * eta ≤ 1 / 100 := by decide +kernel
    have h7 : (20005 / 10000 : Rat) * eta ≤ 1 / 100 := by decide +kernel
    have h8 : (10001 / 10000 : Rat) * (10001 / 10000) ≤ 11 / 10 := by decide +kernel
    constructor <;> grind
  have ssg : sg s = false := by
    have hU := UR_pos
    have h1 : 0 < qv s * UR := Rat.mul_pos (by grind) hU
    rw [qv_U] at h1
    have h2 : 0 < fx s := by exact_mod_cast h1
    rw [sg_fx (by omega)]
    exact decide_eq_false (by omega)
  obtain ⟨r1, sr, l, hl0, hll, hlr, hrl, hsl⟩ := sqrt_q s1 ssg (by grind)
  generalize fsqrt s = r at *
  have nr := (qv_nn sr).2
  -- m² s is near 1
  have bm : Bd (qv m) (10001 / 10000) := ⟨by grind, Rat.le_of_lt mhi⟩
  have bn : Bd (qv n) (70712 / 100000) := ⟨by grind, Rat.le_of_lt nhi⟩
  have k1 : Bd (qv m * qv m * (qv s - (1 + qv p))) (10001 / 10000 * (10001 / 10000) * (20005 / 10000 * eta)) := (bm.mul bm).mul s3
  have k2 : Bd (qv m * qv m * (qv p - qv q * qv q)) (10001 / 10000 * (10001 / 10000) * (10003 / 10000 * eta)) := (bm.mul bm).mul p3
  have k3 := sq_bd q3 bn
  have hK := (((k1.add k2).add k3).add (⟨g1, g2⟩ : Bd _ (68 / 10 * eta))).of_eq (s := qv m * qv m * qv s - 1) (by grind)
  have hK := hK.mono (B := 1081 / 100 * eta) (by decide +kernel)
  obtain ⟨K1, K2⟩ := hK
  have nml : 0 ≤ qv m * l := Rat.mul_nonneg nm hl0
  have nmm : 0 ≤ qv m * qv m := Rat.mul_nonneg nm nm
  -- from above
  have up : qv m * l < 1 + 5406 / 1000 * eta := by
    refine lt_of_sq (K := 1 + 1081 / 100 * eta) (by decide +kernel) ?_ (by decide +kernel)
    have h1 := Rat.mul_le_mul_of_nonneg_left hll (c := qv m * qv m) nmm
    grind
  -- from below
  have hlt0 : 0 ≤ l + l * eta + tau := by
    have := Rat.mul_nonneg hl0 t1
    grind
  have lo : 1 - 5406 / 1000 * eta < qv m * (l + l * eta + tau) := by
    refine gt_of_sq (K := 1 - 1081 / 100 * eta) (Rat.mul_nonneg nm hlt0) ?_ (by decide +kernel)
    have h1 := Rat.mul_le_mul_of_nonneg_left hsl (c := qv m * qv m) nmm
    grind
  have hmr1 := Rat.mul_le_mul_of_nonneg_left hlr (c := qv m) nm
  have hmr2 := Rat.mul_le_mul_of_nonneg_left hrl (c := qv m) nm
  have hτ := Rat.mul_le_mul_of_nonneg_left (Rat.le_of_lt mhi) (c := tau) t3
  have e1 : qv m * (l + l * eta + tau) = qv m * l + qv m * l * eta + tau * qv m := by grind
  have upe := Rat.mul_le_mul_of_nonneg_right (Rat.le_of_lt up) (c := eta) t1
  have n1 : (1 + 5406 / 1000 * eta) + (1 + 5406 / 1000 * eta) * eta + tau * (10001 / 10000) ≤ 1 + 6407 / 1000 * eta := by decide +kernel
  have n2 : (1 + 5406 / 1000 * eta) * eta + tau * (10001 / 10000) ≤ 1001 / 1000 * eta := by decide +kernel
  have MRhi : qv m * qv r ≤ 1 + 6407 / 1000 * eta := by grind
  have MRlo : 1 - 6407 / 1000 * eta ≤ qv m * qv r := by grind
  have n3 : 1 + 6407 / 1000 * eta ≤ 10001 / 10000 := by decide +kernel
  have n4 : 6407 / 1000 * eta ≤ 1 / 10000 := by decide +kernel
  obtain ⟨f1, f2⟩ := mul_q hm r1 (B := 10001 / 10000) ⟨by grind, by grind⟩ (by decide +kernel)
  refine ⟨f1, ?_⟩
  have n5 : 10001 / 10000 * eta + tau + 6407 / 1000 * eta ≤ 8 * eta := by decide +kernel
  have h1 := f2.1
  have h2 := f2.2
  constructor <;> grind
end Go.Lk
end

section
/- The points of the circle have the magnitude 1, but for a little. -/
namespace Go.Lk
open Ieee (Format Datum)
set_option linter.unusedSimpArgs false
set_option linter.unusedVariables false
set_option maxRecDepth 100000
theorem qv_rg_abs {x : Nat} (h : isFin x = true) : qv (rg x) * qv (rg x) = qv x * qv x := by
  have hs : ∀ s (n : Nat), ((sgn s n : Int) : Rat) * ((sgn s n : Int) : Rat) = ((n : Nat) : Rat) * ((n : Nat) : Rat) := by
    intro s n
    cases s
    · rfl
    · show ((-(n : Int) : Int) : Rat) * ((-(n : Int) : Int) : Rat) = _
      rw [Rat.intCast_neg]
      show -((n : Nat) : Rat) * -((n : Nat) : Rat) = _
      grind
  have e1 : ((fx (rg x) : Int) : Rat) * ((fx (rg x) : Int) : Rat) = ((fx x : Int) : Rat) * ((fx x : Int) : Rat) := by
    unfold fx
    rw [hs, hs, rg_rg]
  unfold qv
  rw [Rat.div_def, Rat.div_def]
  have e2 : ∀ a b c : Rat, a * a = b * b → a * c * (a * c) = b * c * (b * c) := by intro a b c h; grind
  exact e2 _ _ _ e1
/-- What a nought added leaves of a magnitude. -/
theorem rg_clean {v : Nat} (hc : Canon v) (hf : isFin v = true) : isFin (fadd v 0) = true ∧ rg (fadd v 0) = rg v := by
  rw [fadd_zero hc]
  cases h : feq v 0
  · exact ⟨hf, rfl⟩
  · rw [feq_fin hf fin_zero, fx_0] at h
    have h0 : fx v = 0 := of_decide_eq_true h
    have : fxr (rg v) = 0 := by have := fx_abs v; omega
    rw [← fxr_zero] at this
    have := fxr_inj this
    exact ⟨fin_zero, by rw [this]; rfl⟩
theorem rg_neg {v : Nat} (hc : Canon v) (hf : isFin v = true) : isFin (aneg false v) = true ∧ rg (aneg false v) = rg v ∧ Canon (aneg false v) := by
  obtain ⟨n1, n2, n3⟩ := fneg_fin hc.lt hf
  have hr : rg v < 2047 * 2 ^ 52 := of_decide_eq_true hf
  refine ⟨n1, ?_, hc.fneg⟩
  have h1 : fneg (wd (sg v) (rg v)) = wd (!sg v) (rg v) := fneg_wd (by omega)
  rw [wd_sg hc.lt] at h1
  show rg (fneg v) = rg v
  rw [h1, rg_wd (by omega)]
/-- Abs of two whose magnitudes are those of E0 and E1, in either order. -/
theorem abs_near {re im E0 E1 : Nat} (hre : isFin re = true) (him : isFin im = true) (h0 : isFin E0 = true) (h1 : isFin E1 = true) (h : (rg re = rg E0 ∧ rg im = rg E1) ∨ (rg re = rg E1 ∧ rg im = rg E0))
    (hG : Bd (qv E0 * qv E0 + qv E1 * qv E1 - 1) (68 / 10 * eta)) : isFin (bAbs_0 re im) = true ∧ Bd (qv (bAbs_0 re im) - 1) (8 * eta) ∧ Bd (qv re * qv re + qv im * qv im - 1) (68 / 10 * eta) := by
  have hG2 : Bd (qv (rg re) * qv (rg re) + qv (rg im) * qv (rg im) - 1) (68 / 10 * eta) := by
    rw [← qv_rg_abs h0, ← qv_rg_abs h1] at hG
    rcases h with ⟨e1, e2⟩ | ⟨e1, e2⟩
    · rw [e1, e2]; exact hG
    · rw [e1, e2]; exact hG.of_eq (by grind)
  rw [← and_assoc]
  refine ⟨?_, by rw [qv_rg_abs hre, qv_rg_abs him] at hG2; exact hG2⟩
  unfold bAbs_0
  rw [bAbs_kind hre him, fabs_rg hre, fabs_rg him]
  have k1 : ((0 : Int) == Int.ofNat 1) = false := by decide
  have k2 : ((0 : Int) == Int.ofNat 2) = false := by decide
  rw [k1, k2, cond_false, cond_false]
  have main : ∀ {m n : Nat}, isFin m = true → isFin n = true → sg m = false → sg n = false → qv n ≤ qv m → Bd (qv m * qv m + qv n * qv n - 1) (68 / 10 * eta) →
      isFin (bif feq m 0 then 0 else fmul m (fsqrt (fadd 4607182418800017408 (fmul (fdiv n m) (fdiv n m))))) = true ∧ Bd (qv (bif feq m 0 then 0 else fmul m (fsqrt (fadd 4607182418800017408 (fmul (fdiv n m) (fdiv n m))))) - 1) (8 * eta) := by
    intro m n fm fn sm sn hle hg
    have hz : feq m 0 = false := by
      rw [feq_fin fm fin_zero, fx_0]
      refine decide_eq_false fun h => ?_
      have e : qv m = 0 := by unfold qv; rw [h]; decide +kernel
      have nn := (qv_nn sn).2
      have e2 : qv n = 0 := by grind
      have := hg.1
      rw [e, e2] at this
      revert this; decide +kernel
    rw [hz, cond_false]
    exact abs_core fm fn sm sn hle hg
  rcases max_min (fin_rg hre) (fin_rg him) (rg_sg re) (rg_sg im) with ⟨e1, e2, e3⟩ | ⟨e1, e2, e3⟩
  · rw [e1, e2]
    exact main (fin_rg hre) (fin_rg him) (rg_sg _) (rg_sg _) e3 hG2
  · rw [e1, e2]
    exact main (fin_rg him) (fin_rg hre) (rg_sg _) (rg_sg _) e3 (hG2.of_eq (by grind))
/-! ### An eighth of a turn -/
theorem half_q : isFin 4604544271217802189 = true ∧ qv 4604544271217802189 = 6369051672525773 / 9007199254740992 := ⟨by decide, (qv_const (n := 6369051672525773) (d := 9007199254740992) (by decide) (by decide +kernel)).trans (by decide +kernel)⟩
theorem eighth_pair {a : Nat} (ha : isFin a = true) (sa : sg a = false) (h8 : qv a ≤ 1 / 8) :
    isFin (wEighth_0 a) = true ∧ isFin (wEighth_1 a) = true ∧ Canon (wEighth_0 a) ∧ Canon (wEighth_1 a) ∧ Bd (qv (wEighth_0 a) * qv (wEighth_0 a) + qv (wEighth_1 a) * qv (wEighth_1 a) - 1) (68 / 10 * eta) := by
  have e0 : wEighth_0 a = bif feq a 4593671619917905920 then 4604544271217802189 else cosE (fmul (fmul a 4618760256179416344) (fmul a 4618760256179416344)) := by kernel_rfl
  have e1 : wEighth_1 a = bif feq a 4593671619917905920 then 4604544271217802189 else fmul (sinE (fmul (fmul a 4618760256179416344) (fmul a 4618760256179416344))) (fmul a 4618760256179416344) := by kernel_rfl
  rw [e0, e1]
  cases feq a 4593671619917905920
  · obtain ⟨h1, h2, h3⟩ := eighth_near ha sa h8
    simp only [cond_false]
    refine ⟨h1, h2, ?_, ?_, h3⟩
    · unfold cosE; exact Canon.fadd _ _
    · exact Canon.fmul _ _
  · obtain ⟨h1, h2⟩ := half_q
    simp only [cond_true]
    refine ⟨h1, h1, ⟨by decide, fun h => ?_⟩, ⟨by decide, fun h => ?_⟩, ?_⟩
    · rw [fin_num h1] at h; cases h
    · rw [fin_num h1] at h; cases h
    · rw [h2]
      exact ⟨by decide +kernel, by decide +kernel⟩
/-- A difference of what is no greater and not below nought. -/
theorem sub_range {c y d : Nat} (hc : isFin c = true) (hy : isFin y = true) (sc : sg c = false) (sy : sg y = false) (hd : rg d < 2047 * 2 ^ 52) (h0 : 0 ≤ fx c - fx y) (h1 : fx c - fx y ≤ (fxr (rg d) : Int)) :
    isFin (fsub c y) = true ∧ sg (fsub c y) = false ∧ fx (fsub c y) ≤ (fxr (rg d) : Int) ∧ 0 ≤ fx (fsub c y) := by
  rw [fsub_fin hc hy]
  obtain ⟨r1, r2⟩ := rnd_le (z := sg c && !sg y) (T := fx c - fx y) hd (by omega)
  have hs : sg (rnd (sg c && !sg y) (fx c - fx y)) = false := by
    rw [sc, Bool.false_and]
    unfold rnd
    split
    · decide
    · rw [sg_wd (rung_lt _)]; exact decide_eq_false (by omega)
  have e := fx_rg hs
  exact ⟨r1, hs, by omega, by omega⟩
theorem qv_le {x : Nat} {n d : Nat} (hd : 0 < d) (h : fx x * d ≤ n * (U : Int)) : qv x ≤ (n : Rat) / (d : Rat) := by
  have hU := UR_pos
  have hd' : (0 : Rat) < (d : Rat) := Rat.natCast_pos.2 hd
  have h1 := Rat.intCast_le_intCast.2 h
  rw [Rat.intCast_mul, Rat.intCast_mul, ← qv_U] at h1
  have h2 : qv x * UR * (d : Rat) ≤ (n : Rat) * UR := h1
  have h3 : qv x * (d : Rat) ≤ (n : Rat) := Rat.le_of_mul_le_mul_right (c := UR) (by grind) hU
  have h4 : (n : Rat) / (d : Rat) * (d : Rat) = n := by grind
  exact Rat.le_of_mul_le_mul_right (c := (d : Rat)) (by grind) hd'
theorem fx_quart : fx 4598175219545276416 * 4 = (U : Int) ∧ fx 4593671619917905920 * 8 = (U : Int) := by decide +kernel
/-- A point of the circle. -/
theorem turn_near {x : Nat} (hc : Canon x) (hf : isFin x = true) : isFin (wTurn_0 x) = true ∧ isFin (wTurn_1 x) = true ∧ isFin (bAbs_0 (wTurn_0 x) (wTurn_1 x)) = true ∧ Bd (qv (bAbs_0 (wTurn_0 x) (wTurn_1 x)) - 1) (8 * eta) ∧ Bd (qv (wTurn_0 x) * qv (wTurn_0 x) + qv (wTurn_1 x) * qv (wTurn_1 x) - 1) (68 / 10 * eta) := by
  obtain ⟨w1, _, w2, w3, _⟩ := wrap_val hc hf
  have hww : feq (wrapP x) (wrapP x) = true := by rw [feq_fin w1 w1]; exact decide_eq_true rfl
  have hh := fx_half
  obtain ⟨hq, h8⟩ := fx_quart
  have f4 : isFin 4598175219545276416 = true := by decide
  have f8 : isFin 4593671619917905920 = true := by decide
  have sh : sg half = false := by decide
  have s4 : sg 4598175219545276416 = false := by decide
  have r4 : (fxr (rg 4598175219545276416) : Int) = fx 4598175219545276416 := rfl
  have r8 : (fxr (rg 4593671619917905920) : Int) = fx 4593671619917905920 := rfl
  have eh : half = 4602678819172646912 := rfl
  have ea := fabs_rg w1
  have fa := fin_rg w1
  have sa := rg_sg (wrapP x)
  have qa : 0 ≤ fx (rg (wrapP x)) ∧ 2 * fx (rg (wrapP x)) ≤ (U : Int) := by
    have e := fx_rg sa
    rw [rg_rg] at e
    have := fx_abs (wrapP x)
    omega
  -- the end of each way
  have fin : ∀ {a re im : Nat}, isFin a = true → sg a = false → fx a ≤ fx 4593671619917905920 →
      (re = fadd (wEighth_0 a) 0 ∨ re = fadd (aneg false (wEighth_0 a)) 0) ∧ (im = fadd (wEighth_1 a) 0 ∨ im = fadd (aneg false (wEighth_1 a)) 0) ∨ (re = fadd (wEighth_1 a) 0 ∨ re = fadd (aneg false (wEighth_1 a)) 0) ∧ (im = fadd (wEighth_0 a) 0 ∨ im = fadd (aneg false (wEighth_0 a)) 0) →
      isFin re = true ∧ isFin im = true ∧ isFin (bAbs_0 re im) = true ∧ Bd (qv (bAbs_0 re im) - 1) (8 * eta) ∧ Bd (qv re * qv re + qv im * qv im - 1) (68 / 10 * eta) := by
    intro a re im ha hs h18 hcase
    obtain ⟨p1, p2, p3, p4, p5⟩ := eighth_pair ha hs (by
      have := qv_le (x := a) (n := 1) (d := 8) (by decide) (by omega)
      exact this)
    have cl : ∀ {v r : Nat}, Canon v → isFin v = true → (r = fadd v 0 ∨ r = fadd (aneg false v) 0) → isFin r = true ∧ rg r = rg v := by
      intro v r hv hfv hr
      rcases hr with rfl | rfl
      · exact rg_clean hv hfv
      · obtain ⟨n1, n2, n3⟩ := rg_neg hv hfv
        obtain ⟨m1, m2⟩ := rg_clean n3 n1
        exact ⟨m1, by rw [m2, n2]⟩
    rcases hcase with ⟨h1, h2⟩ | ⟨h1, h2⟩
    · obtain ⟨a1, a2⟩ := cl p3 p1 h1
      obtain ⟨b1, b2⟩ := cl p4 p2 h2
      exact ⟨a1, b1, abs_near a1 b1 p1 p2 (.inl ⟨a2, b2⟩) p5⟩
    · obtain ⟨a1, a2⟩ := cl p4 p2 h1
      obtain ⟨b1, b2⟩ := cl p3 p1 h2
      exact ⟨a1, b1, abs_near a1 b1 p1 p2 (.inr ⟨a2, b2⟩) p5⟩
  unfold wTurn_0 wTurn_1
  rw [hww, ea, ← eh]
  simp only [cond_true]
  generalize hw : rg (wrapP x) = a at *
  by_cases g1 : fx 4598175219545276416 < fx a
  · have g1' : fgt a 4598175219545276416 = true := by rw [fgt_fin fa f4]; exact decide_eq_true g1
    rw [g1', cond_true, cond_true]
    obtain ⟨b1, b2, b3, b4⟩ := sub_range fin_half fa sh sa (d := 4598175219545276416) (by decide) (by omega) (by omega)
    generalize fsub half a = b at *
    by_cases g2 : fx 4593671619917905920 < fx b
    · have g2' : fgt b 4593671619917905920 = true := by rw [fgt_fin b1 f8]; exact decide_eq_true g2
      rw [g2', cond_true, cond_true]
      obtain ⟨c1, c2, c3, c4⟩ := sub_range f4 b1 s4 b2 (d := 4593671619917905920) (by decide) (by omega) (by omega)
      cases flt (wrapP x) 0
      · exact fin c1 c2 (by omega) (.inr ⟨.inr rfl, .inl rfl⟩)
      · exact fin c1 c2 (by omega) (.inr ⟨.inr rfl, .inr rfl⟩)
    · have g2' : fgt b 4593671619917905920 = false := by rw [fgt_fin b1 f8]; exact decide_eq_false g2
      rw [g2', cond_false, cond_false]
      cases flt (wrapP x) 0
      · exact fin b1 b2 (by omega) (.inl ⟨.inr rfl, .inl rfl⟩)
      · exact fin b1 b2 (by omega) (.inl ⟨.inr rfl, .inr rfl⟩)
  · have g1' : fgt a 4598175219545276416 = false := by rw [fgt_fin fa f4]; exact decide_eq_false g1
    rw [g1', cond_false, cond_false]
    by_cases g2 : fx 4593671619917905920 < fx a
    · have g2' : fgt a 4593671619917905920 = true := by rw [fgt_fin fa f8]; exact decide_eq_true g2
      rw [g2', cond_true, cond_true]
      obtain ⟨c1, c2, c3, c4⟩ := sub_range f4 fa s4 sa (d := 4593671619917905920) (by decide) (by omega) (by omega)
      cases flt (wrapP x) 0
      · exact fin c1 c2 (by omega) (.inr ⟨.inl rfl, .inl rfl⟩)
      · exact fin c1 c2 (by omega) (.inr ⟨.inl rfl, .inr rfl⟩)
    · have g2' : fgt a 4593671619917905920 = false := by rw [fgt_fin fa f8]; exact decide_eq_false g2
      rw [g2', cond_false, cond_false]
      cases flt (wrapP x) 0
      · exact fin fa sa (by omega) (.inl ⟨.inl rfl, .inl rfl⟩)
      · exact fin fa sa (by omega) (.inl ⟨.inl rfl, .inr rfl⟩)
/-- The laws' own test: is a magnitude within 2^-49 of 1? -/
theorem near_test {r : Nat} (hf : isFin r = true) (h : Bd (qv r - 1) (8 * eta)) : fle (fabs (fsub r 4607182418800017408)) 4386506037058863104 = true := by
  have hU := UR_pos
  have ho := fx_one
  have eo : fone = 4607182418800017408 := rfl
  have f49 : isFin 4386506037058863104 = true := by decide
  have v49 : (fxr (rg 4386506037058863104) : Int) * 562949953421312 = (U : Int) ∧ (fx 4386506037058863104 : Int) = fxr (rg 4386506037058863104) := by decide +kernel
  have hT : (fx r - fx fone).natAbs ≤ fxr (rg 4386506037058863104) := by
    have h1 : Bd ((fx r - (U : Int) : Int) : Rat) (8 * eta * UR) := by
      rw [Rat.intCast_sub, ← qv_U r]
      show Bd (qv r * UR - UR) _
      have k1 := Rat.mul_le_mul_of_nonneg_right h.1 (c := UR) (by grind)
      have k2 := Rat.mul_le_mul_of_nonneg_right h.2 (c := UR) (by grind)
      constructor <;> grind
    have h2 := abs_cast h1
    have h3 : (((fx r - (U : Int)).natAbs * 562949953421312 : Nat) : Rat) ≤ ((U : Nat) : Rat) := by
      rw [Rat.natCast_mul]
      have e8 : 8 * eta * UR * 562949953421312 = UR := by unfold eta; grind
      have := Rat.mul_le_mul_of_nonneg_right h2 (c := 562949953421312) (by decide)
      show _ * (562949953421312 : Rat) ≤ UR
      grind
    have h4 := Rat.natCast_le_natCast.1 h3
    rw [ho]
    omega
  rw [← eo]
  obtain ⟨r1, r2⟩ := rnd_le (z := sg r && !sg fone) (by decide : rg 4386506037058863104 < 2047 * 2 ^ 52) hT
  rw [← fsub_fin hf fin_one] at r1 r2
  rw [fabs_rg r1, fle_fin (fin_rg r1) f49]
  refine decide_eq_true ?_
  have e := fx_rg (rg_sg (fsub r fone))
  rw [rg_rg] at e
  omega
end Go.Lk
end

section
/- The program's sine, cosine and arctangent, as floats. -/
namespace Go.Lk
set_option linter.unusedSimpArgs false
set_option linter.unusedVariables false
set_option maxRecDepth 10000
set_option maxHeartbeats 1000000
theorem pe_lip {Z u v e : Rat} (l : List Rat) (h0 : 0 ≤ u) (h1 : u ≤ Z) (k0 : 0 ≤ v) (k1 : v ≤ Z) (h : Bd (u - v) e) : Bd (pe l u - pe l v) (pe ((dl l).map rabs) Z * e) := by
  have hD : 0 ≤ pe ((dl l).map rabs) Z := (pe_bd h0 h1 (dl l)).nonneg
  have go : ∀ {u v : Rat}, 0 ≤ u → v ≤ Z → u ≤ v → Bd (pe l v - pe l u) (pe ((dl l).map rabs) Z * (v - u)) := by
    intro u v h0 k1 huv
    have m := ((Df.id u v).pe l).mean (σ := 0) (ε := pe ((dl l).map rabs) Z) huv (fun w h1 h2 => by
      exact (pe_bd (show 0 ≤ w by grind) (show w ≤ Z by grind) (dl l)).of_eq (by grind))
    exact m.of_eq (by grind)
  rcases Rat.le_total (a := u) (b := v) with huv | huv
  · have h2 := Rat.mul_le_mul_of_nonneg_left (show v - u ≤ e by have := h.1; grind) hD
    exact ((go h0 k1 huv).neg.of_eq (by grind)).mono h2
  · have h2 := Rat.mul_le_mul_of_nonneg_left (show u - v ≤ e by have := h.2; grind) hD
    exact (go k0 h1 huv).mono h2
theorem sg_mul {x y : Nat} (hx : isFin x = true) (hy : isFin y = true) (hs : sg x = sg y) : sg (fmul x y) = false := by
  obtain ⟨r, e, hr⟩ := fmul_near hx hy
  rw [e, sg_wd (by have := hr.1; unfold infR at this; omega), hs, Bool.xor_self]
theorem cir_q : qv 4618760256179416344 = cir := circ_q.2
theorem cir_le : cir ≤ 6283185308 / 1000000000 ∧ 6283185307 / 1000000000 ≤ cir ∧ YY = cir * (1 / 8) ∧ ZZ ≤ 617 / 1000 := by decide +kernel
/-- An eighth: how near its two numbers are. -/
theorem eighth_cs0 {a : Nat} (ha : isFin a = true) (sa : sg a = false) (h8 : qv a ≤ 1 / 8) :
    Bd (qv (cosE (fmul (fmul a 4618760256179416344) (fmul a 4618760256179416344))) - cF (qv a * cir)) (4 * eta) ∧
    Bd (qv (fmul (sinE (fmul (fmul a 4618760256179416344) (fmul a 4618760256179416344))) (fmul a 4618760256179416344)) - sF (qv a * cir)) (4 * eta) := by
  obtain ⟨t1, t2, t3, t4⟩ := eta_small
  obtain ⟨c1, c2⟩ := circ_q
  obtain ⟨r1, r2, r3, r4⟩ := cir_le
  have na := (qv_nn sa).2
  have k1 := Rat.mul_nonneg na (show 0 ≤ cir by grind)
  have k2 := Rat.mul_le_mul_of_nonneg_right h8 (c := cir) (by grind)
  have hYY : qv a * cir ≤ YY := by grind
  have hac : Bd (qv a * qv 4618760256179416344) (785398163398 / 1000000000000) := by
    rw [cir_q]
    have k3 : (1 / 8 : Rat) * cir ≤ 785398163398 / 1000000000000 := by decide +kernel
    constructor <;> grind
  obtain ⟨y1, y2⟩ := mul_q ha c1 hac (by decide +kernel)
  rw [cir_q] at y2 hac
  have sy : sg (fmul a 4618760256179416344) = false := sg_mul ha c1 (by rw [sa]; rfl)
  generalize fmul a 4618760256179416344 = y at *
  have ny := (qv_nn sy).2
  have hy : qv y ≤ 78539817 / 100000000 := by
    have h1 := hac.2
    have h2 := y2.2
    have h3 : 785398163398 / 1000000000000 * eta + tau ≤ 1 / 1000000000 := by decide +kernel
    grind
  have by' : Bd (qv y) (78539817 / 100000000) := ⟨by grind, hy⟩
  have hyy := by'.mul by'
  obtain ⟨z1, z2⟩ := mul_q y1 y1 hyy (by decide +kernel)
  have sz : sg (fmul y y) = false := sg_mul y1 y1 rfl
  generalize fmul y y = z at *
  have nz := (qv_nn sz).2
  have hz : qv z ≤ ZZ := by
    have h1 := hyy.2
    have h2 := z2.2
    have h3 : (78539817 / 100000000 : Rat) * (78539817 / 100000000) + (78539817 / 100000000 * (78539817 / 100000000) * eta + tau) ≤ ZZ := by decide +kernel
    grind
  obtain ⟨C1, C2, C3, C4, C5⟩ := cosE_err z1 nz hz
  obtain ⟨S1, S2, S3, S4, S5⟩ := sinE_err z1 nz hz
  obtain ⟨w1, w2, w3, w4, w5, w6, w7⟩ := cs_range k1 hYY
  generalize qv a * cir = α at *
  -- the squares
  have bα : Bd α (786 / 1000) := ⟨by grind, by have := hac.2; grind⟩
  have hsq : Bd (qv y * qv y - α * α) ((785398163398 / 1000000000000 * eta + tau) * (78539817 / 100000000 + 786 / 1000)) := (y2.mul (by'.add bα)).of_eq (by grind)
  have hdz : Bd (qv z - α * α) (19 / 10 * eta) := ((z2.add hsq).of_eq (by grind)).mono (by decide +kernel)
  have lc := (pe_lip (Z := ZZ) cL nz hz w1 w2 hdz).mono (B := 12 / 10 * eta) (by decide +kernel)
  have ls := (pe_lip (Z := ZZ) sL nz hz w1 w2 hdz).mono (B := 5 / 10 * eta) (by decide +kernel)
  constructor
  · exact ((C2.add lc).of_eq (by show qv (cosE z) - pe cL (qv z) + _ = _; unfold cF; grind)).mono (by grind)
  · have dS : Bd (qv (sinE z) - pe sL (α * α)) (1220 / 1000 * eta + 5 / 10 * eta) := (S2.add ls).of_eq (by show qv (sinE z) - pe sL (qv z) + _ = _; grind)
    have bS0 : Bd (pe sL (qv z)) 1 := ⟨by show -1 ≤ sinR (qv z); grind, S4⟩
    have bS2 : Bd (qv (sinE z)) (1 + 1220 / 1000 * eta) := (bS0.add S2).of_eq (by show pe sL (qv z) + (qv (sinE z) - pe sL (qv z)) = _; grind)
    have bSα : Bd (pe sL (α * α)) (1 + 5 / 10 * eta) := (bS0.sub ls).of_eq (by grind)
    obtain ⟨s1, s2⟩ := mul_q S1 y1 (bS2.mul by') (by decide +kernel)
    have e1 := dS.mul by'
    have e2 := bSα.mul y2
    exact (((s2.add e1).add e2).of_eq (by unfold sF; grind)).mono (by decide +kernel)
theorem YY_near : Bd (6369051672525773 / 9007199254740992 - cF YY) (4 * eta) ∧ Bd (6369051672525773 / 9007199254740992 - sF YY) (4 * eta) := ⟨⟨by decide +kernel, by decide +kernel⟩, ⟨by decide +kernel, by decide +kernel⟩⟩
theorem oct_q : isFin 4593671619917905920 = true ∧ qv 4593671619917905920 = 1 / 8 := ⟨by decide, (qv_const (n := 1) (d := 8) (by decide) (by decide +kernel)).trans (by decide +kernel)⟩
theorem oct_eq {a : Nat} (ha : isFin a = true) (h : feq a 4593671619917905920 = true) : qv a = 1 / 8 := by
  rw [feq_fin ha oct_q.1] at h
  have h1 := of_decide_eq_true h
  have h2 : qv a = qv 4593671619917905920 := congrArg (fun z : Int => (z : Rat) / UR) h1
  exact h2.trans oct_q.2
theorem oct_cir {a : Nat} (h : qv a = 1 / 8) : qv a * cir = YY := by
  have := cir_le.2.2.1
  rw [h, this]; grind
theorem eighth_0 (a : Nat) : wEighth_0 a = bif feq a 4593671619917905920 then 4604544271217802189 else cosE (fmul (fmul a 4618760256179416344) (fmul a 4618760256179416344)) := by kernel_rfl
theorem eighth_1 (a : Nat) : wEighth_1 a = bif feq a 4593671619917905920 then 4604544271217802189 else fmul (sinE (fmul (fmul a 4618760256179416344) (fmul a 4618760256179416344))) (fmul a 4618760256179416344) := by kernel_rfl
theorem eighth_cs {a : Nat} (ha : isFin a = true) (sa : sg a = false) (h8 : qv a ≤ 1 / 8) :
    Bd (qv (wEighth_0 a) - cF (qv a * cir)) (4 * eta) ∧ Bd (qv (wEighth_1 a) - sF (qv a * cir)) (4 * eta) := by
  rw [eighth_0, eighth_1]
  generalize h : feq a 4593671619917905920 = b
  cases b with
  | false =>
    rw [cond_false, cond_false]
    exact eighth_cs0 ha sa h8
  | true =>
    rw [cond_true, cond_true, oct_cir (oct_eq ha h), half_q.2]
    exact YY_near
end Go.Lk
end

section
/- The arctangent, as the program reckons it. -/
namespace Go.Lk
set_option linter.unusedSimpArgs false
set_option linter.unusedVariables false
set_option maxRecDepth 10000
set_option maxHeartbeats 1000000
def partP (q : Nat) : Nat := hn (fmul q q) tanW 13805161819457917015
def partR (q : Nat) : Nat := fdiv (fmul (partP q) q) 4618760256179416344
theorem part_eq (q : Nat) : wPart_0 q = bif fgt q 4601133428098527026 then fsub 4593671619917905920 (partR (fdiv (fsub 4607182418800017408 q) (fadd 4607182418800017408 q))) else partR q := by kernel_rfl
theorem tanP_err {z : Nat} (hz : isFin z = true) (h0 : 0 ≤ qv z) (h1 : qv z ≤ 251 / 1000) : isFin (hn z tanW 13805161819457917015) = true ∧ Bd (qv (hn z tanW 13805161819457917015) - pe tanT (qv z)) (2 * eta) ∧ Bd (pe tanT (qv z)) (11 / 10) := by
  obtain ⟨p1, p2⟩ := tan_q23
  have hE0 : ∃ e A, hE (251 / 1000) (tanL.map (·.2)) 0 (rabs tan23) = some (e, A) ∧ e ≤ 2 * eta ∧ A ≤ 2 := by
    have h : (match hE (251 / 1000) (tanL.map (·.2)) 0 (rabs tan23) with | some (e, A) => decide (e ≤ 2 * eta ∧ A ≤ 2) | none => false) = true := by decide +kernel
    split at h
    · rename_i e A he
      exact ⟨e, A, he, of_decide_eq_true h⟩
    · cases h
  obtain ⟨e, A, he, hle, hA⟩ := hE0
  obtain ⟨r1, r2, r3⟩ := hn_err hz h0 h1 (by decide +kernel) tanL 13805161819457917015 tan23 0 (rabs tan23) e A p1 (by rw [p2]; show Bd (tan23 - tan23) 0; rw [Rat.sub_self]; exact Bd.zero) (bd_rabs _) tanL_ok he
  have hpe : hP (qv z) (tanL.map (·.2)) tan23 = pe tanT (qv z) := by
    simp only [tanL, List.map_cons, List.map_nil, hP, tanT, pe, tan23]
    grind
  have hW : hn z (tanL.map (·.1)) 13805161819457917015 = hn z tanW 13805161819457917015 := by kernel_rfl
  rw [hpe, hW] at r2
  rw [hW] at r1
  refine ⟨r1, r2.mono hle, ?_⟩
  exact (pe_bd h0 h1 tanT).mono (by decide +kernel)
theorem tan_low {ζ a : Rat} {l : List Rat} (h0 : 0 ≤ ζ) (h1 : ζ ≤ 251 / 1000) (hl : 251 / 1000 * pe (l.map rabs) (251 / 1000) ≤ 1 / 10) (ha : a = 1) : 9 / 10 ≤ pe (a :: l) ζ := by
  have h2 := (Bd.mul (⟨by grind, h1⟩ : Bd ζ (251 / 1000)) (pe_bd h0 h1 l)).1
  show 9 / 10 ≤ a + ζ * pe l ζ
  grind
theorem tan_high {ζ a b : Rat} {l : List Rat} (h0 : 0 ≤ ζ) (h1 : ζ ≤ 251 / 1000) (ha : a = 1) (hb : b ≤ -(3 / 10)) (hl : 251 / 1000 * pe (l.map rabs) (251 / 1000) ≤ 3 / 10) : pe (a :: b :: l) ζ ≤ 1 := by
  have h2 := (Bd.mul (⟨by grind, h1⟩ : Bd ζ (251 / 1000)) (pe_bd h0 h1 l)).2
  show a + ζ * (b + ζ * pe l ζ) ≤ 1
  have k := Rat.mul_nonneg h0 (show 0 ≤ -(b + ζ * pe l ζ) by grind)
  grind
theorem sg_of_pos {x : Nat} (hx : isFin x = true) (h : 0 < qv x) : sg x = false := by
  cases hs : sg x with
  | false => rfl
  | true =>
    have h1 := qv_U x
    have h2 : fx x ≤ 0 := by unfold fx sgn; rw [hs]; simp
    have h3 : ((fx x : Int) : Rat) ≤ 0 := by exact_mod_cast h2
    have h4 := Rat.mul_pos h UR_pos
    grind
theorem partR_near {q : Nat} (hq : isFin q = true) (sq : sg q = false) (h : qv q ≤ 45 / 100) : isFin (partR q) = true ∧ sg (partR q) = false ∧ Bd (qv (partR q) * cir - aF (qv q)) (5 * eta) ∧ qv (partR q) ≤ 8 / 100 := by
  obtain ⟨t1, t2, t3, t4⟩ := eta_small
  obtain ⟨c1, c2⟩ := circ_q
  obtain ⟨r1, r2, _, _⟩ := cir_le
  have nq := (qv_nn sq).2
  have bq : Bd (qv q) (45 / 100) := ⟨by grind, h⟩
  have hqq := bq.mul bq
  obtain ⟨z1, z2⟩ := mul_q hq hq hqq (by decide +kernel)
  have sz : sg (fmul q q) = false := sg_mul hq hq rfl
  have nz := (qv_nn sz).2
  have hz : qv (fmul q q) ≤ 251 / 1000 := by
    have h1 := hqq.2
    have h2 := z2.2
    grind
  obtain ⟨p1, p2, p3⟩ := tanP_err z1 nz hz
  have hlow : 9 / 10 ≤ pe tanT (qv (fmul q q)) := tan_low nz hz (by decide +kernel) rfl
  have n2 := sq_nn (qv q)
  have l1 := (pe_lip (Z := 251 / 1000) tanT nz hz n2 (by have := hqq.2; grind) z2).mono (B := eta) (by decide +kernel)
  have hp : Bd (qv (partP q) - pe tanT (qv q * qv q)) (3 * eta) := ((p2.add l1).of_eq (by unfold partP; grind)).mono (by grind)
  have bp : Bd (qv (partP q)) (12 / 10) := ⟨by unfold partP; have := p2.1; have := p3.1; grind, by unfold partP; have := p2.2; have := p3.2; grind⟩
  have pos : 8 / 10 ≤ qv (partP q) := by unfold partP; have := p2.1; grind
  have p1' : isFin (partP q) = true := p1
  have sp : sg (partP q) = false := sg_of_pos p1' (by grind)
  obtain ⟨m1, m2⟩ := mul_q p1' hq (bp.mul bq) (by decide +kernel)
  have sm : sg (fmul (partP q) q) = false := sg_mul p1' hq (by rw [sp, sq])
  have nm := (qv_nn sm).2
  have hpq := (bp.mul bq).2
  have hm : qv (fmul (partP q) q) ≤ 541 / 1000 := by have := m2.2; grind
  obtain ⟨d1, d2, d3⟩ := div_q m1 c1 sm (by decide) (by rw [cir_q]; grind) (by rw [cir_q]; grind)
  rw [cir_q] at d3
  have e1 := hp.mul bq
  have kt : tau * cir ≤ tau * 7 := Rat.mul_le_mul_of_nonneg_left (by grind) t3
  have hall : Bd (qv (partR q) * cir - aF (qv q)) (5 * eta) := by
    have k1 : qv (fmul (partP q) q) * eta ≤ 541 / 1000 * eta := Rat.mul_le_mul_of_nonneg_right hm t1
    have hs := ((d3.add m2).add e1).of_eq (s := qv (partR q) * cir - aF (qv q)) (by unfold partR aF; grind)
    refine hs.mono ?_
    clear hs d3 m2 e1 hp bp p2 p3 l1 z2 hqq bq
    grind
  refine ⟨d1, d2, hall, ?_⟩
  have h1 := d3.2
  refine Rat.not_lt.1 fun hlt => ?_
  have k2 : 8 / 100 * cir ≤ qv (fdiv (fmul (partP q) q) 4618760256179416344) * cir := Rat.mul_le_mul_of_nonneg_right (Rat.le_of_lt (by unfold partR at hlt; exact hlt)) (by grind)
  -- a finer bound of what is taken: 45/100 * 1.1
  have hf : Bd (pe tanT (qv (fmul q q))) 1 := by
    have hd : pe tanT (qv (fmul q q)) ≤ 1 := by
      have := (pe_bd nz hz tanT).2
      exact tan_high nz hz rfl (by decide +kernel) (by decide +kernel)
    exact ⟨by grind, hd⟩
  have bp1 : Bd (qv (partP q)) (1 + 2 * eta) := (hf.add p2).of_eq (by unfold partP; grind)
  have hpq2 := (bp1.mul bq).2
  have h2 := m2.2
  have k1 : qv (fmul (partP q) q) * eta ≤ 541 / 1000 * eta := Rat.mul_le_mul_of_nonneg_right hm t1
  grind
end Go.Lk
end

section
/- The arctangent, as the program reckons it, of a slope near sine over cosine. -/
namespace Go.Lk
set_option linter.unusedSimpArgs false
set_option linter.unusedVariables false
set_option maxRecDepth 10000
set_option maxHeartbeats 1000000
theorem qv_le_fx {x y : Nat} (h : qv x ≤ qv y) : fx x ≤ fx y := by
  have h1 := Rat.mul_le_mul_of_nonneg_right h (c := UR) (Rat.le_of_lt UR_pos)
  rw [qv_U, qv_U] at h1
  exact Rat.intCast_le_intCast.1 h1
theorem fx_le_qv {x y : Nat} (h : fx x ≤ fx y) : qv x ≤ qv y := by
  have h1 : ((fx x : Int) : Rat) ≤ ((fx y : Int) : Rat) := Rat.intCast_le_intCast.2 h
  rw [← qv_U, ← qv_U] at h1
  exact Rat.not_lt.1 fun h2 => by have := Rat.mul_lt_mul_of_pos_right h2 UR_pos; grind
theorem fgt_qv {x y : Nat} (hx : isFin x = true) (hy : isFin y = true) : (fgt x y = true → qv y < qv x) ∧ (fgt x y = false → qv x ≤ qv y) := by
  rw [fgt_fin hx hy]
  constructor
  · intro h
    have h1 := of_decide_eq_true h
    exact Rat.not_le.1 fun h2 => by have := qv_le_fx h2; omega
  · intro h
    have h1 := of_decide_eq_false h
    exact fx_le_qv (by omega)
theorem sg_sub {x y : Nat} (hx : isFin x = true) (hy : isFin y = true) (sx : sg x = false) (h : qv y ≤ qv x) : sg (fsub x y) = false := by
  rw [fsub_fin hx hy, sx, Bool.false_and]
  have := qv_le_fx h
  unfold rnd
  split
  · decide
  · rw [sg_wd (rung_lt _)]
    exact decide_eq_false (by omega)
theorem thr_q : isFin 4601133428098527026 = true ∧ 41421356 / 100000000 ≤ qv 4601133428098527026 ∧ qv 4601133428098527026 ≤ 41421357 / 100000000 := by
  have h : qv 4601133428098527026 = 3730904090310553 / 9007199254740992 := (qv_const (n := 3730904090310553) (d := 9007199254740992) (by decide) (by decide +kernel)).trans (by decide +kernel)
  rw [h]
  exact ⟨by decide, by decide +kernel, by decide +kernel⟩
theorem slopeA {y q ε : Rat} (h0 : 0 ≤ y) (h1 : y ≤ YY) (h : Bd (q - sF y * (cF y)⁻¹) ε) (he : ε ≤ 1 / 1000) (hq : q ≤ 41421357 / 100000000) : y ≤ 44 / 100 := by
  refine Rat.not_lt.1 fun hlt => ?_
  obtain ⟨r1, r2, r3, r4, r5, r6, r7⟩ := cs_range h0 h1
  obtain ⟨i1, i2⟩ := inv_nn (m := cF y) (by grind)
  have hy := sqr_le (show (0 : Rat) ≤ 44 / 100 by decide +kernel) (Rat.le_of_lt hlt)
  have hT : sF y * (cF y)⁻¹ ≤ 42 / 100 := by have := h.1; grind
  have k := Rat.mul_le_mul_of_nonneg_right hT (c := cF y) (by grind)
  have e : sF y * (cF y)⁻¹ * cF y = sF y * (cF y * (cF y)⁻¹) := by grind
  rw [e, i2] at k
  grind
theorem slopeB {y q ε : Rat} (h0 : 0 ≤ y) (h1 : y ≤ YY) (h : Bd (q - sF y * (cF y)⁻¹) ε) (he : ε ≤ 1 / 1000) (hq : 41421356 / 100000000 ≤ q) : 37 / 100 ≤ y := by
  refine Rat.not_lt.1 fun hlt => ?_
  obtain ⟨r1, r2, r3, r4, r5, r6, r7⟩ := cs_range h0 h1
  obtain ⟨i1, i2⟩ := inv_nn (m := cF y) (by grind)
  have hy := sqr_le h0 (Rat.le_of_lt hlt)
  have hT : 41 / 100 ≤ sF y * (cF y)⁻¹ := by have := h.2; grind
  have k := Rat.mul_le_mul_of_nonneg_right hT (c := cF y) (by grind)
  have e : sF y * (cF y)⁻¹ * cF y = sF y * (cF y * (cF y)⁻¹) := by grind
  rw [e, i2] at k
  grind
/-- The other slope, as a float. -/
theorem other {q : Nat} (hq : isFin q = true) (sq : sg q = false) (h1 : qv q ≤ 1) (h2 : 41421356 / 100000000 ≤ qv q) :
    isFin (fdiv (fsub 4607182418800017408 q) (fadd 4607182418800017408 q)) = true ∧ sg (fdiv (fsub 4607182418800017408 q) (fadd 4607182418800017408 q)) = false ∧
    Bd (qv (fdiv (fsub 4607182418800017408 q) (fadd 4607182418800017408 q)) * (1 + qv q) - (1 - qv q)) (6 * eta) ∧ qv (fdiv (fsub 4607182418800017408 q) (fadd 4607182418800017408 q)) ≤ 45 / 100 := by
  obtain ⟨t1, t2, t3, t4⟩ := eta_small
  obtain ⟨o1, o2⟩ := one_q
  have bu : Bd (qv 4607182418800017408 - qv q) 1 := by rw [o2]; exact ⟨by grind, by grind⟩
  have bv : Bd (qv 4607182418800017408 + qv q) 2 := by rw [o2]; exact ⟨by grind, by grind⟩
  obtain ⟨u1, u2⟩ := sub_q o1 hq bu (by decide +kernel)
  obtain ⟨v1, v2⟩ := add_q o1 hq bv (by decide +kernel)
  have su := sg_sub o1 hq (by decide) (by rw [o2]; exact h1)
  rw [o2] at u2 v2
  generalize fsub 4607182418800017408 q = u at *
  generalize fadd 4607182418800017408 q = v at *
  generalize qv q = Q at *
  have nu := (qv_nn su).2
  have hu : qv u ≤ 586 / 1000 := by have := u2.2; grind
  have hv : 1414 / 1000 ≤ qv v := by have := v2.1; grind
  have hv2 : qv v ≤ 3 := by have := v2.2; grind
  have sv := sg_of_pos v1 (by grind)
  obtain ⟨d1, d2, d3⟩ := div_q u1 v1 su sv (by grind) (by grind)
  have nd := (qv_nn d2).2
  generalize fdiv u v = w at *
  have kt : tau * qv v ≤ tau * 3 := Rat.mul_le_mul_of_nonneg_left hv2 t3
  have ku : qv u * eta ≤ 586 / 1000 * eta := Rat.mul_le_mul_of_nonneg_right hu t1
  have hw : qv w ≤ 45 / 100 := by
    refine Rat.not_lt.1 fun hlt => ?_
    have k1 := Rat.mul_le_mul_of_nonneg_left hv (c := qv w) (by grind)
    have := d3.2
    grind
  have bw : Bd (qv w) (45 / 100) := ⟨by grind, hw⟩
  have e1 := bw.mul v2
  have hs := ((d3.sub e1).add u2).of_eq (s := qv w * (1 + Q) - (1 - Q)) (by grind)
  refine ⟨d1, d2, hs.mono ?_, hw⟩
  clear hs e1 d3 u2 v2 bu bv bw
  grind
theorem part_near {q : Nat} {y ε : Rat} (hq : isFin q = true) (sq : sg q = false) (hq1 : qv q ≤ 1) (h0 : 0 ≤ y) (h1 : y ≤ YY) (h : Bd (qv q - sF y * (cF y)⁻¹) ε) (he : ε ≤ 1 / 1000) :
    isFin (wPart_0 q) = true ∧ Bd (qv (wPart_0 q) * cir - y) (3 * ε + 60 * eta) := by
  obtain ⟨t1, t2, t3, t4⟩ := eta_small
  obtain ⟨b1, b2, b3⟩ := thr_q
  obtain ⟨c1, c2, c3, c4⟩ := cir_le
  have hε := h.nonneg
  rw [part_eq]
  cases hg : fgt q 4601133428098527026 with
  | false =>
    rw [cond_false]
    have hle := (fgt_qv hq b1).2 hg
    have hy := slopeA h0 h1 h he (by grind)
    obtain ⟨p1, p2, p3, p4⟩ := partR_near hq sq (by grind)
    have w := way1 h0 hy
    obtain ⟨u1, u2⟩ := tan1_bd h0 hy
    have nq := (qv_nn sq).2
    have bT : Bd (sF y * (cF y)⁻¹) (1 / 2) := ⟨by grind, by have := h.1; grind⟩
    have l := aF_lip (⟨by grind, by grind⟩ : Bd (qv q) (1 / 2)) bT h
    have k := Rat.mul_le_mul_of_nonneg_left hy (c := 36 * eta) (by grind)
    exact ⟨p1, (((p3.add l).add w).of_eq (by grind)).mono (by grind)⟩
  | true =>
    rw [cond_true]
    have hlt := (fgt_qv hq b1).1 hg
    have hy := slopeB h0 h1 h he (by grind)
    obtain ⟨o1, o2, o3, o4⟩ := other hq sq hq1 (by grind)
    generalize fdiv (fsub 4607182418800017408 q) (fadd 4607182418800017408 q) = w at *
    obtain ⟨p1, p2, p3, p4⟩ := partR_near o1 o2 o4
    have wy := way2 hy h1
    obtain ⟨g1, g2, g3⟩ := tan2_bd hy h1
    obtain ⟨r1, r2, r3, r4, r5, r6, r7⟩ := cs_range h0 h1
    obtain ⟨i1, i2⟩ := inv_nn (m := cF y) (by grind)
    have nw := (qv_nn o2).2
    have hS : Bd (sF y - qv q * cF y) (ε * cF y) := by
      have k := h.neg.mul (⟨by grind, Rat.le_refl⟩ : Bd (cF y) (cF y))
      have e : -(qv q - sF y * (cF y)⁻¹) * cF y = sF y * (cF y * (cF y)⁻¹) - qv q * cF y := by grind
      rw [e, i2] at k
      exact k.of_eq (by grind)
    have hd : Bd (qv w - (cF y - sF y) * (cF y + sF y)⁻¹) (6 * eta + 2 * ε) := by
      refine Bd.cancel (G := (1 + qv q) * (cF y + sF y)) (Rat.mul_pos (by grind) (by grind)) ?_
      have k1 := o3.mul (⟨by grind, Rat.le_refl⟩ : Bd (cF y + sF y) (cF y + sF y))
      have k2 := k1.add (hS.add hS)
      have e : (qv w - (cF y - sF y) * (cF y + sF y)⁻¹) * ((1 + qv q) * (cF y + sF y)) = qv w * (1 + qv q) * (cF y + sF y) - (cF y - sF y) * (1 + qv q) * ((cF y + sF y) * (cF y + sF y)⁻¹) := by grind
      rw [e, g3]
      refine (k2.of_eq (by grind)).mono ?_
      have m1 := Rat.mul_nonneg (show 0 ≤ 6 * eta + 2 * ε by grind) (Rat.mul_nonneg (show 0 ≤ qv q by grind) (show 0 ≤ cF y + sF y by grind))
      have m2 := Rat.mul_nonneg hε (show 0 ≤ sF y by grind)
      grind
    have l := aF_lip (⟨by grind, by grind⟩ : Bd (qv w) (1 / 2)) g1 hd
    have hYs : YY - y ≤ 786 / 1000 := by grind
    have k := Rat.mul_le_mul_of_nonneg_left hYs (c := 36 * eta) (by grind)
    have hR := ((p3.add l).add wy).of_eq (s := qv (partR w) * cir - (YY - y)) (by grind)
    have np := (qv_nn p2).2
    obtain ⟨q1, q2⟩ := oct_q
    have bs : Bd (qv 4593671619917905920 - qv (partR w)) (1 / 8) := by rw [q2]; exact ⟨by grind, by grind⟩
    obtain ⟨s1, s2⟩ := sub_q q1 p1 bs (by decide +kernel)
    rw [q2] at s2
    have s3 := s2.mul (⟨by grind, c1⟩ : Bd cir (6283185308 / 1000000000))
    refine ⟨s1, ((s3.sub hR).of_eq (by rw [c3]; grind)).mono ?_⟩
    clear s3 hR bs s2 l hd hS wy p3 o3
    grind
end Go.Lk
end

section
/- The angle in the first eighth, from two sides that are near its cosine and sine. -/
namespace Go.Lk
set_option linter.unusedSimpArgs false
set_option linter.unusedVariables false
set_option maxRecDepth 10000
set_option maxHeartbeats 1000000
/-- A quotient of what is no greater is at most 1. -/
theorem div_le_one {x y : Nat} (hx : isFin x = true) (hy : isFin y = true) (sx : sg x = false) (sy : sg y = false) (h0 : 0 < qv y) (hle : qv x ≤ qv y) (d1 : isFin (fdiv x y) = true) (d3 : Bd (qv (fdiv x y) * qv y - qv x) (qv x * eta + tau * qv y)) (nd : 0 ≤ qv (fdiv x y)) : qv (fdiv x y) ≤ 1 := by
  have hU := UR_pos
  obtain ⟨ex, nx⟩ := qv_nn sx
  obtain ⟨ey, ny⟩ := qv_nn sy
  have hY : fxr (rg y) ≠ 0 := by
    intro h
    rw [h] at ey
    have : qv y * UR = 0 := ey
    rcases Rat.mul_eq_zero.1 this with h1 | h1 <;> grind
  obtain ⟨r, e, hr⟩ := fdiv_near hx hy hY
  rw [sx, sy] at e
  have hXY : fxr (rg x) ≤ fxr (rg y) := by
    refine Rat.natCast_le_natCast.1 ?_
    rw [← ex, ← ey]
    exact Rat.mul_le_mul_of_nonneg_right hle (by grind)
  have hone : r ≤ rg fone := hr.le_of (by have := rg_one_lt; unfold infR; omega) (by rw [fxr_one, Nat.mul_comm U]; exact Nat.mul_le_mul_right _ hXY)
  have ho := rg_one_lt
  have hsg : sg (wd false r) = false := sg_wd (by omega)
  simp only [Bool.xor_self] at e
  rw [e]
  obtain ⟨er, nr⟩ := qv_nn hsg
  rw [rg_wd (by omega)] at er
  have h1 : fxr r ≤ U := by rw [← fxr_one]; exact fxr_le.2 hone
  have h2 : ((fxr r : Nat) : Rat) ≤ UR := Rat.natCast_le_natCast.2 h1
  rw [← er] at h2
  exact Rat.not_lt.1 fun h => by have := Rat.mul_lt_mul_of_pos_right h hU; grind
/-- The greater side is the cosine's. -/
theorem sideA {a b : Nat} {y r e : Rat} (ha : isFin a = true) (hb : isFin b = true) (sa : sg a = false) (sb : sg b = false) (h0 : 0 ≤ y) (h1 : y ≤ YY) (hr : 0 < r) (he : e ≤ 1 / 100000)
    (hA : Bd (qv a - r * cF y) (r * e)) (hB : Bd (qv b - r * sF y) (r * e)) (hle : qv b ≤ qv a) :
    isFin (wPart_0 (fdiv b a)) = true ∧ Bd (qv (wPart_0 (fdiv b a)) * cir - y) (12 * e + 66 * eta) := by
  obtain ⟨t1, t2, t3, t4⟩ := eta_small
  obtain ⟨r1, r2, r3, r4, r5, r6, r7⟩ := cs_range h0 h1
  obtain ⟨i1, i2⟩ := inv_nn (m := cF y) (by grind)
  have he0 : 0 ≤ e := by
    have := hA.nonneg
    exact Rat.not_lt.1 fun h => by have := Rat.mul_lt_mul_of_pos_left h hr; grind
  have hY : YY ≤ 786 / 1000 := by decide +kernel
  -- A is not small
  have hA1 : 59 / 100 * r ≤ qv a := by
    have k1 := Rat.mul_le_mul_of_nonneg_left r7 (c := r) (Rat.le_of_lt hr)
    have k2 := Rat.mul_le_mul_of_nonneg_left he (c := r) (Rat.le_of_lt hr)
    have := hA.1
    grind
  have hpos : 0 < qv a := by grind
  have nb := (qv_nn sb).2
  obtain ⟨d1, d2, d3⟩ := div_q hb ha sb sa hpos hle
  have nd := (qv_nn d2).2
  have hq1 : qv (fdiv b a) ≤ 1 := div_le_one hb ha sb sa hpos hle d1 d3 nd
  generalize fdiv b a = q at *
  have hd : Bd (qv q - sF y * (cF y)⁻¹) (4 * e + 2 * eta) := by
    refine Bd.cancel (G := qv a * cF y) (Rat.mul_pos hpos (by grind)) ?_
    have bC : Bd (cF y) (cF y) := ⟨by grind, Rat.le_refl⟩
    have bS : Bd (sF y) (sF y) := ⟨by grind, Rat.le_refl⟩
    have k := ((d3.mul bC).add (hB.mul bC)).sub (hA.mul bS)
    have ee : (qv q - sF y * (cF y)⁻¹) * (qv a * cF y) = qv q * qv a * cF y - qv a * sF y * (cF y * (cF y)⁻¹) := by grind
    rw [ee, i2]
    refine (k.of_eq (by grind)).mono ?_
    -- the bounds
    have m1 : qv b * eta * cF y ≤ qv a * eta * cF y := Rat.mul_le_mul_of_nonneg_right (Rat.mul_le_mul_of_nonneg_right hle t1) (by grind)
    have m2 : tau * qv a * cF y ≤ eta * qv a * cF y := Rat.mul_le_mul_of_nonneg_right (Rat.mul_le_mul_of_nonneg_right (by grind) (Rat.le_of_lt hpos)) (by grind)
    have m3 : r * e * sF y ≤ r * e * (135 / 100 * cF y) := Rat.mul_le_mul_of_nonneg_left (by grind) (Rat.mul_nonneg (Rat.le_of_lt hr) he0)
    have m4 : r * (e * cF y) ≤ 170 / 100 * qv a * (e * cF y) := Rat.mul_le_mul_of_nonneg_right (by grind) (Rat.mul_nonneg he0 (by grind))
    have f1 : (qv b * eta + tau * qv a) * cF y + r * e * cF y + r * e * sF y = qv b * eta * cF y + tau * qv a * cF y + r * (e * cF y) + r * e * sF y := by grind
    have f2 : r * e * (135 / 100 * cF y) = 135 / 100 * (r * (e * cF y)) := by grind
    have f3 : 170 / 100 * qv a * (e * cF y) = 170 / 100 * (qv a * (e * cF y)) := by grind
    have f4 : (4 * e + 2 * eta) * (qv a * cF y) = 4 * (qv a * (e * cF y)) + 2 * (qv a * eta * cF y) := by grind
    have f5 : eta * qv a * cF y = qv a * eta * cF y := by grind
    rw [f1, f4]
    rw [f2] at m3
    rw [f3] at m4
    rw [f5] at m2
    have n1 : 0 ≤ qv a * (e * cF y) := Rat.mul_nonneg (Rat.le_of_lt hpos) (Rat.mul_nonneg he0 (by grind))
    clear f1 f2 f3 f4 f5 k ee hA hB d3 bC bS hA1 r1 r2 r3 r4 r5 r6 r7 t1 t2 t3 t4
    generalize qv b * eta * cF y = x1 at *
    generalize qv a * eta * cF y = x2 at *
    generalize tau * qv a * cF y = x3 at *
    generalize r * (e * cF y) = x4 at *
    generalize r * e * sF y = x5 at *
    generalize qv a * (e * cF y) = x6 at *
    clear hpos nd hq1 hle h0 h1 hr he he0 hY i1 i2
    grind
  obtain ⟨p1, p2⟩ := part_near d1 d2 hq1 h0 h1 hd (by grind)
  exact ⟨p1, p2.mono (by grind)⟩
theorem tan_YY : Bd (sF YY * (cF YY)⁻¹ - 1) eta := ⟨by decide +kernel, by decide +kernel⟩
theorem aF_sign {q : Rat} (h : Bd q (1 / 2)) : (0 ≤ q → aF q ≤ 101 / 100 * q) ∧ (q ≤ 0 → aF q ≤ 9 / 10 * q) := by
  have h2 := h.sqr
  have h1 := sq_nn q
  have l : 9 / 10 ≤ pe tanT (q * q) := tan_low h1 (by grind) (by decide +kernel) rfl
  have u : pe tanT (q * q) ≤ 1 := tan_high h1 (by grind) rfl (by decide +kernel) (by decide +kernel)
  unfold aF
  generalize pe tanT (q * q) = p at *
  constructor
  · intro h0
    have := Rat.mul_nonneg h0 (show 0 ≤ 1 - p by grind)
    grind
  · intro h0
    have := Rat.mul_nonneg (show 0 ≤ -q by grind) (show 0 ≤ p - 9 / 10 by grind)
    grind
/-- Near the end of the eighth. -/
theorem end_near {y d : Rat} (h0 : 0 ≤ y) (h1 : y ≤ YY) (hdn : 0 ≤ d) (hd : d ≤ 1 / 1000) (h : cF y - sF y ≤ d) : YY - y ≤ 101 / 100 * d + 2 * eta ∧ sF y - cF y ≤ 3 * eta ∧ 37 / 100 ≤ y := by
  obtain ⟨t1, t2, t3, t4⟩ := eta_small
  obtain ⟨r1, r2, r3, r4, r5, r6, r7⟩ := cs_range h0 h1
  have hY : YY ≤ 786 / 1000 := by decide +kernel
  have hy : 37 / 100 ≤ y := by
    refine Rat.not_lt.1 fun hlt => ?_
    have := sqr_le h0 (Rat.le_of_lt hlt)
    grind
  obtain ⟨g1, g2, g3⟩ := tan2_bd hy h1
  have w := way2 hy h1
  obtain ⟨s1, s2⟩ := aF_sign g1
  have hsum : 1 ≤ cF y + sF y := by
    have := sqr_le (show (0 : Rat) ≤ y by grind) h1
    have hz : YY * YY ≤ 617 / 1000 := by decide +kernel
    have := sqr_le (show (0 : Rat) ≤ 37 / 100 by decide +kernel) hy
    grind
  obtain ⟨i1, _⟩ := inv_nn (m := cF y + sF y) (by grind)
  generalize hT : (cF y - sF y) * (cF y + sF y)⁻¹ = T at *
  have eT : T * (cF y + sF y) = cF y - sF y := by
    rw [← hT]
    have : (cF y - sF y) * (cF y + sF y)⁻¹ * (cF y + sF y) = (cF y - sF y) * ((cF y + sF y) * (cF y + sF y)⁻¹) := by grind
    rw [this, g3]; grind
  have hTd : T ≤ 0 ∨ T ≤ d := by
    rcases Rat.le_total (a := T) (b := 0) with h | h'
    · exact .inl h
    · refine .inr ?_
      have := Rat.mul_nonneg h' (show 0 ≤ cF y + sF y - 1 by grind)
      grind
  have hYs : YY - y ≤ 786 / 1000 := by grind
  have hk0 := Rat.mul_le_mul_of_nonneg_left hYs (c := 36 * eta) (by grind)
  have hd0 : YY - y ≤ 1 / 500 := by
    rcases hTd with h2 | h2
    · have := s2 h2; have := w.1; grind
    · rcases Rat.le_total (a := T) (b := 0) with h3 | h3
      · have := s2 h3; have := w.1; grind
      · have := s1 h3; have := w.1; grind
  have hk := Rat.mul_le_mul_of_nonneg_left hd0 (c := 36 * eta) (by grind)
  have hlow : -(2 * eta) ≤ T := by
    refine Rat.not_lt.1 fun hlt => ?_
    have := s2 (by grind)
    have := w.1
    grind
  refine ⟨?_, ?_, hy⟩
  · rcases Rat.le_total (a := T) (b := 0) with h3 | h3
    · have := s2 h3
      have := w.1
      grind
    · have := s1 h3
      have := w.1
      rcases hTd with h2 | h2 <;> grind
  · have k := Rat.mul_nonneg (show 0 ≤ T + 2 * eta by grind) (show 0 ≤ cF y + sF y by grind)
    have k2 : cF y + sF y ≤ 3 / 2 := by
      obtain ⟨q1, _⟩ := G_pos h0 h1
      have q2 := q1.2
      have q3 := sq_nn (cF y - sF y)
      refine Rat.not_lt.1 fun hlt => ?_
      have q4 := sqr_le (show (0 : Rat) ≤ 3 / 2 by decide +kernel) (Rat.le_of_lt hlt)
      clear k s1 s2 w g1 g2 g3 eT hTd hlow hk hk0
      grind
    have k3 := Rat.mul_nonneg (show 0 ≤ 2 * eta by grind) (show 0 ≤ 3 / 2 - (cF y + sF y) by grind)
    grind
theorem le_cancel {r x z : Rat} (hr : 0 < r) (h : r * x ≤ r * z) : x ≤ z := Rat.not_lt.1 fun h2 => by have := Rat.mul_lt_mul_of_pos_left h2 hr; grind
/-- The greater side is the sine's: both are near the end of the eighth. -/
theorem sideB {a b : Nat} {y r e : Rat} (ha : isFin a = true) (hb : isFin b = true) (sa : sg a = false) (sb : sg b = false) (h0 : 0 ≤ y) (h1 : y ≤ YY) (hr : 0 < r) (he : e ≤ 1 / 100000)
    (hA : Bd (qv a - r * cF y) (r * e)) (hB : Bd (qv b - r * sF y) (r * e)) (hle : qv a ≤ qv b) :
    isFin (wPart_0 (fdiv a b)) = true ∧ Bd (qv (wPart_0 (fdiv a b)) * cir - YY) (12 * e + 100 * eta) ∧ YY - y ≤ 3 * e + 2 * eta := by
  obtain ⟨t1, t2, t3, t4⟩ := eta_small
  obtain ⟨r1, r2, r3, r4, r5, r6, r7⟩ := cs_range h0 h1
  have he0 : 0 ≤ e := by
    have := hA.nonneg
    exact Rat.not_lt.1 fun h => by have := Rat.mul_lt_mul_of_pos_left h hr; grind
  have hcs : cF y - sF y ≤ 2 * e := le_cancel hr (by have := hA.1; have := hB.2; grind)
  obtain ⟨n1, n2, n3⟩ := end_near h0 h1 (show 0 ≤ 2 * e by grind) (by grind) hcs
  have hB1 : 58 / 100 * r ≤ qv b := by
    have k1 := Rat.mul_le_mul_of_nonneg_left (show 58 / 100 ≤ sF y - e by grind) (c := r) (Rat.le_of_lt hr)
    have := hB.1
    grind
  have hpos : 0 < qv b := by grind
  obtain ⟨d1, d2, d3⟩ := div_q ha hb sa sb hpos hle
  have nd := (qv_nn d2).2
  have hq1 : qv (fdiv a b) ≤ 1 := div_le_one ha hb sa sb hpos hle d1 d3 nd
  generalize fdiv a b = q at *
  have hq : Bd (qv q - 1) (4 * e + 8 * eta) := by
    refine Bd.cancel hpos ?_
    have hd : Bd (qv a - qv b) (r * (3 * eta + 2 * e)) := by
      have k1 := Rat.mul_le_mul_of_nonneg_left n2 (c := r) (Rat.le_of_lt hr)
      have k3 := Rat.mul_nonneg (Rat.le_of_lt hr) (show 0 ≤ 3 * eta + 2 * e by grind)
      constructor
      · have := hA.1; have := hB.2; grind
      · grind
    have k := d3.add hd
    have m1 : qv a * eta ≤ qv b * eta := Rat.mul_le_mul_of_nonneg_right hle t1
    have m2 : tau * qv b ≤ eta * qv b := Rat.mul_le_mul_of_nonneg_right (by grind) (Rat.le_of_lt hpos)
    have m3 : r * (3 * eta + 2 * e) ≤ 173 / 100 * qv b * (3 * eta + 2 * e) := Rat.mul_le_mul_of_nonneg_right (by grind) (by grind)
    have n5 : 0 ≤ qv b * e := Rat.mul_nonneg (Rat.le_of_lt hpos) he0
    have n6 : 0 ≤ qv b * eta := Rat.mul_nonneg (Rat.le_of_lt hpos) t1
    refine (k.of_eq (by grind)).mono ?_
    clear k hd hA hB d3 r1 r2 r3 r4 r5 r6 r7 t2 t3 t4 n1 n2 n3 hcs hB1
    grind
  have hT := hq.sub tan_YY
  have hY0 : 0 ≤ YY := by decide +kernel
  obtain ⟨p1, p2⟩ := part_near d1 d2 hq1 hY0 Rat.le_refl (hT.of_eq (by grind)) (by grind)
  exact ⟨p1, p2.mono (by grind), by grind⟩
end Go.Lk
end

section
/- The angle in the first quarter. -/
namespace Go.Lk
set_option linter.unusedSimpArgs false
set_option linter.unusedVariables false
set_option maxRecDepth 10000
set_option maxHeartbeats 1000000
theorem quart_q : isFin 4598175219545276416 = true ∧ qv 4598175219545276416 = 1 / 4 := ⟨by decide, (qv_const (n := 1) (d := 4) (by decide) (by decide +kernel)).trans (by decide +kernel)⟩
theorem hlf_q : isFin 4602678819172646912 = true ∧ qv 4602678819172646912 = 1 / 2 := ⟨by decide, (qv_const (n := 1) (d := 2) (by decide) (by decide +kernel)).trans (by decide +kernel)⟩
def quad (X Y : Nat) : Nat := bif fgt Y X then fsub 4598175219545276416 (wPart_0 (fdiv (fmin X Y) (fmax X Y))) else wPart_0 (fdiv (fmin X Y) (fmax X Y))
theorem by_cir {x β e : Rat} (h : Bd (x * cir - β * cir) (6283185307 / 1000000000 * e)) (he : 0 ≤ e) : Bd (x - β) e := by
  obtain ⟨r1, r2, _, _⟩ := cir_le
  refine Bd.cancel (G := cir) (by grind) ((h.of_eq (by grind)).mono ?_)
  have := Rat.mul_nonneg he (show 0 ≤ cir - 6283185307 / 1000000000 by grind)
  grind
theorem from_quart {p : Nat} {β E : Rat} (hp : isFin p = true) (h : Bd (qv p - (1 / 4 - β)) E) (hb : 0 ≤ β) (hb4 : β ≤ 1 / 4) (hE : E ≤ 1 / 1000) : isFin (fsub 4598175219545276416 p) = true ∧ Bd (qv (fsub 4598175219545276416 p) - β) (E + eta) := by
  obtain ⟨t1, t2, t3, t4⟩ := eta_small
  obtain ⟨q1, q2⟩ := quart_q
  have hB : Bd (qv 4598175219545276416 - qv p) (1 / 2) := by rw [q2]; exact ⟨by have := h.2; grind, by have := h.1; grind⟩
  obtain ⟨s1, s2⟩ := sub_q q1 hp hB (by decide +kernel)
  rw [q2] at s2
  exact ⟨s1, ((s2.sub h).of_eq (by grind)).mono (by grind)⟩
/-- Nearer the first side. -/
theorem quadA {X Y : Nat} {β r e : Rat} (hX : isFin X = true) (hY : isFin Y = true) (sX : sg X = false) (sY : sg Y = false) (h0 : 0 ≤ β) (h1 : β ≤ 1 / 8) (hr : 0 < r) (he : e ≤ 1 / 100000)
    (hA : Bd (qv X - r * cF (β * cir)) (r * e)) (hB : Bd (qv Y - r * sF (β * cir)) (r * e)) : isFin (quad X Y) = true ∧ Bd (qv (quad X Y) - β) (3 * e + 18 * eta) := by
  obtain ⟨t1, t2, t3, t4⟩ := eta_small
  obtain ⟨r1, r2, r3, r4⟩ := cir_le
  have y0 := Rat.mul_nonneg h0 (show 0 ≤ cir by grind)
  have y1 : β * cir ≤ YY := by have := Rat.mul_le_mul_of_nonneg_right h1 (c := cir) (by grind); grind
  have he0 : 0 ≤ e := by
    have := hA.nonneg
    exact Rat.not_lt.1 fun h => by have := Rat.mul_lt_mul_of_pos_left h hr; grind
  unfold quad
  rcases max_min hX hY sX sY with ⟨m1, m2, m3⟩ | ⟨m1, m2, m3⟩
  · have hg : fgt Y X = false := by
      cases h : fgt Y X
      · rfl
      · have := (fgt_qv hY hX).1 h; grind
    rw [hg, m1, m2, cond_false]
    obtain ⟨p1, p2⟩ := sideA hX hY sX sY y0 y1 hr he hA hB m3
    exact ⟨p1, by_cir (p2.mono (by grind)) (by grind)⟩
  · rw [m1, m2]
    obtain ⟨p1, p2, p3⟩ := sideB hX hY sX sY y0 y1 hr he hA hB m3
    cases hg : fgt Y X
    · rw [cond_false]
      refine ⟨p1, by_cir ?_ (by grind)⟩
      have h3 : Bd (YY - β * cir) (3 * e + 2 * eta) := ⟨by grind, p3⟩
      exact ((p2.add h3).of_eq (by grind)).mono (by grind)
    · rw [cond_true]
      have hp : Bd (qv (wPart_0 (fdiv X Y)) - (1 / 4 - β)) (3 * e + 17 * eta) := by
        refine by_cir ?_ (by grind)
        have h3 : Bd (YY - β * cir) (3 * e + 2 * eta) := ⟨by grind, p3⟩
        exact ((p2.sub h3).of_eq (by grind)).mono (by grind)
      obtain ⟨s1, s2⟩ := from_quart p1 hp h0 (by grind) (by grind)
      exact ⟨s1, s2.mono (by grind)⟩
/-- Nearer the other side. -/
theorem quadB {X Y : Nat} {β r e : Rat} (hX : isFin X = true) (hY : isFin Y = true) (sX : sg X = false) (sY : sg Y = false) (h0 : 1 / 8 ≤ β) (h1 : β ≤ 1 / 4) (hr : 0 < r) (he : e ≤ 1 / 100000)
    (hA : Bd (qv X - r * sF ((1 / 4 - β) * cir)) (r * e)) (hB : Bd (qv Y - r * cF ((1 / 4 - β) * cir)) (r * e)) : isFin (quad X Y) = true ∧ Bd (qv (quad X Y) - β) (3 * e + 18 * eta) := by
  obtain ⟨t1, t2, t3, t4⟩ := eta_small
  obtain ⟨r1, r2, r3, r4⟩ := cir_le
  have y0 := Rat.mul_nonneg (show 0 ≤ 1 / 4 - β by grind) (show 0 ≤ cir by grind)
  have y1 : (1 / 4 - β) * cir ≤ YY := by have := Rat.mul_le_mul_of_nonneg_right (show 1 / 4 - β ≤ 1 / 8 by grind) (c := cir) (by grind); grind
  have he0 : 0 ≤ e := by
    have := hA.nonneg
    exact Rat.not_lt.1 fun h => by have := Rat.mul_lt_mul_of_pos_left h hr; grind
  unfold quad
  rcases max_min hX hY sX sY with ⟨m1, m2, m3⟩ | ⟨m1, m2, m3⟩
  · have hg : fgt Y X = false := by
      cases h : fgt Y X
      · rfl
      · have := (fgt_qv hY hX).1 h; grind
    rw [hg, m1, m2, cond_false]
    obtain ⟨p1, p2, p3⟩ := sideB hY hX sY sX y0 y1 hr he hB hA m3
    refine ⟨p1, by_cir ?_ (by grind)⟩
    have h3 : Bd (YY - (1 / 4 - β) * cir) (3 * e + 2 * eta) := ⟨by grind, p3⟩
    exact ((p2.sub h3).of_eq (by grind)).mono (by grind)
  · rw [m1, m2]
    obtain ⟨p1, p2⟩ := sideA hY hX sY sX y0 y1 hr he hB hA m3
    cases hg : fgt Y X
    · rw [cond_false]
      have hle := (fgt_qv hY hX).2 hg
      obtain ⟨_, _, p3⟩ := sideB hY hX sY sX y0 y1 hr he hB hA hle
      refine ⟨p1, by_cir ?_ (by grind)⟩
      have h3 : Bd (YY - (1 / 4 - β) * cir) (3 * e + 2 * eta) := ⟨by grind, p3⟩
      exact ((p2.sub (h3.add h3)).of_eq (by grind)).mono (by grind)
    · rw [cond_true]
      have hp : Bd (qv (wPart_0 (fdiv X Y)) - (1 / 4 - β)) (3 * e + 17 * eta) := by_cir (p2.mono (by grind)) (by grind)
      obtain ⟨s1, s2⟩ := from_quart p1 hp (by grind) h1 (by grind)
      exact ⟨s1, s2.mono (by grind)⟩
end Go.Lk
end
