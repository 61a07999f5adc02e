/- BeamBack: joined. -/
import Derived.Test.YtmomainjlncogaaLkW6
import Derived.Test.YtmomainjlncogaaLkW3
namespace Go.Lk
open Go.Proofs
set_option maxRecDepth 100000
set_option maxHeartbeats 0
set_option linter.unusedVariables false
set_option linter.unusedSimpArgs false
theorem turn_none : ∀ s, wTurn_0 (wd s 0) = 4607182418800017408 ∧ wTurn_1 (wd s 0) = 0 := by
  intro s; cases s <;> decide +kernel
theorem stX_first {q : Nat} (hq : isFin q = true) : ∃ s, stX q 0 = wd s 0 := by
  have h0 : FloatKind.f64.nearest (iN 0) = 0 := by decide +kernel
  unfold stX
  rw [h0]
  obtain ⟨r, e, hr⟩ := fmul_near fin_zero hq
  have : r = 0 := Nat.le_zero.1 (hr.le_of (Nat.zero_le _) (by rw [show rg 0 = 0 from rfl, fxr_zero]; omega))
  rw [this] at e
  exact ⟨_, e⟩
theorem stX_one {q : Nat} (cq : Canon q) (hq : isFin q = true) : stX q 1 = q := by
  have h0 : FloatKind.f64.nearest (iN 1) = 4607182418800017408 := by decide +kernel
  unfold stX
  rw [h0, fmul_comm, fmul_1 cq.lt hq]
theorem fin_d {d : Nat} (h : Canon d) (g1 : fge d 4562146422526312448 = true) (g2 : fle d 4602678819172646912 = true) : isFin d = true := by
  rcases h.three with h | ⟨s, rfl⟩ | rfl
  · exact h
  · cases s
    · exact absurd g2 (by decide +kernel)
    · exact absurd g1 (by decide +kernel)
  · exact absurd g1 (by decide +kernel)
theorem fin_s {d : Nat} (h : Canon d) (g1 : fge d 13821186968429862584 = true) (g2 : fle d 4597814931575086776 = true) : isFin d = true := by
  rcases h.three with h | ⟨s, rfl⟩ | rfl
  · exact h
  · cases s
    · exact absurd g2 (by decide +kernel)
    · exact absurd g1 (by decide +kernel)
  · exact absurd g1 (by decide +kernel)
theorem fle_q {x y : Nat} (hx : isFin x = true) (hy : isFin y = true) (h : fle x y = true) : qv x ≤ qv y := by
  rw [fle_fin hx hy] at h
  exact fx_le_qv (of_decide_eq_true h)
theorem fge_q {x y : Nat} (hx : isFin x = true) (hy : isFin y = true) (h : fge x y = true) : qv y ≤ qv x := by
  rw [fge_fin hx hy] at h
  exact fx_le_qv (of_decide_eq_true h)
theorem c10_q : isFin 4562146422526312448 = true ∧ qv 4562146422526312448 = 1 / 1024 := ⟨by decide, (qv_const (n := 1) (d := 1024) (by decide) (by decide +kernel)).trans (by decide +kernel)⟩
theorem c24_q : isFin 4597814931575086776 = true ∧ qv 4597814931575086776 ≤ 2401 / 10000 ∧ isFin 13821186968429862584 = true ∧ -(2401 / 10000) ≤ qv 13821186968429862584 := by
  have h : qv 4597814931575086776 = 1080863910568919 / 4503599627370496 := (qv_const (n := 1080863910568919) (d := 4503599627370496) (by decide) (by decide +kernel)).trans (by decide +kernel)
  have k : qv 13821186968429862584 = -1080863910568919 / 4503599627370496 := (qv_const (n := -1080863910568919) (d := 4503599627370496) (by decide) (by decide +kernel)).trans (by decide +kernel)
  rw [h, k]
  exact ⟨by decide, by decide +kernel, by decide, by decide +kernel⟩
theorem c30_q : isFin 4472074429978902528 = true ∧ 81 * es + 1 * eta + 1 * tau ≤ qv 4472074429978902528 := by
  have h : qv 4472074429978902528 = 1 / 1073741824 := (qv_const (n := 1) (d := 1073741824) (by decide) (by decide +kernel)).trans (by decide +kernel)
  rw [h]
  exact ⟨by decide, by decide +kernel⟩
theorem fle_abs2 {x y : Nat} (hx : isFin x = true) (hy : isFin y = true) {e : Rat} (h : Bd (qv x) e) (he : e ≤ qv y) : fle (fabs x) y = true := by
  rw [fabs_rg hx, fle_fin (fin_rg hx) hy]
  refine decide_eq_true (qv_le_fx ?_)
  rw [rabs_rg hx]
  exact Rat.le_trans (rabs_le h) he
/-- Of any space and any bearing it tells true. -/
theorem bk_all (d s : Nat) (hd : Canon d) (hs : Canon s) : ∃ σ1, CallR Try.prog false 27 [.float .f64 d, .float .f64 s] [] (.bool true) σ1 := by
  cases g1 : fge d 4562146422526312448 with
  | false => exact ⟨_, bkQ1_p0 d s g1⟩
  | true =>
  cases g2 : fle d 4602678819172646912 with
  | false => exact ⟨_, bkQ2_p0 d s g1 g2⟩
  | true =>
  cases g3 : fge s 13821186968429862584 with
  | false => exact ⟨_, bkQ3_p0 d s g1 g2 g3⟩
  | true =>
  cases g4 : fle s 4597814931575086776 with
  | false => exact ⟨_, bkQ4_p0 d s g1 g2 g3 g4⟩
  | true =>
  have fd := fin_d hd g1 g2
  have fs := fin_s hs g3 g4
  obtain ⟨k1, k2⟩ := c10_q
  obtain ⟨m1, m2, m3, m4⟩ := c24_q
  have d0 : 1 / 1024 ≤ qv d := by rw [← k2]; exact fge_q fd k1 g1
  have d1 : qv d ≤ 1 / 2 := by rw [← hlf_q.2]; exact fle_q fd hlf_q.1 g2
  have hsB : Bd (qv s) (2401 / 10000) := ⟨Rat.le_trans m4 (fge_q fs m3 g3), Rat.le_trans (fle_q fs m1 g4) m2⟩
  obtain ⟨t1, t2, t3, t4⟩ := eta_small
  -- the sine
  obtain ⟨f0, f1, _⟩ := turn_near hs fs
  have hσ : Bd (qv (wTurn_1 s)) (9984 / 10000) := by
    obtain ⟨w1, left, β, h1, h2, h3, h4, h5, h6, h7, h8⟩ := turn_sides hs fs
    rw [wrap_less hs fs (hsB.mono (by decide +kernel))] at h2 h7
    have hw := rabs_le hsB
    have hL : left = false := by
      cases left with
      | false => rfl
      | true => have := h7 rfl; grind
    subst hL
    simp only [cond_false] at h2
    have hβ : β ≤ 2402 / 10000 := by
      have h9 := h2.1
      have t5 : 2 * eta ≤ 1 / 10000 := by decide +kernel
      grind
    have hV := sin_le h1 hβ
    have k := qv_rg_abs f1
    have n := (qv_nn (rg_sg (wTurn_1 s))).2
    rw [rabs_rg f1] at hV
    unfold rabs at hV
    by_cases h : qv (wTurn_1 s) < 0
    · rw [if_pos h] at hV; exact ⟨by grind, by grind⟩
    · rw [if_neg h] at hV; exact ⟨by grind, hV⟩
  obtain ⟨S1, S2⟩ := sine_near hd hs fd fs d0 d1 hσ
  have hdB : Bd (qv d) (qv d) := ⟨by grind, Rat.le_refl⟩
  obtain ⟨q1, q2⟩ := mul_q fd f1 ((hdB.mul hσ).mono (show qv d * (9984 / 10000) ≤ 1 / 2 by grind)) (by decide +kernel)
  obtain ⟨u, hu⟩ : ∃ u : Nat → Nat, u = fun i => wTurn_0 (stX (cStep_0 d s) i) := ⟨_, rfl⟩
  obtain ⟨v, hv⟩ : ∃ v : Nat → Nat, v = fun i => wTurn_1 (stX (cStep_0 d s) i) := ⟨_, rfl⟩
  have hst : stFin d s = true := by
    unfold stFin
    rw [fin_test hd, fin_test hs, fd, fs]; rfl
  have call : sSteer [.int .i64 (Int.ofNat 2), .float .f64 d, .float .f64 s] [] = some (chOk 0 2 1, [.row (rowOf (fun i => [.complex .f64 (u i) (v i)]) 2) true none]) := by
    unfold sSteer sCh3
    rw [hu, hv]
    simp only [hst, cond_true]
    rfl
  have u0 : u 0 = 4607182418800017408 ∧ v 0 = 0 := by
    obtain ⟨b, e⟩ := stX_first (q := cStep_0 d s) q1
    rw [hu, hv]
    show wTurn_0 (stX (cStep_0 d s) 0) = _ ∧ wTurn_1 (stX (cStep_0 d s) 0) = _
    rw [e]; exact turn_none b
  have u1 : u 1 = wTurn_0 (fmul d (wTurn_1 s)) ∧ v 1 = wTurn_1 (fmul d (wTurn_1 s)) := by
    rw [hu, hv]
    show wTurn_0 (stX (cStep_0 d s) 1) = _ ∧ wTurn_1 (stX (cStep_0 d s) 1) = _
    have e : stX (cStep_0 d s) 1 = cStep_0 d s := stX_one (Canon.fmul _ _) q1
    rw [e]; exact ⟨rfl, rfl⟩
  obtain ⟨e0, e1, _⟩ := turn_near (Canon.fmul d (wTurn_1 s)) q1
  have cS : Canon (fdiv (wAngle_0 (nMul_0 (wTurn_0 (fmul d (wTurn_1 s))) (wTurn_1 (fmul d (wTurn_1 s))) 4607182418800017408 (nCj_0 4607182418800017408 0)) (nMul_1 (wTurn_0 (fmul d (wTurn_1 s))) (wTurn_1 (fmul d (wTurn_1 s))) 4607182418800017408 (nCj_0 4607182418800017408 0))) d) := Canon.fdiv _ _
  have aim := bkA_p3 4607182418800017408 0 (wTurn_0 (fmul d (wTurn_1 s))) (wTurn_1 (fmul d (wTurn_1 s))) d (by decide +kernel) (by rw [bAbs_kind e0 e1]; rfl)
    (by
      show (match (none : Option Nat) with | some j => some j | none => bif cNf_0 d then some 0 else none).isSome = false
      unfold cNf_0
      rw [fin_test hd, fd]; rfl)
    (by
      cases h : fle d 0 with
      | false => rfl
      | true => have := fle_q fd fin_zero h; rw [zero_q] at this; grind)
    (by rw [feq_fin S1 S1]; exact decide_eq_true rfl)
    (by
      cases h : fgt (fabs (fdiv (wAngle_0 (nMul_0 (wTurn_0 (fmul d (wTurn_1 s))) (wTurn_1 (fmul d (wTurn_1 s))) 4607182418800017408 (nCj_0 4607182418800017408 0)) (nMul_1 (wTurn_0 (fmul d (wTurn_1 s))) (wTurn_1 (fmul d (wTurn_1 s))) 4607182418800017408 (nCj_0 4607182418800017408 0))) d)) 4607182418800017408 with
      | false => rfl
      | true =>
        rw [fabs_rg S1] at h
        have h2 := (fgt_qv (fin_rg S1) one_q.1).1 h
        rw [one_q.2, rabs_rg S1] at h2
        have h3 := rabs_le ((S2.add hσ).of_eq (s := qv (fdiv (wAngle_0 (nMul_0 (wTurn_0 (fmul d (wTurn_1 s))) (wTurn_1 (fmul d (wTurn_1 s))) 4607182418800017408 (nCj_0 4607182418800017408 0)) (nMul_1 (wTurn_0 (fmul d (wTurn_1 s))) (wTurn_1 (fmul d (wTurn_1 s))) 4607182418800017408 (nCj_0 4607182418800017408 0))) d)) (by grind))
        have := es_small.1
        grind)
  generalize fdiv (wAngle_0 (nMul_0 (wTurn_0 (fmul d (wTurn_1 s))) (wTurn_1 (fmul d (wTurn_1 s))) 4607182418800017408 (nCj_0 4607182418800017408 0)) (nMul_1 (wTurn_0 (fmul d (wTurn_1 s))) (wTurn_1 (fmul d (wTurn_1 s))) 4607182418800017408 (nCj_0 4607182418800017408 0))) d = S at *
  obtain ⟨a1, a2⟩ := back_near hs fs hsB cS S1 S2
  generalize wAngle_0 (fsqrt (fsub 4607182418800017408 (fmul S S))) S = x at *
  obtain ⟨z1, z2, z3⟩ := es_small
  obtain ⟨p1, p2⟩ := sub_q a1 fs (a2.mono (show 81 * es ≤ 1 by grind)) (by decide +kernel)
  obtain ⟨n1, n2⟩ := c30_q
  have g5 : fle (fabs (fsub x s)) 4472074429978902528 = true := fle_abs2 p1 n1 ((a2.add p2).of_eq (by grind)) (by grind)
  refine ⟨_, bkP_p0 _ (oneF_ok 115 [.complex .f64 (u 0) (v 0), .complex .f64 (u 1) (v 1), .float .f64 d] [.row (rowOf (fun i => [.complex .f64 (u i) (v i)]) 2) true none] (.tuple #[.float .f64 x, .int .i64 (Int.ofNat 0)]) [.row (rowOf (fun i => [.complex .f64 (u i) (v i)]) 2) true none]) d s u v x g1 g2 g3 g4 g5 (oneF_at ?_ (Nat.le_refl _)) call⟩
  rw [u0.1, u0.2, u1.1, u1.2]
  exact CallR.frameQ (r := fun k => k + 1) (σ0 := []) ⟨fun k o hk => by simp at hk, fun k hk => by simp⟩ rfl aim rfl
end Go.Lk
