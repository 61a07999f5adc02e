/- BeamEven: joined. -/
import Derived.Test.YtmomainjlncogaaLkEV
import Derived.Test.YtmomainjlncogaaLkJU
namespace Go.Lk
open Go.Proofs
set_option maxRecDepth 100000
set_option maxHeartbeats 0
set_option linter.unusedVariables false
set_option linter.unusedSimpArgs false
theorem fxr_900 : fxr 8660422083433463808 = 2 ^ 900 * U ∧ fx 8660422083433463808 = (fxr 8660422083433463808 : Int) := by decide +kernel
theorem fxr_902 : fxr ((1023 + 902) * 2 ^ 52) = 2 ^ 902 * U ∧ fxr ((1023 + 910) * 2 ^ 52) = 2 ^ 910 * U := by decide +kernel
theorem pw3 (a b k j l c : Nat) (hc : c = 2 ^ j) (h : k + j ≤ l) : (2 ^ k * a) * (c * b) ≤ 2 ^ l * a * b := by
  rw [Nat.mul_mul_mul_comm, hc, ← Nat.pow_add, Nat.mul_assoc]
  exact Nat.mul_le_mul_right _ (pow_ge h)
theorem le_900 {d : Nat} (hd : isFin d = true) (h : fle (fabs d) 8660422083433463808 = true) : fxr (rg d) ≤ 2 ^ 900 * U := by
  rw [fabs_rg hd, fle_fin (fin_rg hd) (by decide)] at h
  have h := of_decide_eq_true h
  have e := fx_rg (rg_sg d)
  rw [rg_rg] at e
  have e2 := fxr_900.2
  rw [← fxr_900.1]
  omega
theorem stp_fin {d s : Nat} (hd : isFin d = true) (h900 : fxr (rg d) ≤ 2 ^ 900 * U) (hs : Canon s) (fs : isFin s = true) : isFin (cStep_0 d s) = true ∧ fxr (rg (cStep_0 d s)) ≤ 2 ^ 902 * U := by
  obtain ⟨_, h2, _⟩ := turn_near hs fs
  have h3 := turn_le hs fs
  rw [← fxr_902.1]
  refine fmul_le hd h2 (by decide) ?_
  rw [fxr_902.1]
  have h5 := Nat.mul_le_mul h900 h3
  exact Nat.le_trans h5 (pw3 U U 900 1 902 2 rfl (by omega))
theorem stX_fin {q i : Nat} (hq : isFin q = true) (hb : fxr (rg q) ≤ 2 ^ 902 * U) (hi : i < 64) : isFin (stX q i) = true := by
  obtain ⟨n1, n2⟩ := isW_near (n := iN i) (by rw [iN_eq]; omega)
  have n3 : fxr (rg (FloatKind.f64.nearest (iN i))) ≤ 64 * U := by
    have := IsW.abs (x := FloatKind.f64.nearest (iN i)) (a := iN i) ⟨n1, n2⟩
    rw [this]
    exact Nat.mul_le_mul_right _ (by rw [iN_eq]; omega)
  refine (fmul_le n1 hq (R := (1023 + 910) * 2 ^ 52) (by decide) ?_).1
  rw [fxr_902.2]
  have h5 := Nat.mul_le_mul hb n3
  rw [Nat.mul_comm (fxr (rg q))] at h5
  exact Nat.le_trans h5 (pw3 U U 902 6 910 64 rfl (by omega))
theorem turn_nought : ∀ s, wTurn_0 (wd s 0) = 4607182418800017408 ∧ wTurn_1 (wd s 0) = 0 := by
  intro s; cases s <;> decide +kernel
theorem stX_0 {q : Nat} (hq : isFin q = true) : ∃ s, stX q 0 = wd s 0 := by
  have h0 : FloatKind.f64.nearest (iN 0) = 0 := by decide +kernel
  unfold stX
  rw [h0]
  obtain ⟨r, e, hr⟩ := fmul_near fin_zero hq
  have : r = 0 := Nat.le_zero.1 (hr.le_of (Nat.zero_le _) (by rw [show rg 0 = 0 from rfl, fxr_zero]; omega))
  rw [this] at e
  exact ⟨_, e⟩
def evHp (n : Nat) (u v p q : Nat → Nat) : AHeap := [.row (rowOf (fun i => [.complex .f64 (u i) (v i)]) n) true none, .row (rowOf (fun i => [.complex .f64 (p i) (q i)]) n) true none]
theorem ev_loop (n d s : Nat) (hn : n ≤ 64) (u v p q : Nat → Nat) (h : ∀ k, k < n → fle (fabs (fsub (bAbs_0 (u k) (v k)) 4607182418800017408)) 4386506037058863104 = true ∧ (feq (p k) (u k) && feq (q k) (nCj_0 (u k) (v k))) = true) (hst : Stood false []) :
    Sim dLEv 2 (.loop (loopOf Try.f31 0)) (evFr n d s 0) (evHp n u v p q) (.exit 0) (evFr n d s n) (evHp n u v p q) :=
  Sim.loop (fun k => (evFr n d s k, evHp n u v p q)) n (fun k hk => (evR_p0 n d s hn u v p q k hk (h k hk).1 (h k hk).2 hst).cast (by kernel_rfl) (by kernel_rfl) (by kernel_rfl) (by kernel_rfl))
    ((evRE_p0 n d s hn u v p q hst).cast (by kernel_rfl) (by kernel_rfl) (by kernel_rfl) (by kernel_rfl)) rfl
/-- Of any count, any space and any bearing it tells true. -/
theorem ev_all (n : Int) (d s : Nat) (hd : Canon d) (hs : Canon s) : ∃ σ1, CallR Try.prog false 31 [.int .i64 n, .float .f64 d, .float .f64 s] [] (.bool true) σ1 := by
  by_cases h1 : n < 1
  · have c : sSteer [.int .i64 n, .float .f64 d, .float .f64 s] [] = some (chNil 2, []) := by unfold sSteer sCh3; simp only [decide_eq_true h1, cond_true]
    exact ⟨_, evE2_p0 n d s c⟩
  by_cases h2 : n > 64
  · have c : sSteer [.int .i64 n, .float .f64 d, .float .f64 s] [] = some (chNil 3, []) := by unfold sSteer sCh3; simp only [decide_eq_false h1, decide_eq_true h2, cond_true, cond_false]
    exact ⟨_, evE3_p0 n d s c⟩
  cases hf : stFin d s
  · have c : sSteer [.int .i64 n, .float .f64 d, .float .f64 s] [] = some (chNil 6, []) := by unfold sSteer sCh3; simp only [decide_eq_false h1, decide_eq_false h2, hf, cond_false]
    exact ⟨_, evE6_p0 n d s c⟩
  obtain ⟨m, rfl, hm⟩ : ∃ m : Nat, n = iN m ∧ m = n.toNat := ⟨n.toNat, by rw [iN_eq]; omega, rfl⟩
  have hmn : (iN m).toNat = m := hm.symm
  have hm0 : 0 < m := by rw [iN_eq] at h1; omega
  have hm64 : m ≤ 64 := by rw [iN_eq] at h2; omega
  have call : ∀ (t : Nat) (σ : AHeap), stFin d t = true → sSteer [.int .i64 (iN m), .float .f64 d, .float .f64 t] σ = some (chOk σ.length m 1, σ ++ [.row (wSt m d t) true none]) := by
    intro t σ ht
    unfold sSteer sCh3
    simp only [decide_eq_false h1, decide_eq_false h2, ht, cond_true, cond_false, hmn]
  have fds : isFin d = true ∧ isFin s = true := by
    unfold stFin at hf
    rw [Bool.and_eq_true, fin_test hd, fin_test hs] at hf
    exact hf
  obtain ⟨fd, fs⟩ := fds
  obtain ⟨g1, g2, g3⟩ := fx_neg hs fs
  have hf2 : stFin d (aneg false s) = true := by
    unfold stFin
    rw [fin_test hd, fin_test g3, fd, g1]; rfl
  cases h9 : fle (fabs d) 8660422083433463808
  · exact ⟨_, evB_p0 m d s hm64 (fun i => wTurn_0 (stX (cStep_0 d s) i)) (fun i => wTurn_1 (stX (cStep_0 d s) i)) (fun i => 0) (fun i => 0) hm0 h9 (call s [] hf)⟩
  have h900 := le_900 fd h9
  obtain ⟨x1, x2⟩ := stp_fin fd h900 hs fs
  obtain ⟨y1, y2⟩ := stp_fin fd h900 g3 g1
  have hxy : fx (cStep_0 d (aneg false s)) = -fx (cStep_0 d s) := by
    obtain ⟨_, i1, _⟩ := turn_near hs fs
    obtain ⟨_, i2, _⟩ := turn_near g3 g1
    exact fmul_neg fd i1 i2 (turn_conj hs g3 fs g1 g2).2.2
  have hr : ∀ k, k < m → fle (fabs (fsub (bAbs_0 (wTurn_0 (stX (cStep_0 d s) k)) (wTurn_1 (stX (cStep_0 d s) k))) 4607182418800017408)) 4386506037058863104 = true ∧
      (feq (wTurn_0 (stX (cStep_0 d (aneg false s)) k)) (wTurn_0 (stX (cStep_0 d s) k)) && feq (wTurn_1 (stX (cStep_0 d (aneg false s)) k)) (nCj_0 (wTurn_0 (stX (cStep_0 d s) k)) (wTurn_1 (stX (cStep_0 d s) k)))) = true := by
    intro k hk
    have f1 := stX_fin x1 x2 (i := k) (by omega)
    have f2 := stX_fin y1 y2 (i := k) (by omega)
    have c1 : Canon (stX (cStep_0 d s) k) := Canon.fmul _ _
    have c2 : Canon (stX (cStep_0 d (aneg false s)) k) := Canon.fmul _ _
    obtain ⟨_, _, t3, t4, _⟩ := turn_near c1 f1
    have hneg : fx (stX (cStep_0 d (aneg false s)) k) = -fx (stX (cStep_0 d s) k) := fmul_neg (isW_near (n := iN k) (by rw [iN_eq]; omega)).1 x1 y1 hxy
    obtain ⟨e1, e2, _⟩ := turn_conj c1 c2 f1 f2 hneg
    refine ⟨near_test t3 t4, ?_⟩
    rw [e1]
    exact e2
  have hsame : vSame_0 (wTurn_0 (stX (cStep_0 d s) 0)) (wTurn_1 (stX (cStep_0 d s) 0)) 4607182418800017408 0 = true := by
    obtain ⟨z, hz⟩ := stX_0 x1
    rw [hz, (turn_nought z).1, (turn_nought z).2]
    decide +kernel
  exact ⟨_, evP_p1 m d s hm64 (fun i => wTurn_0 (stX (cStep_0 d s) i)) (fun i => wTurn_1 (stX (cStep_0 d s) i)) (fun i => wTurn_0 (stX (cStep_0 d (aneg false s)) i)) (fun i => wTurn_1 (stX (cStep_0 d (aneg false s)) i)) hm0 h9 hsame (by simp) hsame
    (fun hst => ((ev_loop m d s hm64 _ _ _ _ hr hst).enter ([true, true, true, false, false, false, true, true, false, true, false, true] ++ List.replicate 81 false) (by kernel_rfl)).cast rfl rfl (by kernel_rfl) rfl) (call _ _ hf2) (call s [] hf)⟩
end Go.Lk
