/- Answers that are one; steps of frequency: the plain law. -/
import Derived.Test.YtmomainjlncogaaLkNE
import Derived.Test.YtmomainjlncogaaLkPT
namespace Go.Lk
open Go.Proofs
set_option maxRecDepth 100000
set_option linter.unusedVariables false
set_option linter.unusedSimpArgs false
/-- Two answers that told takes for one. -/
structure Alike (x y : An) : Prop where
  n : x.n = y.n
  e : x.e = y.e
  le : x.n ≤ 16384
  z : x.n = 0 → x.e = 0 ∨ x.e = 2 ∨ x.e = 3 ∨ x.e = 6 ∨ x.e = 40
  ok : 0 < x.n → x.e = 0
  same : ∀ i, i < x.n → gSame_0 (x.a i) (x.b i) (y.a i) (y.b i) = true
theorem set_same {σ : AHeap} {b : Nat} {o : AObj} (h : σ[b]? = some o) : σ.set b o = σ := by
  apply List.ext_getElem?
  intro k
  rw [List.getElem?_set]
  by_cases hk : b = k
  · subst hk; rw [if_pos rfl, if_pos (lt_of_some h), h]
  · rw [if_neg hk]
theorem told_side {x y : An} (h : Alike x y) {σ : AHeap} {b b2 c : Nat} (g1 : σ[c]? = some (aObj 2 pRow y)) (g2 : σ[b]? = some (aObj 1 xRow x)) (g3 : σ[b2]? = some (aObj 1 xRow x)) (n1 : b ≠ b2) (n2 : b ≠ c) (n3 : b2 ≠ c) :
    sToldW [.slice (aAd b x.n 1) x.n x.n, .slice (aAd b2 x.n 1) x.n x.n, .int .i64 x.e, .int .i64 x.e, .slice (aAd c y.n 2) y.n y.n, .int .i64 y.e] σ = some (.bool true, σ.set b .dead) := by
  obtain ⟨hn, he, hle, hz, hok, hs⟩ := h
  obtain ⟨xn, xa, xb, xe⟩ := x
  obtain ⟨yn, ya, yb, ye⟩ := y
  simp only at hn he hle hz hok hs
  subst hn he
  cases xn with
  | zero =>
    have e2 : aObj 1 xRow ⟨0, xa, xb, xe⟩ = .dead := rfl
    rw [e2] at g2
    rw [set_same g2]
    exact sToldW_err (hz rfl) σ
  | succ n =>
    have := hok (Nat.succ_pos _)
    subst this
    exact sToldW_row (Nat.succ_pos n) hle hs hs g1 g2 g3 n1 n2 n3
theorem err_alike {e : Int} (h : e = 0 ∨ e = 2 ∨ e = 3 ∨ e = 6 ∨ e = 40) : Alike (anErr e) (anErr e) := ⟨rfl, rfl, Nat.zero_le _, fun _ => h, fun h => absurd h (Nat.lt_irrefl 0), fun i h => absurd h (Nat.not_lt_zero i)⟩
/-- Both ways to fold a number, one. -/
theorem step_fold {z n : Int} (h0 : 0 < n) (h1 : n ≤ 16384) : Int.tmod (IntKind.i64.wrap (Int.tmod z n + n)) n = mdl z n ∧ 0 ≤ mdl z n ∧ mdl z n < n := by
  have b1 : Int.tmod z n < n := Int.tmod_lt_of_pos z h0
  have b2 : -n < Int.tmod z n := by
    have h3 := Int.tmod_lt_of_pos (-z) h0
    rw [Int.neg_tmod] at h3
    omega
  have w : IntKind.i64.wrap (Int.tmod z n + n) = Int.tmod z n + n := i64_wrap ⟨by omega, by omega⟩
  unfold mdl
  rw [w]
  cases hd : decide (Int.tmod z n < 0)
  · have hd := of_decide_eq_false hd
    simp only [cond_false]
    refine ⟨?_, by omega, b1⟩
    rw [Int.tmod_eq_emod_of_nonneg (by omega), Int.add_emod_right]
    rw [Int.emod_eq_of_lt (by omega) (by omega)]
  · have hd := of_decide_eq_true hd
    simp only [cond_true]
    exact ⟨by rw [Int.tmod_eq_emod_of_nonneg (by omega), Int.emod_eq_of_lt (by omega) (by omega)], by omega, by omega⟩
theorem step_unit {w : Nat → Int} {n s : Nat} (h0 : 0 < n) (h1 : n ≤ 16384) : Int.tmod (IntKind.i64.wrap (sfW w n (s / n) * iN (s % n))) (iN n) = mdl (IntKind.i64.wrap (sfR w n (s / n) * iN (s % n))) (iN n) := by
  have hn0 : (0 : Int) < iN n := by rw [iN_eq]; omega
  have hn1 : iN n ≤ 16384 := by rw [iN_eq]; omega
  obtain ⟨e1, e2, e3⟩ := step_fold (z := w (s / n)) hn0 hn1
  have ef : sfW w n (s / n) = sfR w n (s / n) := e1
  have f0 : 0 ≤ sfR w n (s / n) := e2
  have f1 : sfR w n (s / n) < iN n := e3
  rw [ef]
  generalize sfR w n (s / n) = f at f0 f1
  have hk : iN (s % n) < 16384 := by rw [iN_eq]; have := Nat.mod_lt s h0; omega
  have hk0 : 0 ≤ iN (s % n) := by rw [iN_eq]; omega
  generalize iN (s % n) = k at hk hk0
  have p0 : 0 ≤ f * k := Int.mul_nonneg f0 hk0
  have p1 : f * k ≤ 16384 * 16384 := Int.mul_le_mul (by omega) (by omega) hk0 (by decide)
  rw [i64_wrap ⟨by omega, by omega⟩]
  unfold mdl
  have hm : 0 ≤ Int.tmod (f * k) (iN n) := Int.tmod_nonneg _ p0
  rw [decide_eq_false (by omega)]
  rfl
theorem st_alike' {w w2 : Nat → Int} {m : Nat} {n : Int} (hw : ∀ i, i < m → w i = w2 i) : Alike (stAn swA swB w m n) (stAn srA srB w2 m n) := by
  unfold stAn
  cases h1 : decide (n < 1)
  · cases m with
    | zero => exact ⟨rfl, rfl, Nat.zero_le _, fun _ => .inl rfl, fun _ => rfl, fun i h => absurd h (Nat.not_lt_zero i)⟩
    | succ m =>
      cases h2 : decide (n > 16384 / ((m : Int) + 1))
      · have g1 := of_decide_eq_false h1
        have g2 := of_decide_eq_false h2
        have hle : n * ((m : Int) + 1) ≤ 16384 := by
          have := Int.mul_le_mul_of_nonneg_right (show n ≤ 16384 / ((m : Int) + 1) by omega) (show 0 ≤ (m : Int) + 1 by omega)
          have h5 := Int.ediv_mul_le 16384 (show (m : Int) + 1 ≠ 0 by omega)
          omega
        have hle2 : n.toNat * (m + 1) ≤ 16384 := by
          have : ((n.toNat * (m + 1) : Nat) : Int) ≤ 16384 := by
            rw [Int.natCast_mul, show ((m + 1 : Nat) : Int) = (m : Int) + 1 by omega, show ((n.toNat : Nat) : Int) = n by omega]; exact hle
          omega
        have b1 : n.toNat ≤ 16384 := by
          have := Nat.le_mul_of_pos_right n.toNat (show 0 < m + 1 by omega)
          omega
        simp only [cond_false, h2]
        refine ⟨rfl, rfl, hle2, fun _ => .inl rfl, fun _ => rfl, fun i hi => ?_⟩
        show gSame_0 (swA w n.toNat i) (swB w n.toNat i) (srA w2 n.toNat i) (srB w2 n.toNat i) = true
        have hi : i < n.toNat * (m + 1) := hi
        have hd : i / n.toNat < m + 1 := Nat.div_lt_of_lt_mul hi
        have hf : sfR w2 n.toNat (i / n.toNat) = sfR w n.toNat (i / n.toNat) := by unfold sfR; rw [hw _ hd]
        unfold srA srB swA swB
        rw [unit_re, unit_im, hf, step_unit (by omega) b1]
        exact same_refl _ _
      · simp only [cond_false, cond_true, h2]
        exact err_alike (by simp)
  · exact err_alike (by simp)
theorem st_alike {w : Nat → Int} {m : Nat} {n : Int} : Alike (stAn swA swB w m n) (stAn srA srB w m n) := st_alike' fun _ _ => rfl
end Go.Lk
