import Derived.Test.YtmomainjlncogaaLkLN
import Derived.Test.YtmomainjlncogaaLkJT
import Derived.Test.YtmomainjlncogaaLkSU
import Derived.Test.YtmomainjlncogaaLkLJ
import Derived.Test.YtmomainjlncogaaLkBQA
section
/- Sums of whole numbers; the numbers of a direction are finite. -/
namespace Go.Lk
open Go.Proofs
set_option maxRecDepth 100000
set_option maxHeartbeats 0
set_option linter.unusedVariables false
set_option linter.unusedSimpArgs false
/-! ### Sums of whole numbers -/
theorem smA_w {f : Nat → Nat} {z : Nat → Int} {B : Nat} : ∀ {k : Nat}, (∀ i, i ≤ k → IsW (f i) (z i) ∧ (z i).natAbs ≤ B) → (k + 1) * B < 2 ^ 53 → IsW (smA f k) (sumZ z (k + 1))
  | 0, h, hB => by
    have : sumZ z 1 = z 0 := by show 0 + z 0 = z 0; omega
    rw [this]
    exact (h 0 (Nat.le_refl _)).1
  | k + 1, h, hB => by
    have h1 := smA_w (k := k) (fun i hi => h i (by omega)) (Nat.lt_of_le_of_lt (Nat.mul_le_mul_right _ (by omega)) hB)
    have h2 := h (k + 1) (Nat.le_refl _)
    have h3 := sumZ_bound (z := z) (B := B) (m := k + 1 + 1) fun i hi => (h i (by omega)).2
    exact h1.add h2.1 (Nat.lt_of_le_of_lt h3 hB)
theorem sumC_w {f : Nat → Nat} {z : Nat → Int} {B m : Nat} (h : ∀ i, i < m → IsW (f i) (z i) ∧ (z i).natAbs ≤ B) (hB : m * B < 2 ^ 53) : IsW (sumC f m) (sumZ z m) := by
  unfold sumC
  cases m with
  | zero => exact isW_0
  | succ m => exact smA_w (k := m) (fun i hi => h i (by omega)) hB
theorem fxr_900 : fxr 8660422083433463808 = 2 ^ 900 * U ∧ fx 8660422083433463808 = (fxr 8660422083433463808 : Int) := by decide +kernel
theorem fxr_902 : fxr ((1023 + 902) * 2 ^ 52) = 2 ^ 902 * U ∧ fxr ((1023 + 910) * 2 ^ 52) = 2 ^ 910 * U := by decide +kernel
theorem pw3 (a b k j l c : Nat) (hc : c = 2 ^ j) (h : k + j ≤ l) : (2 ^ k * a) * (c * b) ≤ 2 ^ l * a * b := by
  rw [Nat.mul_mul_mul_comm, hc, ← Nat.pow_add, Nat.mul_assoc]
  exact Nat.mul_le_mul_right _ (pow_ge h)
theorem le_900 {d : Nat} (hd : isFin d = true) (h : fle (fabs d) 8660422083433463808 = true) : fxr (rg d) ≤ 2 ^ 900 * U := by
  rw [fabs_rg hd, fle_fin (fin_rg hd) (by decide)] at h
  have h := of_decide_eq_true h
  have e := fx_rg (rg_sg d)
  rw [rg_rg] at e
  have e2 := fxr_900.2
  rw [← fxr_900.1]
  omega
theorem stp_fin {d s : Nat} (hd : isFin d = true) (h900 : fxr (rg d) ≤ 2 ^ 900 * U) (hs : Canon s) (fs : isFin s = true) : isFin (cStep_0 d s) = true ∧ fxr (rg (cStep_0 d s)) ≤ 2 ^ 902 * U := by
  obtain ⟨_, h2, _⟩ := turn_near hs fs
  have h3 := turn_le hs fs
  rw [← fxr_902.1]
  refine fmul_le hd h2 (by decide) ?_
  rw [fxr_902.1]
  have h5 := Nat.mul_le_mul h900 h3
  exact Nat.le_trans h5 (pw3 U U 900 1 902 2 rfl (by omega))
theorem stX_fin {q i : Nat} (hq : isFin q = true) (hb : fxr (rg q) ≤ 2 ^ 902 * U) (hi : i < 64) : isFin (stX q i) = true := by
  obtain ⟨n1, n2⟩ := isW_near (n := iN i) (by rw [iN_eq]; omega)
  have n3 : fxr (rg (FloatKind.f64.nearest (iN i))) ≤ 64 * U := by
    have := IsW.abs (x := FloatKind.f64.nearest (iN i)) (a := iN i) ⟨n1, n2⟩
    rw [this]
    exact Nat.mul_le_mul_right _ (by rw [iN_eq]; omega)
  refine (fmul_le n1 hq (R := (1023 + 910) * 2 ^ 52) (by decide) ?_).1
  rw [fxr_902.2]
  have h5 := Nat.mul_le_mul hb n3
  rw [Nat.mul_comm (fxr (rg q))] at h5
  exact Nat.le_trans h5 (pw3 U U 902 6 910 64 rfl (by omega))
end Go.Lk
end

section
/- BeamHears: the plain law. -/
namespace Go.Lk
open Go.Proofs
set_option maxRecDepth 100000
set_option maxHeartbeats 1000000
set_option linter.unusedVariables false
set_option linter.unusedSimpArgs false
/-- A term of the sum: a number by its own conjugate. -/
theorem self_im {c s : Nat} (hc : Canon c) (hs : Canon s) (fc : isFin c = true) (fs : isFin s = true) (hB : Bd (qv c * qv c + qv s * qv s - 1) (68 / 10 * eta)) :
    IsW (nMul_1 c s c (nCj_0 c s)) 0 ∧ isFin (nMul_0 c s c (nCj_0 c s)) = true ∧ Bd (qv (nMul_0 c s c (nCj_0 c s)) - 1) (10 * eta) := by
  obtain ⟨t1, t2, t3, t4⟩ := eta_small
  obtain ⟨n1, n2, n3⟩ := fx_neg hs fs
  have eC : 0 ≤ qv c * qv c := by
    rcases Rat.le_total (a := 0) (b := qv c) with h | h
    · exact Rat.mul_nonneg h h
    · have := Rat.mul_nonneg (a := -qv c) (b := -qv c) (by grind) (by grind); grind
  have eS : 0 ≤ qv s * qv s := by
    rcases Rat.le_total (a := 0) (b := qv s) with h | h
    · exact Rat.mul_nonneg h h
    · have := Rat.mul_nonneg (a := -qv s) (b := -qv s) (by grind) (by grind); grind
  have hneg : qv (aneg false s) = -qv s := by unfold qv; rw [n2, Rat.intCast_neg, Rat.div_def, Rat.div_def, Rat.neg_mul]
  have one : ∀ {x : Rat}, 0 ≤ x → x ≤ 101 / 100 → Bd x (101 / 100) := fun h0 h1 => ⟨by grind, h1⟩
  obtain ⟨b1, b2⟩ := hB
  obtain ⟨m1, m2⟩ := mul_q fc fc (one eC (by grind)) (by decide +kernel)
  have hss : Bd (qv s * qv (aneg false s)) (101 / 100) := by rw [hneg]; exact ⟨by grind, by grind⟩
  obtain ⟨k1, k2⟩ := mul_q fs n1 hss (by decide +kernel)
  have hd : Bd (qv (fmul c c) - qv (fmul s (aneg false s)) - (qv c * qv c + qv s * qv s)) (2 * (101 / 100 * eta + tau)) := by
    rw [hneg] at k2
    exact ((m2.sub k2).of_eq (by grind)).mono (by grind)
  have hd1 : Bd (qv (fmul c c) - qv (fmul s (aneg false s)) - 1) (2 * (101 / 100 * eta + tau) + 68 / 10 * eta) := (hd.add ⟨b1, b2⟩).of_eq (by grind)
  have hd2 : Bd (qv (fmul c c) - qv (fmul s (aneg false s))) (101 / 100) := ⟨by have := hd1.1; grind, by have := hd1.2; grind⟩
  obtain ⟨s1, s2⟩ := sub_q m1 k1 hd2 (by decide +kernel)
  refine ⟨?_, s1, ((hd1.add s2).of_eq (by unfold nMul_0 nCj_0; grind)).mono (by grind)⟩
  -- the imaginary part
  have hcs : Bd (qv c * qv s) 2 := by
    have h1 : 0 ≤ (qv c - qv s) * (qv c - qv s) := by
      rcases Rat.le_total (a := 0) (b := qv c - qv s) with h | h
      · exact Rat.mul_nonneg h h
      · have := Rat.mul_nonneg (a := -(qv c - qv s)) (b := -(qv c - qv s)) (by grind) (by grind); grind
    have h2 : 0 ≤ (qv c + qv s) * (qv c + qv s) := by
      rcases Rat.le_total (a := 0) (b := qv c + qv s) with h | h
      · exact Rat.mul_nonneg h h
      · have := Rat.mul_nonneg (a := -(qv c + qv s)) (b := -(qv c + qv s)) (by grind) (by grind); grind
    exact ⟨by grind, by grind⟩
  obtain ⟨p1, _⟩ := mul_q fc fs hcs (by decide +kernel)
  have hcn : Bd (qv c * qv (aneg false s)) 2 := by rw [hneg]; exact (hcs.neg).of_eq (by grind)
  obtain ⟨p2, _⟩ := mul_q fc n1 hcn (by decide +kernel)
  have h0 : fx (fmul c (aneg false s)) = -fx (fmul s c) := by rw [fmul_comm s c]; exact fmul_neg fc fs n1 n2
  have p3 : isFin (fmul s c) = true := by rw [fmul_comm]; exact p1
  have e : nMul_1 c s c (nCj_0 c s) = rnd (sg (fmul c (aneg false s)) && sg (fmul s c)) 0 := by
    unfold nMul_1 nCj_0
    rw [fadd_fin p2 p3, h0]
    congr 1
    omega
  rw [e]
  have := rnd_w (s := sg (fmul c (aneg false s)) && sg (fmul s c)) (z := 0) (by decide)
  rwa [Int.zero_mul] at this
/-- A sum of ones, but for a little. -/
theorem sm_ones {f : Nat → Nat} {N : Nat} (hN : N ≤ 64) (h : ∀ i, i < N → isFin (f i) = true ∧ Bd (qv (f i) - 1) (10 * eta)) : ∀ m, m < N → isFin (smA f m) = true ∧ Bd (qv (smA f m) - ((m + 1 : Nat) : Rat)) (77 * eta * ((m + 1 : Nat) : Rat)) := by
  obtain ⟨t1, t2, t3, t4⟩ := eta_small
  intro m
  induction m with
  | zero =>
    intro hm
    obtain ⟨h1, h2⟩ := h 0 hm
    have e : ((0 + 1 : Nat) : Rat) = 1 := rfl
    rw [e]
    exact ⟨h1, h2.mono (by grind)⟩
  | succ m ih =>
    intro hm
    obtain ⟨i1, i2⟩ := ih (by omega)
    obtain ⟨h1, h2⟩ := h (m + 1) hm
    have e : ((m + 1 + 1 : Nat) : Rat) = ((m + 1 : Nat) : Rat) + 1 := by exact_mod_cast rfl
    have hb : ((m + 1 : Nat) : Rat) ≤ 64 := by
      have : m + 1 ≤ 64 := by omega
      exact_mod_cast this
    have hb0 : 0 ≤ ((m + 1 : Nat) : Rat) := by exact_mod_cast Nat.zero_le _
    rw [e]
    generalize ((m + 1 : Nat) : Rat) = M at *
    have k1 := Rat.mul_le_mul_of_nonneg_left hb (c := 77 * eta) (by grind)
    have hs : Bd (qv (smA f m) + qv (f (m + 1))) 66 := ⟨by have := i2.1; have := h2.1; grind, by have := i2.2; have := h2.2; grind⟩
    obtain ⟨s1, s2⟩ := add_q i1 h1 hs (by decide +kernel)
    exact ⟨s1, (((i2.add h2).add s2).of_eq (by show _ = qv (fadd (smA f m) (f (m + 1))) - (M + 1); grind)).mono (by grind)⟩
theorem qv_fx_le {x y : Nat} (h : qv x ≤ qv y) : fx x ≤ fx y := by
  have h1 := Rat.mul_le_mul_of_nonneg_right h (c := UR) (Rat.le_of_lt UR_pos)
  rw [qv_U, qv_U] at h1
  exact Rat.intCast_le_intCast.1 h1
theorem fle_abs {x y : Nat} (hx : isFin x = true) (hy : isFin y = true) {e : Rat} (h : Bd (qv x) e) (he : e ≤ qv y) : fle (fabs x) y = true := by
  rw [fabs_rg hx, fle_fin (fin_rg hx) hy]
  refine decide_eq_true (qv_fx_le ?_)
  have e1 := (qv_nn (rg_sg x)).2
  have e2 := qv_rg_abs hx
  refine Rat.not_lt.1 fun hlt => ?_
  have h1 : e < qv (rg x) := by grind
  have h0 := h.nonneg
  have k1 := Rat.mul_lt_mul_of_pos_left h1 (show 0 < qv (rg x) by grind)
  have k2 := Rat.mul_le_mul_of_nonneg_right (Rat.le_of_lt h1) (c := e) h0
  have k3 := (h.mul h).2
  grind
theorem isW_qv {x : Nat} {a : Int} (h : IsW x a) : qv x = (a : Rat) := by
  have h1 := qv_U x
  rw [h.2, Rat.intCast_mul] at h1
  have h2 : (((U : Int) : Int) : Rat) = UR := rfl
  rw [h2] at h1
  have := UR_pos
  have h3 : (qv x - (a : Rat)) * UR = 0 := by grind
  rcases Rat.mul_eq_zero.1 h3 with h | h
  · grind
  · grind
theorem p44_q : isFin 4409024035195715584 = true ∧ qv 4409024035195715584 = 1 / 17592186044416 := ⟨by decide, (qv_const (n := 1) (d := 17592186044416) (by decide) (by decide +kernel)).trans (by decide +kernel)⟩
/-- What the law asks of the sums. -/
theorem hears {f g : Nat → Nat} {n : Nat} (h0 : 0 < n) (hn : n ≤ 64) (hf : ∀ i, i < n → isFin (f i) = true ∧ Bd (qv (f i) - 1) (10 * eta)) (hg : ∀ i, i < n → IsW (g i) 0) :
    fle (fabs (fsub (sumC f n) (FloatKind.f64.nearest (iN n)))) (fmul 4409024035195715584 (FloatKind.f64.nearest (iN n))) = true ∧ fle (fabs (sumC g n)) (fmul 4409024035195715584 (FloatKind.f64.nearest (iN n))) = true := by
  obtain ⟨t1, t2, t3, t4⟩ := eta_small
  have hnat := isW_near (n := iN n) (by rw [iN_eq]; omega)
  have hq := isW_qv hnat
  have hnr : (((iN n : Int)) : Rat) = (n : Rat) := by rw [iN_eq]; rfl
  rw [hnr] at hq
  have hN : (n : Rat) ≤ 64 := by exact_mod_cast hn
  have hN1 : 1 ≤ (n : Rat) := by exact_mod_cast h0
  have em : sumC f n = smA f (n - 1) := by
    unfold sumC
    have : Nat.beq n 0 = false := by cases n with | zero => omega | succ n => rfl
    rw [this, cond_false]
  obtain ⟨s1, s2⟩ := sm_ones hn hf (n - 1) (by omega)
  rw [show n - 1 + 1 = n by omega] at s2
  obtain ⟨p1, p2⟩ := p44_q
  have he : eta = 1 / 4503599627370496 := rfl
  have hp : Bd (qv 4409024035195715584 * qv (FloatKind.f64.nearest (iN n))) ((n : Rat) * (1 / 17592186044416)) := by rw [p2, hq]; exact ⟨by grind, by grind⟩
  obtain ⟨m1, m2⟩ := mul_q p1 hnat.1 hp (by grind)
  rw [p2, hq] at m2
  have h44 : (1 / 17592186044416 : Rat) = 256 * eta := by decide +kernel
  rw [h44] at m2
  have hlow : 255 * eta * (n : Rat) ≤ qv (fmul 4409024035195715584 (FloatKind.f64.nearest (iN n))) := by
    have h2 := m2.1
    have k1 := Rat.mul_le_mul_of_nonneg_left hN (c := 256 * eta * eta) (by decide +kernel)
    have k2 : tau ≤ eta / 1000 := by decide +kernel
    have k3 : 256 * eta * eta * 64 ≤ eta / 1000 := by decide +kernel
    have k4 := Rat.mul_le_mul_of_nonneg_left hN1 (c := eta) t1
    clear hf hg s1 s2 p1 p2 hp m1 hq hnr hnat he h44 em hN hN1
    generalize (n : Rat) = N at *
    generalize qv (fmul 4409024035195715584 (FloatKind.f64.nearest (iN n))) = P at *
    grind
  constructor
  · rw [em]
    have hb : Bd (qv (smA f (n - 1)) - qv (FloatKind.f64.nearest (iN n))) 1 := by
      rw [hq]
      have k1 := Rat.mul_le_mul_of_nonneg_left hN (c := 77 * eta) (by grind)
      exact s2.mono (by grind)
    obtain ⟨q1, q2⟩ := sub_q s1 hnat.1 hb (by decide +kernel)
    rw [hq] at q2
    refine fle_abs q1 m1 (e := 77 * eta * (n : Rat) + (1 * eta + tau)) ((s2.add q2).of_eq (by grind)) ?_
    have k4 := Rat.mul_le_mul_of_nonneg_left hN1 (c := eta) t1
    have k2 : tau ≤ eta := by grind
    grind
  · have w := sumC_w (f := g) (z := fun _ => 0) (B := 1) (m := n) (fun i hi => ⟨hg i hi, by decide⟩) (by omega)
    rw [sumZ_const, Int.mul_zero] at w
    have hz := isW_qv w
    refine fle_abs w.1 m1 (e := 0) (by rw [hz]; exact ⟨by decide, by decide⟩) ?_
    have k4 := Rat.mul_nonneg (show 0 ≤ 255 * eta by grind) (show 0 ≤ (n : Rat) by grind)
    grind
end Go.Lk
end

section
/- BeamHears: joined. -/
namespace Go.Lk
open Go.Proofs
set_option maxRecDepth 100000
set_option maxHeartbeats 0
set_option linter.unusedVariables false
set_option linter.unusedSimpArgs false
theorem canon_cond {c : Bool} {x y : Nat} (hx : Canon x) (hy : Canon y) : Canon (bif c then x else y) := by cases c; exact hy; exact hx
theorem canon_t1 (x : Nat) : Canon (wTurn_1 x) := by
  unfold wTurn_1
  repeat' (first | with_reducible exact Canon.fadd _ _ | with_reducible exact Canon.wrapP _ | with_reducible refine canon_cond ?_ ?_)
theorem canon_t0 (x : Nat) : Canon (wTurn_0 x) := by
  unfold wTurn_0
  repeat' (first | with_reducible exact Canon.fadd _ _ | with_reducible exact Canon.wrapP _ | with_reducible refine canon_cond ?_ ?_)
def bqL (k : Nat) : Value := match k with | 0 => .slice none 0 0 | k + 1 => .slice (some ⟨1, 0, some 1⟩) (k + 1) (k + 1)
def bqT (n k : Nat) : AObj := .row (rowOf (fun i => [.slice (some ⟨0, 0 + i * 1, some 1⟩) 1 (n - i)]) k) true (some 1)
def bqH (n : Nat) (u v : Nat → Nat) (k : Nat) : AHeap := match k with | 0 => [bhS n u v] | k + 1 => [bhS n u v, bqT n (k + 1)]
theorem bq_build (n d s : Nat) (u v : Nat → Nat) (h0 : 0 < n) (hn : n ≤ 64) (hst : Stood false []) :
    Sim dLBq 1 (.loop (loopOf Try.f25 0)) (bqF n d s (.slice none 0 0) 0) [bhS n u v] (.exit 0) (bqF n d s (.slice (some ⟨1, 0, some 1⟩) n n) n) [bhS n u v, bqT n n] := by
  have hE : ∀ N, N = n → bqH n u v N = [bhS n u v, bqT n n] ∧ bqF n d s (bqL N) N = bqF n d s (.slice (some ⟨1, 0, some 1⟩) n n) n := by
    rintro N rfl
    cases N with
    | zero => omega
    | succ N => exact ⟨rfl, rfl⟩
  refine Sim.loop (fun k => (bqF n d s (bqL k) k, bqH n u v k)) n (fun k hk => ?_) ?_ rfl
  · cases k with
    | zero =>
      exact (bq0_p0 n d s u v h0 hn (append_first (F := fun i => [.slice (some ⟨0, 0 + i * 1, some 1⟩) 1 (n - i)]) (z := 1) (n := 1) (by kernel_rfl) (by kernel_rfl) rfl (by kernel_rfl) (by decide) (by decide)) hst).cast (by kernel_rfl) (by kernel_rfl) (by kernel_rfl) (by kernel_rfl)
    | succ k =>
      exact (bq1_p0 n d s u v h0 hn (k + 1) (by omega) hk (by
        rw [show k + 1 + 1 - (k + 1) = 1 by omega]
        exact append_grow (F := fun i => [.slice (some ⟨0, 0 + i * 1, some 1⟩) 1 (n - i)]) (z := 1) (by kernel_rfl) rfl (.inl rfl) (by kernel_rfl) rfl (fun _ => rfl) (by kernel_rfl) (by omega) rfl) hst).cast (by kernel_rfl) (by kernel_rfl) (by kernel_rfl) (by kernel_rfl)
  · obtain ⟨e1, e2⟩ := hE n rfl
    show Sim _ _ _ (bqF n d s (bqL n) n) (bqH n u v n) _ _ _
    rw [e1, e2]
    exact (bqE_p0 n d s u v h0 hn hst).cast (by kernel_rfl) (by kernel_rfl) (by kernel_rfl) (by kernel_rfl)
/-- Of any count, any space and any bearing it tells true. -/
theorem bq_all (n : Int) (d s : Nat) (hd : Canon d) (hs : Canon s) : ∃ σ1, CallR Try.prog false 25 [.int .i64 n, .float .f64 d, .float .f64 s] [] (.bool true) σ1 := by
  by_cases h1 : n < 1
  · have c : sSteer [.int .i64 n, .float .f64 d, .float .f64 s] [] = some (chNil 2, []) := by unfold sSteer sCh3; simp only [decide_eq_true h1, cond_true]
    exact ⟨_, bqE2_p0 n d s c⟩
  by_cases h2 : n > 64
  · have c : sSteer [.int .i64 n, .float .f64 d, .float .f64 s] [] = some (chNil 3, []) := by unfold sSteer sCh3; simp only [decide_eq_false h1, decide_eq_true h2, cond_true, cond_false]
    exact ⟨_, bqE3_p0 n d s c⟩
  cases hf : stFin d s
  · have c : sSteer [.int .i64 n, .float .f64 d, .float .f64 s] [] = some (chNil 6, []) := by unfold sSteer sCh3; simp only [decide_eq_false h1, decide_eq_false h2, hf, cond_false]
    exact ⟨_, bqE6_p0 n d s c⟩
  obtain ⟨m, rfl, hm⟩ : ∃ m : Nat, n = iN m ∧ m = n.toNat := ⟨n.toNat, by rw [iN_eq]; omega, rfl⟩
  have hmn : (iN m).toNat = m := hm.symm
  have hm0 : 0 < m := by rw [iN_eq] at h1; omega
  have hm64 : m ≤ 64 := by rw [iN_eq] at h2; omega
  have call : sSteer [.int .i64 (iN m), .float .f64 d, .float .f64 s] [] = some (chOk 0 m 1, [.row (wSt m d s) true none]) := by
    unfold sSteer sCh3
    simp only [decide_eq_false h1, decide_eq_false h2, hf, cond_true, cond_false, hmn]
    rfl
  have fds : isFin d = true ∧ isFin s = true := by
    unfold stFin at hf
    rw [Bool.and_eq_true, fin_test hd, fin_test hs] at hf
    exact hf
  obtain ⟨fd, fs⟩ := fds
  obtain ⟨u, hu⟩ : ∃ u : Nat → Nat, u = fun i => wTurn_0 (stX (cStep_0 d s) i) := ⟨_, rfl⟩
  obtain ⟨v, hv⟩ : ∃ v : Nat → Nat, v = fun i => wTurn_1 (stX (cStep_0 d s) i) := ⟨_, rfl⟩
  have call' : sSteer [.int .i64 (iN m), .float .f64 d, .float .f64 s] [] = some (chOk 0 m 1, [bhS m u v]) := by rw [call, hu, hv]; rfl
  cases h9 : fle (fabs d) 8660422083433463808
  · exact ⟨_, bqB_p0 m d s u v hm0 hm64 h9 call'⟩
  have h900 := le_900 fd h9
  obtain ⟨x1, x2⟩ := stp_fin fd h900 hs fs
  have each : ∀ i, i < m → IsW (bhI u v i) 0 ∧ isFin (bhR u v i) = true ∧ Bd (qv (bhR u v i) - 1) (10 * eta) := by
    intro i hi
    have fx := stX_fin x1 x2 (show i < 64 by omega)
    obtain ⟨a1, a2, _, _, a5⟩ := turn_near (Canon.fmul _ _) fx
    rw [hu, hv]
    exact self_im (canon_t0 _) (canon_t1 _) a1 a2 a5
  obtain ⟨q2, q3⟩ := hears hm0 hm64 (fun i hi => (each i hi).2) (fun i hi => (each i hi).1)
  obtain ⟨σ1, e1, hc⟩ := bh_113 m u v hm0 hm64
  subst e1
  refine ⟨_, bqP_p0 _ (oneF_ok 113 [bhTS m, bhWS m] [bhS m u v, bhT m] (.tuple #[.slice (some ⟨3, 0, some 1⟩) 1 1, .int .i64 (Int.ofNat 0)]) (bhH m u v ++ [bhO (bhX m u v)])) m d s u v hm0 hm64 (sumC (bhR u v) m) (sumC (bhI u v) m) h9 q2 q3 (oneF_at hc (by simp)) (fun hst => ?_) call'⟩
  have h := bq_build m d s u v hm0 hm64 hst
  exact ((h.enter ([true, true, true, false, false, false, true, true, false, true, true] ++ List.replicate 71 false) (by kernel_rfl)).cast rfl (by kernel_rfl) (by kernel_rfl) (by kernel_rfl)).cfg rfl rfl
end Go.Lk
end
