import Derived.Test.YtmomainjlncogaaLkMPF
import Derived.Test.YtmomainjlncogaaLkKA
import Derived.Test.YtmomainjlncogaaLkJW
import Derived.Test.YtmomainjlncogaaLkJX
import Derived.Test.YtmomainjlncogaaLkJY
section
/- MatchPeak: the plain law. -/
namespace Go.Lk
open Ieee (Format Datum)
set_option maxRecDepth 100000
set_option maxHeartbeats 0
set_option linter.unusedVariables false
set_option linter.unusedSimpArgs false
/-! ### Abs of what lies on the line -/
theorem isW_rg0 {x : Nat} (h : IsW x 0) : rg x = 0 := by
  have h1 := h.abs
  rw [show ((0 : Int).natAbs) = 0 from rfl, Nat.zero_mul] at h1
  exact fxr_inj (h1.trans fxr_zero.symm)
theorem wd0_w (s : Bool) : IsW (wd s 0) 0 := by
  cases s
  · exact isW_0
  · have : wd true 0 = 2 ^ 63 := by decide
    rw [this]; exact isW_m0
theorem one_of {x : Nat} (h : IsW x 1) (hc : Canon x) : x = 4607182418800017408 := by
  have h1 := h.abs
  have h2 := isW_1.abs
  have h3 : rg x = rg 4607182418800017408 := fxr_inj (h1.trans h2.symm)
  have h4 := h.sg_of (by decide)
  have e : wd (sg x) (rg x) = x := wd_sg hc.lt
  rw [← e, h3, h4]
  decide
theorem abs_flat {x y : Nat} {a : Int} (hx : IsW x a) (hy : IsW y 0) (ha : a.natAbs < 2 ^ 53) : IsW (bAbs_0 x y) (a.natAbs : Int) := by
  have ry := isW_rg0 hy
  unfold bAbs_0
  rw [bAbs_kind hx.1 hy.1, fabs_rg hx.1, fabs_rg hy.1, ry]
  have k1 : ((0 : Int) == Int.ofNat 1) = false := by decide
  have k2 : ((0 : Int) == Int.ofNat 2) = false := by decide
  rw [k1, k2, cond_false, cond_false]
  have hm : fmax (rg x) 0 = rg x ∧ fmin (rg x) 0 = 0 := by
    rcases max_min (fin_rg hx.1) fin_zero (rg_sg x) rfl with ⟨e1, e2, _⟩ | ⟨e1, e2, e3⟩
    · exact ⟨e1, e2⟩
    · have hq : qv 0 = 0 := by decide +kernel
      rw [hq] at e3
      have h0 : rg x = 0 := by
        have nn := (qv_nn (rg_sg x)).2
        have : qv (rg x) = 0 := Rat.le_antisymm e3 nn
        have hu := qv_U (rg x)
        rw [this, Rat.zero_mul] at hu
        have h2 : fx (rg x) = 0 := by
          have : ((fx (rg x) : Int) : Rat) = ((0 : Int) : Rat) := hu.symm
          exact Rat.intCast_inj.1 this
        have h3 : fxr (rg (rg x)) = 0 := by
          have := fx_rg (rg_sg x)
          rw [this] at h2
          exact_mod_cast h2
        rw [rg_rg] at h3
        exact fxr_inj (h3.trans fxr_zero.symm)
      rw [h0]; exact ⟨by decide +kernel, by decide +kernel⟩
  rw [hm.1, hm.2]
  have hr : IsW (rg x) (a.natAbs : Int) := by
    have := hx.fabs_of
    rwa [fabs_rg hx.1] at this
  by_cases h0 : a = 0
  · have : rg x = 0 := isW_rg0 (by rw [h0] at hx; exact hx)
    rw [this, h0]
    exact isW_0
  · have hz : feq (rg x) 0 = false := by
      rw [hr.feq_iff isW_0]
      exact decide_eq_false (by omega)
    rw [hz, cond_false]
    have hne : fxr (rg (rg x)) ≠ 0 := by
      rw [hr.abs]
      have := U_pos
      intro h
      rcases Nat.mul_eq_zero.1 h with h | h <;> omega
    obtain ⟨r, e, hn⟩ := fdiv_near fin_zero hr.1 hne
    have r0 : r = 0 := Nat.le_zero.1 (hn.le_of (Nat.zero_le _) (by rw [show rg 0 = 0 from rfl, fxr_zero]; omega))
    rw [e, r0]
    generalize (sg 0 ^^ sg (rg x)) = s
    have hq : IsW (fmul (wd s 0) (wd s 0)) (0 * 0) := (wd0_w s).mul (wd0_w s) (by decide)
    have h1 : IsW (fadd 4607182418800017408 (fmul (wd s 0) (wd s 0))) (1 + 0 * 0) := isW_1.add hq (by decide)
    have h2 := one_of (x := fadd 4607182418800017408 (fmul (wd s 0) (wd s 0))) (by simpa using h1) (Canon.fadd _ _)
    rw [h2, show fsqrt 4607182418800017408 = 4607182418800017408 by decide +kernel]
    have := hr.mul isW_1 (by rw [Int.mul_one]; omega)
    rwa [Int.mul_one] at this
/-! ### Sums with a nought in them -/
theorem sumZ_hole {z : Nat → Int} {B : Nat} : ∀ {m : Nat}, (∀ i, i < m → (z i).natAbs ≤ B) → ∀ j, j < m → z j = 0 → (sumZ z m).natAbs ≤ (m - 1) * B
  | 0, _, j, hj, _ => by omega
  | m + 1, h, j, hj, hz => by
    show (sumZ z m + z m).natAbs ≤ m * B
    by_cases hjm : j = m
    · subst hjm
      have := sumZ_bound (m := j) (B := B) fun i hi => h i (by omega)
      rw [hz, Int.add_zero]; exact this
    · have h1 := sumZ_hole (m := m) (B := B) (fun i hi => h i (by omega)) j (by omega) hz
      have h2 := h m (by omega)
      have h3 : (m - 1) * B + B = m * B := by
        have : m = (m - 1) + 1 := by omega
        rw [this, Nat.add_mul, Nat.one_mul]; simp
      omega
theorem sumZ_trim {z : Nat → Int} {w : Nat} : ∀ d, (∀ j, w ≤ j → j < w + d → z j = 0) → sumZ z (w + d) = sumZ z w
  | 0, _ => rfl
  | d + 1, h => by
    show sumZ z (w + d) + z (w + d) = _
    rw [sumZ_trim d fun j h1 h2 => h j h1 (by omega), h (w + d) (by omega) (by omega), Int.add_zero]
theorem sumZ_trim' {z : Nat → Int} {w m : Nat} (hw : w ≤ m) (h : ∀ j, w ≤ j → j < m → z j = 0) : sumZ z m = sumZ z w := by
  have := sumZ_trim (z := z) (w := w) (m - w) fun j h1 h2 => h j h1 (by omega)
  rwa [show w + (m - w) = m by omega] at this
/-! ### The rows -/
def pkA (f : Nat) (r : Nat → Nat) (d n i : Nat) : Nat := bif (Nat.ble d i && Nat.blt i (d + n)) then fmul f (r (i - d)) else 0
def pkZ (F : Int) (sg : Nat → Bool) (d n i : Nat) : Int := bif (Nat.ble d i && Nat.blt i (d + n)) then F * sgZ' sg (i - d) else 0
theorem sgZ_1 (sg : Nat → Bool) (i : Nat) : (sgZ' sg i).natAbs = 1 := by unfold sgZ'; cases sg i <;> rfl
theorem pkZ_abs (F : Int) (sg : Nat → Bool) (d n i : Nat) : (pkZ F sg d n i).natAbs ≤ F.natAbs := by
  unfold pkZ
  cases (Nat.ble d i && Nat.blt i (d + n))
  · simp
  · rw [cond_true, Int.natAbs_mul, sgZ_1]; omega
theorem pkA_w {f : Nat} {F : Int} (hf : IsW f F) (hF : F.natAbs < 2 ^ 20) (sg : Nat → Bool) (d n i : Nat) : IsW (pkA f (sgR sg) d n i) (pkZ F sg d n i) := by
  unfold pkA pkZ
  cases (Nat.ble d i && Nat.blt i (d + n))
  · exact isW_0
  · exact hf.mul (sgR_w sg _) (by rw [Int.natAbs_mul, sgZ_1]; omega)
theorem pkZ_out {F : Int} {sg : Nat → Bool} {d n i : Nat} (h : i < d ∨ d + n ≤ i) : pkZ F sg d n i = 0 := by
  unfold pkZ
  have : (Nat.ble d i && Nat.blt i (d + n)) = false := by
    cases h1 : Nat.ble d i
    · rfl
    · have := Nat.le_of_ble_eq_true h1
      cases h2 : Nat.blt i (d + n)
      · rfl
      · have := Nat.le_of_ble_eq_true h2
        omega
  rw [this]; rfl
theorem pkZ_in {F : Int} {sg : Nat → Bool} {d n i : Nat} (h1 : d ≤ i) (h2 : i < d + n) : pkZ F sg d n i = F * sgZ' sg (i - d) := by
  unfold pkZ
  rw [Nat.ble_eq_true_of_le h1, show Nat.blt i (d + n) = true from Nat.ble_eq_true_of_le h2]; rfl
theorem pkZ_move (F : Int) (sg : Nat → Bool) (d e n i : Nat) : pkZ F sg (d + e) n (i + e) = pkZ F sg d n i := by
  by_cases h : d ≤ i ∧ i < d + n
  · rw [pkZ_in h.1 h.2, pkZ_in (by omega) (by omega), show i + e - (d + e) = i - d by omega]
  · rw [pkZ_out (by omega), pkZ_out (by omega)]
theorem pkA_step (f : Nat) (r : Nat → Nat) (d k : Nat) : updR (fun i => [Value.complex .f64 (pkA f r d k i) 0]) (d + k) [.complex .f64 (fmul f (r k)) 0] = fun i => [Value.complex .f64 (pkA f r d (k + 1) i) 0] := by
  funext i
  by_cases h : i = d + k
  · subst h
    rw [updR_at]
    unfold pkA
    rw [Nat.ble_eq_true_of_le (show d ≤ d + k by omega), show Nat.blt (d + k) (d + (k + 1)) = true from Nat.ble_eq_true_of_le (by omega), show d + k - d = k by omega]; rfl
  · rw [updR_ne _ _ _ h]
    have : Nat.blt i (d + (k + 1)) = Nat.blt i (d + k) ∨ Nat.ble d i = false := by
      rcases Nat.lt_or_ge i (d + k) with h1 | h1
      · exact .inl (by rw [show Nat.blt i (d + k) = true from Nat.ble_eq_true_of_le h1, show Nat.blt i (d + (k + 1)) = true from Nat.ble_eq_true_of_le (by omega)])
      · refine .inl ?_
        have a1 : Nat.blt i (d + k) = false := by
          cases h2 : Nat.blt i (d + k)
          · rfl
          · have := Nat.le_of_ble_eq_true h2; omega
        have a2 : Nat.blt i (d + (k + 1)) = false := by
          cases h2 : Nat.blt i (d + (k + 1))
          · rfl
          · have := Nat.le_of_ble_eq_true h2; omega
        rw [a1, a2]
    unfold pkA
    rcases this with e | e
    · rw [e]
    · rw [e]; rfl
theorem pkA_zero (f : Nat) (r : Nat → Nat) (d : Nat) : (fun i => [Value.complex .f64 (pkA f r d 0 i) 0]) = fun _ => [Value.complex .f64 0 0] := by
  funext i
  unfold pkA
  have : (Nat.ble d i && Nat.blt i (d + 0)) = false := by
    cases h1 : Nat.ble d i
    · rfl
    · have := Nat.le_of_ble_eq_true h1
      cases h2 : Nat.blt i (d + 0)
      · rfl
      · have := Nat.le_of_ble_eq_true h2
        omega
  rw [this]; rfl
/-! ### The match -/
def pkT (F : Int) (sg : Nat → Bool) (d n o j : Nat) : Int := pkZ F sg d n (o + j) * sgZ' sg j
def pkS (F : Int) (sg : Nat → Bool) (d n N o : Nat) : Int := sumZ (pkT F sg d n o) (min (N - o) n)
theorem pkT_abs (F : Int) (sg : Nat → Bool) (d n o j : Nat) : (pkT F sg d n o j).natAbs ≤ F.natAbs := by
  unfold pkT
  rw [Int.natAbs_mul, sgZ_1, Nat.mul_one]
  exact pkZ_abs F sg d n _
theorem match_w {f : Nat} {F : Int} (hf : IsW f F) (hF : F.natAbs < 2 ^ 20) (sg : Nat → Bool) (d n N o : Nat) (hn : n ≤ 200) :
    IsW (mtR (pkA f (sgR sg) d n) (fun _ => 0) (sgR sg) (fun _ => 0) N n o) (pkS F sg d n N o) ∧ IsW (mtI (pkA f (sgR sg) d n) (fun _ => 0) (sgR sg) (fun _ => 0) N n o) 0 := by
  have hB : min (N - o) n * 2 ^ 20 < 2 ^ 53 := by
    have : min (N - o) n * 2 ^ 20 ≤ 200 * 2 ^ 20 := Nat.mul_le_mul_right _ (by omega)
    omega
  have hz : IsW (fmul 0 (fneg 0)) 0 := by have := isW_0.mul fneg_0 (by decide); simpa using this
  constructor
  · unfold mtR pkS
    refine sumC_w (B := 2 ^ 20) (fun j hj => ⟨?_, by have := pkT_abs F sg d n o j; omega⟩) hB
    have h1 := (pkA_w hf hF sg d n (o + j)).mul (sgR_w sg j) (by have := pkT_abs F sg d n o j; unfold pkT at this; omega)
    have h2 := h1.sub hz (by rw [Int.sub_zero]; have := pkT_abs F sg d n o j; unfold pkT at this; omega)
    rw [Int.sub_zero] at h2
    exact h2
  · unfold mtI
    have := sumC_w (f := atTi (pkA f (sgR sg) d n) (fun _ => 0) (sgR sg) (fun i => fneg 0) o) (z := fun _ => 0) (B := 2 ^ 20) (m := min (N - o) n) (fun j hj => ⟨?_, by decide⟩) hB
    · rwa [sumZ_const, Int.mul_zero] at this
    · have h1 : IsW (fmul (pkA f (sgR sg) d n (o + j)) (fneg 0)) 0 := by
        have := (pkA_w hf hF sg d n (o + j)).mul fneg_0 (by rw [Int.mul_zero]; decide)
        rwa [Int.mul_zero] at this
      have h2 : IsW (fmul 0 (sgR sg j)) 0 := by
        have := isW_0.mul (sgR_w sg j) (by rw [Int.zero_mul]; decide)
        rwa [Int.zero_mul] at this
      have h3 := h1.add h2 (by decide)
      rw [Int.add_zero] at h3
      exact h3
theorem pkS_peak (F : Int) (sg : Nat → Bool) (d n N : Nat) (hN : d + n ≤ N) : pkS F sg d n N d = n * F := by
  unfold pkS
  rw [show min (N - d) n = n by omega, sumZ_congr (w := fun _ => F) fun j hj => ?_, sumZ_const]
  unfold pkT
  rw [pkZ_in (by omega) (by omega), show d + j - d = j by omega, Int.mul_assoc]
  have : sgZ' sg j * sgZ' sg j = 1 := by unfold sgZ'; cases sg j <;> rfl
  rw [this, Int.mul_one]
theorem pkS_less (F : Int) (sg : Nat → Bool) (d n N o : Nat) (h0 : 0 < n) (ho : o ≠ d) : (pkS F sg d n N o).natAbs ≤ (n - 1) * F.natAbs := by
  unfold pkS
  rcases Nat.eq_zero_or_pos (min (N - o) n) with hw | hw
  · rw [hw]; simp [sumZ]
  · rcases Nat.lt_or_ge (min (N - o) n) n with h | h
    · have := sumZ_bound (z := pkT F sg d n o) (B := F.natAbs) (m := min (N - o) n) fun j _ => pkT_abs F sg d n o j
      exact Nat.le_trans this (Nat.mul_le_mul_right _ (by omega))
    · have hm : min (N - o) n = n := by omega
      rw [hm]
      rcases Nat.lt_or_gt_of_ne ho with h1 | h1
      · exact sumZ_hole (fun j _ => pkT_abs F sg d n o j) 0 h0 (by unfold pkT; rw [pkZ_out (by omega), Int.zero_mul])
      · exact sumZ_hole (fun j _ => pkT_abs F sg d n o j) (n - 1) (by omega) (by unfold pkT; rw [pkZ_out (by omega), Int.zero_mul])
theorem pkS_move (F : Int) (sg : Nat → Bool) (d e n N o : Nat) (hN : d + e + n ≤ N) (ho : o + e < N) : pkS F sg (d + e) n N (o + e) = pkS F sg d n N o := by
  unfold pkS
  have e1 : ∀ j, pkT F sg (d + e) n (o + e) j = pkT F sg d n o j := fun j => by
    unfold pkT
    rw [show o + e + j = (o + j) + e by omega, pkZ_move]
  rw [sumZ_congr fun j _ => e1 j]
  refine (sumZ_trim' (by omega) fun j h1 h2 => ?_).symm
  unfold pkT
  rw [pkZ_out (by omega), Int.zero_mul]
/-- What the last round asks. -/
theorem pk_less {f : Nat} {F : Int} (hf : IsW f F) (hF : F.natAbs < 2 ^ 20) {x y : Nat} {a : Int} (hx : IsW x a) (hy : IsW y 0) {n : Nat} (h0 : 0 < n) (hn : n ≤ 200) (ha : a.natAbs ≤ (n - 1) * F.natAbs) :
    fgt (bAbs_0 x y) (fmul (FloatKind.f64.nearest (iN (n - 1))) (fabs f)) = false := by
  have hb : (n - 1) * F.natAbs ≤ 200 * 2 ^ 20 := Nat.mul_le_mul (by omega) (by omega)
  have h1 := abs_flat hx hy (by omega)
  have h2 : IsW (FloatKind.f64.nearest (iN (n - 1))) (iN (n - 1)) := isW_near (by rw [iN_eq]; omega)
  have h3 := h2.mul hf.fabs_of (by rw [iN_eq, ← Int.natCast_mul]; omega)
  rw [h1.fgt_iff h3, iN_eq, ← Int.natCast_mul]
  exact decide_eq_false (by omega)
end Go.Lk
end

section
/- MatchPeak: joined. -/
namespace Go.Lk
open Go.Proofs
set_option maxRecDepth 100000
set_option maxHeartbeats 0
set_option linter.unusedVariables false
set_option linter.unusedSimpArgs false
/-- A block that is not looked at any more. -/
theorem Sim.buried {C : Cfg} {c : Code} {fr fr1 : List Value} {σ σ1 : AHeap} {e : Exit} {n0 : Nat} (b : Nat) (h : Sim C n0 c fr (σ.set b .dead) e fr1 σ1) : Sim C n0 c fr σ e fr1 σ1 :=
  fun B μ tmps defers w Q hf hr hQ => h B μ tmps defers w Q hf (hr.kill b) hQ
def pkB (opn : Option Nat) (sg : Nat → Bool) (M : Nat) : AObj := .row (rowOf (fun i => [.bool (sg i)]) M) false opn
def pkR (sg : Nat → Bool) (n : Nat) : AObj := .row (rowOf (fun i => [.complex .f64 (sgR sg i) 0]) n) true (some 1)
def pkS0 (cap d e g n f k : Nat) : List Value := pkFr cap d e g n f (match k with | 0 => .slice none 0 0 | k + 1 => .slice (some ⟨2, 0, some 1⟩) (k + 1) (k + 1)) k
def pkH0 (opn : Option Nat) (sg : Nat → Bool) (M k : Nat) : AHeap := match k with | 0 => [pkB opn sg M, .dead] | k + 1 => [pkB opn sg M, .dead, pkR sg (k + 1)]
theorem pk_build (opn : Option Nat) (sg : Nat → Bool) (M len cap : Nat) (K : Int) (d e g n f : Nat) (hm : len ≤ M) (hc : len ≤ cap) (hnl : n ≤ len) (hn : n ≤ 200) (hd : d ≤ 255) (he : e ≤ 255) (hg : g ≤ 255) (h0 : 0 < n) (hst : Stood false [pkB opn sg M]) :
    Sim dLPk 2 (.loop (loopOf Try.f20 0)) (pkS0 cap d e g n f 0) (pkH0 opn sg M 0) (.exit 0) (pkFr cap d e g n f (.slice (some ⟨2, 0, some 1⟩) n n) n) [pkB opn sg M, .dead, pkR sg n] := by
  have hE : ∀ N, N = n → pkH0 opn sg M N = [pkB opn sg M, .dead, pkR sg n] ∧ pkS0 cap d e g n f N = pkFr cap d e g n f (.slice (some ⟨2, 0, some 1⟩) n n) n := by
    rintro N rfl
    cases N with
    | zero => omega
    | succ N => exact ⟨rfl, rfl⟩
  refine Sim.loop (fun k => (pkS0 cap d e g n f k, pkH0 opn sg M k)) n (fun k hk => ?_) ?_ rfl
  · cases k with
    | zero =>
      cases hb : sg 0
      · exact (pk0F_p1 opn sg M len cap K d e g n f hm hc hnl hn hd he hg (sgR sg) h0 hb hb (append_first (F := fun i => [.complex .f64 (sgR sg i) 0]) (z := 1) (n := 1) (by kernel_rfl) (by show _ = some [Value.complex .f64 (sgR sg 0) 0]; unfold sgR; rw [hb]; kernel_rfl) rfl (by kernel_rfl) (by decide) (by decide)) hst).cast (by kernel_rfl) (by kernel_rfl) (by kernel_rfl) (by kernel_rfl)
      · exact (pk0T_p0 opn sg M len cap K d e g n f hm hc hnl hn hd he hg (sgR sg) h0 hb hb (append_first (F := fun i => [.complex .f64 (sgR sg i) 0]) (z := 1) (n := 1) (by kernel_rfl) (by show _ = some [Value.complex .f64 (sgR sg 0) 0]; unfold sgR; rw [hb]; kernel_rfl) rfl (by kernel_rfl) (by decide) (by decide)) hst).cast (by kernel_rfl) (by kernel_rfl) (by kernel_rfl) (by kernel_rfl)
    | succ k =>
      cases hb : sg (k + 1)
      · exact (pk1F_p0 opn sg M len cap K d e g n f hm hc hnl hn hd he hg (sgR sg) (k + 1) (by omega) hk hb (append_grow (F := fun i => [.complex .f64 (sgR sg i) 0]) (z := 1) (by kernel_rfl) rfl (.inl rfl) (by show _ = some [Value.complex .f64 (sgR sg (k + 1)) 0]; unfold sgR; rw [hb]; kernel_rfl) rfl (fun _ => rfl) (by kernel_rfl) (by omega) rfl) hst).cast (by kernel_rfl) (by kernel_rfl) (by kernel_rfl) (by kernel_rfl)
      · exact (pk1T_p0 opn sg M len cap K d e g n f hm hc hnl hn hd he hg (sgR sg) (k + 1) (by omega) hk hb (append_grow (F := fun i => [.complex .f64 (sgR sg i) 0]) (z := 1) (by kernel_rfl) rfl (.inl rfl) (by show _ = some [Value.complex .f64 (sgR sg (k + 1)) 0]; unfold sgR; rw [hb]; kernel_rfl) rfl (fun _ => rfl) (by kernel_rfl) (by omega) rfl) hst).cast (by kernel_rfl) (by kernel_rfl) (by kernel_rfl) (by kernel_rfl)
  · obtain ⟨e1, e2⟩ := hE n rfl
    show Sim _ _ _ (pkS0 cap d e g n f n) (pkH0 opn sg M n) _ _ _
    rw [e1, e2]
    exact (pk0E_p0 opn sg M len cap K d e g n f hm hc hnl hn hd he hg (sgR sg) h0 hst).cast (by kernel_rfl) (by kernel_rfl) (by kernel_rfl) (by kernel_rfl)
theorem ld_side {X : Option Value} {v : Value} {σ : AHeap} (h : X = some v) : @Option.rec Value (fun _ => Option (Value × AHeap)) none (fun val => some (val, σ)) X = some (v, σ) := by subst h; rfl
def pkL (f : Nat) (sg : Nat → Bool) (d k N : Nat) : AObj := .row (rowOf (fun i => [.complex .f64 (pkA f (sgR sg) d k i) 0]) N) true none
theorem pk_fill (opn : Option Nat) (sg : Nat → Bool) (M len cap : Nat) (K : Int) (d e g n f : Nat) (hm : len ≤ M) (hc : len ≤ cap) (hnl : n ≤ len) (hn : n ≤ 200) (hd : d ≤ 255) (he : e ≤ 255) (hg : g ≤ 255) (h0 : 0 < n) (hst : Stood false [pkB opn sg M]) :
    Sim dLPk 5 (.loop (loopOf Try.f20 1)) (pkF1 d e n f (d + e + n + g) 0) [pkB opn sg M, .dead, pkR sg n, pkL f sg d 0 (d + e + n + g), pkL f sg (d + e) 0 (d + e + n + g)] (.exit 2) (pkF1 d e n f (d + e + n + g) n) [pkB opn sg M, .dead, pkR sg n, pkL f sg d n (d + e + n + g), pkL f sg (d + e) n (d + e + n + g)] := by
  refine Sim.loop (fun k => (pkF1 d e n f (d + e + n + g) k, [pkB opn sg M, .dead, pkR sg n, pkL f sg d k (d + e + n + g), pkL f sg (d + e) k (d + e + n + g)])) n (fun k hk => ?_) ?_ rfl
  · have h := pk2_p0 opn sg M len cap K d e g n f hm hc hnl hn hd he hg (sgR sg) (pkA f (sgR sg) d k) (fun _ => 0) (pkA f (sgR sg) (d + e) k) (fun _ => 0) k hk
    have s0 := fun x => h x hst
    clear h
    have hl : aLoad Try.prog [pkB opn sg M, .dead, pkR sg n, pkL f sg d (k + 1) (d + e + n + g), pkL f sg (d + e) k (d + e + n + g)] 27 (.pointer (some ⟨3, 0 + (d + k) * 1, none⟩)) = some (.complex .f64 (fmul f (sgR sg k)) 0) := by
      have := load_one (P := Try.prog) (σ := [pkB opn sg M, .dead, pkR sg n, pkL f sg d (k + 1) (d + e + n + g), pkL f sg (d + e) k (d + e + n + g)]) (t := 27) (b := 3) (off := 0 + (d + k) * 1) (k := d + k) (n := d + e + n + g) (g := fun i => .complex .f64 (pkA f (sgR sg) d (k + 1) i) 0) rfl (by kernel_rfl) (by omega) (by omega)
      rw [this]
      have e1 : pkA f (sgR sg) d (k + 1) (d + k) = fmul f (sgR sg k) := by
        unfold pkA
        rw [Nat.ble_eq_true_of_le (show d ≤ d + k by omega), show Nat.blt (d + k) (d + (k + 1)) = true from Nat.ble_eq_true_of_le (by omega), show d + k - d = k by omega]; rfl
      show some (Value.complex .f64 (pkA f (sgR sg) d (k + 1) (d + k)) 0) = _
      rw [e1]
    simp only [pkA_step] at s0
    exact (s0 (ld_side hl)).cast (by kernel_rfl) (by kernel_rfl) (by kernel_rfl) (by kernel_rfl)
  · exact (pk2E_p0 opn sg M len cap K d e g n f hm hc hnl hn hd he hg (sgR sg) (pkA f (sgR sg) d n) (fun _ => 0) (pkA f (sgR sg) (d + e) n) (fun _ => 0) hst).cast (by kernel_rfl) (by kernel_rfl) (by kernel_rfl) (by kernel_rfl)
def pkM (f : Nat) (sg : Nat → Bool) (d n N : Nat) : AObj := .row (rowOf (fun i => [.complex .f64 (mtR (pkA f (sgR sg) d n) (fun _ => 0) (sgR sg) (fun _ => 0) N n i) (mtI (pkA f (sgR sg) d n) (fun _ => 0) (sgR sg) (fun _ => 0) N n i)]) N) true none
def pkH2 (opn : Option Nat) (sg : Nat → Bool) (M d e n f N : Nat) : AHeap := [pkB opn sg M, .dead, pkR sg n, pkL f sg d n N, pkL f sg (d + e) n N, pkM f sg d n N, pkM f sg (d + e) n N]
theorem pk_check (opn : Option Nat) (sg : Nat → Bool) (M len cap : Nat) (K F : Int) (d e g n f : Nat) (hm : len ≤ M) (hc : len ≤ cap) (hnl : n ≤ len) (hn : n ≤ 200) (hd : d ≤ 255) (he : e ≤ 255) (hg : g ≤ 255) (h0 : 0 < n) (hf : IsW f F) (hF : F.natAbs < 2 ^ 20) (hst : Stood false [pkB opn sg M]) :
    Sim dLPk 7 (.loop (loopOf Try.f20 2)) (pkF2 d e n f (d + e + n + g) 0) (pkH2 opn sg M d e n f (d + e + n + g)) (.exit 4) (pkF2 d e n f (d + e + n + g) (d + e + n + g)) (pkH2 opn sg M d e n f (d + e + n + g)) := by
  refine Sim.loop (fun k => (pkF2 d e n f (d + e + n + g) k, pkH2 opn sg M d e n f (d + e + n + g))) (d + e + n + g) (fun k hk => ?_) ((pk3E_p0 opn sg M len cap K d e g n f hm hc hnl hn hd he hg (sgR sg) (pkA f (sgR sg) d n) (fun _ => 0) (pkA f (sgR sg) (d + e) n) (fun _ => 0) (mtR (pkA f (sgR sg) d n) (fun _ => 0) (sgR sg) (fun _ => 0) (d + e + n + g) n) (mtI (pkA f (sgR sg) d n) (fun _ => 0) (sgR sg) (fun _ => 0) (d + e + n + g) n) (mtR (pkA f (sgR sg) (d + e) n) (fun _ => 0) (sgR sg) (fun _ => 0) (d + e + n + g) n) (mtI (pkA f (sgR sg) (d + e) n) (fun _ => 0) (sgR sg) (fun _ => 0) (d + e + n + g) n) h0 hst).cast (by kernel_rfl) (by kernel_rfl) (by kernel_rfl) (by kernel_rfl)) rfl
  obtain ⟨w1, w2⟩ := match_w hf hF sg d n (d + e + n + g) k hn
  obtain ⟨w3, w4⟩ := match_w hf hF sg (d + e) n (d + e + n + g) (k + e) hn
  have g2 : k + e < d + e + n + g → (feq (mtR (pkA f (sgR sg) d n) (fun _ => 0) (sgR sg) (fun _ => 0) (d + e + n + g) n k) (mtR (pkA f (sgR sg) (d + e) n) (fun _ => 0) (sgR sg) (fun _ => 0) (d + e + n + g) n (k + e)) && feq (mtI (pkA f (sgR sg) d n) (fun _ => 0) (sgR sg) (fun _ => 0) (d + e + n + g) n k) (mtI (pkA f (sgR sg) (d + e) n) (fun _ => 0) (sgR sg) (fun _ => 0) (d + e + n + g) n (k + e))) = true := fun h => by
    rw [pkS_move F sg d e n _ k (by omega) h] at w3
    rw [w1.feq_of w3, w2.feq_of w4]; rfl
  by_cases hkd : k = d
  · exact (pk3BL_p0 opn sg M len cap K d e g n f hm hc hnl hn hd he hg (sgR sg) (pkA f (sgR sg) d n) (fun _ => 0) (pkA f (sgR sg) (d + e) n) (fun _ => 0) (mtR (pkA f (sgR sg) d n) (fun _ => 0) (sgR sg) (fun _ => 0) (d + e + n + g) n) (mtI (pkA f (sgR sg) d n) (fun _ => 0) (sgR sg) (fun _ => 0) (d + e + n + g) n) (mtR (pkA f (sgR sg) (d + e) n) (fun _ => 0) (sgR sg) (fun _ => 0) (d + e + n + g) n) (mtI (pkA f (sgR sg) (d + e) n) (fun _ => 0) (sgR sg) (fun _ => 0) (d + e + n + g) n) h0 k hk hkd (by subst hkd; simp) (by omega) (g2 (by omega)) hst).cast (by kernel_rfl) (by kernel_rfl) (by kernel_rfl) (by kernel_rfl)
  · have c1 : (iN k != iN d) = true := by
      rw [bne_iff_ne, iN_eq, iN_eq]; omega
    have g1 := pk_less hf hF w1 w2 h0 hn (pkS_less F sg d n (d + e + n + g) k h0 hkd)
    rcases Nat.lt_or_ge (k + e) (d + e + n + g) with h | h
    · exact (pk3AL_p0 opn sg M len cap K d e g n f hm hc hnl hn hd he hg (sgR sg) (pkA f (sgR sg) d n) (fun _ => 0) (pkA f (sgR sg) (d + e) n) (fun _ => 0) (mtR (pkA f (sgR sg) d n) (fun _ => 0) (sgR sg) (fun _ => 0) (d + e + n + g) n) (mtI (pkA f (sgR sg) d n) (fun _ => 0) (sgR sg) (fun _ => 0) (d + e + n + g) n) (mtR (pkA f (sgR sg) (d + e) n) (fun _ => 0) (sgR sg) (fun _ => 0) (d + e + n + g) n) (mtI (pkA f (sgR sg) (d + e) n) (fun _ => 0) (sgR sg) (fun _ => 0) (d + e + n + g) n) h0 k hk hkd c1 g1 h (g2 h) hst).cast (by kernel_rfl) (by kernel_rfl) (by kernel_rfl) (by kernel_rfl)
    · exact (pk3AG_p0 opn sg M len cap K d e g n f hm hc hnl hn hd he hg (sgR sg) (pkA f (sgR sg) d n) (fun _ => 0) (pkA f (sgR sg) (d + e) n) (fun _ => 0) (mtR (pkA f (sgR sg) d n) (fun _ => 0) (sgR sg) (fun _ => 0) (d + e + n + g) n) (mtI (pkA f (sgR sg) d n) (fun _ => 0) (sgR sg) (fun _ => 0) (d + e + n + g) n) (mtR (pkA f (sgR sg) (d + e) n) (fun _ => 0) (sgR sg) (fun _ => 0) (d + e + n + g) n) (mtI (pkA f (sgR sg) (d + e) n) (fun _ => 0) (sgR sg) (fun _ => 0) (d + e + n + g) n) h0 k hk hkd c1 g1 h hst).cast (by kernel_rfl) (by kernel_rfl) (by kernel_rfl) (by kernel_rfl)
theorem tmod_small (K : Int) : (K.tmod (Int.ofNat 1048576)).natAbs < 2 ^ 20 := by
  have h1 : (K.tmod (Int.ofNat 1048576)).natAbs = K.natAbs % 1048576 := by
    rw [Int.natAbs_tmod]; rfl
  rw [h1]
  exact Nat.mod_lt _ (by decide)
/-- Of any signs, any number, any places it tells true. -/
theorem pk_all (opn : Option Nat) (sg : Nat → Bool) (M len cap : Nat) (K : Int) (d e g : Nat) (hm : len ≤ M) (hc : len ≤ cap) (hd : d ≤ 255) (he : e ≤ 255) (hg : g ≤ 255) :
    ∃ σ1, CallR Try.prog false 20 [.agg #[.slice (some ⟨0, 0, some 1⟩) len cap, .int .i32 K, .int .u8 (iN d), .int .u8 (iN e), .int .u8 (iN g)]] [pkB opn sg M] (.bool true) σ1 := by
  rcases Nat.eq_zero_or_pos len with rfl | hl
  · exact ⟨_, pkZ_p0 opn sg M cap K d e g⟩
  obtain ⟨n, hnl, hn, h0, hmin⟩ : ∃ n, n ≤ len ∧ n ≤ 200 ∧ 0 < n ∧ (if 200 < iN len then 200 else iN len) = iN n := by
    rcases Nat.lt_or_ge 200 len with h | h
    · exact ⟨200, by omega, by omega, by omega, by rw [iN_eq, iN_eq, if_pos (by omega)]; rfl⟩
    · exact ⟨len, by omega, by omega, by omega, by rw [iN_eq, if_neg (by omega)]⟩
  obtain ⟨f, hfe⟩ : ∃ f, f = FloatKind.f64.nearest (K.tmod (Int.ofNat 1048576)) := ⟨_, rfl⟩
  have hF := tmod_small K
  have hf : IsW f (K.tmod (Int.ofNat 1048576)) := by rw [hfe]; exact isW_near (by omega)
  obtain ⟨w1, w2⟩ := match_w hf hF sg d n (d + e + n + g) d hn
  rw [pkS_peak _ sg d n _ (by omega)] at w1
  have hb : n * (K.tmod (Int.ofNat 1048576)).natAbs ≤ 200 * 2 ^ 20 := Nat.mul_le_mul hn (by omega)
  have w3 : IsW (fmul (FloatKind.f64.nearest (iN n)) f) (n * K.tmod (Int.ofNat 1048576)) := by
    have := (isW_near (n := iN n) (by rw [iN_eq]; omega)).mul hf (by rw [iN_eq, Int.natAbs_mul, Int.natAbs_natCast]; omega)
    rwa [iN_eq] at this
  refine ⟨_, pkP_p0 opn sg M len cap K d e g n f hm hc hnl hn hd he hg (sgR sg) (pkA f (sgR sg) d n) (fun _ => 0) (pkA f (sgR sg) (d + e) n) (fun _ => 0) (mtR (pkA f (sgR sg) d n) (fun _ => 0) (sgR sg) (fun _ => 0) (d + e + n + g) n) (mtI (pkA f (sgR sg) d n) (fun _ => 0) (sgR sg) (fun _ => 0) (d + e + n + g) n) (mtR (pkA f (sgR sg) (d + e) n) (fun _ => 0) (sgR sg) (fun _ => 0) (d + e + n + g) n) (mtI (pkA f (sgR sg) (d + e) n) (fun _ => 0) (sgR sg) (fun _ => 0) (d + e + n + g) n) h0
    (by rw [iN_eq]; exact beq_false_of_ne (by show ((n : Nat) : Int) ≠ 0; omega)) (by simp) (by rw [w1.feq_of w3, w2.feq_of isW_0]; rfl)
    (fun hst => ((pk_check opn sg M len cap K _ d e g n f hm hc hnl hn hd he hg h0 hf hF hst).enter ([false, false, true, false, false, true, true, false, true, true, false, false, true, false, false, true, false, true, false, true] ++ List.replicate 189 false) (by kernel_rfl)).cast rfl (by kernel_rfl) (by kernel_rfl) (by kernel_rfl))
    (sMatch_row (N := n) rfl rfl (Nat.le_refl _) (Nat.le_refl _) (Nat.le_refl _) (by omega) (by omega) h0 ?_)
    (sMatch_row (N := n) rfl rfl (Nat.le_refl _) (Nat.le_refl _) (Nat.le_refl _) (by omega) (by omega) h0 ?_)
    (fun hst => ?_) (fun hst => ?_) (by rw [hmin])⟩
  · have := Nat.mul_le_mul (show d + e + n + g ≤ 965 by omega) hn; omega
  · have := Nat.mul_le_mul (show d + e + n + g ≤ 965 by omega) hn; omega
  · have h := pk_fill opn sg M len cap K d e g n f hm hc hnl hn hd he hg h0 hst
    unfold pkL at h
    rw [pkA_zero, pkA_zero] at h
    exact (h.enter ([false, false, true, false, false, true, true, false, true, true, true, false, true, true, true] ++ List.replicate 194 false) (by kernel_rfl)).cast rfl (by kernel_rfl) (by kernel_rfl) (by kernel_rfl)
  · have h := pk_build opn sg M len cap K d e g n f hm hc hnl hn hd he hg h0 hst
    rw [hfe] at h ⊢
    exact Sim.buried 1 ((h.enter ([false, false, true, true, false, true, true, true, true, true, true, true] ++ List.replicate 197 false) (by kernel_rfl)).cast rfl (by kernel_rfl) (by kernel_rfl) (by kernel_rfl))
theorem pk_none (K : Int) (d e g : Nat) : ∃ σ1, CallR Try.prog false 20 [.agg #[.slice none 0 0, .int .i32 K, .int .u8 (iN d), .int .u8 (iN e), .int .u8 (iN g)]] [] (.bool true) σ1 := ⟨_, pkN_p0 K d e g⟩
end Go.Lk
end
