import Derived.Test.YtmomainjlncogaaSq13
import Derived.Test.YtmomainjlncogaaProg
import Derived.JoinedOf
import Derived.KernelRfl
section
/- ScenePeak: joined. -/
namespace Go.Lk
open Go.Proofs
set_option maxRecDepth 100000
set_option maxHeartbeats 0
set_option linter.unusedVariables false
set_option linter.unusedSimpArgs false
/-- A block that is not looked at any more. -/
theorem Sim.bury {C : Cfg} {c : Code} {fr fr1 : List Value} {σ σ1 : AHeap} {e : Exit} {n0 : Nat} (b : Nat) (h : Sim C n0 c fr (σ.set b .dead) e fr1 σ1) : Sim C n0 c fr σ e fr1 σ1 :=
  fun B μ tmps defers w Q hf hr hQ => h B μ tmps defers w Q hf (hr.kill b) hQ
def spB (opn : Option Nat) (ps : Nat → Int) (M : Nat) : AObj := .row (rowOf (fun i => [.int .i8 (ps i)]) M) false opn
def spPr (ps : Nat → Int) : Nat → Nat := fun i => FloatKind.f64.nearest (ps i)
def spZr : Nat → Nat := fun _ => 0
def spRow (ps : Nat → Int) (n : Nat) : AObj := .row (rowOf (fun i => [.complex .f64 (spPr ps i) (spZr i)]) n) true (some 1)
def spS0 (len cap ev rv cv : Nat) (qv : Int) (n k : Nat) : List Value := spF0 len cap ev rv cv qv n (match k with | 0 => .slice none 0 0 | k + 1 => .slice (some ⟨2, 0, some 1⟩) (k + 1) (k + 1)) k
def spH0 (opn : Option Nat) (ps : Nat → Int) (M k : Nat) : AHeap := match k with | 0 => [spB opn ps M, .dead] | k + 1 => [spB opn ps M, .dead, spRow ps (k + 1)]
theorem sp_build (opn : Option Nat) (ps : Nat → Int) (M len cap ev rv cv : Nat) (qv : Int) (n : Nat) (hm : len ≤ M) (hnl : n ≤ len) (hn : n ≤ 60) (hev : ev ≤ 65535) (hrv : rv ≤ 255) (hcv : cv ≤ 65535) (h0 : 0 < n) (hst : Stood false [spB opn ps M]) :
    Sim dLSq 2 (.loop (loopOf Try.f24 0)) (spS0 len cap ev rv cv qv n 0) (spH0 opn ps M 0) (.exit 0) (spF0 len cap ev rv cv qv n (.slice (some ⟨2, 0, some 1⟩) n n) n) [spB opn ps M, .dead, spRow ps n] := by
  have hE : ∀ N, N = n → spH0 opn ps M N = [spB opn ps M, .dead, spRow ps n] ∧ spS0 len cap ev rv cv qv n N = spF0 len cap ev rv cv qv n (.slice (some ⟨2, 0, some 1⟩) n n) n := by
    rintro N rfl
    cases N with
    | zero => omega
    | succ N => exact ⟨rfl, rfl⟩
  refine Sim.loop (fun k => (spS0 len cap ev rv cv qv n k, spH0 opn ps M k)) n (fun k hk => ?_) ?_ rfl
  · cases k with
    | zero =>
      exact (sp0A_p0 opn ps M len cap ev rv cv qv n hm hnl hn hev hrv hcv h0 (append_first (F := fun i => [.complex .f64 (FloatKind.f64.nearest (ps i)) 0]) (z := 1) (n := 1) (by kernel_rfl) (by kernel_rfl) rfl (by kernel_rfl) (by decide) (by decide)) hst).cast (by kernel_rfl) (by kernel_rfl) (by kernel_rfl) (by kernel_rfl)
    | succ k =>
      exact (sp0B_p0 opn ps M len cap ev rv cv qv n hm hnl hn hev hrv hcv (k + 1) (by omega) hk (append_grow (F := fun i => [.complex .f64 (FloatKind.f64.nearest (ps i)) 0]) (z := 1) (by kernel_rfl) rfl (.inl rfl) (by kernel_rfl) rfl (fun _ => rfl) (by kernel_rfl) (by omega) rfl) hst).cast (by kernel_rfl) (by kernel_rfl) (by kernel_rfl) (by kernel_rfl)
  · obtain ⟨e1, e2⟩ := hE n rfl
    show Sim _ _ _ (spS0 len cap ev rv cv qv n n) (spH0 opn ps M n) _ _ _
    rw [e1, e2]
    exact (sp0E_p0 opn ps M len cap ev rv cv qv n hm hnl hn hev hrv hcv h0 hst).cast (by kernel_rfl) (by kernel_rfl) (by kernel_rfl) (by kernel_rfl)
def spAGB (e0 r0 : Nat) : AObj := .row (jfBV 4607182418800017408 4620693217682128896 4652007308841189376 (e0 + 1) (r0 + 1)) true none
def spAGT (d : Nat) (qv : Int) : AObj := jfT (spR d) 0 4607182418800017408 (spTu qv) 0
def spH1 (opn : Option Nat) (ps : Nat → Int) (M n e0 r0 d : Nat) (qv : Int) (u v : Nat → Nat) : AHeap :=
  [spB opn ps M, .dead, spRow ps n, spAGB e0 r0, spAGT d qv, .row (rowOf (fun i => [.complex .f64 (u i) (v i)]) ((r0 + 1) * (e0 + 1))) true none, .row (rowOf (blG 5 (e0 + 1)) (r0 + 1)) true none]
def spDr (ps : Nat → Int) (n k : Nat) : Nat := dtR (spPr ps) spZr (spPr ps) spZr (0 + k * 1) (n - k) n
def spDi (ps : Nat → Int) (n k : Nat) : Nat := dtI (spPr ps) spZr (spPr ps) spZr (0 + k * 1) (n - k) n
def spTest (ps : Nat → Int) (n pw k : Nat) : Bool := fge (ab2 (spDr ps n k) (spDi ps n k)) (fmul pw pw)
section
variable (opn : Option Nat) (ps : Nat → Int) (M : Nat) (qv : Int) (n e0 r0 d : Nat) (hn : n ≤ 60) (he0 : e0 < 300) (hr0 : r0 < 6) (hd : d < 300) (u v : Nat → Nat) (pw : Nat)
include hn in
theorem sp_dotS (k : Nat) (hk : k < n) : sDot [.slice (some ⟨2, 0 + k * 1, some 1⟩) (n - k) (n - k), .slice (some ⟨2, 0, some 1⟩) n n] (spH1 opn ps M n e0 r0 d qv u v) = some (.complex .f64 (spDr ps n k) (spDi ps n k), spH1 opn ps M n e0 r0 d qv u v) :=
  sDot_row (M := n) (N := n) rfl rfl (by omega) (Nat.le_refl _) (by omega)
include hn he0 hr0 hd
theorem sp_side (h0 : 0 < n) (h : ∀ k, 0 < k → k < n → spTest ps n pw k = false) (hst : Stood false []) :
    Sim dLSq 7 (.loop (loopOf Try.f24 1)) (spF1 n d r0 pw 1) (spH1 opn ps M n e0 r0 d qv u v) (.exit 2) (spF1 n d r0 pw n) (spH1 opn ps M n e0 r0 d qv u v) := by
  refine Sim.loop (fun k => (spF1 n d r0 pw (k + 1), spH1 opn ps M n e0 r0 d qv u v)) (n - 1) (fun k hk => ?_) ?_ rfl
  · exact (sp1A_p0 opn ps M qv n e0 r0 d hn he0 hr0 hd u v pw (k + 1) (by omega) (by omega) (spDr ps n (k + 1)) (spDi ps n (k + 1)) (h (k + 1) (by omega) (by omega)) (sp_dotS opn ps M qv n e0 r0 d hn u v (k + 1) (by omega)) hst).cast (by kernel_rfl) (by kernel_rfl) (by kernel_rfl) (by kernel_rfl)
  · have h1 : n - 1 + 1 = n := by omega
    show Sim _ _ _ (spF1 n d r0 pw (n - 1 + 1)) _ _ _ _
    rw [h1]
    exact (sp1E_p0 opn ps M qv n e0 r0 d hn he0 hr0 hd u v pw hst).cast (by kernel_rfl) (by kernel_rfl) (by kernel_rfl) (by kernel_rfl)
theorem sp_stop (k0 : Nat) (h0 : 0 < k0) (hk0 : k0 < n) (ht : spTest ps n pw k0 = true) (h : ∀ k, 0 < k → k < k0 → spTest ps n pw k = false) (hst : Stood false []) :
    Sim dLSq 7 (.loop (loopOf Try.f24 1)) (spF1 n d r0 pw 1) (spH1 opn ps M n e0 r0 d qv u v) .ret (spFr n d r0 pw 0 0 0) (spH1 opn ps M n e0 r0 d qv u v) := by
  refine Sim.loop (fun k => (spF1 n d r0 pw (k + 1), spH1 opn ps M n e0 r0 d qv u v)) (k0 - 1) (fun k hk => ?_) ?_ rfl
  · exact (sp1A_p0 opn ps M qv n e0 r0 d hn he0 hr0 hd u v pw (k + 1) (by omega) (by omega) (spDr ps n (k + 1)) (spDi ps n (k + 1)) (h (k + 1) (by omega) (by omega)) (sp_dotS opn ps M qv n e0 r0 d hn u v (k + 1) (by omega)) hst).cast (by kernel_rfl) (by kernel_rfl) (by kernel_rfl) (by kernel_rfl)
  · have h1 : k0 - 1 + 1 = k0 := by omega
    show Sim _ _ _ (spF1 n d r0 pw (k0 - 1 + 1)) _ _ _ _
    rw [h1]
    exact (sp1X_p0 opn ps M qv n e0 r0 d hn he0 hr0 hd u v pw k0 h0 hk0 (spDr ps n k0) (spDi ps n k0) ht (sp_dotS opn ps M qv n e0 r0 d hn u v k0 hk0) hst).cast (by kernel_rfl) (by kernel_rfl) (by kernel_rfl) (by kernel_rfl)
def spMr (ps : Nat → Int) (u v : Nat → Nat) (n e0 k : Nat) : Nat → Nat := mtO u v (spPr ps) spZr (k * (e0 + 1)) (e0 + 1) n
def spMi (ps : Nat → Int) (u v : Nat → Nat) (n e0 k : Nat) : Nat → Nat := mtJ u v (spPr ps) spZr (k * (e0 + 1)) (e0 + 1) n
theorem sp_match_loop (h0 : 0 < n) (hdE : d < e0 + 1)
    (g1 : ∀ k, k < r0 + 1 → feq (ab2 (spMr ps u v n e0 k d) (spMi ps u v n e0 k d)) (fmul pw pw) = true)
    (gs : ∀ k, k < r0 + 1 → ∀ i, i < e0 + 1 → feq (ab2 (spMr ps u v n e0 k i) (spMi ps u v n e0 k i)) (ab2 (spMr ps u v n e0 k i) (spMi ps u v n e0 k i)) = true)
    (gp : ∀ k, k < r0 + 1 → fgt pw 0 = true → (pkF (fun i => ab2 (spMr ps u v n e0 k i) (spMi ps u v n e0 k i)) (e0 + 1)).1 = iN d) (hst : Stood false []) :
    Sim dLSq 7 (.loop (loopOf Try.f24 2)) (spF2 n d r0 pw 0) (spH1 opn ps M n e0 r0 d qv u v) (.exit 4) (spF2 n d r0 pw (r0 + 1)) (spH1 opn ps M n e0 r0 d qv u v) := by
  refine Sim.loop (fun k => (spF2 n d r0 pw k, spH1 opn ps M n e0 r0 d qv u v)) (r0 + 1) (fun k hk => ?_) ((sp2E_p0 opn ps M qv n e0 r0 d hn he0 hr0 hd u v pw hst).cast (by kernel_rfl) (by kernel_rfl) (by kernel_rfl) (by kernel_rfl)) rfl
  have c2 : (iN (e0 + 1) != iN (e0 + 1)) = false := by simp
  have c3 : (iN d != iN d) = false := by simp
  have hke : k * (e0 + 1) + (e0 + 1) ≤ (r0 + 1) * (e0 + 1) := by
    have := Nat.mul_le_mul_right (e0 + 1) (show k + 1 ≤ r0 + 1 from hk)
    rw [Nat.add_mul, Nat.one_mul] at this
    exact this
  have hM : sMatchO [.slice (some ⟨5, k * (e0 + 1), some 1⟩) (e0 + 1) (e0 + 1), .slice (some ⟨2, 0, some 1⟩) n n] (spH1 opn ps M n e0 r0 d qv u v) = some (.tuple #[.slice (some ⟨7, 0, some 1⟩) (e0 + 1) (e0 + 1), .int .i64 0], spH1 opn ps M n e0 r0 d qv u v ++ [.row (rowOf (fun i => [.complex .f64 (spMr ps u v n e0 k i) (spMi ps u v n e0 k i)]) (e0 + 1)) true none]) :=
    sMatchO_row (M := (r0 + 1) * (e0 + 1)) (N := n) rfl rfl hke (Nat.le_refl _) (Nat.le_refl _) (by omega) (by omega) h0 (by
      have := Nat.mul_le_mul (show e0 + 1 ≤ 300 by omega) hn
      omega)
  cases hp : fgt pw 0
  · exact (sp2B_p0 opn ps M qv n e0 r0 d hn he0 hr0 hd u v pw (spMr ps u v n e0 k) (spMi ps u v n e0 k) hdE c2 c3 k hk (g1 k hk) hp hM hst).cast (by kernel_rfl) (by kernel_rfl) (by kernel_rfl) (by kernel_rfl)
  · have hP : sPeak [.slice (some ⟨7, 0, some 1⟩) (e0 + 1) (e0 + 1)] (spH1 opn ps M n e0 r0 d qv u v ++ [.row (rowOf (fun i => [.complex .f64 (spMr ps u v n e0 k i) (spMi ps u v n e0 k i)]) (e0 + 1)) true none]) = some (.int .i64 (iN d), spH1 opn ps M n e0 r0 d qv u v ++ [.row (rowOf (fun i => [.complex .f64 (spMr ps u v n e0 k i) (spMi ps u v n e0 k i)]) (e0 + 1)) true none]) := by
      rw [← gp k hk hp]
      exact sPeak_row (M := e0 + 1) rfl (Nat.le_refl _) (by omega) (gs k hk)
    exact (sp2A_p0 opn ps M qv n e0 r0 d hn he0 hr0 hd u v pw (spMr ps u v n e0 k) (spMi ps u v n e0 k) hdE c2 c3 k hk (g1 k hk) hp hP hM hst).cast (by kernel_rfl) (by kernel_rfl) (by kernel_rfl) (by kernel_rfl)
end
end Go.Lk
end

section
/- ScenePeak: of any pulse it tells true. -/
namespace Go.Lk
open Go.Proofs
set_option maxRecDepth 100000
set_option maxHeartbeats 0
set_option linter.unusedVariables false
set_option linter.unusedSimpArgs false
theorem least_of {P : Nat → Bool} : ∀ n, (∀ k, 0 < k → k < n → P k = false) ∨ ∃ k0, 0 < k0 ∧ k0 < n ∧ P k0 = true ∧ ∀ k, 0 < k → k < k0 → P k = false
  | 0 => .inl fun k _ h => by omega
  | n + 1 => by
    rcases least_of (P := P) n with h | ⟨k0, h1, h2, h3, h4⟩
    · rcases Nat.eq_zero_or_pos n with h0 | h0
      · exact .inl fun k hk hk2 => by omega
      · cases hp : P n
        · refine .inl fun k hk hk2 => ?_
          rcases Nat.lt_or_ge k n with h5 | h5
          · exact h k hk h5
          · rw [show k = n by omega]; exact hp
        · exact .inr ⟨n, h0, by omega, hp, h⟩
    · exact .inr ⟨k0, h1, by omega, h3, h4⟩
theorem sp_check {E R : Nat} (h0 : 0 < E) (hE : E ≤ 300) (hR0 : 0 < R) (hR : R ≤ 6) : iaCheck_0 4607182418800017408 4620693217682128896 4652007308841189376 (iN E) (iN R) = 0 := by
  have hb := Nat.mul_le_mul hE hR
  have e1 : iN E * iN R = iN (E * R) := iN_mul E R
  have w : IntKind.i64.wrap (iN E * iN R) = iN (E * R) := by rw [e1]; exact i64_wrap ⟨by rw [iN_eq]; omega, by rw [iN_eq]; omega⟩
  have a1 : fgt 4607182418800017408 0 = true := by decide +kernel
  have a2 : feq (fsub 4607182418800017408 4607182418800017408) 0 = true := by decide +kernel
  have a3 : fgt 4620693217682128896 0 = true := by decide +kernel
  have a4 : feq (fsub 4620693217682128896 4620693217682128896) 0 = true := by decide +kernel
  have a5 : fgt 4652007308841189376 0 = true := by decide +kernel
  have a6 : feq (fsub 4652007308841189376 4652007308841189376) 0 = true := by decide +kernel
  unfold iaCheck_0
  rw [a1, a2, a3, a4, a5, a6, w, decide_eq_false (by rw [iN_eq]; omega : ¬ iN E < 1), decide_eq_false (by rw [iN_eq]; omega : ¬ iN E > 16384), decide_eq_false (by rw [iN_eq]; omega : ¬ iN R < 1), decide_eq_false (by rw [iN_eq]; omega : ¬ iN R > 256), decide_eq_false (by rw [iN_eq]; omega : ¬ iN (E * R) > 262144)]
  rfl
theorem sp_P {ps : Nat → Int} (hps : ∀ i, (ps i).natAbs ≤ 128) (j : Nat) : IsW (spPr ps j) (ps j) ∧ (ps j).natAbs ≤ 128 := ⟨isW_near (by have := hps j; omega), hps j⟩
theorem tmod_nat (a b : Nat) : Int.tmod (iN a) (Int.ofNat b) = iN (a % b) := rfl
/-- The echo: its call, and its values. -/
theorem sp_echo (opn : Option Nat) (ps : Nat → Int) (M : Nat) (qv : Int) (n e0 r0 d : Nat) (h0 : 0 < n) (hn : n ≤ 60) (he0 : e0 < 300) (hr0 : r0 < 6) (hd : d < 300) (hq : qv.natAbs ≤ 128) (hps : ∀ i, (ps i).natAbs ≤ 128) (hdn : d + n ≤ e0 + 1) : ∃ u v : Nat → Nat,
    CallR Try.prog false 103 [.agg #[.float .f64 4607182418800017408, .float .f64 4620693217682128896, .float .f64 4652007308841189376, .int .i64 (iN (e0 + 1)), .int .i64 (iN (r0 + 1))], .slice (some ⟨2, 0, some 1⟩) n n, .agg #[.float .f64 (spR d), .float .f64 0, .float .f64 4607182418800017408, .float .f64 (spTu qv), .float .f64 0], .float .f64 4613937818241073152]
      [spB opn ps M, .dead, spRow ps n, spAGB e0 r0, spAGT d qv] (.tuple #[.slice (some ⟨6, 0, some 1⟩) (r0 + 1) (r0 + 1), .int .i64 0]) (spH1 opn ps M n e0 r0 d qv u v) ∧
    ∀ k, k < r0 + 1 → ∃ a b : Int, Four a b ∧ ∀ i, i < e0 + 1 → IsW (u (k * (e0 + 1) + i)) (a * spZ ps d n i) ∧ IsW (v (k * (e0 + 1) + i)) (b * spZ ps d n i) := by
  have hRE := Nat.mul_le_mul (show r0 + 1 ≤ 6 by omega) (show e0 + 1 ≤ 300 by omega)
  have hpE : ∀ p, p < r0 + 1 → p * (e0 + 1) ≤ 262144 := fun p hp => by
    have := Nat.mul_le_mul (show p ≤ 6 by omega) (show e0 + 1 ≤ 300 by omega)
    omega
  have fr : isFin (spR d) = true := (isW_near (n := iN d) (by rw [iN_eq]; omega)).1
  have ft : isFin (spTu qv) = true := ((isW_near (n := qv) (by omega)).div_q isW_4 (by decide) (c := qv) (by omega) (by omega)).1
  refine ⟨_, _, echo_any (some 1) (spPr ps) spZr n n n (spR d) 0 4607182418800017408 (spTu qv) 0 4607182418800017408 4620693217682128896 4652007308841189376 (e0 + 1) (r0 + 1) ((r0 + 1) * (e0 + 1)) 4613937818241073152 (Nat.le_refl _) (by omega) (by omega) (by omega) (by omega) (by omega) (by omega) rfl (fun _ => d) isW_3.1 ⟨fr, isFin_0, isW_1.1, ft⟩
    (fun p hp => sp_ad d hd (e0 + 1) p (hpE p hp) (spTu qv)) h0 (sp_check (by omega) (by omega) (by omega) (by omega)) (by
      have := Nat.mul_le_mul (show r0 + 1 ≤ 6 by omega) hn
      omega) (σ := [spB opn ps M, .dead, spRow ps n, spAGB e0 r0, spAGT d qv]) (b := 2) rfl, fun k hkr => ?_⟩
  obtain ⟨a, b, h4, ha, hb⟩ := sp_turn d qv hd hq (e0 + 1) k (hpE k hkr)
  exact ⟨a, b, h4, fun i hi => echo_w (R := r0 + 1) (E := e0 + 1) (a := fun _ => a) (b := fun _ => b) (p := k) (g := i) hdn hkr hi h4 ha hb fun j _ => sp_P hps j⟩
/-- What the side lobes' tests say. -/
theorem sp_tests {ps : Nat → Int} {n pw : Nat} (hn : n ≤ 60) (hps : ∀ i, (ps i).natAbs ≤ 128) (hpw : IsW pw (spD ps n 0)) {k : Nat} (ht : spTest ps n pw k = false) : spD ps n k * spD ps n k < spD ps n 0 * spD ps n 0 := by
  obtain ⟨w1, w2⟩ := sp_dot (k := k) hn fun j _ => sp_P hps j
  have hb1 := spD_abs (z := ps) (n := n) (k := k) (B := 128) fun j _ => hps j
  have hb2 : (n - k) * (128 * 128) ≤ 60 * (128 * 128) := Nat.mul_le_mul_right _ (by omega)
  have hc1 := spD_abs (z := ps) (n := n) (k := 0) (B := 128) fun j _ => hps j
  have hc2 : (n - 0) * (128 * 128) ≤ 60 * (128 * 128) := Nat.mul_le_mul_right _ (by omega)
  have hs := w1.ab2_of w2 (by omega) (by decide)
  rw [Int.mul_zero, Int.add_zero] at hs
  have hsq : IsW (fmul pw pw) (spD ps n 0 * spD ps n 0) := hpw.mul hpw (by
    rw [Int.natAbs_mul]
    have : (spD ps n 0).natAbs * (spD ps n 0).natAbs ≤ 2 ^ 20 * 2 ^ 20 := Nat.mul_le_mul (by omega) (by omega)
    omega)
  have e : spTest ps n pw k = decide (spD ps n 0 * spD ps n 0 ≤ spD ps n k * spD ps n k) := by
    rw [← hs.fge_iff hsq]
    unfold spTest spDr spDi dtR dtI
    rw [Nat.zero_add, Nat.mul_one]
    rfl
  rw [e] at ht
  have := of_decide_eq_false ht
  omega
/-- What the matches say. -/
theorem sp_law {ps : Nat → Int} {n e0 r0 d pw : Nat} {u v : Nat → Nat} (h0 : 0 < n) (hn : n ≤ 60) (hps : ∀ i, (ps i).natAbs ≤ 128) (hdn : d + n ≤ e0 + 1) (hpw : IsW pw (spD ps n 0))
    (hrow : ∀ k, k < r0 + 1 → ∃ a b : Int, Four a b ∧ ∀ i, i < e0 + 1 → IsW (u (k * (e0 + 1) + i)) (a * spZ ps d n i) ∧ IsW (v (k * (e0 + 1) + i)) (b * spZ ps d n i))
    (hk : ∀ k, 1 ≤ k → k < n → spD ps n k * spD ps n k < spD ps n 0 * spD ps n 0) (k : Nat) (hkr : k < r0 + 1) :
    feq (ab2 (spMr ps u v n e0 k d) (spMi ps u v n e0 k d)) (fmul pw pw) = true ∧
      (∀ i, i < e0 + 1 → feq (ab2 (spMr ps u v n e0 k i) (spMi ps u v n e0 k i)) (ab2 (spMr ps u v n e0 k i) (spMi ps u v n e0 k i)) = true) ∧
      (fgt pw 0 = true → (pkF (fun i => ab2 (spMr ps u v n e0 k i) (spMi ps u v n e0 k i)) (e0 + 1)).1 = iN d) := by
  obtain ⟨a, b, h4, hX⟩ := hrow k hkr
  have es : ∀ i, spMr ps u v n e0 k i = mtR (fun i => u (k * (e0 + 1) + i)) (fun i => v (k * (e0 + 1) + i)) (spPr ps) (fun _ => 0) (e0 + 1) n i ∧ spMi ps u v n e0 k i = mtI (fun i => u (k * (e0 + 1) + i)) (fun i => v (k * (e0 + 1) + i)) (spPr ps) (fun _ => 0) (e0 + 1) n i := fun i => mtO_shift _ _ _ _ _ _ _ _
  have hr := sp_round (N := e0 + 1) h4 h0 hn hdn hX (fun j _ => sp_P hps j) hk hpw
  refine ⟨by rw [(es d).1, (es d).2]; exact hr.1, fun i hi => ?_, fun hp => ?_⟩
  · rw [(es i).1, (es i).2]
    obtain ⟨w, hw⟩ := sp_val (N := e0 + 1) h4 hn hX (fun j _ => sp_P hps j) i
    exact hw.feq_of hw
  · have := hr.2 hp
    rw [← this]
    exact congrArg Prod.fst (pkF_congr (n := e0 + 1) fun i _ => by rw [(es i).1, (es i).2])
theorem dLSq_P : dLSq.P = Try.prog := rfl
theorem dLSq_ex : dLSq.ex = false := rfl
theorem dSr_P (g : HeapFn) : (dSr g).P = Try.prog := rfl
theorem dSr_ex (g : HeapFn) : (dSr g).ex = false := rfl
theorem toSr {g : HeapFn} {n0 : Nat} {c : Code} {fr fr' : List Value} {σ σ' : AHeap} {e : Exit} (h : Sim dLSq n0 c fr σ e fr' σ') : Sim (dSr g) n0 c fr σ e fr' σ' := Sim.cfg (dLSq_P.trans (dSr_P g).symm) (dLSq_ex.trans (dSr_ex g).symm) h
section
variable (opn : Option Nat) (ps : Nat → Int) (M len cap ev rv cv : Nat) (qv : Int) (hm : len ≤ M) (hev : ev ≤ 65535) (hrv : rv ≤ 255) (hcv : cv ≤ 65535) (hq : qv.natAbs ≤ 128) (hps : ∀ i, (ps i).natAbs ≤ 128)
include hm hev hrv hcv hq hps in
theorem sp_all : ∃ σ1, CallR Try.prog false 24 [.agg #[.int .u16 (iN ev), .int .u8 (iN rv), .slice (some ⟨0, 0, some 1⟩) len cap, .int .u16 (iN cv), .int .i8 qv]] [spB opn ps M] (.bool true) σ1 := by
  have he0 : ev % 300 < 300 := Nat.mod_lt _ (by decide)
  have hr0 : rv % 6 < 6 := Nat.mod_lt _ (by decide)
  have hd : cv % 300 < 300 := Nat.mod_lt _ (by decide)
  have q1 := tmod_nat ev 300
  have q2 := tmod_nat rv 6
  have q3 := tmod_nat cv 300
  generalize ev % 300 = e0 at *
  generalize rv % 6 = r0 at *
  generalize cv % 300 = d at *
  rcases Nat.eq_zero_or_pos len with rfl | hl
  · exact ⟨_, spZ_p0 opn ps M cap ev rv cv qv hev hrv hcv e0 r0 d q1 q2 q3 he0 hr0 hd⟩
  obtain ⟨n, hnl, hn, h0, hmin⟩ : ∃ n, n ≤ len ∧ n ≤ 60 ∧ 0 < n ∧ (if 60 < iN len then 60 else iN len) = iN n := by
    rcases Nat.lt_or_ge 60 len with h | h
    · exact ⟨60, by omega, by omega, by omega, by rw [iN_eq, iN_eq, if_pos (by omega)]; rfl⟩
    · exact ⟨len, by omega, by omega, by omega, by rw [iN_eq, if_neg (by omega)]⟩
  have c0 : (iN n == Int.ofNat 0) = false := by rw [iN_eq]; exact beq_false_of_ne (by show ((n : Nat) : Int) ≠ 0; omega)
  have c2 : (iN (r0 + 1) != iN (r0 + 1)) = false := by simp
  have hbuild : Stood false [spB opn ps M] → Sim dLSq 2 (.loop (loopOf Try.f24 0)) (spS0 len cap ev rv cv qv n 0) [spB opn ps M, .row [.int .u16 (iN ev), .int .u8 (iN rv), .slice (some ⟨0, 0, some 1⟩) len cap, .int .u16 (iN cv), .int .i8 qv] true none] (.exit 0) (spF0 len cap ev rv cv qv n (.slice (some ⟨2, 0, some 1⟩) n n) n) [spB opn ps M, .dead, spRow ps n] :=
    fun hst => Sim.bury 1 (sp_build opn ps M len cap ev rv cv qv n hm hnl hn hev hrv hcv h0 hst)
  rcases Nat.lt_or_ge (e0 + 1) (d + n) with hdn | hdn
  · refine ⟨_, spG_p0 opn ps M len cap ev rv cv qv n hm hnl hn hev hrv hcv e0 r0 d q1 q2 q3 he0 hr0 hd h0 c0 hdn (fun hst => ?_) (by rw [hmin])⟩
    exact ((hbuild hst).enter ([false, false, true, true, true, true, true, true, true, true, true] ++ List.replicate 148 false) (by kernel_rfl)).cast rfl (by kernel_rfl) (by kernel_rfl) (by kernel_rfl)
  obtain ⟨u, v, hecho, hrow⟩ := sp_echo opn ps M qv n e0 r0 d h0 hn he0 hr0 hd hq hps hdn
  obtain ⟨pw, hpe⟩ : ∃ pw, pw = pwS (spPr ps) spZr n := ⟨_, rfl⟩
  have hpw : IsW pw (spD ps n 0) := by rw [hpe]; exact sp_power hn fun j _ => sp_P hps j
  have hpower : sPower [.slice (some ⟨2, 0, some 1⟩) n n] (spH1 opn ps M n e0 r0 d qv u v) = some (.float .f64 pw, spH1 opn ps M n e0 r0 d qv u v) := by
    rw [hpe]
    exact sPower_row (M := n) rfl (Nat.le_refl _) (by omega)
  clear hpe
  rcases least_of (P := spTest ps n pw) n with hside | ⟨k0, k1, k2, k3, k4⟩
  · have hlaw := sp_law h0 hn hps hdn hpw hrow fun k h1 h2 => sp_tests hn hps hpw (hside k h1 h2)
    refine ⟨_, spP_p0 _ (oneF_ok 103 _ _ _ _) opn ps M len cap ev rv cv qv n hm hnl hn hev hrv hcv e0 r0 d q1 q2 q3 he0 hr0 hd u v pw h0 c0 hdn c2 (fun hst => ?_) (fun hst => ?_) hpower (oneF_at hecho (Nat.le_of_ble_eq_true (by kernel_rfl))) (fun hst => ?_) (by rw [hmin])⟩
    · have h := sp_match_loop opn ps M qv n e0 r0 d hn he0 hr0 hd u v pw h0 (by omega) (fun k hk => (hlaw k hk).1) (fun k hk => (hlaw k hk).2.1) (fun k hk => (hlaw k hk).2.2) hst.none
      exact (toSr (h.enter ([false, false, true, false, false, false, false, false, false, true, false, true, true, false, true, false, true, false, false, true] ++ List.replicate 139 false) (by kernel_rfl))).cast rfl (by kernel_rfl) (by kernel_rfl) (by kernel_rfl)
    · have h := sp_side opn ps M qv n e0 r0 d hn he0 hr0 hd u v pw h0 hside hst.none
      exact (toSr (h.enter ([false, false, true, false, false, false, false, false, true, true, false, true, true, false, true, false, true, true] ++ List.replicate 141 false) (by kernel_rfl))).cast rfl (by kernel_rfl) (by kernel_rfl) (by kernel_rfl)
    · exact (toSr ((hbuild hst).enter ([false, false, true, true, true, true, true, true, true, true, true] ++ List.replicate 148 false) (by kernel_rfl))).cast rfl (by kernel_rfl) (by kernel_rfl) (by kernel_rfl)
  · refine ⟨_, spX_p0 _ (oneF_ok 103 _ _ _ _) opn ps M len cap ev rv cv qv n hm hnl hn hev hrv hcv e0 r0 d q1 q2 q3 he0 hr0 hd u v pw h0 c0 hdn c2 (fun hst => ?_) hpower (oneF_at hecho (Nat.le_of_ble_eq_true (by kernel_rfl))) (fun hst => ?_) (by rw [hmin])⟩
    · have h := sp_stop opn ps M qv n e0 r0 d hn he0 hr0 hd u v pw k0 k1 k2 k3 k4 hst.none
      exact (toSr (h.enter ([false, false, true, false, false, false, false, false, true, true, false, true, true, false, true, false, true, true] ++ List.replicate 141 false) (by kernel_rfl))).cast rfl (by kernel_rfl) (by kernel_rfl) (by kernel_rfl)
    · exact (toSr ((hbuild hst).enter ([false, false, true, true, true, true, true, true, true, true, true] ++ List.replicate 148 false) (by kernel_rfl))).cast rfl (by kernel_rfl) (by kernel_rfl) (by kernel_rfl)
theorem sp_none (ev rv cv : Nat) (qv : Int) (hev : ev ≤ 65535) (hrv : rv ≤ 255) (hcv : cv ≤ 65535) : ∃ σ1, CallR Try.prog false 24 [.agg #[.int .u16 (iN ev), .int .u8 (iN rv), .slice none 0 0, .int .u16 (iN cv), .int .i8 qv]] [] (.bool true) σ1 :=
  ⟨_, spN_p0 0 ev rv cv qv hev hrv hcv _ _ _ (tmod_nat ev 300) (tmod_nat rv 6) (tmod_nat cv 300) (Nat.mod_lt _ (by decide)) (Nat.mod_lt _ (by decide)) (Nat.mod_lt _ (by decide))⟩
end
end Go.Lk
end

section
/- The program's head: what is asked of it by each row. -/
namespace Go.Lk
open Go.Proofs
set_option maxRecDepth 100000
theorem toList_lit (l : List Char) : (String.ofList l).toList = l := String.toList_ofList
theorem words_cons : ∀ (w r : List Char), (w.all fun c => c != Char.ofNat 32) = true → wordsSigns (w ++ Char.ofNat 32 :: r) = w :: wordsSigns r
  | [], r, _ => rfl
  | c :: w, r, h => by
    rw [List.all_cons, Bool.and_eq_true] at h
    have hc : c = Char.ofNat 32 → False := by simpa using h.1
    rw [List.cons_append, wordsSigns.eq_3 c _ hc, words_cons w r h.2]
def hw0 : List Char := [Char.ofNat 104, Char.ofNat 97, Char.ofNat 114, Char.ofNat 110, Char.ofNat 101, Char.ofNat 115, Char.ofNat 115]
def hw1 : List Char := [Char.ofNat 99, Char.ofNat 100, Char.ofNat 100, Char.ofNat 97, Char.ofNat 51, Char.ofNat 100, Char.ofNat 55, Char.ofNat 99, Char.ofNat 99, Char.ofNat 53, Char.ofNat 57, Char.ofNat 51, Char.ofNat 50, Char.ofNat 55, Char.ofNat 48, Char.ofNat 52, Char.ofNat 48, Char.ofNat 49, Char.ofNat 101, Char.ofNat 53, Char.ofNat 99, Char.ofNat 51, Char.ofNat 97, Char.ofNat 55, Char.ofNat 101, Char.ofNat 97, Char.ofNat 97, Char.ofNat 48, Char.ofNat 100, Char.ofNat 54, Char.ofNat 56, Char.ofNat 101, Char.ofNat 55, Char.ofNat 97, Char.ofNat 51, Char.ofNat 101, Char.ofNat 53, Char.ofNat 97, Char.ofNat 49, Char.ofNat 49, Char.ofNat 48, Char.ofNat 53, Char.ofNat 55, Char.ofNat 52, Char.ofNat 99, Char.ofNat 52, Char.ofNat 53, Char.ofNat 53, Char.ofNat 56, Char.ofNat 53, Char.ofNat 48, Char.ofNat 49, Char.ofNat 52, Char.ofNat 48, Char.ofNat 100, Char.ofNat 56, Char.ofNat 99, Char.ofNat 50, Char.ofNat 100, Char.ofNat 56, Char.ofNat 50, Char.ofNat 52, Char.ofNat 102, Char.ofNat 99]
def hw2 : List Char := [Char.ofNat 99, Char.ofNat 117, Char.ofNat 116]
def hwRest : List Char := [Char.ofNat 97, Char.ofNat 116, Char.ofNat 32, Char.ofNat 108, Char.ofNat 111, Char.ofNat 111, Char.ofNat 107, Char.ofNat 111, Char.ofNat 117, Char.ofNat 116, Char.ofNat 47, Char.ofNat 108, Char.ofNat 111, Char.ofNat 111, Char.ofNat 107, Char.ofNat 111, Char.ofNat 117, Char.ofNat 116, Char.ofNat 108, Char.ofNat 97, Char.ofNat 119, Char.ofNat 48, Char.ofNat 50, Char.ofNat 46, Char.ofNat 84, Char.ofNat 117, Char.ofNat 114, Char.ofNat 110, Char.ofNat 75, Char.ofNat 110, Char.ofNat 111, Char.ofNat 119, Char.ofNat 110, Char.ofNat 32, Char.ofNat 108, Char.ofNat 111, Char.ofNat 111, Char.ofNat 107, Char.ofNat 111, Char.ofNat 117, Char.ofNat 116, Char.ofNat 47, Char.ofNat 108, Char.ofNat 111, Char.ofNat 111, Char.ofNat 107, Char.ofNat 111, Char.ofNat 117, Char.ofNat 116, Char.ofNat 108, Char.ofNat 97, Char.ofNat 119, Char.ofNat 48, Char.ofNat 50, Char.ofNat 46, Char.ofNat 84, Char.ofNat 117, Char.ofNat 114, Char.ofNat 110, Char.ofNat 87, Char.ofNat 114, Char.ofNat 97, Char.ofNat 112, Char.ofNat 115, Char.ofNat 32, Char.ofNat 108, Char.ofNat 111, Char.ofNat 111, Char.ofNat 107, Char.ofNat 111, Char.ofNat 117, Char.ofNat 116, Char.ofNat 47, Char.ofNat 108, Char.ofNat 111, Char.ofNat 111, Char.ofNat 107, Char.ofNat 111, Char.ofNat 117, Char.ofNat 116, Char.ofNat 108, Char.ofNat 97, Char.ofNat 119, Char.ofNat 48, Char.ofNat 50, Char.ofNat 46, Char.ofNat 84, Char.ofNat 117, Char.ofNat 114, Char.ofNat 110, Char.ofNat 85, Char.ofNat 110, Char.ofNat 105, Char.ofNat 116, Char.ofNat 115, Char.ofNat 32, Char.ofNat 108, Char.ofNat 111, Char.ofNat 111, Char.ofNat 107, Char.ofNat 111, Char.ofNat 117, Char.ofNat 116, Char.ofNat 47, Char.ofNat 108, Char.ofNat 111, Char.ofNat 111, Char.ofNat 107, Char.ofNat 111, Char.ofNat 117, Char.ofNat 116, Char.ofNat 108, Char.ofNat 97, Char.ofNat 119, Char.ofNat 50, Char.ofNat 51, Char.ofNat 46, Char.ofNat 80, Char.ofNat 108, Char.ofNat 97, Char.ofNat 99, Char.ofNat 101, Char.ofNat 87, Char.ofNat 105, Char.ofNat 116, Char.ofNat 104, Char.ofNat 105, Char.ofNat 110, Char.ofNat 32, Char.ofNat 108, Char.ofNat 111, Char.ofNat 111, Char.ofNat 107, Char.ofNat 111, Char.ofNat 117, Char.ofNat 116, Char.ofNat 47, Char.ofNat 108, Char.ofNat 111, Char.ofNat 111, Char.ofNat 107, Char.ofNat 111, Char.ofNat 117, Char.ofNat 116, Char.ofNat 108, Char.ofNat 97, Char.ofNat 119, Char.ofNat 50, Char.ofNat 51, Char.ofNat 46, Char.ofNat 80, Char.ofNat 108, Char.ofNat 97, Char.ofNat 99, Char.ofNat 101, Char.ofNat 67, Char.ofNat 111, Char.ofNat 114, Char.ofNat 110, Char.ofNat 101, Char.ofNat 114, Char.ofNat 115, Char.ofNat 32, Char.ofNat 108, Char.ofNat 111, Char.ofNat 111, Char.ofNat 107, Char.ofNat 111, Char.ofNat 117, Char.ofNat 116, Char.ofNat 47, Char.ofNat 108, Char.ofNat 111, Char.ofNat 111, Char.ofNat 107, Char.ofNat 111, Char.ofNat 117, Char.ofNat 116, Char.ofNat 108, Char.ofNat 97, Char.ofNat 119, Char.ofNat 50, Char.ofNat 51, Char.ofNat 46, Char.ofNat 80, Char.ofNat 108, Char.ofNat 97, Char.ofNat 99, Char.ofNat 101, Char.ofNat 83, Char.ofNat 113, Char.ofNat 117, Char.ofNat 97, Char.ofNat 114, Char.ofNat 101, Char.ofNat 115, Char.ofNat 32, Char.ofNat 108, Char.ofNat 111, Char.ofNat 111, Char.ofNat 107, Char.ofNat 111, Char.ofNat 117, Char.ofNat 116, Char.ofNat 47, Char.ofNat 108, Char.ofNat 111, Char.ofNat 111, Char.ofNat 107, Char.ofNat 111, Char.ofNat 117, Char.ofNat 116, Char.ofNat 108, Char.ofNat 97, Char.ofNat 119, Char.ofNat 50, Char.ofNat 51, Char.ofNat 46, Char.ofNat 80, Char.ofNat 108, Char.ofNat 97, Char.ofNat 99, Char.ofNat 101, Char.ofNat 75, Char.ofNat 110, Char.ofNat 111, Char.ofNat 119, Char.ofNat 110, Char.ofNat 32, Char.ofNat 108, Char.ofNat 111, Char.ofNat 111, Char.ofNat 107, Char.ofNat 111, Char.ofNat 117, Char.ofNat 116, Char.ofNat 47, Char.ofNat 108, Char.ofNat 111, Char.ofNat 111, Char.ofNat 107, Char.ofNat 111, Char.ofNat 117, Char.ofNat 116, Char.ofNat 108, Char.ofNat 97, Char.ofNat 119, Char.ofNat 50, Char.ofNat 51, Char.ofNat 46, Char.ofNat 80, Char.ofNat 108, Char.ofNat 97, Char.ofNat 99, Char.ofNat 101, Char.ofNat 84, Char.ofNat 117, Char.ofNat 114, Char.ofNat 110, Char.ofNat 115, Char.ofNat 32, Char.ofNat 108, Char.ofNat 111, Char.ofNat 111, Char.ofNat 107, Char.ofNat 111, Char.ofNat 117, Char.ofNat 116, Char.ofNat 47, Char.ofNat 108, Char.ofNat 111, Char.ofNat 111, Char.ofNat 107, Char.ofNat 111, Char.ofNat 117, Char.ofNat 116, Char.ofNat 108, Char.ofNat 97, Char.ofNat 119, Char.ofNat 50, Char.ofNat 51, Char.ofNat 46, Char.ofNat 80, Char.ofNat 108, Char.ofNat 97, Char.ofNat 99, Char.ofNat 101, Char.ofNat 66, Char.ofNat 97, Char.ofNat 99, Char.ofNat 107, Char.ofNat 32, Char.ofNat 108, Char.ofNat 111, Char.ofNat 111, Char.ofNat 107, Char.ofNat 111, Char.ofNat 117, Char.ofNat 116, Char.ofNat 47, Char.ofNat 108, Char.ofNat 111, Char.ofNat 111, Char.ofNat 107, Char.ofNat 111, Char.ofNat 117, Char.ofNat 116, Char.ofNat 108, Char.ofNat 97, Char.ofNat 119, Char.ofNat 48, Char.ofNat 52, Char.ofNat 46, Char.ofNat 80, Char.ofNat 117, Char.ofNat 108, Char.ofNat 115, Char.ofNat 101, Char.ofNat 78, Char.ofNat 97, Char.ofNat 109, Char.ofNat 101, Char.ofNat 115, Char.ofNat 32, Char.ofNat 108, Char.ofNat 111, Char.ofNat 111, Char.ofNat 107, Char.ofNat 111, Char.ofNat 117, Char.ofNat 116, Char.ofNat 47, Char.ofNat 108, Char.ofNat 111, Char.ofNat 111, Char.ofNat 107, Char.ofNat 111, Char.ofNat 117, Char.ofNat 116, Char.ofNat 108, Char.ofNat 97, Char.ofNat 119, Char.ofNat 48, Char.ofNat 52, Char.ofNat 46, Char.ofNat 80, Char.ofNat 117, Char.ofNat 108, Char.ofNat 115, Char.ofNat 101, Char.ofNat 67, Char.ofNat 104, Char.ofNat 105, Char.ofNat 114, Char.ofNat 112, Char.ofNat 115, Char.ofNat 32, Char.ofNat 108, Char.ofNat 111, Char.ofNat 111, Char.ofNat 107, Char.ofNat 111, Char.ofNat 117, Char.ofNat 116, Char.ofNat 47, Char.ofNat 108, Char.ofNat 111, Char.ofNat 111, Char.ofNat 107, Char.ofNat 111, Char.ofNat 117, Char.ofNat 116, Char.ofNat 108, Char.ofNat 97, Char.ofNat 119, Char.ofNat 48, Char.ofNat 52, Char.ofNat 46, Char.ofNat 80, Char.ofNat 117, Char.ofNat 108, Char.ofNat 115, Char.ofNat 101, Char.ofNat 83, Char.ofNat 105, Char.ofNat 103, Char.ofNat 110, Char.ofNat 115, Char.ofNat 32, Char.ofNat 108, Char.ofNat 111, Char.ofNat 111, Char.ofNat 107, Char.ofNat 111, Char.ofNat 117, Char.ofNat 116, Char.ofNat 47, Char.ofNat 108, Char.ofNat 111, Char.ofNat 111, Char.ofNat 107, Char.ofNat 111, Char.ofNat 117, Char.ofNat 116, Char.ofNat 108, Char.ofNat 97, Char.ofNat 119, Char.ofNat 48, Char.ofNat 52, Char.ofNat 46, Char.ofNat 80, Char.ofNat 117, Char.ofNat 108, Char.ofNat 115, Char.ofNat 101, Char.ofNat 83, Char.ofNat 116, Char.ofNat 101, Char.ofNat 112, Char.ofNat 115, Char.ofNat 32, Char.ofNat 108, Char.ofNat 111, Char.ofNat 111, Char.ofNat 107, Char.ofNat 111, Char.ofNat 117, Char.ofNat 116, Char.ofNat 47, Char.ofNat 108, Char.ofNat 111, Char.ofNat 111, Char.ofNat 107, Char.ofNat 111, Char.ofNat 117, Char.ofNat 116, Char.ofNat 108, Char.ofNat 97, Char.ofNat 119, Char.ofNat 48, Char.ofNat 52, Char.ofNat 46, Char.ofNat 80, Char.ofNat 117, Char.ofNat 108, Char.ofNat 115, Char.ofNat 101, Char.ofNat 67, Char.ofNat 111, Char.ofNat 100, Char.ofNat 101, Char.ofNat 115, Char.ofNat 32, Char.ofNat 108, Char.ofNat 111, Char.ofNat 111, Char.ofNat 107, Char.ofNat 111, Char.ofNat 117, Char.ofNat 116, Char.ofNat 47, Char.ofNat 108, Char.ofNat 111, Char.ofNat 111, Char.ofNat 107, Char.ofNat 111, Char.ofNat 117, Char.ofNat 116, Char.ofNat 108, Char.ofNat 97, Char.ofNat 119, Char.ofNat 48, Char.ofNat 52, Char.ofNat 46, Char.ofNat 80, Char.ofNat 117, Char.ofNat 108, Char.ofNat 115, Char.ofNat 101, Char.ofNat 80, Char.ofNat 101, Char.ofNat 97, Char.ofNat 107, Char.ofNat 32, Char.ofNat 108, Char.ofNat 111, Char.ofNat 111, Char.ofNat 107, Char.ofNat 111, Char.ofNat 117, Char.ofNat 116, Char.ofNat 47, Char.ofNat 108, Char.ofNat 111, Char.ofNat 111, Char.ofNat 107, Char.ofNat 111, Char.ofNat 117, Char.ofNat 116, Char.ofNat 108, Char.ofNat 97, Char.ofNat 119, Char.ofNat 48, Char.ofNat 52, Char.ofNat 46, Char.ofNat 80, Char.ofNat 117, Char.ofNat 108, Char.ofNat 115, Char.ofNat 101, Char.ofNat 69, Char.ofNat 118, Char.ofNat 101, Char.ofNat 110, Char.ofNat 32, Char.ofNat 108, Char.ofNat 111, Char.ofNat 111, Char.ofNat 107, Char.ofNat 111, Char.ofNat 117, Char.ofNat 116, Char.ofNat 47, Char.ofNat 108, Char.ofNat 111, Char.ofNat 111, Char.ofNat 107, Char.ofNat 111, Char.ofNat 117, Char.ofNat 116, Char.ofNat 108, Char.ofNat 97, Char.ofNat 119, Char.ofNat 48, Char.ofNat 53, Char.ofNat 46, Char.ofNat 68, Char.ofNat 102, Char.ofNat 116, Char.ofNat 75, Char.ofNat 110, Char.ofNat 111, Char.ofNat 119, Char.ofNat 110, Char.ofNat 32, Char.ofNat 108, Char.ofNat 111, Char.ofNat 111, Char.ofNat 107, Char.ofNat 111, Char.ofNat 117, Char.ofNat 116, Char.ofNat 47, Char.ofNat 108, Char.ofNat 111, Char.ofNat 111, Char.ofNat 107, Char.ofNat 111, Char.ofNat 117, Char.ofNat 116, Char.ofNat 108, Char.ofNat 97, Char.ofNat 119, Char.ofNat 48, Char.ofNat 54, Char.ofNat 46, Char.ofNat 77, Char.ofNat 97, Char.ofNat 116, Char.ofNat 99, Char.ofNat 104, Char.ofNat 80, Char.ofNat 101, Char.ofNat 97, Char.ofNat 107, Char.ofNat 32, Char.ofNat 108, Char.ofNat 111, Char.ofNat 111, Char.ofNat 107, Char.ofNat 111, Char.ofNat 117, Char.ofNat 116, Char.ofNat 47, Char.ofNat 108, Char.ofNat 111, Char.ofNat 111, Char.ofNat 107, Char.ofNat 111, Char.ofNat 117, Char.ofNat 116, Char.ofNat 108, Char.ofNat 97, Char.ofNat 119, Char.ofNat 48, Char.ofNat 54, Char.ofNat 46, Char.ofNat 77, Char.ofNat 97, Char.ofNat 116, Char.ofNat 99, Char.ofNat 104, Char.ofNat 75, Char.ofNat 110, Char.ofNat 111, Char.ofNat 119, Char.ofNat 110, Char.ofNat 32, Char.ofNat 108, Char.ofNat 111, Char.ofNat 111, Char.ofNat 107, Char.ofNat 111, Char.ofNat 117, Char.ofNat 116, Char.ofNat 47, Char.ofNat 108, Char.ofNat 111, Char.ofNat 111, Char.ofNat 107, Char.ofNat 111, Char.ofNat 117, Char.ofNat 116, Char.ofNat 108, Char.ofNat 97, Char.ofNat 119, Char.ofNat 50, Char.ofNat 49, Char.ofNat 46, Char.ofNat 83, Char.ofNat 111, Char.ofNat 108, Char.ofNat 118, Char.ofNat 101, Char.ofNat 75, Char.ofNat 110, Char.ofNat 111, Char.ofNat 119, Char.ofNat 110, Char.ofNat 32, Char.ofNat 108, Char.ofNat 111, Char.ofNat 111, Char.ofNat 107, Char.ofNat 111, Char.ofNat 117, Char.ofNat 116, Char.ofNat 47, Char.ofNat 108, Char.ofNat 111, Char.ofNat 111, Char.ofNat 107, Char.ofNat 111, Char.ofNat 117, Char.ofNat 116, Char.ofNat 108, Char.ofNat 97, Char.ofNat 119, Char.ofNat 49, Char.ofNat 50, Char.ofNat 46, Char.ofNat 83, Char.ofNat 99, Char.ofNat 101, Char.ofNat 110, Char.ofNat 101, Char.ofNat 75, Char.ofNat 110, Char.ofNat 111, Char.ofNat 119, Char.ofNat 110, Char.ofNat 32, Char.ofNat 108, Char.ofNat 111, Char.ofNat 111, Char.ofNat 107, Char.ofNat 111, Char.ofNat 117, Char.ofNat 116, Char.ofNat 47, Char.ofNat 108, Char.ofNat 111, Char.ofNat 111, Char.ofNat 107, Char.ofNat 111, Char.ofNat 117, Char.ofNat 116, Char.ofNat 108, Char.ofNat 97, Char.ofNat 119, Char.ofNat 49, Char.ofNat 50, Char.ofNat 46, Char.ofNat 83, Char.ofNat 99, Char.ofNat 101, Char.ofNat 110, Char.ofNat 101, Char.ofNat 80, Char.ofNat 101, Char.ofNat 97, Char.ofNat 107, Char.ofNat 32, Char.ofNat 108, Char.ofNat 111, Char.ofNat 111, Char.ofNat 107, Char.ofNat 111, Char.ofNat 117, Char.ofNat 116, Char.ofNat 47, Char.ofNat 108, Char.ofNat 111, Char.ofNat 111, Char.ofNat 107, Char.ofNat 111, Char.ofNat 117, Char.ofNat 116, Char.ofNat 108, Char.ofNat 97, Char.ofNat 119, Char.ofNat 50, Char.ofNat 50, Char.ofNat 46, Char.ofNat 66, Char.ofNat 101, Char.ofNat 97, Char.ofNat 109, Char.ofNat 72, Char.ofNat 101, Char.ofNat 97, Char.ofNat 114, Char.ofNat 115, Char.ofNat 32, Char.ofNat 108, Char.ofNat 111, Char.ofNat 111, Char.ofNat 107, Char.ofNat 111, Char.ofNat 117, Char.ofNat 116, Char.ofNat 47, Char.ofNat 108, Char.ofNat 111, Char.ofNat 111, Char.ofNat 107, Char.ofNat 111, Char.ofNat 117, Char.ofNat 116, Char.ofNat 108, Char.ofNat 97, Char.ofNat 119, Char.ofNat 50, Char.ofNat 50, Char.ofNat 46, Char.ofNat 66, Char.ofNat 101, Char.ofNat 97, Char.ofNat 109, Char.ofNat 65, Char.ofNat 100, Char.ofNat 100, Char.ofNat 115, Char.ofNat 32, Char.ofNat 108, Char.ofNat 111, Char.ofNat 111, Char.ofNat 107, Char.ofNat 111, Char.ofNat 117, Char.ofNat 116, Char.ofNat 47, Char.ofNat 108, Char.ofNat 111, Char.ofNat 111, Char.ofNat 107, Char.ofNat 111, Char.ofNat 117, Char.ofNat 116, Char.ofNat 108, Char.ofNat 97, Char.ofNat 119, Char.ofNat 50, Char.ofNat 50, Char.ofNat 46, Char.ofNat 66, Char.ofNat 101, Char.ofNat 97, Char.ofNat 109, Char.ofNat 66, Char.ofNat 97, Char.ofNat 99, Char.ofNat 107, Char.ofNat 32, Char.ofNat 108, Char.ofNat 111, Char.ofNat 111, Char.ofNat 107, Char.ofNat 111, Char.ofNat 117, Char.ofNat 116, Char.ofNat 47, Char.ofNat 108, Char.ofNat 111, Char.ofNat 111, Char.ofNat 107, Char.ofNat 111, Char.ofNat 117, Char.ofNat 116, Char.ofNat 108, Char.ofNat 97, Char.ofNat 119, Char.ofNat 50, Char.ofNat 50, Char.ofNat 46, Char.ofNat 66, Char.ofNat 101, Char.ofNat 97, Char.ofNat 109, Char.ofNat 83, Char.ofNat 116, Char.ofNat 101, Char.ofNat 101, Char.ofNat 114, Char.ofNat 115, Char.ofNat 32, Char.ofNat 108, Char.ofNat 111, Char.ofNat 111, Char.ofNat 107, Char.ofNat 111, Char.ofNat 117, Char.ofNat 116, Char.ofNat 47, Char.ofNat 108, Char.ofNat 111, Char.ofNat 111, Char.ofNat 107, Char.ofNat 111, Char.ofNat 117, Char.ofNat 116, Char.ofNat 108, Char.ofNat 97, Char.ofNat 119, Char.ofNat 50, Char.ofNat 50, Char.ofNat 46, Char.ofNat 66, Char.ofNat 101, Char.ofNat 97, Char.ofNat 109, Char.ofNat 78, Char.ofNat 117, Char.ofNat 108, Char.ofNat 108, Char.ofNat 115, Char.ofNat 32, Char.ofNat 108, Char.ofNat 111, Char.ofNat 111, Char.ofNat 107, Char.ofNat 111, Char.ofNat 117, Char.ofNat 116, Char.ofNat 47, Char.ofNat 108, Char.ofNat 111, Char.ofNat 111, Char.ofNat 107, Char.ofNat 111, Char.ofNat 117, Char.ofNat 116, Char.ofNat 108, Char.ofNat 97, Char.ofNat 119, Char.ofNat 50, Char.ofNat 50, Char.ofNat 46, Char.ofNat 66, Char.ofNat 101, Char.ofNat 97, Char.ofNat 109, Char.ofNat 68, Char.ofNat 101, Char.ofNat 97, Char.ofNat 102, Char.ofNat 32, Char.ofNat 108, Char.ofNat 111, Char.ofNat 111, Char.ofNat 107, Char.ofNat 111, Char.ofNat 117, Char.ofNat 116, Char.ofNat 47, Char.ofNat 108, Char.ofNat 111, Char.ofNat 111, Char.ofNat 107, Char.ofNat 111, Char.ofNat 117, Char.ofNat 116, Char.ofNat 108, Char.ofNat 97, Char.ofNat 119, Char.ofNat 50, Char.ofNat 50, Char.ofNat 46, Char.ofNat 66, Char.ofNat 101, Char.ofNat 97, Char.ofNat 109, Char.ofNat 69, Char.ofNat 118, Char.ofNat 101, Char.ofNat 110]
theorem head_eq : Try.prog.initOrder.toList = hw0 ++ Char.ofNat 32 :: (hw1 ++ Char.ofNat 32 :: (hw2 ++ Char.ofNat 32 :: hwRest)) :=
  (show (String.ofList (hw0 ++ Char.ofNat 32 :: (hw1 ++ Char.ofNat 32 :: (hw2 ++ Char.ofNat 32 :: hwRest)))).toList = _ from String.toList_ofList)
theorem head_words : wordsSigns Try.prog.initOrder.toList = hw0 :: hw1 :: hw2 :: wordsSigns hwRest := by
  rw [head_eq, words_cons _ _ (by kernel_rfl), words_cons _ _ (by kernel_rfl), words_cons _ _ (by kernel_rfl)]
theorem harness_eq : "harness".toList = hw0 := toList_lit hw0
theorem head_main : behindMainWord (wordsSigns Try.prog.initOrder.toList) = hw2 :: wordsSigns hwRest := by
  rw [head_words]
  rw [behindMainWord, harness_eq, if_pos (by kernel_rfl)]
theorem strip_ne {o : String} {os : List String} {w : List Char} {ws : List (List Char)} {l : List Char} (h : o.toList = l) (h2 : (w == l) = false) : stripLifts (o :: os) (w :: ws) = stripLifts os (w :: ws) := by
  rw [stripLifts, h, h2]; rfl
theorem strip_cut : stripLifts liftWords (hw2 :: wordsSigns hwRest) = ([], hw2 :: wordsSigns hwRest) := by
  unfold liftWords
  rw [strip_ne (l := [Char.ofNat 102, Char.ofNat 105, Char.ofNat 110, Char.ofNat 97, Char.ofNat 108, Char.ofNat 115]) (toList_lit _) (by kernel_rfl)]
  rw [strip_ne (l := [Char.ofNat 114, Char.ofNat 101, Char.ofNat 102, Char.ofNat 108, Char.ofNat 101, Char.ofNat 99, Char.ofNat 116, Char.ofNat 114, Char.ofNat 111, Char.ofNat 119, Char.ofNat 115]) (toList_lit _) (by kernel_rfl)]
  rw [strip_ne (l := [Char.ofNat 108, Char.ofNat 101, Char.ofNat 97, Char.ofNat 110, Char.ofNat 114, Char.ofNat 111, Char.ofNat 119, Char.ofNat 115]) (toList_lit _) (by kernel_rfl)]
  rw [strip_ne (l := [Char.ofNat 111, Char.ofNat 110, Char.ofNat 101, Char.ofNat 98, Char.ofNat 117, Char.ofNat 105, Char.ofNat 108, Char.ofNat 100]) (toList_lit _) (by kernel_rfl)]
  rw [strip_ne (l := [Char.ofNat 112, Char.ofNat 117, Char.ofNat 98, Char.ofNat 108, Char.ofNat 105, Char.ofNat 99, Char.ofNat 115, Char.ofNat 117, Char.ofNat 109, Char.ofNat 115]) (toList_lit _) (by kernel_rfl)]
  rw [strip_ne (l := [Char.ofNat 101, Char.ofNat 113, Char.ofNat 103, Char.ofNat 117, Char.ofNat 97, Char.ofNat 114, Char.ofNat 100]) (toList_lit _) (by kernel_rfl)]
  rw [strip_ne (l := [Char.ofNat 111, Char.ofNat 119, Char.ofNat 110, Char.ofNat 117, Char.ofNat 110, Char.ofNat 115, Char.ofNat 97, Char.ofNat 102, Char.ofNat 101]) (toList_lit _) (by kernel_rfl)]
  rw [strip_ne (l := [Char.ofNat 108, Char.ofNat 105, Char.ofNat 98, Char.ofNat 98, Char.ofNat 101, Char.ofNat 115, Char.ofNat 105, Char.ofNat 100, Char.ofNat 101]) (toList_lit _) (by kernel_rfl)]
  rw [strip_ne (l := [Char.ofNat 111, Char.ofNat 119, Char.ofNat 110, Char.ofNat 98, Char.ofNat 101, Char.ofNat 115, Char.ofNat 105, Char.ofNat 100, Char.ofNat 101]) (toList_lit _) (by kernel_rfl)]
  rw [strip_ne (l := [Char.ofNat 114, Char.ofNat 101, Char.ofNat 102, Char.ofNat 108, Char.ofNat 98, Char.ofNat 101, Char.ofNat 115, Char.ofNat 105, Char.ofNat 100, Char.ofNat 101]) (toList_lit _) (by kernel_rfl)]
  rw [strip_ne (l := [Char.ofNat 97, Char.ofNat 108, Char.ofNat 105, Char.ofNat 97, Char.ofNat 115, Char.ofNat 101, Char.ofNat 115]) (toList_lit _) (by kernel_rfl)]
  rw [strip_ne (l := [Char.ofNat 97, Char.ofNat 102, Char.ofNat 116, Char.ofNat 101, Char.ofNat 114, Char.ofNat 105, Char.ofNat 110, Char.ofNat 105, Char.ofNat 116]) (toList_lit _) (by kernel_rfl)]
  rw [strip_ne (l := [Char.ofNat 99, Char.ofNat 114, Char.ofNat 99, Char.ofNat 112, Char.ofNat 108, Char.ofNat 97, Char.ofNat 105, Char.ofNat 110]) (toList_lit _) (by kernel_rfl)]
  rw [strip_ne (l := [Char.ofNat 114, Char.ofNat 111, Char.ofNat 97, Char.ofNat 100, Char.ofNat 117, Char.ofNat 110, Char.ofNat 115, Char.ofNat 97, Char.ofNat 102, Char.ofNat 101]) (toList_lit _) (by kernel_rfl)]
  rw [strip_ne (l := [Char.ofNat 102, Char.ofNat 109, Char.ofNat 116, Char.ofNat 104, Char.ofNat 97, Char.ofNat 110, Char.ofNat 100, Char.ofNat 111, Char.ofNat 110]) (toList_lit _) (by kernel_rfl)]
  rfl
theorem cut_eq : "cut".toList = hw2 := toList_lit hw2
def w_gc : List Char := [Char.ofNat 103, Char.ofNat 99]
theorem gc_eq : "gc".toList = w_gc := toList_lit w_gc
def w_spec : List Char := [Char.ofNat 115, Char.ofNat 112, Char.ofNat 101, Char.ofNat 99]
theorem spec_eq : "spec".toList = w_spec := toList_lit w_spec
def w_carried : List Char := [Char.ofNat 99, Char.ofNat 97, Char.ofNat 114, Char.ofNat 114, Char.ofNat 105, Char.ofNat 101, Char.ofNat 100]
theorem carried_eq : "carried".toList = w_carried := toList_lit w_carried
theorem headLifts_ok : Try.prog.headLifts = [] := by
  unfold Program.headLifts
  rw [head_main, strip_cut, cut_eq]
  rfl
theorem laysLater_ok : Try.prog.laysLater = false := by kernel_rfl
theorem bearsReflect_ok : Try.prog.bearsReflect = false := by kernel_rfl
theorem doors_none : (Try.prog.funcs.toList.filter fun fn => fn.body.isNone && opensWith (nameBytes "var's door: ") (nameBytes fn.name)) = [] := by kernel_rfl
theorem doorRows_ok : Try.prog.doorRows = [] := by
  unfold Program.doorRows
  rw [doors_none]
  rfl
theorem doorFits_ok : Try.prog.doorFits [] = true := by
  unfold Program.doorFits
  rw [doorRows_ok]
  rfl
theorem hw2_gc : (hw2 == w_gc) = false := by kernel_rfl
theorem hw2_spec : (hw2 == w_spec) = false := by kernel_rfl
theorem mayEnter_of {P : Program} {c : List Char} {rest : List (List Char)} (h : behindMainWord (wordsSigns P.initOrder.toList) = c :: rest) (h2 : stripLifts liftWords (c :: rest) = ([], c :: rest))
    (h3 : P.laysLater = false) (h4 : P.bearsReflect = false) (h5 : P.doorFits [] = true) (h6 : "cut".toList = c) : P.mayEnter = true := by
  unfold Program.mayEnter
  rw [h]
  simp only [h2, h3, h4, h5, h6]
  simp
theorem mayEnter_ok : Try.prog.mayEnter = true := mayEnter_of head_main strip_cut laysLater_ok bearsReflect_ok doorFits_ok cut_eq
theorem make_of {P : Program} {c g s : List Char} {rest : List (List Char)} (h : behindMainWord (wordsSigns P.initOrder.toList) = c :: rest) 
    (h6 : "cut".toList = c) (h7 : "gc".toList = g) (h8 : "spec".toList = s) (h9 : (c == g) = false) (h10 : (c == s) = false) : P.make = some .cut := by
  unfold Program.make
  rw [h]
  simp only [h6, h7, h8, h9, h10]
  simp
theorem make_ok : Try.prog.make = some .cut := make_of head_main cut_eq gc_eq spec_eq hw2_gc hw2_spec
theorem liftsFinal_ok : Try.prog.liftsFinal = false := by
  unfold Program.liftsFinal
  rw [head_main, headLifts_ok]
  simp only [gc_eq, carried_eq, cut_eq]
  kernel_rfl
theorem and2 {a b : Bool} (h : a = true) (k : b = true) : (a && b) = true := by rw [h, k]; rfl
theorem joinedFacts_of {P : Program} {f : FuncId} {fn : Func} {s : ChangeSpec} {c : OpenClaim}
    (h0 : (c.wf (OpenSpec.ofChange s)) = true)
    (h1 : (laidOutB P) = true)
    (h2 : (mapsRowed P) = true)
    (h3 : (fn.params.all (P.readableRec ·)) = true)
    (h4 : (namedTie P c.named s.vars) = true)
    (h5 : ((c.stops == [])) = true)
    (h6 : ((P.stops == [])) = true)
    (h7 : ((c.knobs == [])) = true)
    (h8 : ((P.stopKnobs == [])) = true)
    (h9 : ((c.inPlace == P.inPlace f)) = true)
    (h10 : ((c.unfollowed == P.unfollowed f)) = true)
    (h11 : ((c.recurses == P.recurses f)) = true)
    (h12 : ((c.named == P.varsNamed f)) = true)
    (h13 : ((c.maps == (fn.params.toList ++ s.plain.varTypes P).any (P.mapsRec ·))) = true)
    (h14 : ((c.ifaces == (fn.params.toList ++ s.plain.varTypes P).any (P.ifacesRec ·))) = true)
    (h15 : ((c.mapsOut == P.mapsAmong fn.resultTypes.toList)) = true)
    (h16 : ((c.loops == (fn.params.toList ++ s.plain.varTypes P).any (P.loopsFrom ·))) = true)
    (h17 : ((c.wideKeys == (fn.params.toList ++ s.plain.varTypes P ++ fn.resultTypes.toList).any (P.wideKeysFrom ·))) = true)
    (h18 : (s.vars.all (P.varReadable ·)) = true)
    (h19 : (fn.resultTypes.all (fun t => P.readableRec t && decide (t < P.types.size))) = true)
    (h20 : ((c.ifacesOut == fn.resultTypes.toList.any (P.ifacesRec ·))) = true)
    (h21 : ((c.loopsOut == fn.resultTypes.toList.any (P.loopsFrom ·))) = true)
    (h22 : ((c.plainKeys == P.plainKeys)) = true)
    (h23 : (c.shortTexts.isNone) = true)
    (h24 : (P.stopsHeard) = true)
    (h25 : (P.mayEnter) = true)
    (h26 : ((c.lifted == P.liftsFinal)) = true)
    (h27 : ((P.make == some c.make)) = true)
    (h28 : ((c.kinds == (if c.domain.isEmpty then [] else fn.params.toList.map fun t => match P.underlying t with | some (.int k) => some k | _ => none))) = true)
    (h29 : ((c.pinned == c.pinnedBy)) = true)
    (h30 : ((c.veiled == (fn.params.toList ++ s.plain.varTypes P ++ fn.resultTypes.toList).any (P.veiledRec ·))) = true)
    (h31 : (c.veiledFits P fn.params.toList (fn.params.toList ++ s.plain.varTypes P ++ fn.resultTypes.toList)) = true) : joinedFacts P f fn s c = true := by
  exact and2 (and2 (and2 (and2 (and2 (and2 (and2 (and2 (and2 (and2 (and2 (and2 (and2 (and2 (and2 (and2 (and2 (and2 (and2 (and2 (and2 (and2 (and2 (and2 (and2 (and2 (and2 (and2 (and2 (and2 (and2 (h0) h1) h2) h3) h4) h5) h6) h7) h8) h9) h10) h11) h12) h13) h14) h15) h16) h17) h18) h19) h20) h21) h22) h23) h24) h25) h26) h27) h28) h29) h30) h31
theorem laidOut_ok : laidOutB Try.prog = true := by kernel_rfl
theorem mapsRowed_ok : mapsRowed Try.prog = true := by kernel_rfl
theorem stopsHeard_ok : Try.prog.stopsHeard = true := by kernel_rfl
end Go.Lk
end
