/- PlaceSquares: joined. -/
import Derived.Test.YtmomainjlncogaaLkPSL
import Derived.Test.YtmomainjlncogaaLkPSD
import Derived.Test.YtmomainjlncogaaLkPSE
import Derived.Test.YtmomainjlncogaaLkPSR
namespace Go.Lk
open Go.Proofs
set_option maxRecDepth 100000
set_option maxHeartbeats 0
set_option linter.unusedVariables false
set_option linter.unusedSimpArgs false
/-! ### What the calls tell -/
theorem okSec_true {b : Nat} {n : Int} (hb : Canon b) : okSecQ b n = true := by
  unfold okSecQ
  rw [fin_test hb]
  cases h1 : decide (n < 1)
  · cases h2 : decide (n > 4096)
    · cases h3 : isFin b
      · rfl
      · have h1 := of_decide_eq_false h1
        have h2 := of_decide_eq_false h2
        obtain ⟨F, _, _, hF⟩ := sec_range hb h3 (n := n) (by omega) (by omega)
        rw [hF]; rfl
    · rfl
  · rfl
theorem secW_eq {b : Nat} {n : Int} (hb : Canon b) (H : AHeap) {s e : Int} (h0 : qSector_0 b n = s) (h1 : qSector_1 b n = e) : sSecW [.float .f64 b, .int .i64 n] H = some (.tuple #[.int .i64 s, .int .i64 e], H) := by
  unfold sSecW
  simp only [okSec_true hb, cond_true, h0, h1]
theorem sec_small {b : Nat} {n : Int} (hb : Canon b) (H : AHeap) (h : n < 1) : sSecW [.float .f64 b, .int .i64 n] H = some (.tuple #[.int .i64 (Int.ofNat 0), .int .i64 (Int.ofNat 2)], H) :=
  secW_eq hb H (by unfold qSector_0; rw [decide_eq_true h]; rfl) (by unfold qSector_1; rw [decide_eq_true h]; rfl)
theorem sec_big {b : Nat} {n : Int} (hb : Canon b) (H : AHeap) (h0 : ¬ n < 1) (h : n > 4096) : sSecW [.float .f64 b, .int .i64 n] H = some (.tuple #[.int .i64 (Int.ofNat 0), .int .i64 (Int.ofNat 2)], H) :=
  secW_eq hb H (by unfold qSector_0; rw [decide_eq_false h0, decide_eq_true h]; rfl) (by unfold qSector_1; rw [decide_eq_false h0, decide_eq_true h]; rfl)
theorem sec_nan {b : Nat} {n : Int} (hb : Canon b) (H : AHeap) (h0 : ¬ n < 1) (h : ¬ n > 4096) (hf : feq (fsub b b) 0 = false) : sSecW [.float .f64 b, .int .i64 n] H = some (.tuple #[.int .i64 (Int.ofNat 0), .int .i64 (Int.ofNat 6)], H) :=
  secW_eq hb H (by unfold qSector_0; rw [decide_eq_false h0, decide_eq_false h, hf]; rfl) (by unfold qSector_1; rw [decide_eq_false h0, decide_eq_false h, hf]; rfl)
theorem wrap_less {n : Int} (h0 : ¬ n < 1) (h : ¬ n > 4096) : IntKind.i64.wrap (n - Int.ofNat 1) = n - 1 := i64_wrap ⟨by show -9223372036854775808 ≤ n - 1; omega, by show n - 1 ≤ 9223372036854775807; omega⟩
/-- A finite bearing's sector. -/
theorem sec_fin {b : Nat} {n : Int} (hb : Canon b) (h0 : ¬ n < 1) (h : ¬ n > 4096) (hf : feq (fsub b b) 0 = true) : ∃ s : Int, decide (s < 0) = false ∧ decide (s ≥ n) = false ∧ ∀ H, sSecW [.float .f64 b, .int .i64 n] H = some (.tuple #[.int .i64 s, .int .i64 (Int.ofNat 0)], H) := by
  have hfin : isFin b = true := by rw [← fin_test hb]; exact hf
  obtain ⟨F, f1, f2, _⟩ := sec_range hb hfin (n := n) (by omega) (by omega)
  have e : qSector_0 b n = if n - 1 < (F : Int) then n - 1 else F := by
    unfold qSector_0
    rw [decide_eq_false h0, decide_eq_false h, hf, wrap_less h0 h, f2]; rfl
  have e1 : qSector_1 b n = Int.ofNat 0 := by
    unfold qSector_1
    rw [decide_eq_false h0, decide_eq_false h, hf]; rfl
  refine ⟨qSector_0 b n, ?_, ?_, fun H => secW_eq hb H rfl e1⟩
  · rw [e]; exact decide_eq_false (by split <;> omega)
  · rw [e]; exact decide_eq_false (by split <;> omega)
/-- The middle of a sector is its own. -/
theorem sec_own {c n : Int} (c0 : 0 ≤ c) (c1 : c < n) (n2 : ¬ n > 4096) (H : AHeap) :
    sSecW [.float .f64 (fdiv (fadd (FloatKind.f64.nearest c) 4602678819172646912) (FloatKind.f64.nearest n)), .int .i64 n] H = some (.tuple #[.int .i64 c, .int .i64 (Int.ofNat 0)], H) := by
  obtain ⟨m1, m2⟩ := sec_mid c0 c1 (n2 := by omega)
  have hc := Canon.fdiv (fadd (FloatKind.f64.nearest c) half) (FloatKind.f64.nearest n)
  have hf : feq (fsub (fdiv (fadd (FloatKind.f64.nearest c) half) (FloatKind.f64.nearest n)) (fdiv (fadd (FloatKind.f64.nearest c) half) (FloatKind.f64.nearest n))) 0 = true := by rw [fin_test hc]; exact m1
  refine secW_eq hc H ?_ ?_
  · unfold qSector_0
    rw [decide_eq_false (by omega : ¬ n < 1), decide_eq_false n2, hf, wrap_less (by omega) n2, m2]
    simp only [cond_true, cond_false]
    rw [if_neg (by omega)]
  · unfold qSector_1
    rw [decide_eq_false (by omega : ¬ n < 1), decide_eq_false n2, hf]; rfl
theorem cnt_eq {k n : Int} (h0 : 0 < n) (H : AHeap) : sCnt [.int .i64 k, .int .i64 n] H = some (.int .i64 (cntQ k n), H) := by
  unfold sCnt
  simp only [decide_eq_true h0, cond_true]
/-! ### Whole turns more -/
theorem fx_2p20 : isFin 4697254411347427328 = true ∧ sg 4697254411347427328 = false ∧ fxr (rg 4697254411347427328) = 2 ^ 20 * U := by decide +kernel
theorem U_20 : ∃ V, U = 2 ^ 20 * V ∧ 0 < V ∧ ∃ v, V = 2 ^ v := by
  obtain ⟨u, hu, hU⟩ := U_spec
  exact ⟨2 ^ (u - 20), by rw [hU, ← Nat.pow_add, show 20 + (u - 20) = u by omega], Nat.two_pow_pos _, _, rfl⟩
theorem div_20 {k : Int} (h : k.natAbs < 2 ^ 53) {V : Nat} (hV : U = 2 ^ 20 * V) (hp : ∃ v, V = 2 ^ v) : isFin (fdiv (FloatKind.f64.nearest k) 4697254411347427328) = true ∧ fx (fdiv (FloatKind.f64.nearest k) 4697254411347427328) = k * (V : Int) := by
  obtain ⟨a1, a2, a3⟩ := near_fx h
  obtain ⟨d1, d2, d3⟩ := fx_2p20
  have hU := U_pos
  obtain ⟨r, e, hr⟩ := fdiv_near a1 d1 (by rw [d3]; omega)
  have hX : fxr (rg (FloatKind.f64.nearest k)) = k.natAbs * U := by
    have := fx_abs (FloatKind.f64.nearest k)
    rw [a2, Int.natAbs_mul, Int.natAbs_natCast] at this
    exact this.symm
  rw [hX, d3] at hr
  obtain ⟨v, hv⟩ := hp
  obtain ⟨l1, l2⟩ := rung_small (T := k.natAbs * V) (r := 4850376798678024192) (by
    rw [fxr_big, hV]
    calc k.natAbs * V ≤ 2 ^ 53 * V := Nat.mul_le_mul_right _ (by omega)
      _ ≤ _ := by omega) (by decide) ⟨k.natAbs, v, by rw [hv], h⟩
  have hr1 : Near (k.natAbs * U) (2 ^ 20) r := Near.unscale hU hr
  have key : fxr (rung (k.natAbs * V)) * 2 ^ 20 = k.natAbs * U := by rw [l2, hV, Nat.mul_assoc, Nat.mul_comm V]
  have e1 := hr1.le_of (R := rung (k.natAbs * V)) (by unfold infR; omega) (by omega)
  have e2 := hr1.ge_of (R := rung (k.natAbs * V)) (by unfold infR; omega) (by omega)
  have er : r = rung (k.natAbs * V) := by omega
  rw [a3, d2, er] at e
  rw [e]
  refine ⟨fin_wd l1, ?_⟩
  have hs : sgn (decide (k < 0) ^^ false) k.natAbs = k := by
    rw [Bool.xor_false]
    unfold sgn
    by_cases h0 : k < 0
    · rw [decide_eq_true h0, if_pos rfl]; omega
    · rw [decide_eq_false h0, if_neg (by decide)]; omega
  rw [fx_wd (rung_lt _), l2, sgn_mul, hs]
theorem sec_turns {k q n : Int} (hk1 : ¬ k ≤ -1073741824) (hk2 : ¬ k ≥ 1073741824) (hq1 : ¬ q ≤ -1073741824) (hq2 : ¬ q ≥ 1073741824) (n1 : ¬ n < 1) (n2 : ¬ n > 4096) :
    ∃ a : Int, (∀ H, sSecW [.float .f64 (fdiv (FloatKind.f64.nearest k) 4697254411347427328), .int .i64 n] H = some (.tuple #[.int .i64 a, .int .i64 (Int.ofNat 0)], H)) ∧
      (∀ H, sSecW [.float .f64 (fadd (fdiv (FloatKind.f64.nearest k) 4697254411347427328) (FloatKind.f64.nearest q)), .int .i64 n] H = some (.tuple #[.int .i64 a, .int .i64 (Int.ofNat 0)], H)) := by
  obtain ⟨V, hV, V0, v, hv⟩ := U_20
  obtain ⟨a1, a2⟩ := div_20 (k := k) (by omega) hV ⟨v, hv⟩
  obtain ⟨b1, b2, _⟩ := near_fx (n := q) (by omega)
  have hsum : fx (fdiv (FloatKind.f64.nearest k) 4697254411347427328) + fx (FloatKind.f64.nearest q) = (k + q * 2 ^ 20) * (V : Int) := by
    rw [a2, b2, hV, Int.natCast_mul, Int.add_mul, Int.mul_assoc]; rfl
  have hA := fadd_fin a1 b1
  rw [hsum] at hA
  obtain ⟨r1, r2, _⟩ := rnd_exact (z := sg (fdiv (FloatKind.f64.nearest k) 4697254411347427328) && sg (FloatKind.f64.nearest q)) (T := (k + q * 2 ^ 20) * (V : Int)) (R := 4850376798678024192) (by decide) (by
    rw [Int.natAbs_mul, Int.natAbs_natCast, fxr_big, hV]
    calc (k + q * 2 ^ 20).natAbs * V ≤ 2 ^ 53 * V := Nat.mul_le_mul_right _ (by omega)
      _ ≤ _ := by omega) ⟨(k + q * 2 ^ 20).natAbs, v, by rw [Int.natAbs_mul, Int.natAbs_natCast, hv], by omega⟩
  rw [← hA] at r1 r2
  have hc1 := Canon.fdiv (FloatKind.f64.nearest k) 4697254411347427328
  have hc2 := Canon.fadd (fdiv (FloatKind.f64.nearest k) 4697254411347427328) (FloatKind.f64.nearest q)
  have hw : wrapP (fadd (fdiv (FloatKind.f64.nearest k) 4697254411347427328) (FloatKind.f64.nearest q)) = wrapP (fdiv (FloatKind.f64.nearest k) 4697254411347427328) := by
    refine wrap_same (t := q) hc2 hc1 r1 a1 ?_
    rw [r2, ← hsum, b2]
  have f1 : feq (fsub (fdiv (FloatKind.f64.nearest k) 4697254411347427328) (fdiv (FloatKind.f64.nearest k) 4697254411347427328)) 0 = true := by rw [fin_test hc1]; exact a1
  have f2 : feq (fsub (fadd (fdiv (FloatKind.f64.nearest k) 4697254411347427328) (FloatKind.f64.nearest q)) (fadd (fdiv (FloatKind.f64.nearest k) 4697254411347427328) (FloatKind.f64.nearest q))) 0 = true := by rw [fin_test hc2]; exact r1
  refine ⟨qSector_0 (fdiv (FloatKind.f64.nearest k) 4697254411347427328) n, fun H => secW_eq hc1 H rfl ?_, fun H => secW_eq hc2 H ?_ ?_⟩
  · unfold qSector_1; rw [decide_eq_false n1, decide_eq_false n2, f1]; rfl
  · unfold qSector_0; rw [f1, f2, hw]
  · unfold qSector_1; rw [decide_eq_false n1, decide_eq_false n2, f2]; rfl
/-! ### The sides -/
def sideQ (x1 y1 x2 y2 : Nat) : Nat → Nat
  | 0 => x1
  | 1 => y1
  | 2 => x2
  | _ => y2
def fitQ (x1 y1 x2 y2 : Nat) (ft : Bool) : Nat → Bool
  | 0 => ft
  | i + 1 => bif fitQ x1 y1 x2 y2 ft i then fle (fabs (sideQ x1 y1 x2 y2 i)) 9094988921128908188 else false
theorem psLoop (x1 y1 x2 y2 x y : Nat) (n k q : Int) (b : Nat) (ft v : Bool) (hv : fitQ x1 y1 x2 y2 ft 4 = v) (hst : Stood false []) :
    Sim dLQ3 1 (.loop (loopOf Try.f8 0)) (psFr x1 y1 x2 y2 x y n k q b ft 0) [.row [.float .f64 x, .float .f64 y] true none] (.exit 0) (psFr x1 y1 x2 y2 x y n k q b v 4) [.row [.float .f64 x, .float .f64 y] true none] := by
  subst hv
  refine Sim.loop (fun i => (psFr x1 y1 x2 y2 x y n k q b (fitQ x1 y1 x2 y2 ft i) i, [.row [.float .f64 x, .float .f64 y] true none])) 4 (fun i hi => ?_) ?_ rfl
  · have hf : ∀ j, fitQ x1 y1 x2 y2 ft (j + 1) = bif fitQ x1 y1 x2 y2 ft j then fle (fabs (sideQ x1 y1 x2 y2 j)) 9094988921128908188 else false := fun _ => rfl
    show Sim _ _ _ (psFr x1 y1 x2 y2 x y n k q b (fitQ x1 y1 x2 y2 ft i) i) _ _ (psFr x1 y1 x2 y2 x y n k q b (fitQ x1 y1 x2 y2 ft (i + 1)) (i + 1)) _
    rw [hf]
    generalize fitQ x1 y1 x2 y2 ft i = f
    obtain rfl | rfl | rfl | rfl : i = 0 ∨ i = 1 ∨ i = 2 ∨ i = 3 := by omega
    · cases f
      · exact (psR0F_p0 x1 y1 x2 y2 x y n k q b hst).cast (by kernel_rfl) (by kernel_rfl) (by kernel_rfl) (by kernel_rfl)
      · exact (psR0T_p0 x1 y1 x2 y2 x y n k q b hst).cast (by kernel_rfl) (by kernel_rfl) (by kernel_rfl) (by kernel_rfl)
    · cases f
      · exact (psR1F_p0 x1 y1 x2 y2 x y n k q b hst).cast (by kernel_rfl) (by kernel_rfl) (by kernel_rfl) (by kernel_rfl)
      · exact (psR1T_p0 x1 y1 x2 y2 x y n k q b hst).cast (by kernel_rfl) (by kernel_rfl) (by kernel_rfl) (by kernel_rfl)
    · cases f
      · exact (psR2F_p0 x1 y1 x2 y2 x y n k q b hst).cast (by kernel_rfl) (by kernel_rfl) (by kernel_rfl) (by kernel_rfl)
      · exact (psR2T_p0 x1 y1 x2 y2 x y n k q b hst).cast (by kernel_rfl) (by kernel_rfl) (by kernel_rfl) (by kernel_rfl)
    · cases f
      · exact (psR3F_p0 x1 y1 x2 y2 x y n k q b hst).cast (by kernel_rfl) (by kernel_rfl) (by kernel_rfl) (by kernel_rfl)
      · exact (psR3T_p0 x1 y1 x2 y2 x y n k q b hst).cast (by kernel_rfl) (by kernel_rfl) (by kernel_rfl) (by kernel_rfl)
  · exact (psRE_p0 x1 y1 x2 y2 x y n k q b (fitQ x1 y1 x2 y2 ft 4) hst).cast (by kernel_rfl) (by kernel_rfl) (by kernel_rfl) (by kernel_rfl)
def psMask : List Bool := [true, true, true, true, true, true, true, true, true, false, false, false, false, true, false, false, false, false, true, true] ++ List.replicate 28 false ++ [true, true] ++ List.replicate 169 false
theorem psJB (x1 y1 x2 y2 x y : Nat) (n k q : Int) (b : Nat) (hb : Canon b) (hA : flt x1 x2 = false) (hfit : fitQ x1 y1 x2 y2 false 4 = false) : ∃ σ1, CallR Try.prog false 8 [.float .f64 x1, .float .f64 y1, .float .f64 x2, .float .f64 y2, .agg #[.float .f64 x, .float .f64 y], .int .i64 n, .int .i64 k, .int .i64 q, .float .f64 b] [] (.bool true) σ1 := by
  by_cases n1 : n < 1
  · exact ⟨_, psBS_p0 x1 y1 x2 y2 x y n k q b hA (decide_eq_true n1) (sec_small hb _ n1) (fun hst => ((psLoop x1 y1 x2 y2 x y n k q b false false hfit hst).enter psMask (by kernel_rfl)).cast rfl rfl (by kernel_rfl) (by kernel_rfl))⟩
  by_cases n2 : n > 4096
  · exact ⟨_, psBL_p0 x1 y1 x2 y2 x y n k q b hA (decide_eq_false n1) (decide_eq_true n2) (sec_big hb _ n1 n2) (fun hst => ((psLoop x1 y1 x2 y2 x y n k q b false false hfit hst).enter psMask (by kernel_rfl)).cast rfl rfl (by kernel_rfl) (by kernel_rfl))⟩
  obtain ⟨u0, u1⟩ := cntQ_range (k := k) (n := n) (by omega) (by omega)
  have hcnt := cnt_eq (k := k) (n := n) (by omega)
  have hmid := sec_own u0 u1 n2
  generalize cntQ k n = c at u0 u1 hcnt hmid
  have hcc : (c != c) = false := by simp
  cases fb : feq (fsub b b) 0
  · have first := fun H => sec_nan hb H n1 n2 fb
    by_cases k1 : k ≤ -1073741824
    · exact ⟨_, psBG1_p0 x1 y1 x2 y2 x y n k q b c hA (decide_eq_false n1) (decide_eq_false n2) fb hcc (decide_eq_true k1) (hmid _) (hcnt _) (first _) (fun hst => ((psLoop x1 y1 x2 y2 x y n k q b false false hfit hst).enter psMask (by kernel_rfl)).cast rfl rfl (by kernel_rfl) (by kernel_rfl))⟩
    by_cases k2 : k ≥ 1073741824
    · exact ⟨_, psBG2_p0 x1 y1 x2 y2 x y n k q b c hA (decide_eq_false n1) (decide_eq_false n2) fb hcc (decide_eq_false k1) (decide_eq_true k2) (hmid _) (hcnt _) (first _) (fun hst => ((psLoop x1 y1 x2 y2 x y n k q b false false hfit hst).enter psMask (by kernel_rfl)).cast rfl rfl (by kernel_rfl) (by kernel_rfl))⟩
    by_cases q1 : q ≤ -1073741824
    · exact ⟨_, psBG3_p0 x1 y1 x2 y2 x y n k q b c hA (decide_eq_false n1) (decide_eq_false n2) fb hcc (decide_eq_false k1) (decide_eq_false k2) (decide_eq_true q1) (hmid _) (hcnt _) (first _) (fun hst => ((psLoop x1 y1 x2 y2 x y n k q b false false hfit hst).enter psMask (by kernel_rfl)).cast rfl rfl (by kernel_rfl) (by kernel_rfl))⟩
    by_cases q2 : q ≥ 1073741824
    · exact ⟨_, psBG4_p0 x1 y1 x2 y2 x y n k q b c hA (decide_eq_false n1) (decide_eq_false n2) fb hcc (decide_eq_false k1) (decide_eq_false k2) (decide_eq_false q1) (decide_eq_true q2) (hmid _) (hcnt _) (first _) (fun hst => ((psLoop x1 y1 x2 y2 x y n k q b false false hfit hst).enter psMask (by kernel_rfl)).cast rfl rfl (by kernel_rfl) (by kernel_rfl))⟩
    obtain ⟨a, t1, t2⟩ := sec_turns k1 k2 q1 q2 n1 n2
    have h := psBG5_p0 x1 y1 x2 y2 x y n k q b c a hA (decide_eq_false n1) (decide_eq_false n2) fb hcc (decide_eq_false k1) (decide_eq_false k2) (decide_eq_false q1) (decide_eq_false q2) (t2 _) (t1 _) (hmid _) (hcnt _) (first _) (fun hst => ((psLoop x1 y1 x2 y2 x y n k q b false false hfit hst).enter psMask (by kernel_rfl)).cast rfl rfl (by kernel_rfl) (by kernel_rfl))
    rw [beq_self_eq_true] at h
    exact ⟨_, h⟩
  · obtain ⟨s, z0, z1, first⟩ := sec_fin hb n1 n2 fb
    by_cases k1 : k ≤ -1073741824
    · exact ⟨_, psBF1_p0 x1 y1 x2 y2 x y n k q b s c hA (decide_eq_false n1) (decide_eq_false n2) fb z0 z1 hcc (decide_eq_true k1) (hmid _) (hcnt _) (first _) (fun hst => ((psLoop x1 y1 x2 y2 x y n k q b false false hfit hst).enter psMask (by kernel_rfl)).cast rfl rfl (by kernel_rfl) (by kernel_rfl))⟩
    by_cases k2 : k ≥ 1073741824
    · exact ⟨_, psBF2_p0 x1 y1 x2 y2 x y n k q b s c hA (decide_eq_false n1) (decide_eq_false n2) fb z0 z1 hcc (decide_eq_false k1) (decide_eq_true k2) (hmid _) (hcnt _) (first _) (fun hst => ((psLoop x1 y1 x2 y2 x y n k q b false false hfit hst).enter psMask (by kernel_rfl)).cast rfl rfl (by kernel_rfl) (by kernel_rfl))⟩
    by_cases q1 : q ≤ -1073741824
    · exact ⟨_, psBF3_p0 x1 y1 x2 y2 x y n k q b s c hA (decide_eq_false n1) (decide_eq_false n2) fb z0 z1 hcc (decide_eq_false k1) (decide_eq_false k2) (decide_eq_true q1) (hmid _) (hcnt _) (first _) (fun hst => ((psLoop x1 y1 x2 y2 x y n k q b false false hfit hst).enter psMask (by kernel_rfl)).cast rfl rfl (by kernel_rfl) (by kernel_rfl))⟩
    by_cases q2 : q ≥ 1073741824
    · exact ⟨_, psBF4_p0 x1 y1 x2 y2 x y n k q b s c hA (decide_eq_false n1) (decide_eq_false n2) fb z0 z1 hcc (decide_eq_false k1) (decide_eq_false k2) (decide_eq_false q1) (decide_eq_true q2) (hmid _) (hcnt _) (first _) (fun hst => ((psLoop x1 y1 x2 y2 x y n k q b false false hfit hst).enter psMask (by kernel_rfl)).cast rfl rfl (by kernel_rfl) (by kernel_rfl))⟩
    obtain ⟨a, t1, t2⟩ := sec_turns k1 k2 q1 q2 n1 n2
    have h := psBF5_p0 x1 y1 x2 y2 x y n k q b s c a hA (decide_eq_false n1) (decide_eq_false n2) fb z0 z1 hcc (decide_eq_false k1) (decide_eq_false k2) (decide_eq_false q1) (decide_eq_false q2) (t2 _) (t1 _) (hmid _) (hcnt _) (first _) (fun hst => ((psLoop x1 y1 x2 y2 x y n k q b false false hfit hst).enter psMask (by kernel_rfl)).cast rfl rfl (by kernel_rfl) (by kernel_rfl))
    rw [beq_self_eq_true] at h
    exact ⟨_, h⟩
theorem psJA0 (x1 y1 x2 y2 x y : Nat) (n k q : Int) (b : Nat) (hb : Canon b) (hA : flt x1 x2 = true) (hfit : fitQ x1 y1 x2 y2 (flt y1 y2) 4 = false) : ∃ σ1, CallR Try.prog false 8 [.float .f64 x1, .float .f64 y1, .float .f64 x2, .float .f64 y2, .agg #[.float .f64 x, .float .f64 y], .int .i64 n, .int .i64 k, .int .i64 q, .float .f64 b] [] (.bool true) σ1 := by
  by_cases n1 : n < 1
  · exact ⟨_, psA0S_p0 x1 y1 x2 y2 x y n k q b hA (decide_eq_true n1) (sec_small hb _ n1) (fun hst => ((psLoop x1 y1 x2 y2 x y n k q b (flt y1 y2) false hfit hst).enter psMask (by kernel_rfl)).cast rfl rfl (by kernel_rfl) (by kernel_rfl))⟩
  by_cases n2 : n > 4096
  · exact ⟨_, psA0L_p0 x1 y1 x2 y2 x y n k q b hA (decide_eq_false n1) (decide_eq_true n2) (sec_big hb _ n1 n2) (fun hst => ((psLoop x1 y1 x2 y2 x y n k q b (flt y1 y2) false hfit hst).enter psMask (by kernel_rfl)).cast rfl rfl (by kernel_rfl) (by kernel_rfl))⟩
  obtain ⟨u0, u1⟩ := cntQ_range (k := k) (n := n) (by omega) (by omega)
  have hcnt := cnt_eq (k := k) (n := n) (by omega)
  have hmid := sec_own u0 u1 n2
  generalize cntQ k n = c at u0 u1 hcnt hmid
  have hcc : (c != c) = false := by simp
  cases fb : feq (fsub b b) 0
  · have first := fun H => sec_nan hb H n1 n2 fb
    by_cases k1 : k ≤ -1073741824
    · exact ⟨_, psA0G1_p0 x1 y1 x2 y2 x y n k q b c hA (decide_eq_false n1) (decide_eq_false n2) fb hcc (decide_eq_true k1) (hmid _) (hcnt _) (first _) (fun hst => ((psLoop x1 y1 x2 y2 x y n k q b (flt y1 y2) false hfit hst).enter psMask (by kernel_rfl)).cast rfl rfl (by kernel_rfl) (by kernel_rfl))⟩
    by_cases k2 : k ≥ 1073741824
    · exact ⟨_, psA0G2_p0 x1 y1 x2 y2 x y n k q b c hA (decide_eq_false n1) (decide_eq_false n2) fb hcc (decide_eq_false k1) (decide_eq_true k2) (hmid _) (hcnt _) (first _) (fun hst => ((psLoop x1 y1 x2 y2 x y n k q b (flt y1 y2) false hfit hst).enter psMask (by kernel_rfl)).cast rfl rfl (by kernel_rfl) (by kernel_rfl))⟩
    by_cases q1 : q ≤ -1073741824
    · exact ⟨_, psA0G3_p0 x1 y1 x2 y2 x y n k q b c hA (decide_eq_false n1) (decide_eq_false n2) fb hcc (decide_eq_false k1) (decide_eq_false k2) (decide_eq_true q1) (hmid _) (hcnt _) (first _) (fun hst => ((psLoop x1 y1 x2 y2 x y n k q b (flt y1 y2) false hfit hst).enter psMask (by kernel_rfl)).cast rfl rfl (by kernel_rfl) (by kernel_rfl))⟩
    by_cases q2 : q ≥ 1073741824
    · exact ⟨_, psA0G4_p0 x1 y1 x2 y2 x y n k q b c hA (decide_eq_false n1) (decide_eq_false n2) fb hcc (decide_eq_false k1) (decide_eq_false k2) (decide_eq_false q1) (decide_eq_true q2) (hmid _) (hcnt _) (first _) (fun hst => ((psLoop x1 y1 x2 y2 x y n k q b (flt y1 y2) false hfit hst).enter psMask (by kernel_rfl)).cast rfl rfl (by kernel_rfl) (by kernel_rfl))⟩
    obtain ⟨a, t1, t2⟩ := sec_turns k1 k2 q1 q2 n1 n2
    have h := psA0G5_p0 x1 y1 x2 y2 x y n k q b c a hA (decide_eq_false n1) (decide_eq_false n2) fb hcc (decide_eq_false k1) (decide_eq_false k2) (decide_eq_false q1) (decide_eq_false q2) (t2 _) (t1 _) (hmid _) (hcnt _) (first _) (fun hst => ((psLoop x1 y1 x2 y2 x y n k q b (flt y1 y2) false hfit hst).enter psMask (by kernel_rfl)).cast rfl rfl (by kernel_rfl) (by kernel_rfl))
    rw [beq_self_eq_true] at h
    exact ⟨_, h⟩
  · obtain ⟨s, z0, z1, first⟩ := sec_fin hb n1 n2 fb
    by_cases k1 : k ≤ -1073741824
    · exact ⟨_, psA0F1_p0 x1 y1 x2 y2 x y n k q b s c hA (decide_eq_false n1) (decide_eq_false n2) fb z0 z1 hcc (decide_eq_true k1) (hmid _) (hcnt _) (first _) (fun hst => ((psLoop x1 y1 x2 y2 x y n k q b (flt y1 y2) false hfit hst).enter psMask (by kernel_rfl)).cast rfl rfl (by kernel_rfl) (by kernel_rfl))⟩
    by_cases k2 : k ≥ 1073741824
    · exact ⟨_, psA0F2_p0 x1 y1 x2 y2 x y n k q b s c hA (decide_eq_false n1) (decide_eq_false n2) fb z0 z1 hcc (decide_eq_false k1) (decide_eq_true k2) (hmid _) (hcnt _) (first _) (fun hst => ((psLoop x1 y1 x2 y2 x y n k q b (flt y1 y2) false hfit hst).enter psMask (by kernel_rfl)).cast rfl rfl (by kernel_rfl) (by kernel_rfl))⟩
    by_cases q1 : q ≤ -1073741824
    · exact ⟨_, psA0F3_p0 x1 y1 x2 y2 x y n k q b s c hA (decide_eq_false n1) (decide_eq_false n2) fb z0 z1 hcc (decide_eq_false k1) (decide_eq_false k2) (decide_eq_true q1) (hmid _) (hcnt _) (first _) (fun hst => ((psLoop x1 y1 x2 y2 x y n k q b (flt y1 y2) false hfit hst).enter psMask (by kernel_rfl)).cast rfl rfl (by kernel_rfl) (by kernel_rfl))⟩
    by_cases q2 : q ≥ 1073741824
    · exact ⟨_, psA0F4_p0 x1 y1 x2 y2 x y n k q b s c hA (decide_eq_false n1) (decide_eq_false n2) fb z0 z1 hcc (decide_eq_false k1) (decide_eq_false k2) (decide_eq_false q1) (decide_eq_true q2) (hmid _) (hcnt _) (first _) (fun hst => ((psLoop x1 y1 x2 y2 x y n k q b (flt y1 y2) false hfit hst).enter psMask (by kernel_rfl)).cast rfl rfl (by kernel_rfl) (by kernel_rfl))⟩
    obtain ⟨a, t1, t2⟩ := sec_turns k1 k2 q1 q2 n1 n2
    have h := psA0F5_p0 x1 y1 x2 y2 x y n k q b s c a hA (decide_eq_false n1) (decide_eq_false n2) fb z0 z1 hcc (decide_eq_false k1) (decide_eq_false k2) (decide_eq_false q1) (decide_eq_false q2) (t2 _) (t1 _) (hmid _) (hcnt _) (first _) (fun hst => ((psLoop x1 y1 x2 y2 x y n k q b (flt y1 y2) false hfit hst).enter psMask (by kernel_rfl)).cast rfl rfl (by kernel_rfl) (by kernel_rfl))
    rw [beq_self_eq_true] at h
    exact ⟨_, h⟩
theorem psJA1 (x1 y1 x2 y2 x y : Nat) (n k q : Int) (b : Nat) (hb : Canon b) (hA : flt x1 x2 = true) (c1 : fle x1 x = false) (hfit : fitQ x1 y1 x2 y2 (flt y1 y2) 4 = true) (sw : sWithin2 [.slice (some ⟨1, 0, some 2⟩) 4 4, .agg #[.float .f64 x, .float .f64 y]] [.row [.float .f64 x, .float .f64 y] true none, .row [.float .f64 x1, .float .f64 y1, .float .f64 x2, .float .f64 y1, .float .f64 x2, .float .f64 y2, .float .f64 x1, .float .f64 y2] true none] = some (.bool false, [.row [.float .f64 x, .float .f64 y] true none, .row [.float .f64 x1, .float .f64 y1, .float .f64 x2, .float .f64 y1, .float .f64 x2, .float .f64 y2, .float .f64 x1, .float .f64 y2] true none])) : ∃ σ1, CallR Try.prog false 8 [.float .f64 x1, .float .f64 y1, .float .f64 x2, .float .f64 y2, .agg #[.float .f64 x, .float .f64 y], .int .i64 n, .int .i64 k, .int .i64 q, .float .f64 b] [] (.bool true) σ1 := by
  by_cases n1 : n < 1
  · exact ⟨_, psA1S_p0 x1 y1 x2 y2 x y n k q b hA c1 (decide_eq_true n1) (sec_small hb _ n1) sw (fun hst => ((psLoop x1 y1 x2 y2 x y n k q b (flt y1 y2) true hfit hst).enter psMask (by kernel_rfl)).cast rfl rfl (by kernel_rfl) (by kernel_rfl))⟩
  by_cases n2 : n > 4096
  · exact ⟨_, psA1L_p0 x1 y1 x2 y2 x y n k q b hA c1 (decide_eq_false n1) (decide_eq_true n2) (sec_big hb _ n1 n2) sw (fun hst => ((psLoop x1 y1 x2 y2 x y n k q b (flt y1 y2) true hfit hst).enter psMask (by kernel_rfl)).cast rfl rfl (by kernel_rfl) (by kernel_rfl))⟩
  obtain ⟨u0, u1⟩ := cntQ_range (k := k) (n := n) (by omega) (by omega)
  have hcnt := cnt_eq (k := k) (n := n) (by omega)
  have hmid := sec_own u0 u1 n2
  generalize cntQ k n = c at u0 u1 hcnt hmid
  have hcc : (c != c) = false := by simp
  cases fb : feq (fsub b b) 0
  · have first := fun H => sec_nan hb H n1 n2 fb
    by_cases k1 : k ≤ -1073741824
    · exact ⟨_, psA1G1_p0 x1 y1 x2 y2 x y n k q b c hA c1 (decide_eq_false n1) (decide_eq_false n2) fb hcc (decide_eq_true k1) (hmid _) (hcnt _) (first _) sw (fun hst => ((psLoop x1 y1 x2 y2 x y n k q b (flt y1 y2) true hfit hst).enter psMask (by kernel_rfl)).cast rfl rfl (by kernel_rfl) (by kernel_rfl))⟩
    by_cases k2 : k ≥ 1073741824
    · exact ⟨_, psA1G2_p0 x1 y1 x2 y2 x y n k q b c hA c1 (decide_eq_false n1) (decide_eq_false n2) fb hcc (decide_eq_false k1) (decide_eq_true k2) (hmid _) (hcnt _) (first _) sw (fun hst => ((psLoop x1 y1 x2 y2 x y n k q b (flt y1 y2) true hfit hst).enter psMask (by kernel_rfl)).cast rfl rfl (by kernel_rfl) (by kernel_rfl))⟩
    by_cases q1 : q ≤ -1073741824
    · exact ⟨_, psA1G3_p0 x1 y1 x2 y2 x y n k q b c hA c1 (decide_eq_false n1) (decide_eq_false n2) fb hcc (decide_eq_false k1) (decide_eq_false k2) (decide_eq_true q1) (hmid _) (hcnt _) (first _) sw (fun hst => ((psLoop x1 y1 x2 y2 x y n k q b (flt y1 y2) true hfit hst).enter psMask (by kernel_rfl)).cast rfl rfl (by kernel_rfl) (by kernel_rfl))⟩
    by_cases q2 : q ≥ 1073741824
    · exact ⟨_, psA1G4_p0 x1 y1 x2 y2 x y n k q b c hA c1 (decide_eq_false n1) (decide_eq_false n2) fb hcc (decide_eq_false k1) (decide_eq_false k2) (decide_eq_false q1) (decide_eq_true q2) (hmid _) (hcnt _) (first _) sw (fun hst => ((psLoop x1 y1 x2 y2 x y n k q b (flt y1 y2) true hfit hst).enter psMask (by kernel_rfl)).cast rfl rfl (by kernel_rfl) (by kernel_rfl))⟩
    obtain ⟨a, t1, t2⟩ := sec_turns k1 k2 q1 q2 n1 n2
    have h := psA1G5_p0 x1 y1 x2 y2 x y n k q b c a hA c1 (decide_eq_false n1) (decide_eq_false n2) fb hcc (decide_eq_false k1) (decide_eq_false k2) (decide_eq_false q1) (decide_eq_false q2) (t2 _) (t1 _) (hmid _) (hcnt _) (first _) sw (fun hst => ((psLoop x1 y1 x2 y2 x y n k q b (flt y1 y2) true hfit hst).enter psMask (by kernel_rfl)).cast rfl rfl (by kernel_rfl) (by kernel_rfl))
    rw [beq_self_eq_true] at h
    exact ⟨_, h⟩
  · obtain ⟨s, z0, z1, first⟩ := sec_fin hb n1 n2 fb
    by_cases k1 : k ≤ -1073741824
    · exact ⟨_, psA1F1_p0 x1 y1 x2 y2 x y n k q b s c hA c1 (decide_eq_false n1) (decide_eq_false n2) fb z0 z1 hcc (decide_eq_true k1) (hmid _) (hcnt _) (first _) sw (fun hst => ((psLoop x1 y1 x2 y2 x y n k q b (flt y1 y2) true hfit hst).enter psMask (by kernel_rfl)).cast rfl rfl (by kernel_rfl) (by kernel_rfl))⟩
    by_cases k2 : k ≥ 1073741824
    · exact ⟨_, psA1F2_p0 x1 y1 x2 y2 x y n k q b s c hA c1 (decide_eq_false n1) (decide_eq_false n2) fb z0 z1 hcc (decide_eq_false k1) (decide_eq_true k2) (hmid _) (hcnt _) (first _) sw (fun hst => ((psLoop x1 y1 x2 y2 x y n k q b (flt y1 y2) true hfit hst).enter psMask (by kernel_rfl)).cast rfl rfl (by kernel_rfl) (by kernel_rfl))⟩
    by_cases q1 : q ≤ -1073741824
    · exact ⟨_, psA1F3_p0 x1 y1 x2 y2 x y n k q b s c hA c1 (decide_eq_false n1) (decide_eq_false n2) fb z0 z1 hcc (decide_eq_false k1) (decide_eq_false k2) (decide_eq_true q1) (hmid _) (hcnt _) (first _) sw (fun hst => ((psLoop x1 y1 x2 y2 x y n k q b (flt y1 y2) true hfit hst).enter psMask (by kernel_rfl)).cast rfl rfl (by kernel_rfl) (by kernel_rfl))⟩
    by_cases q2 : q ≥ 1073741824
    · exact ⟨_, psA1F4_p0 x1 y1 x2 y2 x y n k q b s c hA c1 (decide_eq_false n1) (decide_eq_false n2) fb z0 z1 hcc (decide_eq_false k1) (decide_eq_false k2) (decide_eq_false q1) (decide_eq_true q2) (hmid _) (hcnt _) (first _) sw (fun hst => ((psLoop x1 y1 x2 y2 x y n k q b (flt y1 y2) true hfit hst).enter psMask (by kernel_rfl)).cast rfl rfl (by kernel_rfl) (by kernel_rfl))⟩
    obtain ⟨a, t1, t2⟩ := sec_turns k1 k2 q1 q2 n1 n2
    have h := psA1F5_p0 x1 y1 x2 y2 x y n k q b s c a hA c1 (decide_eq_false n1) (decide_eq_false n2) fb z0 z1 hcc (decide_eq_false k1) (decide_eq_false k2) (decide_eq_false q1) (decide_eq_false q2) (t2 _) (t1 _) (hmid _) (hcnt _) (first _) sw (fun hst => ((psLoop x1 y1 x2 y2 x y n k q b (flt y1 y2) true hfit hst).enter psMask (by kernel_rfl)).cast rfl rfl (by kernel_rfl) (by kernel_rfl))
    rw [beq_self_eq_true] at h
    exact ⟨_, h⟩
theorem psJA2 (x1 y1 x2 y2 x y : Nat) (n k q : Int) (b : Nat) (hb : Canon b) (hA : flt x1 x2 = true) (c1 : fle x1 x = true) (c2 : flt x x2 = false) (hfit : fitQ x1 y1 x2 y2 (flt y1 y2) 4 = true) (sw : sWithin2 [.slice (some ⟨1, 0, some 2⟩) 4 4, .agg #[.float .f64 x, .float .f64 y]] [.row [.float .f64 x, .float .f64 y] true none, .row [.float .f64 x1, .float .f64 y1, .float .f64 x2, .float .f64 y1, .float .f64 x2, .float .f64 y2, .float .f64 x1, .float .f64 y2] true none] = some (.bool false, [.row [.float .f64 x, .float .f64 y] true none, .row [.float .f64 x1, .float .f64 y1, .float .f64 x2, .float .f64 y1, .float .f64 x2, .float .f64 y2, .float .f64 x1, .float .f64 y2] true none])) : ∃ σ1, CallR Try.prog false 8 [.float .f64 x1, .float .f64 y1, .float .f64 x2, .float .f64 y2, .agg #[.float .f64 x, .float .f64 y], .int .i64 n, .int .i64 k, .int .i64 q, .float .f64 b] [] (.bool true) σ1 := by
  by_cases n1 : n < 1
  · exact ⟨_, psA2S_p0 x1 y1 x2 y2 x y n k q b hA c1 c2 (decide_eq_true n1) (sec_small hb _ n1) sw (fun hst => ((psLoop x1 y1 x2 y2 x y n k q b (flt y1 y2) true hfit hst).enter psMask (by kernel_rfl)).cast rfl rfl (by kernel_rfl) (by kernel_rfl))⟩
  by_cases n2 : n > 4096
  · exact ⟨_, psA2L_p0 x1 y1 x2 y2 x y n k q b hA c1 c2 (decide_eq_false n1) (decide_eq_true n2) (sec_big hb _ n1 n2) sw (fun hst => ((psLoop x1 y1 x2 y2 x y n k q b (flt y1 y2) true hfit hst).enter psMask (by kernel_rfl)).cast rfl rfl (by kernel_rfl) (by kernel_rfl))⟩
  obtain ⟨u0, u1⟩ := cntQ_range (k := k) (n := n) (by omega) (by omega)
  have hcnt := cnt_eq (k := k) (n := n) (by omega)
  have hmid := sec_own u0 u1 n2
  generalize cntQ k n = c at u0 u1 hcnt hmid
  have hcc : (c != c) = false := by simp
  cases fb : feq (fsub b b) 0
  · have first := fun H => sec_nan hb H n1 n2 fb
    by_cases k1 : k ≤ -1073741824
    · exact ⟨_, psA2G1_p0 x1 y1 x2 y2 x y n k q b c hA c1 c2 (decide_eq_false n1) (decide_eq_false n2) fb hcc (decide_eq_true k1) (hmid _) (hcnt _) (first _) sw (fun hst => ((psLoop x1 y1 x2 y2 x y n k q b (flt y1 y2) true hfit hst).enter psMask (by kernel_rfl)).cast rfl rfl (by kernel_rfl) (by kernel_rfl))⟩
    by_cases k2 : k ≥ 1073741824
    · exact ⟨_, psA2G2_p0 x1 y1 x2 y2 x y n k q b c hA c1 c2 (decide_eq_false n1) (decide_eq_false n2) fb hcc (decide_eq_false k1) (decide_eq_true k2) (hmid _) (hcnt _) (first _) sw (fun hst => ((psLoop x1 y1 x2 y2 x y n k q b (flt y1 y2) true hfit hst).enter psMask (by kernel_rfl)).cast rfl rfl (by kernel_rfl) (by kernel_rfl))⟩
    by_cases q1 : q ≤ -1073741824
    · exact ⟨_, psA2G3_p0 x1 y1 x2 y2 x y n k q b c hA c1 c2 (decide_eq_false n1) (decide_eq_false n2) fb hcc (decide_eq_false k1) (decide_eq_false k2) (decide_eq_true q1) (hmid _) (hcnt _) (first _) sw (fun hst => ((psLoop x1 y1 x2 y2 x y n k q b (flt y1 y2) true hfit hst).enter psMask (by kernel_rfl)).cast rfl rfl (by kernel_rfl) (by kernel_rfl))⟩
    by_cases q2 : q ≥ 1073741824
    · exact ⟨_, psA2G4_p0 x1 y1 x2 y2 x y n k q b c hA c1 c2 (decide_eq_false n1) (decide_eq_false n2) fb hcc (decide_eq_false k1) (decide_eq_false k2) (decide_eq_false q1) (decide_eq_true q2) (hmid _) (hcnt _) (first _) sw (fun hst => ((psLoop x1 y1 x2 y2 x y n k q b (flt y1 y2) true hfit hst).enter psMask (by kernel_rfl)).cast rfl rfl (by kernel_rfl) (by kernel_rfl))⟩
    obtain ⟨a, t1, t2⟩ := sec_turns k1 k2 q1 q2 n1 n2
    have h := psA2G5_p0 x1 y1 x2 y2 x y n k q b c a hA c1 c2 (decide_eq_false n1) (decide_eq_false n2) fb hcc (decide_eq_false k1) (decide_eq_false k2) (decide_eq_false q1) (decide_eq_false q2) (t2 _) (t1 _) (hmid _) (hcnt _) (first _) sw (fun hst => ((psLoop x1 y1 x2 y2 x y n k q b (flt y1 y2) true hfit hst).enter psMask (by kernel_rfl)).cast rfl rfl (by kernel_rfl) (by kernel_rfl))
    rw [beq_self_eq_true] at h
    exact ⟨_, h⟩
  · obtain ⟨s, z0, z1, first⟩ := sec_fin hb n1 n2 fb
    by_cases k1 : k ≤ -1073741824
    · exact ⟨_, psA2F1_p0 x1 y1 x2 y2 x y n k q b s c hA c1 c2 (decide_eq_false n1) (decide_eq_false n2) fb z0 z1 hcc (decide_eq_true k1) (hmid _) (hcnt _) (first _) sw (fun hst => ((psLoop x1 y1 x2 y2 x y n k q b (flt y1 y2) true hfit hst).enter psMask (by kernel_rfl)).cast rfl rfl (by kernel_rfl) (by kernel_rfl))⟩
    by_cases k2 : k ≥ 1073741824
    · exact ⟨_, psA2F2_p0 x1 y1 x2 y2 x y n k q b s c hA c1 c2 (decide_eq_false n1) (decide_eq_false n2) fb z0 z1 hcc (decide_eq_false k1) (decide_eq_true k2) (hmid _) (hcnt _) (first _) sw (fun hst => ((psLoop x1 y1 x2 y2 x y n k q b (flt y1 y2) true hfit hst).enter psMask (by kernel_rfl)).cast rfl rfl (by kernel_rfl) (by kernel_rfl))⟩
    by_cases q1 : q ≤ -1073741824
    · exact ⟨_, psA2F3_p0 x1 y1 x2 y2 x y n k q b s c hA c1 c2 (decide_eq_false n1) (decide_eq_false n2) fb z0 z1 hcc (decide_eq_false k1) (decide_eq_false k2) (decide_eq_true q1) (hmid _) (hcnt _) (first _) sw (fun hst => ((psLoop x1 y1 x2 y2 x y n k q b (flt y1 y2) true hfit hst).enter psMask (by kernel_rfl)).cast rfl rfl (by kernel_rfl) (by kernel_rfl))⟩
    by_cases q2 : q ≥ 1073741824
    · exact ⟨_, psA2F4_p0 x1 y1 x2 y2 x y n k q b s c hA c1 c2 (decide_eq_false n1) (decide_eq_false n2) fb z0 z1 hcc (decide_eq_false k1) (decide_eq_false k2) (decide_eq_false q1) (decide_eq_true q2) (hmid _) (hcnt _) (first _) sw (fun hst => ((psLoop x1 y1 x2 y2 x y n k q b (flt y1 y2) true hfit hst).enter psMask (by kernel_rfl)).cast rfl rfl (by kernel_rfl) (by kernel_rfl))⟩
    obtain ⟨a, t1, t2⟩ := sec_turns k1 k2 q1 q2 n1 n2
    have h := psA2F5_p0 x1 y1 x2 y2 x y n k q b s c a hA c1 c2 (decide_eq_false n1) (decide_eq_false n2) fb z0 z1 hcc (decide_eq_false k1) (decide_eq_false k2) (decide_eq_false q1) (decide_eq_false q2) (t2 _) (t1 _) (hmid _) (hcnt _) (first _) sw (fun hst => ((psLoop x1 y1 x2 y2 x y n k q b (flt y1 y2) true hfit hst).enter psMask (by kernel_rfl)).cast rfl rfl (by kernel_rfl) (by kernel_rfl))
    rw [beq_self_eq_true] at h
    exact ⟨_, h⟩
theorem psJA3 (x1 y1 x2 y2 x y : Nat) (n k q : Int) (b : Nat) (hb : Canon b) (hA : flt x1 x2 = true) (c1 : fle x1 x = true) (c2 : flt x x2 = true) (c3 : fle y1 y = false) (hfit : fitQ x1 y1 x2 y2 (flt y1 y2) 4 = true) (sw : sWithin2 [.slice (some ⟨1, 0, some 2⟩) 4 4, .agg #[.float .f64 x, .float .f64 y]] [.row [.float .f64 x, .float .f64 y] true none, .row [.float .f64 x1, .float .f64 y1, .float .f64 x2, .float .f64 y1, .float .f64 x2, .float .f64 y2, .float .f64 x1, .float .f64 y2] true none] = some (.bool false, [.row [.float .f64 x, .float .f64 y] true none, .row [.float .f64 x1, .float .f64 y1, .float .f64 x2, .float .f64 y1, .float .f64 x2, .float .f64 y2, .float .f64 x1, .float .f64 y2] true none])) : ∃ σ1, CallR Try.prog false 8 [.float .f64 x1, .float .f64 y1, .float .f64 x2, .float .f64 y2, .agg #[.float .f64 x, .float .f64 y], .int .i64 n, .int .i64 k, .int .i64 q, .float .f64 b] [] (.bool true) σ1 := by
  by_cases n1 : n < 1
  · exact ⟨_, psA3S_p0 x1 y1 x2 y2 x y n k q b hA c1 c2 c3 (decide_eq_true n1) (sec_small hb _ n1) sw (fun hst => ((psLoop x1 y1 x2 y2 x y n k q b (flt y1 y2) true hfit hst).enter psMask (by kernel_rfl)).cast rfl rfl (by kernel_rfl) (by kernel_rfl))⟩
  by_cases n2 : n > 4096
  · exact ⟨_, psA3L_p0 x1 y1 x2 y2 x y n k q b hA c1 c2 c3 (decide_eq_false n1) (decide_eq_true n2) (sec_big hb _ n1 n2) sw (fun hst => ((psLoop x1 y1 x2 y2 x y n k q b (flt y1 y2) true hfit hst).enter psMask (by kernel_rfl)).cast rfl rfl (by kernel_rfl) (by kernel_rfl))⟩
  obtain ⟨u0, u1⟩ := cntQ_range (k := k) (n := n) (by omega) (by omega)
  have hcnt := cnt_eq (k := k) (n := n) (by omega)
  have hmid := sec_own u0 u1 n2
  generalize cntQ k n = c at u0 u1 hcnt hmid
  have hcc : (c != c) = false := by simp
  cases fb : feq (fsub b b) 0
  · have first := fun H => sec_nan hb H n1 n2 fb
    by_cases k1 : k ≤ -1073741824
    · exact ⟨_, psA3G1_p0 x1 y1 x2 y2 x y n k q b c hA c1 c2 c3 (decide_eq_false n1) (decide_eq_false n2) fb hcc (decide_eq_true k1) (hmid _) (hcnt _) (first _) sw (fun hst => ((psLoop x1 y1 x2 y2 x y n k q b (flt y1 y2) true hfit hst).enter psMask (by kernel_rfl)).cast rfl rfl (by kernel_rfl) (by kernel_rfl))⟩
    by_cases k2 : k ≥ 1073741824
    · exact ⟨_, psA3G2_p0 x1 y1 x2 y2 x y n k q b c hA c1 c2 c3 (decide_eq_false n1) (decide_eq_false n2) fb hcc (decide_eq_false k1) (decide_eq_true k2) (hmid _) (hcnt _) (first _) sw (fun hst => ((psLoop x1 y1 x2 y2 x y n k q b (flt y1 y2) true hfit hst).enter psMask (by kernel_rfl)).cast rfl rfl (by kernel_rfl) (by kernel_rfl))⟩
    by_cases q1 : q ≤ -1073741824
    · exact ⟨_, psA3G3_p0 x1 y1 x2 y2 x y n k q b c hA c1 c2 c3 (decide_eq_false n1) (decide_eq_false n2) fb hcc (decide_eq_false k1) (decide_eq_false k2) (decide_eq_true q1) (hmid _) (hcnt _) (first _) sw (fun hst => ((psLoop x1 y1 x2 y2 x y n k q b (flt y1 y2) true hfit hst).enter psMask (by kernel_rfl)).cast rfl rfl (by kernel_rfl) (by kernel_rfl))⟩
    by_cases q2 : q ≥ 1073741824
    · exact ⟨_, psA3G4_p0 x1 y1 x2 y2 x y n k q b c hA c1 c2 c3 (decide_eq_false n1) (decide_eq_false n2) fb hcc (decide_eq_false k1) (decide_eq_false k2) (decide_eq_false q1) (decide_eq_true q2) (hmid _) (hcnt _) (first _) sw (fun hst => ((psLoop x1 y1 x2 y2 x y n k q b (flt y1 y2) true hfit hst).enter psMask (by kernel_rfl)).cast rfl rfl (by kernel_rfl) (by kernel_rfl))⟩
    obtain ⟨a, t1, t2⟩ := sec_turns k1 k2 q1 q2 n1 n2
    have h := psA3G5_p0 x1 y1 x2 y2 x y n k q b c a hA c1 c2 c3 (decide_eq_false n1) (decide_eq_false n2) fb hcc (decide_eq_false k1) (decide_eq_false k2) (decide_eq_false q1) (decide_eq_false q2) (t2 _) (t1 _) (hmid _) (hcnt _) (first _) sw (fun hst => ((psLoop x1 y1 x2 y2 x y n k q b (flt y1 y2) true hfit hst).enter psMask (by kernel_rfl)).cast rfl rfl (by kernel_rfl) (by kernel_rfl))
    rw [beq_self_eq_true] at h
    exact ⟨_, h⟩
  · obtain ⟨s, z0, z1, first⟩ := sec_fin hb n1 n2 fb
    by_cases k1 : k ≤ -1073741824
    · exact ⟨_, psA3F1_p0 x1 y1 x2 y2 x y n k q b s c hA c1 c2 c3 (decide_eq_false n1) (decide_eq_false n2) fb z0 z1 hcc (decide_eq_true k1) (hmid _) (hcnt _) (first _) sw (fun hst => ((psLoop x1 y1 x2 y2 x y n k q b (flt y1 y2) true hfit hst).enter psMask (by kernel_rfl)).cast rfl rfl (by kernel_rfl) (by kernel_rfl))⟩
    by_cases k2 : k ≥ 1073741824
    · exact ⟨_, psA3F2_p0 x1 y1 x2 y2 x y n k q b s c hA c1 c2 c3 (decide_eq_false n1) (decide_eq_false n2) fb z0 z1 hcc (decide_eq_false k1) (decide_eq_true k2) (hmid _) (hcnt _) (first _) sw (fun hst => ((psLoop x1 y1 x2 y2 x y n k q b (flt y1 y2) true hfit hst).enter psMask (by kernel_rfl)).cast rfl rfl (by kernel_rfl) (by kernel_rfl))⟩
    by_cases q1 : q ≤ -1073741824
    · exact ⟨_, psA3F3_p0 x1 y1 x2 y2 x y n k q b s c hA c1 c2 c3 (decide_eq_false n1) (decide_eq_false n2) fb z0 z1 hcc (decide_eq_false k1) (decide_eq_false k2) (decide_eq_true q1) (hmid _) (hcnt _) (first _) sw (fun hst => ((psLoop x1 y1 x2 y2 x y n k q b (flt y1 y2) true hfit hst).enter psMask (by kernel_rfl)).cast rfl rfl (by kernel_rfl) (by kernel_rfl))⟩
    by_cases q2 : q ≥ 1073741824
    · exact ⟨_, psA3F4_p0 x1 y1 x2 y2 x y n k q b s c hA c1 c2 c3 (decide_eq_false n1) (decide_eq_false n2) fb z0 z1 hcc (decide_eq_false k1) (decide_eq_false k2) (decide_eq_false q1) (decide_eq_true q2) (hmid _) (hcnt _) (first _) sw (fun hst => ((psLoop x1 y1 x2 y2 x y n k q b (flt y1 y2) true hfit hst).enter psMask (by kernel_rfl)).cast rfl rfl (by kernel_rfl) (by kernel_rfl))⟩
    obtain ⟨a, t1, t2⟩ := sec_turns k1 k2 q1 q2 n1 n2
    have h := psA3F5_p0 x1 y1 x2 y2 x y n k q b s c a hA c1 c2 c3 (decide_eq_false n1) (decide_eq_false n2) fb z0 z1 hcc (decide_eq_false k1) (decide_eq_false k2) (decide_eq_false q1) (decide_eq_false q2) (t2 _) (t1 _) (hmid _) (hcnt _) (first _) sw (fun hst => ((psLoop x1 y1 x2 y2 x y n k q b (flt y1 y2) true hfit hst).enter psMask (by kernel_rfl)).cast rfl rfl (by kernel_rfl) (by kernel_rfl))
    rw [beq_self_eq_true] at h
    exact ⟨_, h⟩
theorem psJA4 (x1 y1 x2 y2 x y : Nat) (n k q : Int) (b : Nat) (hb : Canon b) (hA : flt x1 x2 = true) (c1 : fle x1 x = true) (c2 : flt x x2 = true) (c3 : fle y1 y = true) (hw : (flt y y2 == flt y y2) = true) (hfit : fitQ x1 y1 x2 y2 (flt y1 y2) 4 = true) (sw : sWithin2 [.slice (some ⟨1, 0, some 2⟩) 4 4, .agg #[.float .f64 x, .float .f64 y]] [.row [.float .f64 x, .float .f64 y] true none, .row [.float .f64 x1, .float .f64 y1, .float .f64 x2, .float .f64 y1, .float .f64 x2, .float .f64 y2, .float .f64 x1, .float .f64 y2] true none] = some (.bool (flt y y2), [.row [.float .f64 x, .float .f64 y] true none, .row [.float .f64 x1, .float .f64 y1, .float .f64 x2, .float .f64 y1, .float .f64 x2, .float .f64 y2, .float .f64 x1, .float .f64 y2] true none])) : ∃ σ1, CallR Try.prog false 8 [.float .f64 x1, .float .f64 y1, .float .f64 x2, .float .f64 y2, .agg #[.float .f64 x, .float .f64 y], .int .i64 n, .int .i64 k, .int .i64 q, .float .f64 b] [] (.bool true) σ1 := by
  by_cases n1 : n < 1
  · exact ⟨_, psA4S_p0 x1 y1 x2 y2 x y n k q b hA c1 c2 c3 hw (decide_eq_true n1) (sec_small hb _ n1) sw (fun hst => ((psLoop x1 y1 x2 y2 x y n k q b (flt y1 y2) true hfit hst).enter psMask (by kernel_rfl)).cast rfl rfl (by kernel_rfl) (by kernel_rfl))⟩
  by_cases n2 : n > 4096
  · exact ⟨_, psA4L_p0 x1 y1 x2 y2 x y n k q b hA c1 c2 c3 hw (decide_eq_false n1) (decide_eq_true n2) (sec_big hb _ n1 n2) sw (fun hst => ((psLoop x1 y1 x2 y2 x y n k q b (flt y1 y2) true hfit hst).enter psMask (by kernel_rfl)).cast rfl rfl (by kernel_rfl) (by kernel_rfl))⟩
  obtain ⟨u0, u1⟩ := cntQ_range (k := k) (n := n) (by omega) (by omega)
  have hcnt := cnt_eq (k := k) (n := n) (by omega)
  have hmid := sec_own u0 u1 n2
  generalize cntQ k n = c at u0 u1 hcnt hmid
  have hcc : (c != c) = false := by simp
  cases fb : feq (fsub b b) 0
  · have first := fun H => sec_nan hb H n1 n2 fb
    by_cases k1 : k ≤ -1073741824
    · exact ⟨_, psA4G1_p0 x1 y1 x2 y2 x y n k q b c hA c1 c2 c3 hw (decide_eq_false n1) (decide_eq_false n2) fb hcc (decide_eq_true k1) (hmid _) (hcnt _) (first _) sw (fun hst => ((psLoop x1 y1 x2 y2 x y n k q b (flt y1 y2) true hfit hst).enter psMask (by kernel_rfl)).cast rfl rfl (by kernel_rfl) (by kernel_rfl))⟩
    by_cases k2 : k ≥ 1073741824
    · exact ⟨_, psA4G2_p0 x1 y1 x2 y2 x y n k q b c hA c1 c2 c3 hw (decide_eq_false n1) (decide_eq_false n2) fb hcc (decide_eq_false k1) (decide_eq_true k2) (hmid _) (hcnt _) (first _) sw (fun hst => ((psLoop x1 y1 x2 y2 x y n k q b (flt y1 y2) true hfit hst).enter psMask (by kernel_rfl)).cast rfl rfl (by kernel_rfl) (by kernel_rfl))⟩
    by_cases q1 : q ≤ -1073741824
    · exact ⟨_, psA4G3_p0 x1 y1 x2 y2 x y n k q b c hA c1 c2 c3 hw (decide_eq_false n1) (decide_eq_false n2) fb hcc (decide_eq_false k1) (decide_eq_false k2) (decide_eq_true q1) (hmid _) (hcnt _) (first _) sw (fun hst => ((psLoop x1 y1 x2 y2 x y n k q b (flt y1 y2) true hfit hst).enter psMask (by kernel_rfl)).cast rfl rfl (by kernel_rfl) (by kernel_rfl))⟩
    by_cases q2 : q ≥ 1073741824
    · exact ⟨_, psA4G4_p0 x1 y1 x2 y2 x y n k q b c hA c1 c2 c3 hw (decide_eq_false n1) (decide_eq_false n2) fb hcc (decide_eq_false k1) (decide_eq_false k2) (decide_eq_false q1) (decide_eq_true q2) (hmid _) (hcnt _) (first _) sw (fun hst => ((psLoop x1 y1 x2 y2 x y n k q b (flt y1 y2) true hfit hst).enter psMask (by kernel_rfl)).cast rfl rfl (by kernel_rfl) (by kernel_rfl))⟩
    obtain ⟨a, t1, t2⟩ := sec_turns k1 k2 q1 q2 n1 n2
    have h := psA4G5_p0 x1 y1 x2 y2 x y n k q b c a hA c1 c2 c3 hw (decide_eq_false n1) (decide_eq_false n2) fb hcc (decide_eq_false k1) (decide_eq_false k2) (decide_eq_false q1) (decide_eq_false q2) (t2 _) (t1 _) (hmid _) (hcnt _) (first _) sw (fun hst => ((psLoop x1 y1 x2 y2 x y n k q b (flt y1 y2) true hfit hst).enter psMask (by kernel_rfl)).cast rfl rfl (by kernel_rfl) (by kernel_rfl))
    rw [beq_self_eq_true] at h
    exact ⟨_, h⟩
  · obtain ⟨s, z0, z1, first⟩ := sec_fin hb n1 n2 fb
    by_cases k1 : k ≤ -1073741824
    · exact ⟨_, psA4F1_p0 x1 y1 x2 y2 x y n k q b s c hA c1 c2 c3 hw (decide_eq_false n1) (decide_eq_false n2) fb z0 z1 hcc (decide_eq_true k1) (hmid _) (hcnt _) (first _) sw (fun hst => ((psLoop x1 y1 x2 y2 x y n k q b (flt y1 y2) true hfit hst).enter psMask (by kernel_rfl)).cast rfl rfl (by kernel_rfl) (by kernel_rfl))⟩
    by_cases k2 : k ≥ 1073741824
    · exact ⟨_, psA4F2_p0 x1 y1 x2 y2 x y n k q b s c hA c1 c2 c3 hw (decide_eq_false n1) (decide_eq_false n2) fb z0 z1 hcc (decide_eq_false k1) (decide_eq_true k2) (hmid _) (hcnt _) (first _) sw (fun hst => ((psLoop x1 y1 x2 y2 x y n k q b (flt y1 y2) true hfit hst).enter psMask (by kernel_rfl)).cast rfl rfl (by kernel_rfl) (by kernel_rfl))⟩
    by_cases q1 : q ≤ -1073741824
    · exact ⟨_, psA4F3_p0 x1 y1 x2 y2 x y n k q b s c hA c1 c2 c3 hw (decide_eq_false n1) (decide_eq_false n2) fb z0 z1 hcc (decide_eq_false k1) (decide_eq_false k2) (decide_eq_true q1) (hmid _) (hcnt _) (first _) sw (fun hst => ((psLoop x1 y1 x2 y2 x y n k q b (flt y1 y2) true hfit hst).enter psMask (by kernel_rfl)).cast rfl rfl (by kernel_rfl) (by kernel_rfl))⟩
    by_cases q2 : q ≥ 1073741824
    · exact ⟨_, psA4F4_p0 x1 y1 x2 y2 x y n k q b s c hA c1 c2 c3 hw (decide_eq_false n1) (decide_eq_false n2) fb z0 z1 hcc (decide_eq_false k1) (decide_eq_false k2) (decide_eq_false q1) (decide_eq_true q2) (hmid _) (hcnt _) (first _) sw (fun hst => ((psLoop x1 y1 x2 y2 x y n k q b (flt y1 y2) true hfit hst).enter psMask (by kernel_rfl)).cast rfl rfl (by kernel_rfl) (by kernel_rfl))⟩
    obtain ⟨a, t1, t2⟩ := sec_turns k1 k2 q1 q2 n1 n2
    have h := psA4F5_p0 x1 y1 x2 y2 x y n k q b s c a hA c1 c2 c3 hw (decide_eq_false n1) (decide_eq_false n2) fb z0 z1 hcc (decide_eq_false k1) (decide_eq_false k2) (decide_eq_false q1) (decide_eq_false q2) (t2 _) (t1 _) (hmid _) (hcnt _) (first _) sw (fun hst => ((psLoop x1 y1 x2 y2 x y n k q b (flt y1 y2) true hfit hst).enter psMask (by kernel_rfl)).cast rfl rfl (by kernel_rfl) (by kernel_rfl))
    rw [beq_self_eq_true] at h
    exact ⟨_, h⟩
theorem fit_fin {z : Nat} (h : fle (fabs z) 9094988921128908188 = true) : isFin z = true ∧ (fx z).natAbs ≤ fxr 9094988921128908188 := by
  have hn : isNaN z = false := by
    cases h1 : isNaN z
    · rfl
    · have : fabs z = qnan := by unfold fabs; rw [h1]; rfl
      rw [this, fle_nan_l isNaN_qnan] at h; cases h
  have e : fabs z = rg z := by unfold fabs; rw [hn]; rfl
  have hC : isFin 9094988921128908188 = true := by decide
  rw [e] at h
  rcases three z with hf | hi | hn'
  · have hf' : isFin (rg z) = true := by unfold isFin; rw [rg_rg]; exact hf
    rw [fle_fin hf' hC] at h
    have h := of_decide_eq_true h
    refine ⟨hf, ?_⟩
    rw [fx_abs]
    have e1 : fx (rg z) = (fxr (rg z) : Int) := by
      have hs : sg (rg z) = false := by
        unfold sg; have := rg_lt z
        have : rg z / 2 ^ 63 = 0 := Nat.div_eq_of_lt this
        rw [this]; rfl
      unfold fx; rw [hs, rg_rg]; rfl
    have e2 : fx 9094988921128908188 = (fxr 9094988921128908188 : Int) := rfl
    omega
  · rw [hi] at h
    exfalso; revert h; decide +kernel
  · rw [hn'] at hn; cases hn
theorem fxr_2C : fxr 9099492520756278684 = 2 * fxr 9094988921128908188 := by decide +kernel
/-- Of any sides, any point and any numbers it tells true. -/
theorem ps_all (x1 y1 x2 y2 x y : Nat) (n k q : Int) (b : Nat) (hb : Canon b) : ∃ σ1, CallR Try.prog false 8 [.float .f64 x1, .float .f64 y1, .float .f64 x2, .float .f64 y2, .agg #[.float .f64 x, .float .f64 y], .int .i64 n, .int .i64 k, .int .i64 q, .float .f64 b] [] (.bool true) σ1 := by
  have hstep : ∀ ft j, fitQ x1 y1 x2 y2 ft (j + 1) = bif fitQ x1 y1 x2 y2 ft j then fle (fabs (sideQ x1 y1 x2 y2 j)) 9094988921128908188 else false := fun _ _ => rfl
  have hno : ∀ j, fitQ x1 y1 x2 y2 false j = false := by
    intro j
    induction j with
    | zero => rfl
    | succ j ih => rw [hstep, ih]; rfl
  cases hA : flt x1 x2
  · exact psJB x1 y1 x2 y2 x y n k q b hb hA (hno 4)
  cases hF : fitQ x1 y1 x2 y2 (flt y1 y2) 4
  · exact psJA0 x1 y1 x2 y2 x y n k q b hb hA hF
  have hyy : flt y1 y2 = true := by
    cases h : flt y1 y2
    · rw [h, hno] at hF; cases hF
    · rfl
  rw [hyy, hstep, hstep, hstep, hstep] at hF
  have g : fle (fabs x1) 9094988921128908188 = true ∧ fle (fabs y1) 9094988921128908188 = true ∧ fle (fabs x2) 9094988921128908188 = true ∧ fle (fabs y2) 9094988921128908188 = true := by
    have h0 : fitQ x1 y1 x2 y2 true 0 = true := rfl
    rw [h0] at hF
    simp only [sideQ, cond_true] at hF
    revert hF
    cases fle (fabs x1) 9094988921128908188 <;> cases fle (fabs y1) 9094988921128908188 <;> cases fle (fabs x2) 9094988921128908188 <;> cases fle (fabs y2) 9094988921128908188 <;> simp
  have hF' : fitQ x1 y1 x2 y2 (flt y1 y2) 4 = true := by
    rw [hyy, hstep, hstep, hstep, hstep]
    exact hF
  obtain ⟨a1, a2⟩ := fit_fin g.1
  obtain ⟨b1, b2⟩ := fit_fin g.2.1
  obtain ⟨c1, c2⟩ := fit_fin g.2.2.1
  obtain ⟨d1, d2⟩ := fit_fin g.2.2.2
  have hx : fx x1 < fx x2 := by rw [flt_fin a1 c1] at hA; exact of_decide_eq_true hA
  have hy : fx y1 < fx y2 := by rw [flt_fin b1 d1] at hyy; exact of_decide_eq_true hyy
  have hw := rect_within (x1 := x1) (y1 := y1) (x2 := x2) (y2 := y2) (px := fun i => fl [.float .f64 x1, .float .f64 y1, .float .f64 x2, .float .f64 y1, .float .f64 x2, .float .f64 y2, .float .f64 x1, .float .f64 y2] (2 * i)) (py := fun i => fl [.float .f64 x1, .float .f64 y1, .float .f64 x2, .float .f64 y1, .float .f64 x2, .float .f64 y2, .float .f64 x1, .float .f64 y2] (2 * i + 1)) (x := x) (y := y) ⟨rfl, rfl⟩ ⟨rfl, rfl⟩ ⟨rfl, rfl⟩ ⟨rfl, rfl⟩ a1 c1 b1 d1 hx hy (R := 9099492520756278684) (by decide) (by rw [fxr_2C]; omega)
  have sw : ∀ w, (bandP x1 x2 x && bandP y1 y2 y) = w → sWithin2 [.slice (some ⟨1, 0, some 2⟩) 4 4, .agg #[.float .f64 x, .float .f64 y]] [.row [.float .f64 x, .float .f64 y] true none, .row [.float .f64 x1, .float .f64 y1, .float .f64 x2, .float .f64 y1, .float .f64 x2, .float .f64 y2, .float .f64 x1, .float .f64 y2] true none] = some (.bool w, [.row [.float .f64 x, .float .f64 y] true none, .row [.float .f64 x1, .float .f64 y1, .float .f64 x2, .float .f64 y1, .float .f64 x2, .float .f64 y2, .float .f64 x1, .float .f64 y2] true none]) := by
    intro w e
    rw [← e, ← hw]
    kernel_rfl
  unfold bandP at sw
  cases e1 : fle x1 x
  · exact psJA1 x1 y1 x2 y2 x y n k q b hb hA e1 hF' (sw _ (by rw [e1]; rfl))
  cases e2 : flt x x2
  · exact psJA2 x1 y1 x2 y2 x y n k q b hb hA e1 e2 hF' (sw _ (by rw [e1, e2]; rfl))
  cases e3 : fle y1 y
  · exact psJA3 x1 y1 x2 y2 x y n k q b hb hA e1 e2 e3 hF' (sw _ (by rw [e1, e2, e3]; rfl))
  · exact psJA4 x1 y1 x2 y2 x y n k q b hb hA e1 e2 e3 (by simp) hF' (sw _ (by rw [e1, e2, e3]; rfl))
end Go.Lk
