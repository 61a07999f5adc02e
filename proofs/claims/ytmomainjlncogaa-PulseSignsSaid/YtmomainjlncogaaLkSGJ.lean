/- PulseSigns: joined. -/
import Derived.Test.YtmomainjlncogaaLkSG
import Derived.Test.YtmomainjlncogaaLkFI
namespace Go.Lk
open Go.Proofs
set_option maxRecDepth 100000
set_option maxHeartbeats 0
set_option linter.unusedVariables false
set_option linter.unusedSimpArgs false
/-! ### Sums of whole numbers -/
theorem smA_w {f : Nat → Nat} {z : Nat → Int} {B : Nat} : ∀ {k : Nat}, (∀ i, i ≤ k → IsW (f i) (z i) ∧ (z i).natAbs ≤ B) → (k + 1) * B < 2 ^ 53 → IsW (smA f k) (sumZ z (k + 1))
  | 0, h, hB => by
    have : sumZ z 1 = z 0 := by show 0 + z 0 = z 0; omega
    rw [this]
    exact (h 0 (Nat.le_refl _)).1
  | k + 1, h, hB => by
    have h1 := smA_w (k := k) (fun i hi => h i (by omega)) (Nat.lt_of_le_of_lt (Nat.mul_le_mul_right _ (by omega)) hB)
    have h2 := h (k + 1) (Nat.le_refl _)
    have h3 := sumZ_bound (z := z) (B := B) (m := k + 1 + 1) fun i hi => (h i (by omega)).2
    exact h1.add h2.1 (Nat.lt_of_le_of_lt h3 hB)
theorem sumC_w {f : Nat → Nat} {z : Nat → Int} {B m : Nat} (h : ∀ i, i < m → IsW (f i) (z i) ∧ (z i).natAbs ≤ B) (hB : m * B < 2 ^ 53) : IsW (sumC f m) (sumZ z m) := by
  unfold sumC
  cases m with
  | zero => exact isW_0
  | succ m => exact smA_w (k := m) (fun i hi => h i (by omega)) hB
/-! ### A row of signs held against itself -/
def sgR (sg : Nat → Bool) (i : Nat) : Nat := bif sg i then 4607182418800017408 else 13830554455654793216
def sgZ' (sg : Nat → Bool) (i : Nat) : Int := bif sg i then 1 else -1
theorem sgR_w (sg : Nat → Bool) (i : Nat) : IsW (sgR sg i) (sgZ' sg i) := by
  unfold sgR sgZ'
  cases sg i
  · exact isW_m1
  · exact isW_1
theorem sgZ_abs (sg : Nat → Bool) (i j : Nat) : (sgZ' sg i * sgZ' sg j).natAbs = 1 := by
  unfold sgZ'; cases sg i <;> cases sg j <;> rfl
theorem fneg_0 : IsW (fneg 0) 0 := by have h := isW_0.neg (by decide); simpa using h
def sgT (sg : Nat → Bool) (d : Int) (k : Nat) : Int := sgZ' sg (iN k + d).toNat * sgZ' sg k
theorem sgTr_w (sg : Nat → Bool) (d : Int) (k : Nat) : IsW (owTr (sgR sg) (fun _ => 0) d k) (sgT sg d k) ∧ (sgT sg d k).natAbs ≤ 1 := by
  have h1 := sgZ_abs sg (iN k + d).toNat k
  have h2 : IsW (fmul (sgR sg (iN k + d).toNat) (sgR sg k)) (sgT sg d k) := (sgR_w sg _).mul (sgR_w sg _) (by rw [h1]; decide)
  have h3 : IsW (fmul 0 (fneg 0)) 0 := by have := isW_0.mul fneg_0 (by decide); simpa using this
  have h4 := h2.sub h3 (by rw [Int.sub_zero]; unfold sgT; rw [h1]; decide)
  rw [Int.sub_zero] at h4
  exact ⟨h4, by unfold sgT; rw [h1]; decide⟩
theorem sgTi_w (sg : Nat → Bool) (d : Int) (k : Nat) : IsW (owTi (sgR sg) (fun _ => 0) d k) 0 ∧ (0 : Int).natAbs ≤ 1 := by
  have h2 : IsW (fmul (sgR sg (iN k + d).toNat) (fneg 0)) 0 := by have := (sgR_w sg (iN k + d).toNat).mul fneg_0 (by rw [Int.mul_zero]; decide); rwa [Int.mul_zero] at this
  have h3 : IsW (fmul 0 (sgR sg k)) 0 := by have := isW_0.mul (sgR_w sg k) (by rw [Int.zero_mul]; decide); rwa [Int.zero_mul] at this
  have h4 := h2.add h3 (by decide)
  rw [Int.add_zero] at h4
  exact ⟨h4, by decide⟩
theorem own_re (sg : Nat → Bool) {n e : Nat} (hn : n ≤ 600) (he : e < 2 * n - 1) : ∃ z : Int, IsW (owU (sgR sg) (fun _ => 0) n e) z ∧ z.natAbs ≤ n := by
  obtain ⟨_, _, f3, _⟩ := ow_facts he
  refine ⟨sumZ (fun i => sgT sg (owD n e) (owS n e + i)) (owM n e), sumC_w (B := 1) (fun i _ => sgTr_w sg _ _) (by omega), ?_⟩
  have := sumZ_bound (z := fun i => sgT sg (owD n e) (owS n e + i)) (B := 1) (m := owM n e) fun i _ => (sgTr_w sg _ _).2
  omega
theorem own_im (sg : Nat → Bool) {n e : Nat} (hn : n ≤ 600) (he : e < 2 * n - 1) : IsW (owV (sgR sg) (fun _ => 0) n e) 0 := by
  obtain ⟨_, _, f3, _⟩ := ow_facts he
  have h : IsW (owV (sgR sg) (fun _ => 0) n e) (sumZ (fun _ => 0) (owM n e)) := sumC_w (z := fun _ => 0) (B := 1) (fun i _ => sgTi_w sg _ _) (by omega)
  rwa [sumZ_const, Int.mul_zero] at h
theorem own_mid (sg : Nat → Bool) {n : Nat} (hn : n ≤ 600) (h0 : 0 < n) : IsW (owU (sgR sg) (fun _ => 0) n (n - 1)) n := by
  have he : n - 1 < 2 * n - 1 := by omega
  have h : IsW (owU (sgR sg) (fun _ => 0) n (n - 1)) (sumZ (fun i => sgT sg (owD n (n - 1)) (owS n (n - 1) + i)) (owM n (n - 1))) := sumC_w (B := 1) (fun i _ => sgTr_w sg _ _) (by obtain ⟨_, _, f3, _⟩ := ow_facts he; omega)
  have e1 : sumZ (fun i => sgT sg (owD n (n - 1)) (owS n (n - 1) + i)) (owM n (n - 1)) = sumZ (fun _ => 1) (owM n (n - 1)) := sumZ_congr fun i _ => by
    have hd : owD n (n - 1) = 0 := by unfold owD; omega
    unfold sgT
    rw [hd, Int.add_zero, iN_eq, Int.toNat_natCast]
    unfold sgZ'; cases sg (owS n (n - 1) + i) <;> rfl
  have e2 : owM n (n - 1) = n := by unfold owM; omega
  rw [e1, sumZ_const, Int.mul_one, e2] at h
  exact h
/-! ### The walk -/
def sgH (opn : Option Nat) (sg : Nat → Bool) (M : Nat) : AObj := .row (rowOf (fun i => [.bool (sg i)]) M) false opn
def sgS (n cap k : Nat) : List Value := sgFr n cap (match k with | 0 => .slice none 0 0 | k + 1 => .slice (some ⟨1, 0, some 1⟩) (k + 1) (k + 1)) k
def sgHp (opn : Option Nat) (sg : Nat → Bool) (M k : Nat) : AHeap := match k with | 0 => [sgH opn sg M] | k + 1 => [sgH opn sg M, .row (rowOf (fun i => [.complex .f64 (sgR sg i) 0]) (k + 1)) true (some 1)]
theorem sg_build (opn : Option Nat) (sg : Nat → Bool) (M n cap : Nat) (hm : n ≤ M) (hn : n ≤ 600) (h0 : 0 < n) (hst : Stood false [sgH opn sg M]) :
    Sim dLPg 1 (.loop (loopOf Try.f14 0)) (sgS n cap 0) (sgHp opn sg M 0) (.exit 0) (sgFr n cap (.slice (some ⟨1, 0, some 1⟩) n n) n) [sgH opn sg M, .row (rowOf (fun i => [.complex .f64 (sgR sg i) 0]) n) true (some 1)] := by
  have hE : ∀ N, N = n → sgHp opn sg M N = [sgH opn sg M, .row (rowOf (fun i => [.complex .f64 (sgR sg i) 0]) n) true (some 1)] ∧ sgS n cap N = sgFr n cap (.slice (some ⟨1, 0, some 1⟩) n n) n := by
    rintro N rfl
    cases N with
    | zero => omega
    | succ N => exact ⟨rfl, rfl⟩
  refine Sim.loop (fun k => (sgS n cap k, sgHp opn sg M k)) n (fun k hk => ?_) ?_ rfl
  · cases k with
    | zero =>
      cases hb : sg 0
      · exact (sg0F_p1 opn sg M n cap hm hn (sgR sg) h0 hb hb (append_first (F := fun i => [.complex .f64 (sgR sg i) 0]) (z := 1) (n := 1) (by kernel_rfl) (by show _ = some [Value.complex .f64 (sgR sg 0) 0]; unfold sgR; rw [hb]; kernel_rfl) rfl (by kernel_rfl) (by decide) (by decide)) hst).cast (by kernel_rfl) (by kernel_rfl) (by kernel_rfl) (by kernel_rfl)
      · exact (sg0T_p0 opn sg M n cap hm hn (sgR sg) h0 hb hb (append_first (F := fun i => [.complex .f64 (sgR sg i) 0]) (z := 1) (n := 1) (by kernel_rfl) (by show _ = some [Value.complex .f64 (sgR sg 0) 0]; unfold sgR; rw [hb]; kernel_rfl) rfl (by kernel_rfl) (by decide) (by decide)) hst).cast (by kernel_rfl) (by kernel_rfl) (by kernel_rfl) (by kernel_rfl)
    | succ k =>
      cases hb : sg (k + 1)
      · exact (sg1F_p0 opn sg M n cap hm hn (sgR sg) (k + 1) (by omega) hk hb (append_grow (F := fun i => [.complex .f64 (sgR sg i) 0]) (z := 1) (by kernel_rfl) rfl (.inl rfl) (by show _ = some [Value.complex .f64 (sgR sg (k + 1)) 0]; unfold sgR; rw [hb]; kernel_rfl) rfl (fun _ => rfl) (by kernel_rfl) (by omega) rfl) hst).cast (by kernel_rfl) (by kernel_rfl) (by kernel_rfl) (by kernel_rfl)
      · exact (sg1T_p0 opn sg M n cap hm hn (sgR sg) (k + 1) (by omega) hk hb (append_grow (F := fun i => [.complex .f64 (sgR sg i) 0]) (z := 1) (by kernel_rfl) rfl (.inl rfl) (by show _ = some [Value.complex .f64 (sgR sg (k + 1)) 0]; unfold sgR; rw [hb]; kernel_rfl) rfl (fun _ => rfl) (by kernel_rfl) (by omega) rfl) hst).cast (by kernel_rfl) (by kernel_rfl) (by kernel_rfl) (by kernel_rfl)
  · obtain ⟨e1, e2⟩ := hE n rfl
    show Sim _ _ _ (sgS n cap n) (sgHp opn sg M n) _ _ _
    rw [e1, e2]
    exact (sgE_p0 opn sg M n cap hm hn (sgR sg) h0 hst).cast (by kernel_rfl) (by kernel_rfl) (by kernel_rfl) (by kernel_rfl)
def sgHc (opn : Option Nat) (sg : Nat → Bool) (M n : Nat) : AHeap := [sgH opn sg M, .row (rowOf (fun i => [.complex .f64 (sgR sg i) 0]) n) true (some 1), .row (rowOf (fun i => [.complex .f64 (owU (sgR sg) (fun _ => 0) n i) (owV (sgR sg) (fun _ => 0) n i)]) (2 * n - 1)) true none]
theorem sg_check (opn : Option Nat) (sg : Nat → Bool) (M n cap : Nat) (hm : n ≤ M) (hn : n ≤ 600) (h0 : 0 < n) (hst : Stood false [sgH opn sg M]) :
    Sim dLPg 3 (.loop (loopOf Try.f14 1)) (sgFo n cap 0) (sgHc opn sg M n) (.exit 2) (sgFo n cap (2 * n - 1)) (sgHc opn sg M n) := by
  refine Sim.loop (fun k => (sgFo n cap k, sgHc opn sg M n)) (2 * n - 1) (fun k hk => ?_) ((sgCE_p0 opn sg M n cap hm hn h0 (sgR sg) (owU (sgR sg) (fun _ => 0) n) (owV (sgR sg) (fun _ => 0) n) hst).cast (by kernel_rfl) (by kernel_rfl) (by kernel_rfl) (by kernel_rfl)) rfl
  obtain ⟨z, hz, hzn⟩ := own_re sg hn hk
  have hi := own_im sg hn hk
  have f1 := hz.feq_of (hz.floor_of (by omega))
  have f2 := hi.feq_of isW_0
  have f3 : fgt (fabs (owU (sgR sg) (fun _ => 0) n k)) (FloatKind.f64.nearest (iN n)) = false := by
    rw [hz.fabs_of.fgt_iff (isW_near (n := iN n) (by rw [iN_eq]; omega)), iN_eq]
    exact decide_eq_false (by omega)
  exact (sgC_p0 opn sg M n cap hm hn h0 (sgR sg) (owU (sgR sg) (fun _ => 0) n) (owV (sgR sg) (fun _ => 0) n) k hk f1 f2 f3 hst).cast (by kernel_rfl) (by kernel_rfl) (by kernel_rfl) (by kernel_rfl)
/-- Of any signs it tells true. -/
theorem sg_all (opn : Option Nat) (sg : Nat → Bool) (M n cap : Nat) (hm : n ≤ M) : ∃ σ1, CallR Try.prog false 14 [.slice (some ⟨0, 0, some 1⟩) n cap] [sgH opn sg M] (.bool true) σ1 := by
  rcases Nat.eq_zero_or_pos n with rfl | h0
  · exact ⟨_, sgZ_p0 opn sg M cap⟩
  rcases Nat.lt_or_ge 600 n with hn | hn
  · exact ⟨_, sgG_p0 opn sg M n cap hm hn⟩
  have m1 : feq (owU (sgR sg) (fun _ => 0) n (n - 1)) (FloatKind.f64.nearest (iN n)) = true := (own_mid sg hn h0).feq_of (by rw [iN_eq]; exact isW_near (by omega))
  have m2 : feq (owV (sgR sg) (fun _ => 0) n (n - 1)) 0 = true := (own_im sg hn (by omega)).feq_of isW_0
  refine ⟨_, sgP_p1 opn sg M n cap hm hn h0 (sgR sg) (owU (sgR sg) (fun _ => 0) n) (owV (sgR sg) (fun _ => 0) n) (decide_eq_false (by rw [iN_eq]; show ¬ (n : Int) < 1; omega))
    m1 m2 (by simp) (by rw [m1, m2]; rfl) 
    (fun hst => ((sg_check opn sg M n cap hm hn h0 hst).enter ([true, false, true, true, false, true, true] ++ List.replicate 80 false) (by kernel_rfl)).cast rfl rfl (by kernel_rfl) rfl)
    (sOwn_row (x := sgR sg) (y := fun _ => 0) (M := n) rfl (Nat.le_refl n) (by omega) h0)
    (fun hst => ((sg_build opn sg M n cap hm hn h0 hst).enter ([true, false, true, true, true] ++ List.replicate 82 false) (by kernel_rfl)).cast rfl rfl (by kernel_rfl) rfl)⟩
end Go.Lk
