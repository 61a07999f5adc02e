/- Between what each operation's result lies: products, quotients, roots; how far from them it may be. -/
import Derived.Test.YtmomainjlncogaaLkFN
namespace Go.Lk
open Ieee (Format Datum Toward)
set_option linter.unusedSimpArgs false
set_option linter.unusedVariables false

def infR : Nat := 2047 * 2 ^ 52
theorem rne_ge_of {m D v : Nat} (h : v * 2 ^ D ≤ m) : v ≤ rne m D :=
  Nat.le_trans ((Nat.le_div_iff_mul_le (Nat.two_pow_pos D)).2 h) (rne_ge m D)
theorem rungQ_ge {m q R : Nat} (h : fxr R * 2 ^ q ≤ m) : R ≤ rungQ m q := by
  refine fxr_le.1 ?_
  rw [rungQ_val]
  rcases Nat.lt_or_ge q (m.log2 - 52) with hq | hq
  · rw [Nat.max_eq_left (by omega)]
    generalize hD : m.log2 - 52 = D at *
    have hm0 : m ≠ 0 := by rintro rfl; simp at hD; omega
    have h1 : 2 ^ m.log2 ≤ m := Nat.log2_self_le hm0
    have hl : m.log2 = 52 + D := by omega
    rw [hl] at h1
    obtain ⟨c, j, e, hc⟩ := fxr_form R
    rcases Nat.lt_or_ge j (D - q) with hlt | hge
    · have h2 : fxr R < 2 ^ 53 * 2 ^ j := by rw [e]; exact Nat.mul_lt_mul_of_pos_right hc (Nat.two_pow_pos _)
      have h3 : 2 ^ 52 ≤ rne m D := rne_ge_of (by rw [← Nat.pow_add]; exact h1)
      have h4 : 2 ^ 53 * 2 ^ j ≤ 2 ^ 52 * 2 ^ (D - q) := by rw [← Nat.pow_add, ← Nat.pow_add]; exact pow_ge (by omega)
      exact Nat.le_of_lt (Nat.lt_of_lt_of_le h2 (Nat.le_trans h4 (Nat.mul_le_mul_right _ h3)))
    · have e2 : fxr R = c * 2 ^ (j - (D - q)) * 2 ^ (D - q) := by rw [e, Nat.mul_assoc, ← Nat.pow_add]; congr 2; omega
      have h4 : c * 2 ^ (j - (D - q)) * 2 ^ D ≤ m := by
        rw [e2, Nat.mul_assoc, ← Nat.pow_add, show D - q + q = D by omega] at h
        exact h
      rw [e2]
      exact Nat.mul_le_mul_right _ (rne_ge_of h4)
  · rw [Nat.max_eq_right (by omega), Nat.sub_self, Nat.pow_zero, Nat.mul_one]
    exact rne_ge_of h
theorem rungQ_shl (m q k : Nat) (hm : m ≠ 0) : rungQ (m * 2 ^ k) (q + k) = rungQ m q := by
  unfold rungQ
  rw [log2_shl k hm]
  have : max (m.log2 + k - 52) (q + k) = max (m.log2 - 52) q + k := by omega
  rw [this, rne_shl]
  congr 2
  omega
theorem rungQ_0 (q : Nat) : rungQ 0 q = 0 := Nat.le_zero.1 (rungQ_le (by rw [fxr_zero]; omega))
theorem rung_Q (T : Nat) : rung T = min (rungQ T 0) (2047 * 2 ^ 52) := by
  unfold rung rungQ kd52
  simp only [Nat.max_zero, Nat.sub_zero]
theorem nearest_any (s : Bool) (m : Nat) (p : Int) (M q : Nat) (hq : 0 ≤ p + 1074 + q) (h : M = m * 2 ^ (p + 1074 + q).toNat) : dbl.nearest s m p = wd s (min (rungQ M q) (2047 * 2 ^ 52)) := by
  by_cases hm : m = 0
  · subst hm
    rw [Nat.zero_mul] at h
    subst h
    rw [rungQ_0]
    unfold Format.nearest
    rw [if_pos rfl, word_eq]
    rfl
  · rcases Int.lt_or_le (p + 1074) 0 with hp | hp
    · rw [nearest_neg s m p (-1074 - p).toNat (by omega) hm, h]
      have e := rungQ_shl m (-1074 - p).toNat (p + 1074 + q).toNat hm
      rw [show (-1074 - p).toNat + (p + 1074 + q).toNat = q by omega] at e
      rw [e]
    · rw [nearest_eq s m p (by omega), rung_Q, h]
      have e := rungQ_shl (m * 2 ^ (p + 1074).toNat) 0 q (Nat.mul_ne_zero hm (Nat.ne_of_gt (Nat.two_pow_pos _)))
      rw [Nat.mul_assoc, ← Nat.pow_add, show (p + 1074).toNat + q = (p + 1074 + q).toNat by omega, Nat.zero_add] at e
      rw [e]

/-- The rung r is one that num / den lies at: it is between each two that num / den lies between. -/
def Near (num den r : Nat) : Prop := r ≤ infR ∧ ∀ R, R ≤ infR → (fxr R * den ≤ num → R ≤ r) ∧ (num ≤ fxr R * den → r ≤ R)
theorem near_rungQ (m q : Nat) : Near m (2 ^ q) (min (rungQ m q) (2047 * 2 ^ 52)) :=
  ⟨Nat.min_le_right .., fun R hR => ⟨fun h => Nat.le_min.2 ⟨rungQ_ge h, hR⟩, fun h => Nat.le_trans (Nat.min_le_left ..) (rungQ_le h)⟩⟩
theorem near_rung (T : Nat) : Near T 1 (rung T) := by
  have := near_rungQ T 0
  rw [← rung_Q, Nat.pow_zero] at this
  exact this
theorem Near.cast {n d n' d' r : Nat} (h : Near n d r) (h1 : ∀ R, R ≤ infR → (fxr R * d' ≤ n' → fxr R * d ≤ n)) (h2 : ∀ R, R ≤ infR → (n' ≤ fxr R * d' → n ≤ fxr R * d)) : Near n' d' r :=
  ⟨h.1, fun R hR => ⟨fun k => (h.2 R hR).1 (h1 R hR k), fun k => (h.2 R hR).2 (h2 R hR k)⟩⟩
theorem Near.scale {n d r k : Nat} (hk : 0 < k) (h : Near n d r) : Near (n * k) (d * k) r :=
  h.cast (fun R _ h' => by rw [← Nat.mul_assoc] at h'; exact Nat.le_of_mul_le_mul_right h' hk) (fun R _ h' => by rw [← Nat.mul_assoc] at h'; exact Nat.le_of_mul_le_mul_right h' hk)
theorem Near.unscale {n d r k : Nat} (hk : 0 < k) (h : Near (n * k) (d * k) r) : Near n d r :=
  h.cast (fun R _ h' => by rw [← Nat.mul_assoc]; exact Nat.mul_le_mul_right _ h') (fun R _ h' => by rw [← Nat.mul_assoc]; exact Nat.mul_le_mul_right _ h')

theorem fmul_near {x y : Nat} (hx : isFin x = true) (hy : isFin y = true) : ∃ r, fmul x y = wd (sg x ^^ sg y) r ∧ Near (fxr (rg x) * fxr (rg y)) U r := by
  obtain ⟨m, i, e1, h1, h2, _⟩ := read_fin hx
  obtain ⟨n, j, e2, h3, h4, _⟩ := read_fin hy
  have hr : fmul x y = dbl.nearest (sg x ^^ sg y) (m * n) (i + j) := by
    unfold fmul Format.mul
    rw [e1, e2]
    rfl
  obtain ⟨u, hu, hU⟩ := U_spec
  have h5 := nearest_any (sg x ^^ sg y) (m * n) (i + j) (m * n * 2 ^ (i + j + 1074 + (u : Int)).toNat) u (by clear hU; omega) rfl
  refine ⟨_, hr.trans h5, ?_⟩
  have e : m * n * 2 ^ (i + j + 1074 + (u : Int)).toNat = fxr (rg x) * fxr (rg y) := by
    rw [← h2, ← h4]
    have : (i + j + 1074 + (u : Int)).toNat = (i + 1074).toNat + (j + 1074).toNat := by clear hU h5; omega
    rw [this, Nat.pow_add]
    ac_rfl
  rw [e, hU]
  exact near_rungQ _ _

theorem div_core {m n a b w more F : Nat} {c e : Nat} (hm : m ≠ 0) (hn : n ≠ 0) (hmore : more = 54 + n.log2 - m.log2) (hF : F = c * 2 ^ e) (hc : c < 2 ^ 53) (he : b + more ≤ e) :
    (F * n ≤ m * 2 ^ more * 2 ^ (a + w) → F * 2 ≤ (2 * (m * 2 ^ more / n) + (m * 2 ^ more % n != 0).toNat) * 2 ^ (a + w)) ∧
    (m * 2 ^ more * 2 ^ (a + w) ≤ F * n → (2 * (m * 2 ^ more / n) + (m * 2 ^ more % n != 0).toNat) * 2 ^ (a + w) ≤ F * 2) := by
  have hD : 2 ^ (54 + n.log2) ≤ m * 2 ^ more := by
    have h1 : 2 ^ m.log2 ≤ m := Nat.log2_self_le hm
    calc 2 ^ (54 + n.log2) ≤ 2 ^ (m.log2 + more) := pow_ge (by omega)
      _ = 2 ^ m.log2 * 2 ^ more := Nat.pow_add ..
      _ ≤ _ := Nat.mul_le_mul_right _ h1
  generalize m * 2 ^ more = D at *
  have hn2 : n < 2 ^ (n.log2 + 1) := Nat.lt_log2_self
  have hn0 : 0 < n := by omega
  have hDn : 2 ^ 53 * n < D := by
    have : 2 ^ 53 * 2 ^ (n.log2 + 1) = 2 ^ (54 + n.log2) := by rw [← Nat.pow_add]; congr 1; omega
    omega
  have hq0 : 2 ^ 53 ≤ D / n := (Nat.le_div_iff_mul_le hn0).2 (Nat.le_of_lt hDn)
  have hdm := Nat.div_add_mod D n
  have hml : D % n < n := Nat.mod_lt _ hn0
  have hbit : (D % n != 0).toNat = if D % n = 0 then 0 else 1 := by by_cases h : D % n = 0 <;> simp [h]
  rw [hbit]
  generalize a + w = g
  have hG : 0 < 2 ^ g := Nat.two_pow_pos g
  rcases Nat.lt_or_ge e g with hlt | hge
  · have hFs : F < 2 ^ 52 * 2 ^ g := by
      have h2 : F < 2 ^ 53 * 2 ^ e := by rw [hF]; exact Nat.mul_lt_mul_of_pos_right hc (Nat.two_pow_pos _)
      have h4 : 2 ^ 53 * 2 ^ e ≤ 2 ^ 52 * 2 ^ g := by rw [← Nat.pow_add, ← Nat.pow_add]; exact pow_ge (by omega)
      omega
    constructor
    · intro _
      have h1 : 2 ^ 53 * 2 ^ g ≤ D / n * 2 ^ g := Nat.mul_le_mul_right _ hq0
      have h2 : D / n * 2 ^ g ≤ (2 * (D / n) + if D % n = 0 then 0 else 1) * 2 ^ g := Nat.mul_le_mul_right _ (by omega)
      omega
    · intro h
      exfalso
      have h1 : F * n < 2 ^ 52 * 2 ^ g * n := Nat.mul_lt_mul_of_pos_right hFs hn0
      have h2 : 2 ^ 53 * n * 2 ^ g < D * 2 ^ g := Nat.mul_lt_mul_of_pos_right hDn hG
      have h3 : 2 ^ 53 * n * 2 ^ g = 2 * (2 ^ 52 * 2 ^ g * n) := by
        rw [show (2 : Nat) ^ 53 = 2 * 2 ^ 52 by decide]; ac_rfl
      omega
  · have hf : F = c * 2 ^ (e - g) * 2 ^ g := by rw [hF, Nat.mul_assoc, ← Nat.pow_add]; congr 2; omega
    generalize c * 2 ^ (e - g) = f at hf
    rw [hf]
    constructor
    · intro h
      have h1 : f * n ≤ D := Nat.le_of_mul_le_mul_right (by rw [show f * n * 2 ^ g = f * 2 ^ g * n by ac_rfl]; exact h) hG
      have h2 : f ≤ D / n := (Nat.le_div_iff_mul_le hn0).2 h1
      rw [show f * 2 ^ g * 2 = (2 * f) * 2 ^ g by ac_rfl]
      exact Nat.mul_le_mul_right _ (by omega)
    · intro h
      have h1 : D ≤ f * n := Nat.le_of_mul_le_mul_right (by rw [show f * n * 2 ^ g = f * 2 ^ g * n by ac_rfl]; exact h) hG
      rw [show f * 2 ^ g * 2 = (2 * f) * 2 ^ g by ac_rfl]
      refine Nat.mul_le_mul_right _ ?_
      have hcm : n * (D / n) = D / n * n := Nat.mul_comm _ _
      split
      · rename_i h0
        have : D / n * n ≤ f * n := by omega
        have := Nat.le_of_mul_le_mul_right this hn0
        omega
      · rename_i h0
        have h2 : D / n * n < f * n := by omega
        have := Nat.lt_of_mul_lt_mul_right h2
        omega

theorem fdiv_near {x y : Nat} (hx : isFin x = true) (hy : isFin y = true) (hy0 : fxr (rg y) ≠ 0) : ∃ r, fdiv x y = wd (sg x ^^ sg y) r ∧ Near (fxr (rg x) * U) (fxr (rg y)) r := by
  obtain ⟨m, i, e1, h1, h2, _⟩ := read_fin hx
  obtain ⟨n, j, e2, h3, h4, _⟩ := read_fin hy
  have hn : n ≠ 0 := by rintro rfl; rw [Nat.zero_mul] at h4; exact hy0 h4.symm
  generalize hmo : 54 + n.log2 - m.log2 = more
  have hr : fdiv x y = dbl.nearest (sg x ^^ sg y) (2 * (m * 2 ^ more / n) + (m * 2 ^ more % n != 0).toNat) (i - j - more - 1) := by
    unfold fdiv Format.div
    rw [e1, e2]
    simp only [Datum.quotient, if_neg hn, fb_eq, Nat.shiftLeft_eq]
    rw [show 52 + 2 + n.log2 - m.log2 = more by omega]
    rfl
  obtain ⟨u, hu, hU⟩ := U_spec
  generalize ha : (i + 1074).toNat = a at *
  generalize hb : (j + 1074).toNat = b at *
  have hpl : i - j - more - 1 + 1074 + ((b + more + 1 : Nat) : Int) = ((a + u : Nat) : Int) := by clear hU; omega
  have h5 := nearest_any (sg x ^^ sg y) (2 * (m * 2 ^ more / n) + (m * 2 ^ more % n != 0).toNat) (i - j - more - 1) _ (b + more + 1) (by rw [hpl]; omega) rfl
  rw [hpl, Int.toNat_natCast] at h5
  refine ⟨_, hr.trans h5, ?_⟩
  by_cases hm : m = 0
  · subst hm
    rw [Nat.zero_mul] at h2
    have e0 : 2 * (0 * 2 ^ more / n) + (0 * 2 ^ more % n != 0).toNat = 0 := by simp
    rw [e0, Nat.zero_mul, rungQ_0, ← h2, Nat.zero_mul]
    refine ⟨by decide, fun R hR => ⟨fun h => ?_, fun _ => Nat.zero_le _⟩⟩
    have h6 : fxr R = 0 := by
      rcases Nat.mul_eq_zero.1 (Nat.le_zero.1 h) with h | h
      · exact h
      · exact absurd h hy0
    rw [← fxr_zero] at h6
    have := fxr_inj h6
    omega
  · refine (near_rungQ _ _).cast (fun R hR h => ?_) (fun R hR h => ?_)
    · obtain ⟨c, e, hR', hc⟩ := fxr_form R
      have k := (div_core (m := m) (n := n) (a := a) (b := b) (w := u) (more := more) (F := fxr R * 2 ^ (b + more)) (c := c) (e := e + (b + more)) hm hn hmo.symm (by rw [hR', Nat.mul_assoc, ← Nat.pow_add]) hc (by omega)).1
      rw [← h2, ← h4, hU] at h
      have := k (by
        calc fxr R * 2 ^ (b + more) * n = fxr R * (n * 2 ^ b) * 2 ^ more := by rw [Nat.pow_add]; ac_rfl
          _ ≤ m * 2 ^ a * 2 ^ u * 2 ^ more := Nat.mul_le_mul_right _ h
          _ = _ := by rw [Nat.pow_add]; ac_rfl)
      calc fxr R * 2 ^ (b + more + 1) = fxr R * 2 ^ (b + more) * 2 := by rw [Nat.pow_succ]; ac_rfl
        _ ≤ _ := this
    · obtain ⟨c, e, hR', hc⟩ := fxr_form R
      have k := (div_core (m := m) (n := n) (a := a) (b := b) (w := u) (more := more) (F := fxr R * 2 ^ (b + more)) (c := c) (e := e + (b + more)) hm hn hmo.symm (by rw [hR', Nat.mul_assoc, ← Nat.pow_add]) hc (by omega)).2
      rw [← h2, ← h4, hU] at h
      have := k (by
        calc m * 2 ^ more * 2 ^ (a + u) = m * 2 ^ a * 2 ^ u * 2 ^ more := by rw [Nat.pow_add]; ac_rfl
          _ ≤ fxr R * (n * 2 ^ b) * 2 ^ more := Nat.mul_le_mul_right _ h
          _ = _ := by rw [Nat.pow_add]; ac_rfl)
      calc _ ≤ fxr R * 2 ^ (b + more) * 2 := this
        _ = fxr R * 2 ^ (b + more + 1) := by rw [Nat.pow_succ]; ac_rfl

/-! ### How far -/
/-- The next one is no further than 1, or 2^-52 of it. -/
theorem fxr_gap (L : Nat) : 2 ^ 52 * fxr (L + 1) ≤ 2 ^ 52 * fxr L + max (2 ^ 52) (fxr L) := by
  rcases Nat.lt_or_ge L (2 ^ 52) with h | h
  · have e1 := fxr_add (k := 0) (c := L) (.inl ⟨rfl, by omega⟩)
    have e2 := fxr_add (k := 0) (c := L + 1) (.inl ⟨rfl, by omega⟩)
    simp only [Nat.zero_mul, Nat.zero_add, Nat.pow_zero, Nat.mul_one] at e1 e2
    rw [e1, e2]
    omega
  · have hL : L = (L / 2 ^ 52 - 1) * 2 ^ 52 + (2 ^ 52 + L % 2 ^ 52) := by omega
    generalize L / 2 ^ 52 - 1 = k at hL
    have hc : L % 2 ^ 52 < 2 ^ 52 := Nat.mod_lt _ (by decide)
    generalize L % 2 ^ 52 = c at hL hc
    have e1 := fxr_add (k := k) (c := 2 ^ 52 + c) (.inr ⟨by omega, by omega⟩)
    have e2 := fxr_add (k := k) (c := 2 ^ 52 + c + 1) (.inr ⟨by omega, by omega⟩)
    rw [hL, show k * 2 ^ 52 + (2 ^ 52 + c) + 1 = k * 2 ^ 52 + (2 ^ 52 + c + 1) by omega, e1, e2]
    have e3 : (2 ^ 52 + c + 1) * 2 ^ k = (2 ^ 52 + c) * 2 ^ k + 2 ^ k := by rw [Nat.add_mul (2 ^ 52 + c) 1, Nat.one_mul]
    have : 2 ^ 52 * 2 ^ k ≤ (2 ^ 52 + c) * 2 ^ k := Nat.mul_le_mul_right _ (by omega)
    rw [e3]
    omega

theorem Near.le_of {num den r R : Nat} (h : Near num den r) (hR : R ≤ infR) (k : num ≤ fxr R * den) : r ≤ R := (h.2 R hR).2 k
theorem Near.ge_of {num den r R : Nat} (h : Near num den r) (hR : R ≤ infR) (k : fxr R * den ≤ num) : R ≤ r := (h.2 R hR).1 k
/-- Two rungs, next to each other, between which num / den lies. -/
theorem Near.between {num den r : Nat} (h : Near num den r) (hd : 0 < den) (hr : r < infR) : ∃ L, L < infR ∧ fxr L * den ≤ num ∧ num < fxr (L + 1) * den ∧ (r = L ∨ r = L + 1) := by
  -- the greatest L with fxr L * den ≤ num
  have hz : fxr 0 * den ≤ num := by rw [fxr_zero]; omega
  have hbig : num < fxr infR * den := by
    rcases Nat.lt_or_ge num (fxr infR * den) with k | k
    · exact k
    · have := h.ge_of (Nat.le_refl _) k; omega
  have key : ∀ k, k ≤ infR → fxr (infR - k) * den ≤ num → ∃ L, L < infR ∧ fxr L * den ≤ num ∧ num < fxr (L + 1) * den := by
    intro k
    induction k with
    | zero => intro _ k; rw [Nat.sub_zero] at k; omega
    | succ k ih =>
      intro hk hL
      rcases Nat.lt_or_ge num (fxr (infR - k) * den) with h1 | h1
      · refine ⟨infR - (k + 1), by omega, hL, ?_⟩
        rw [show infR - (k + 1) + 1 = infR - k by omega]
        exact h1
      · exact ih (by omega) h1
  obtain ⟨L, hL, h1, h2⟩ := key infR (Nat.le_refl _) (by rw [Nat.sub_self]; exact hz)
  refine ⟨L, hL, h1, h2, ?_⟩
  have h3 := h.ge_of (by omega) h1
  have h4 := h.le_of (R := L + 1) (by omega) (Nat.le_of_lt h2)
  omega
/-- How far a result is from what it stands for. -/
theorem Near.err {num den r : Nat} (h : Near num den r) (hd : 0 < den) (hr : r < infR) :
    2 ^ 52 * (fxr r * den) ≤ 2 ^ 52 * num + max (2 ^ 52 * den) num ∧ 2 ^ 52 * num ≤ 2 ^ 52 * (fxr r * den) + max (2 ^ 52 * den) num := by
  obtain ⟨L, _, h1, h2, h3⟩ := h.between hd hr
  have hg := Nat.mul_le_mul_right den (fxr_gap L)
  have hm : max (2 ^ 52) (fxr L) * den ≤ max (2 ^ 52 * den) num := by
    rcases Nat.le_total (2 ^ 52) (fxr L) with k | k
    · rw [Nat.max_eq_right k]; exact Nat.le_trans h1 (Nat.le_max_right ..)
    · rw [Nat.max_eq_left k]; exact Nat.le_max_left ..
  rw [Nat.add_mul, Nat.mul_assoc, Nat.mul_assoc] at hg
  generalize max (2 ^ 52) (fxr L) * den = g at *
  generalize max (2 ^ 52 * den) num = G at *
  have hmono := Nat.mul_le_mul_right den (Nat.le_of_lt (fxr_step L))
  rcases h3 with rfl | rfl
  · omega
  · omega
end Go.Lk
