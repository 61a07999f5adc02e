import Derived.Test.YtmomainjlncogaaBa5
import Derived.Test.YtmomainjlncogaaBa3
import Derived.Test.YtmomainjlncogaaBa7
import Derived.Test.YtmomainjlncogaaBa4
import Derived.Test.YtmomainjlncogaaProg
import Derived.JoinedOf
import Derived.KernelRfl
section
/- wakes: reckoned. -/
namespace Go.Lk
open Go.Proofs
set_option maxRecDepth 100000
end Go.Lk
end

section
/- PulseSigns: its rounds and paths. -/
namespace Go.Lk
open Go.Proofs
set_option maxRecDepth 100000
set_option maxHeartbeats 0
set_option linter.unusedVariables false
set_option linter.unusedSimpArgs false
end Go.Lk
end

section
/- Whole numbers as floats: sums and products are exact below 2^53. -/
namespace Go.Lk
open Ieee (Format Datum Toward)
set_option linter.unusedSimpArgs false
set_option linter.unusedVariables false
/-- The float x is the whole number z. -/
def IsW (x : Nat) (z : Int) : Prop := isFin x = true ∧ fx x = z * (U : Int)
theorem U_form : ∃ u, U = 2 ^ u := by obtain ⟨u, _, h⟩ := U_spec; exact ⟨u, h⟩
theorem rnd_w {s : Bool} {z : Int} (h : z.natAbs < 2 ^ 53) : IsW (rnd s (z * (U : Int))) z := by
  obtain ⟨u, hu⟩ := U_form
  obtain ⟨r1, r2, _⟩ := rnd_exact (z := s) (T := z * (U : Int)) (R := 4850376798678024192) (by decide) (by
    rw [Int.natAbs_mul, Int.natAbs_natCast, fxr_big]
    exact Nat.mul_le_mul_right _ (by omega)) ⟨z.natAbs, u, by rw [Int.natAbs_mul, Int.natAbs_natCast, hu], h⟩
  exact ⟨r1, r2⟩
theorem IsW.add {x y : Nat} {a b : Int} (hx : IsW x a) (hy : IsW y b) (h : (a + b).natAbs < 2 ^ 53) : IsW (fadd x y) (a + b) := by
  rw [fadd_fin hx.1 hy.1, hx.2, hy.2, ← Int.add_mul]
  exact rnd_w h
theorem IsW.sub {x y : Nat} {a b : Int} (hx : IsW x a) (hy : IsW y b) (h : (a - b).natAbs < 2 ^ 53) : IsW (fsub x y) (a - b) := by
  rw [fsub_fin hx.1 hy.1, hx.2, hy.2, ← Int.sub_mul]
  exact rnd_w h
theorem IsW.abs {x : Nat} {a : Int} (hx : IsW x a) : fxr (rg x) = a.natAbs * U := by
  have := fx_abs x
  rw [hx.2, Int.natAbs_mul, Int.natAbs_natCast] at this
  exact this.symm
theorem IsW.sg_of {x : Nat} {a : Int} (hx : IsW x a) (h : a ≠ 0) : sg x = decide (a < 0) := by
  have hU := U_pos
  have h1 : fx x ≠ 0 := by rw [hx.2]; exact Int.mul_ne_zero h (by omega)
  rw [sg_fx h1, hx.2]
  by_cases h0 : a < 0
  · rw [decide_eq_true h0]
    exact decide_eq_true (Int.mul_neg_of_neg_of_pos h0 (by omega))
  · rw [decide_eq_false h0]
    refine decide_eq_false fun h2 => ?_
    have : 0 ≤ a * (U : Int) := Int.mul_nonneg (by omega) (by omega)
    omega
theorem IsW.mul {x y : Nat} {a b : Int} (hx : IsW x a) (hy : IsW y b) (h : (a * b).natAbs < 2 ^ 53) : IsW (fmul x y) (a * b) := by
  obtain ⟨r, e, hr⟩ := fmul_near hx.1 hy.1
  have hU := U_pos
  obtain ⟨u, hu⟩ := U_form
  rw [hx.abs, hy.abs] at hr
  obtain ⟨l1, l2⟩ := rung_small (T := (a * b).natAbs * U) (r := 4850376798678024192) (by rw [fxr_big]; exact Nat.mul_le_mul_right _ (by omega)) (by decide) ⟨(a * b).natAbs, u, by rw [hu], h⟩
  have key : fxr (rung ((a * b).natAbs * U)) * U = a.natAbs * U * (b.natAbs * U) := by
    rw [l2, Int.natAbs_mul, Nat.mul_assoc, Nat.mul_assoc, Nat.mul_assoc, ← Nat.mul_assoc U, Nat.mul_comm U b.natAbs, Nat.mul_assoc]
  have e1 := hr.le_of (R := rung ((a * b).natAbs * U)) (by unfold infR; omega) (by omega)
  have e2 := hr.ge_of (R := rung ((a * b).natAbs * U)) (by unfold infR; omega) (by omega)
  have er : r = rung ((a * b).natAbs * U) := by omega
  rw [e, er]
  refine ⟨fin_wd l1, ?_⟩
  rw [fx_wd (rung_lt _), l2, sgn_mul]
  have hs : sgn (sg x ^^ sg y) (a * b).natAbs = a * b := by
    by_cases ha : a = 0
    · subst ha; simp [sgn]
    · by_cases hb : b = 0
      · subst hb; simp [sgn]
      · rw [hx.sg_of ha, hy.sg_of hb]
        unfold sgn
        rcases Int.lt_or_le a 0 with h1 | h1
        · rcases Int.lt_or_le b 0 with h2 | h2
          · rw [decide_eq_true h1, decide_eq_true h2]
            have : 0 < a * b := Int.mul_pos_of_neg_of_neg h1 h2
            simp; omega
          · rw [decide_eq_true h1, decide_eq_false (by omega)]
            have : a * b < 0 := Int.mul_neg_of_neg_of_pos h1 (by omega)
            simp; omega
        · rcases Int.lt_or_le b 0 with h2 | h2
          · rw [decide_eq_false (by omega), decide_eq_true h2]
            have : a * b < 0 := Int.mul_neg_of_pos_of_neg (by omega) h2
            simp; omega
          · rw [decide_eq_false (by omega), decide_eq_false (by omega)]
            have : 0 ≤ a * b := Int.mul_nonneg h1 h2
            simp; omega
  rw [hs]
theorem IsW.neg {x : Nat} {a : Int} (hl : x < 2 ^ 64) (hx : IsW x a) : IsW (fneg x) (-a) := by
  obtain ⟨n1, n2, _⟩ := fneg_fin hl hx.1
  exact ⟨n1, by rw [n2, hx.2, Int.neg_mul]⟩
theorem isW_near {n : Int} (h : n.natAbs < 2 ^ 53) : IsW (FloatKind.f64.nearest n) n := ⟨(near_fx h).1, (near_fx h).2.1⟩
theorem isW_0 : IsW 0 0 := ⟨fin_zero, by rw [fx_0]; simp⟩
theorem isW_1 : IsW 4607182418800017408 1 := ⟨fin_one, by rw [Int.one_mul]; exact fx_one⟩
theorem IsW.feq_of {x y : Nat} {a : Int} (hx : IsW x a) (hy : IsW y a) : feq x y = true := by
  rw [feq_fin hx.1 hy.1, hx.2, hy.2]; exact decide_eq_true rfl
/-! ### Sums -/
def sumZ (z : Nat → Int) : Nat → Int
  | 0 => 0
  | k + 1 => sumZ z k + z k
theorem sumZ_bound {z : Nat → Int} {B : Nat} : ∀ {m : Nat}, (∀ i, i < m → (z i).natAbs ≤ B) → (sumZ z m).natAbs ≤ m * B
  | 0, _ => by simp [sumZ]
  | m + 1, h => by
    have h1 := sumZ_bound (m := m) (B := B) fun i hi => h i (by omega)
    have h2 := h m (by omega)
    show (sumZ z m + z m).natAbs ≤ _
    rw [Nat.add_mul, Nat.one_mul]
    omega
theorem sumZ_congr {z w : Nat → Int} : ∀ {m : Nat}, (∀ i, i < m → z i = w i) → sumZ z m = sumZ w m
  | 0, _ => rfl
  | m + 1, h => by
    show sumZ z m + z m = sumZ w m + w m
    rw [sumZ_congr fun i hi => h i (by omega), h m (by omega)]
theorem sumZ_add (z w : Nat → Int) : ∀ m, sumZ (fun i => z i + w i) m = sumZ z m + sumZ w m
  | 0 => rfl
  | m + 1 => by
    show sumZ (fun i => z i + w i) m + (z m + w m) = sumZ z m + z m + (sumZ w m + w m)
    rw [sumZ_add z w m]; omega
end Go.Lk
end

section
/- PulseSigns: joined. -/
namespace Go.Lk
open Go.Proofs
set_option maxRecDepth 100000
set_option maxHeartbeats 0
set_option linter.unusedVariables false
set_option linter.unusedSimpArgs false
/-! ### Sums of whole numbers -/
theorem smA_w {f : Nat → Nat} {z : Nat → Int} {B : Nat} : ∀ {k : Nat}, (∀ i, i ≤ k → IsW (f i) (z i) ∧ (z i).natAbs ≤ B) → (k + 1) * B < 2 ^ 53 → IsW (smA f k) (sumZ z (k + 1))
  | 0, h, hB => by
    have : sumZ z 1 = z 0 := by show 0 + z 0 = z 0; omega
    rw [this]
    exact (h 0 (Nat.le_refl _)).1
  | k + 1, h, hB => by
    have h1 := smA_w (k := k) (fun i hi => h i (by omega)) (Nat.lt_of_le_of_lt (Nat.mul_le_mul_right _ (by omega)) hB)
    have h2 := h (k + 1) (Nat.le_refl _)
    have h3 := sumZ_bound (z := z) (B := B) (m := k + 1 + 1) fun i hi => (h i (by omega)).2
    exact h1.add h2.1 (Nat.lt_of_le_of_lt h3 hB)
theorem sumC_w {f : Nat → Nat} {z : Nat → Int} {B m : Nat} (h : ∀ i, i < m → IsW (f i) (z i) ∧ (z i).natAbs ≤ B) (hB : m * B < 2 ^ 53) : IsW (sumC f m) (sumZ z m) := by
  unfold sumC
  cases m with
  | zero => exact isW_0
  | succ m => exact smA_w (k := m) (fun i hi => h i (by omega)) hB
/-! ### A row of signs held against itself -/
/-! ### The walk -/
end Go.Lk
end

section
/- BeamAdds: the plain law; joined. -/
namespace Go.Lk
open Go.Proofs
set_option maxRecDepth 100000
set_option maxHeartbeats 0
set_option linter.unusedVariables false
set_option linter.unusedSimpArgs false
theorem wh_w (a : Int) : IsW (wh a) (a.tmod 524288) ∧ (a.tmod 524288).natAbs ≤ 2 ^ 19 := by
  have h : (a.tmod 524288).natAbs < 524288 := by
    rw [Int.natAbs_tmod]; exact Nat.mod_lt _ (by decide)
  have e : wh a = FloatKind.f64.nearest (a.tmod 524288) := rfl
  rw [e]
  exact ⟨isW_near (by omega), by omega⟩
theorem fo_w {x y : Nat → Nat → Nat} {wr wi : Nat → Nat} {X Y P Q : Nat → Int} {n i : Nat} (hn : n ≤ 64) (hx : ∀ k, k < n → IsW (x k i) (X k) ∧ IsW (y k i) (Y k) ∧ (X k).natAbs ≤ 2 ^ 20 ∧ (Y k).natAbs ≤ 2 ^ 20) (hl : ∀ k, wi k < 2 ^ 64)
    (hw : ∀ k, k < n → IsW (wr k) (P k) ∧ IsW (wi k) (Q k) ∧ (P k).natAbs ≤ 2 ^ 19 ∧ (Q k).natAbs ≤ 2 ^ 19) :
    IsW (foR x y wr wi n i) (sumZ (fun k => X k * P k + Y k * Q k) n) ∧ IsW (foI x y wr wi n i) (sumZ (fun k => Y k * P k - X k * Q k) n) := by
  have hm : ∀ a b : Int, a.natAbs ≤ 2 ^ 20 → b.natAbs ≤ 2 ^ 19 → (a * b).natAbs ≤ 2 ^ 39 := fun a b ha hb => by
    rw [Int.natAbs_mul]
    have := Nat.mul_le_mul ha hb
    omega
  have hB : n * 2 ^ 40 < 2 ^ 53 := by
    have : n * 2 ^ 40 ≤ 64 * 2 ^ 40 := Nat.mul_le_mul_right _ hn
    omega
  unfold foR foI
  constructor
  · refine sumC_w (B := 2 ^ 40) (fun k hk => ?_) hB
    obtain ⟨x1, y1, bx, bY⟩ := hx k hk
    obtain ⟨w1, w2, bp, bq⟩ := hw k hk
    have m1 := hm _ _ bx bp
    have m2 := hm _ _ bY bq
    have nq : (-Q k).natAbs = (Q k).natAbs := Int.natAbs_neg _
    have e1 := x1.mul w1 (by omega)
    have e2 := y1.mul (w2.neg (hl k)) (by rw [Int.mul_neg, Int.natAbs_neg]; omega)
    rw [Int.mul_neg] at e2
    have e3 := e1.sub e2 (by omega)
    rw [Int.sub_neg] at e3
    exact ⟨e3, by omega⟩
  · refine sumC_w (B := 2 ^ 40) (fun k hk => ?_) hB
    obtain ⟨x1, y1, bx, bY⟩ := hx k hk
    obtain ⟨w1, w2, bp, bq⟩ := hw k hk
    have m1 := hm _ _ bY bp
    have m2 := hm _ _ bx bq
    have e1 := y1.mul w1 (by omega)
    have e2 := x1.mul (w2.neg (hl k)) (by rw [Int.mul_neg, Int.natAbs_neg]; omega)
    rw [Int.mul_neg] at e2
    have e3 := e2.add e1 (by omega)
    have e4 : -(X k * Q k) + Y k * P k = Y k * P k - X k * Q k := by omega
    rw [e4] at e3
    exact ⟨e3, by omega⟩
theorem near_lt (z : Int) : FloatKind.f64.nearest z < 2 ^ 64 := by
  have e : FloatKind.f64.nearest z = dbl.nearest (decide (z < 0)) z.natAbs 0 := rfl
  rw [e, nearest_eq _ _ _ (by omega)]
  have := rung_lt (z.natAbs * 2 ^ ((0 : Int) + 1074).toNat)
  generalize rung (z.natAbs * 2 ^ ((0 : Int) + 1074).toNat) = r at *
  unfold wd
  cases decide (z < 0) <;> simp <;> omega
section
variable (p q r s u v : Nat → Int)
def baAx (k : Nat) : Nat → Nat | 0 => wh (p k) | _ => wh (r k)
def baAy (k : Nat) : Nat → Nat | 0 => wh (q k) | _ => wh (s k)
def baBx (k : Nat) : Nat → Nat | 0 => wh (r k) | _ => 4607182418800017408
def baBy (k : Nat) : Nat → Nat | 0 => wh (s k) | _ => 0
def baCx (k : Nat) : Nat → Nat | 0 => fadd (wh (p k)) (wh (r k)) | _ => fadd (wh (r k)) 4607182418800017408
def baCy (k : Nat) : Nat → Nat | 0 => fadd (wh (q k)) (wh (s k)) | _ => fadd (wh (s k)) 0
def baWr (k : Nat) : Nat := wh (u k)
def baWi (k : Nat) : Nat := wh (v k)
theorem sumZ_plus {a b c : Nat → Int} {n : Nat} (h : ∀ k, k < n → a k = b k + c k) : sumZ a n = sumZ b n + sumZ c n := by
  rw [sumZ_congr h, sumZ_add]
/-- What is formed of both is what is formed of each, together. -/
theorem ba_law (n : Nat) (hn : n ≤ 64) (i : Nat) (hi : i < 2) :
    (feq (foR (baCx p r) (baCy q s) (baWr u) (baWi v) n i) (fadd (foR (baAx p r) (baAy q s) (baWr u) (baWi v) n i) (foR (baBx r) (baBy s) (baWr u) (baWi v) n i)) &&
      feq (foI (baCx p r) (baCy q s) (baWr u) (baWi v) n i) (fadd (foI (baAx p r) (baAy q s) (baWr u) (baWi v) n i) (foI (baBx r) (baBy s) (baWr u) (baWi v) n i))) = true := by
  have hw : ∀ k, k < n → IsW (baWr u k) ((u k).tmod 524288) ∧ IsW (baWi v k) ((v k).tmod 524288) ∧ ((u k).tmod 524288).natAbs ≤ 2 ^ 19 ∧ ((v k).tmod 524288).natAbs ≤ 2 ^ 19 := fun k _ => ⟨(wh_w (u k)).1, (wh_w (v k)).1, (wh_w (u k)).2, (wh_w (v k)).2⟩
  have hl : ∀ k, baWi v k < 2 ^ 64 := fun k => near_lt _
  have key : ∀ (XA YA XB YB XC YC : Nat → Int), (∀ k, k < n → XC k = XA k + XB k ∧ YC k = YA k + YB k) →
      (∀ k, k < n → IsW (baAx p r k i) (XA k) ∧ IsW (baAy q s k i) (YA k) ∧ (XA k).natAbs ≤ 2 ^ 20 ∧ (YA k).natAbs ≤ 2 ^ 20) →
      (∀ k, k < n → IsW (baBx r k i) (XB k) ∧ IsW (baBy s k i) (YB k) ∧ (XB k).natAbs ≤ 2 ^ 20 ∧ (YB k).natAbs ≤ 2 ^ 20) →
      (∀ k, k < n → IsW (baCx p r k i) (XC k) ∧ IsW (baCy q s k i) (YC k) ∧ (XC k).natAbs ≤ 2 ^ 20 ∧ (YC k).natAbs ≤ 2 ^ 20) →
      (feq (foR (baCx p r) (baCy q s) (baWr u) (baWi v) n i) (fadd (foR (baAx p r) (baAy q s) (baWr u) (baWi v) n i) (foR (baBx r) (baBy s) (baWr u) (baWi v) n i)) &&
        feq (foI (baCx p r) (baCy q s) (baWr u) (baWi v) n i) (fadd (foI (baAx p r) (baAy q s) (baWr u) (baWi v) n i) (foI (baBx r) (baBy s) (baWr u) (baWi v) n i))) = true := by
    intro XA YA XB YB XC YC hc ha hb hcc
    obtain ⟨a1, a2⟩ := fo_w hn ha hl hw
    obtain ⟨b1, b2⟩ := fo_w hn hb hl hw
    obtain ⟨c1, c2⟩ := fo_w hn hcc hl hw
    have s1 := sumZ_plus (n := n) (a := fun k => XC k * (u k).tmod 524288 + YC k * (v k).tmod 524288) (b := fun k => XA k * (u k).tmod 524288 + YA k * (v k).tmod 524288) (c := fun k => XB k * (u k).tmod 524288 + YB k * (v k).tmod 524288) fun k hk => by
      rw [(hc k hk).1, (hc k hk).2, Int.add_mul, Int.add_mul]; omega
    have s2 := sumZ_plus (n := n) (a := fun k => YC k * (u k).tmod 524288 - XC k * (v k).tmod 524288) (b := fun k => YA k * (u k).tmod 524288 - XA k * (v k).tmod 524288) (c := fun k => YB k * (u k).tmod 524288 - XB k * (v k).tmod 524288) fun k hk => by
      rw [(hc k hk).1, (hc k hk).2, Int.add_mul, Int.add_mul]; omega
    have bd : ∀ (X Y : Nat → Int), (∀ k, k < n → (X k).natAbs ≤ 2 ^ 20 ∧ (Y k).natAbs ≤ 2 ^ 20) → (sumZ (fun k => X k * (u k).tmod 524288 + Y k * (v k).tmod 524288) n).natAbs ≤ n * 2 ^ 40 ∧ (sumZ (fun k => Y k * (u k).tmod 524288 - X k * (v k).tmod 524288) n).natAbs ≤ n * 2 ^ 40 := fun X Y h => by
      have hm : ∀ a b : Int, a.natAbs ≤ 2 ^ 20 → b.natAbs ≤ 2 ^ 19 → (a * b).natAbs ≤ 2 ^ 39 := fun a b ha hb => by
        rw [Int.natAbs_mul]
        have := Nat.mul_le_mul ha hb
        omega
      exact ⟨sumZ_bound fun k hk => by
        have := hm _ _ (h k hk).1 (hw k hk).2.2.1
        have := hm _ _ (h k hk).2 (hw k hk).2.2.2
        omega, sumZ_bound fun k hk => by
        have := hm _ _ (h k hk).2 (hw k hk).2.2.1
        have := hm _ _ (h k hk).1 (hw k hk).2.2.2
        omega⟩
    have hN : n * 2 ^ 40 ≤ 64 * 2 ^ 40 := Nat.mul_le_mul_right _ hn
    obtain ⟨d1, d2⟩ := bd XC YC fun k hk => ⟨(hcc k hk).2.2.1, (hcc k hk).2.2.2⟩
    have e1 := a1.add b1 (by rw [← s1]; omega)
    have e2 := a2.add b2 (by rw [← s2]; omega)
    rw [← s1] at e1
    rw [← s2] at e2
    rw [c1.feq_of e1, c2.feq_of e2]; rfl
  have wp := fun k => wh_w (p k)
  have wq := fun k => wh_w (q k)
  have wrr := fun k => wh_w (r k)
  have wss := fun k => wh_w (s k)
  match i, hi with
  | 0, _ =>
    refine key (fun k => (p k).tmod 524288) (fun k => (q k).tmod 524288) (fun k => (r k).tmod 524288) (fun k => (s k).tmod 524288) (fun k => (p k).tmod 524288 + (r k).tmod 524288) (fun k => (q k).tmod 524288 + (s k).tmod 524288) (fun k _ => ⟨rfl, rfl⟩) (fun k _ => ?_) (fun k _ => ?_) (fun k _ => ?_)
    · exact ⟨(wp k).1, (wq k).1, by have := (wp k).2; omega, by have := (wq k).2; omega⟩
    · exact ⟨(wrr k).1, (wss k).1, by have := (wrr k).2; omega, by have := (wss k).2; omega⟩
    · have a1 := (wp k).2
      have a2 := (wq k).2
      have a3 := (wrr k).2
      have a4 := (wss k).2
      exact ⟨(wp k).1.add (wrr k).1 (by omega), (wq k).1.add (wss k).1 (by omega), by omega, by omega⟩
  | 1, _ =>
    refine key (fun k => (r k).tmod 524288) (fun k => (s k).tmod 524288) (fun _ => 1) (fun _ => 0) (fun k => (r k).tmod 524288 + 1) (fun k => (s k).tmod 524288 + 0) (fun k _ => ⟨rfl, rfl⟩) (fun k _ => ?_) (fun k _ => ?_) (fun k _ => ?_)
    · exact ⟨(wrr k).1, (wss k).1, by have := (wrr k).2; omega, by have := (wss k).2; omega⟩
    · exact ⟨isW_1, isW_0, by decide, by decide⟩
    · have a3 := (wrr k).2
      have a4 := (wss k).2
      exact ⟨(wrr k).1.add isW_1 (by omega), (wss k).1.add isW_0 (by omega), by omega, by omega⟩
  | i + 2, hi => omega
end
end Go.Lk
end

section
/- BeamAdds: of any tables it tells true. -/
namespace Go.Lk
open Go.Proofs
set_option maxRecDepth 100000
set_option maxHeartbeats 0
set_option linter.unusedVariables false
set_option linter.unusedSimpArgs false
theorem ld_out {σ : AHeap} {o n i : Nat} {x y : Nat → Nat → Nat} {wr wi : Nat → Nat} (h : σ[o]? = some (foRow x y wr wi n 2)) (hi : i < 2) : aLoad Try.prog σ 27 (.pointer (some ⟨o, i, none⟩)) = some (.complex .f64 (foR x y wr wi n i) (foI x y wr wi n i)) := by
  unfold foRow at h
  rw [half2_full] at h
  exact load_one (k := i) (n := 2) (g := fun i => .complex .f64 (foR x y wr wi n i) (foI x y wr wi n i)) h (by kernel_rfl) rfl hi
theorem dLBa_P : dLBa.P = Try.prog := rfl
theorem dLBa_ex : dLBa.ex = false := rfl
theorem dBf_P (g : HeapFn) : (dBf g).P = Try.prog := rfl
theorem dBf_ex (g : HeapFn) : (dBf g).ex = false := rfl
theorem toBf {g : HeapFn} {n0 : Nat} {c : Code} {fr fr' : List Value} {σ σ' : AHeap} {e : Exit} (h : Sim dLBa n0 c fr σ e fr' σ') : Sim (dBf g) n0 c fr σ e fr' σ' := Sim.cfg (dLBa_P.trans (dBf_P g).symm) (dLBa_ex.trans (dBf_ex g).symm) h
/-- Three calls of one function, each over its own heap. -/
noncomputable def threeF (f : Nat) (A1 A2 A3 : List Value) (H1 H2 H3 H4 : AHeap) (V1 V2 V3 : Value) : HeapFn := fun args σ =>
  open Classical in if args = A1 ∧ σ = H1 ∧ CallR Try.prog false f A1 H1 V1 H2 ∧ H1.length ≤ H2.length then some (V1, H2)
  else if args = A2 ∧ σ = H2 ∧ CallR Try.prog false f A2 H2 V2 H3 ∧ H2.length ≤ H3.length then some (V2, H3)
  else if args = A3 ∧ σ = H3 ∧ CallR Try.prog false f A3 H3 V3 H4 ∧ H3.length ≤ H4.length then some (V3, H4) else none
theorem threeF_ok (f : Nat) (A1 A2 A3 : List Value) (H1 H2 H3 H4 : AHeap) (V1 V2 V3 : Value) : IsHeap Try.prog false f false (threeF f A1 A2 A3 H1 H2 H3 H4 V1 V2 V3) := by
  have key : ∀ args σ v σ', threeF f A1 A2 A3 H1 H2 H3 H4 V1 V2 V3 args σ = some (v, σ') → CallR Try.prog false f args σ v σ' ∧ σ.length ≤ σ'.length := by
    intro args σ v σ' h
    unfold threeF at h
    split at h
    · rename_i hc
      obtain ⟨rfl, rfl, h1, h2⟩ := hc
      cases h; exact ⟨h1, h2⟩
    · split at h
      · rename_i hc
        obtain ⟨rfl, rfl, h1, h2⟩ := hc
        cases h; exact ⟨h1, h2⟩
      · split at h
        · rename_i hc
          obtain ⟨rfl, rfl, h1, h2⟩ := hc
          cases h; exact ⟨h1, h2⟩
        · cases h
  exact ⟨fun _ _ _ _ h => (key _ _ _ _ h).1, (by intro h; cases h), fun _ _ _ _ h => (key _ _ _ _ h).2⟩
section
variable (p q r s u v : Nat → Int) (M1 M2 M3 : Nat) (o1 o2 o3 : Option Nat) (n1 c1 n2 c2 n c3 : Nat) (h0 : 0 < n) (hn : n ≤ 64) (hn1 : n ≤ n1) (hn2 : n ≤ n2) (hm1 : n1 ≤ M1) (hm2 : n2 ≤ M2) (hm3 : n ≤ M3)
include h0 hn hn1 hn2 hm1 hm2 hm3
theorem ba_main : ∃ σ1, CallR Try.prog false 26 [.slice (some ⟨0, 0, some 2⟩) n1 c1, .slice (some ⟨1, 0, some 2⟩) n2 c2, .slice (some ⟨2, 0, some 2⟩) n c3] [baIn p q M1 o1, baIn r s M2 o2, baIn u v M3 o3] (.bool true) σ1 := by
  have inv := baS_inv (p := p) (q := q) (r := r) (s := s) (u := u) (v := v) (M1 := M1) (M2 := M2) (M3 := M3) (o1 := o1) (o2 := o2) (o3 := o3) n
  have hloop := fun hst => ba_loop (p := p) (q := q) (r := r) (s := s) (u := u) (v := v) (M1 := M1) (M2 := M2) (M3 := M3) (o1 := o1) (o2 := o2) (o3 := o3) n1 c1 n2 c2 n c3 h0 hn hn1 hn2 hm1 hm2 hm3 hst
  have hlen3 : 3 ≤ (baS p q r s u v M1 M2 M3 o1 o2 o3 n).length := by rw [inv.len]; omega
  generalize baS p q r s u v M1 M2 M3 o1 o2 o3 n = S at *
  obtain ⟨tA, tB, tC, tW⟩ := inv.top h0
  -- the three calls
  have k1 : CallR Try.prog false 113 [.slice (some ⟨baP n 2, 0, some 1⟩) n n, .slice (some ⟨baP n 10, 0, some 1⟩) n n] S (.tuple #[.slice (some ⟨S.length + 1, 0, some 1⟩) 2 2, .int .i64 0]) (S ++ fmTl (baP n 2) (baAx p r) (baAy q s) (baWr u) (baWi v) n 2) :=
    form_any S (baP n 2) (baP n 10) n (fun k => 3 + 11 * k + 0) (baAx p r) (baAy q s) (baWr u) (baWi v) n true true (some 1) (some 1) h0 hn (Nat.le_refl _) tA n (Nat.le_refl _) tW (fun k hk => ⟨true, none, (inv.rows k hk).1⟩)
  obtain ⟨S1, hS1⟩ : ∃ S1, S1 = S ++ fmTl (baP n 2) (baAx p r) (baAy q s) (baWr u) (baWi v) n 2 := ⟨_, rfl⟩
  rw [← hS1] at k1
  have up1 : ∀ {b : Nat} {o : AObj}, S[b]? = some o → S1[b]? = some o := fun h => by rw [hS1]; exact app_left h
  have out1 : S1[S.length + 1]? = some (foRow (baAx p r) (baAy q s) (baWr u) (baWi v) n 2) := by rw [hS1]; exact app_at (j := 1) rfl rfl
  have le1 : S.length ≤ S1.length := by rw [hS1]; simp
  clear hS1
  have k2 : CallR Try.prog false 113 [.slice (some ⟨baP n 5, 0, some 1⟩) n n, .slice (some ⟨baP n 10, 0, some 1⟩) n n] S1 (.tuple #[.slice (some ⟨S1.length + 1, 0, some 1⟩) 2 2, .int .i64 0]) (S1 ++ fmTl (baP n 5) (baBx r) (baBy s) (baWr u) (baWi v) n 2) :=
    form_any S1 (baP n 5) (baP n 10) n (fun k => 3 + 11 * k + 3) (baBx r) (baBy s) (baWr u) (baWi v) n true true (some 1) (some 1) h0 hn (Nat.le_refl _) (up1 tB) n (Nat.le_refl _) (up1 tW) (fun k hk => ⟨true, none, up1 (inv.rows k hk).2.1⟩)
  obtain ⟨S2, hS2⟩ : ∃ S2, S2 = S1 ++ fmTl (baP n 5) (baBx r) (baBy s) (baWr u) (baWi v) n 2 := ⟨_, rfl⟩
  rw [← hS2] at k2
  have up2 : ∀ {b : Nat} {o : AObj}, S1[b]? = some o → S2[b]? = some o := fun h => by rw [hS2]; exact app_left h
  have out2 : S2[S1.length + 1]? = some (foRow (baBx r) (baBy s) (baWr u) (baWi v) n 2) := by rw [hS2]; exact app_at (j := 1) rfl rfl
  have le2 : S1.length ≤ S2.length := by rw [hS2]; simp
  clear hS2
  have k3 : CallR Try.prog false 113 [.slice (some ⟨baP n 8, 0, some 1⟩) n n, .slice (some ⟨baP n 10, 0, some 1⟩) n n] S2 (.tuple #[.slice (some ⟨S2.length + 1, 0, some 1⟩) 2 2, .int .i64 0]) (S2 ++ fmTl (baP n 8) (baCx p r) (baCy q s) (baWr u) (baWi v) n 2) :=
    form_any S2 (baP n 8) (baP n 10) n (fun k => 3 + 11 * k + 6) (baCx p r) (baCy q s) (baWr u) (baWi v) n true true (some 1) (some 1) h0 hn (Nat.le_refl _) (up2 (up1 tC)) n (Nat.le_refl _) (up2 (up1 tW)) (fun k hk => ⟨true, none, up2 (up1 (inv.rows k hk).2.2)⟩)
  obtain ⟨S3, hS3⟩ : ∃ S3, S3 = S2 ++ fmTl (baP n 8) (baCx p r) (baCy q s) (baWr u) (baWi v) n 2 := ⟨_, rfl⟩
  rw [← hS3] at k3
  have up3 : ∀ {b : Nat} {o : AObj}, S2[b]? = some o → S3[b]? = some o := fun h => by rw [hS3]; exact app_left h
  have out3 : S3[S2.length + 1]? = some (foRow (baCx p r) (baCy q s) (baWr u) (baWi v) n 2) := by rw [hS3]; exact app_at (j := 1) rfl rfl
  have le3 : S2.length ≤ S3.length := by rw [hS3]; simp
  clear hS3
  obtain ⟨g, hg, t1, t2, t3⟩ : ∃ g : HeapFn, IsHeap Try.prog false 113 false g ∧
      g [.slice (some ⟨baP n 2, 0, some 1⟩) n n, .slice (some ⟨baP n 10, 0, some 1⟩) n n] S = some (.tuple #[.slice (some ⟨S.length + 1, 0, some 1⟩) 2 2, .int .i64 0], S1) ∧
      g [.slice (some ⟨baP n 5, 0, some 1⟩) n n, .slice (some ⟨baP n 10, 0, some 1⟩) n n] S1 = some (.tuple #[.slice (some ⟨S1.length + 1, 0, some 1⟩) 2 2, .int .i64 0], S2) ∧
      g [.slice (some ⟨baP n 8, 0, some 1⟩) n n, .slice (some ⟨baP n 10, 0, some 1⟩) n n] S2 = some (.tuple #[.slice (some ⟨S2.length + 1, 0, some 1⟩) 2 2, .int .i64 0], S3) := by
    have d12 : ([.slice (some ⟨baP n 5, 0, some 1⟩) n n, .slice (some ⟨baP n 10, 0, some 1⟩) n n] : List Value) ≠ [.slice (some ⟨baP n 2, 0, some 1⟩) n n, .slice (some ⟨baP n 10, 0, some 1⟩) n n] := by
      intro h; simp [baP] at h
    have d13 : ([.slice (some ⟨baP n 8, 0, some 1⟩) n n, .slice (some ⟨baP n 10, 0, some 1⟩) n n] : List Value) ≠ [.slice (some ⟨baP n 2, 0, some 1⟩) n n, .slice (some ⟨baP n 10, 0, some 1⟩) n n] := by
      intro h; simp [baP] at h
    have d23 : ([.slice (some ⟨baP n 8, 0, some 1⟩) n n, .slice (some ⟨baP n 10, 0, some 1⟩) n n] : List Value) ≠ [.slice (some ⟨baP n 5, 0, some 1⟩) n n, .slice (some ⟨baP n 10, 0, some 1⟩) n n] := by
      intro h; simp [baP] at h
    refine ⟨threeF 113 _ _ _ S S1 S2 S3 _ _ _, threeF_ok 113 [.slice (some ⟨baP n 2, 0, some 1⟩) n n, .slice (some ⟨baP n 10, 0, some 1⟩) n n] [.slice (some ⟨baP n 5, 0, some 1⟩) n n, .slice (some ⟨baP n 10, 0, some 1⟩) n n] [.slice (some ⟨baP n 8, 0, some 1⟩) n n, .slice (some ⟨baP n 10, 0, some 1⟩) n n] S S1 S2 S3 (.tuple #[.slice (some ⟨S.length + 1, 0, some 1⟩) 2 2, .int .i64 0]) (.tuple #[.slice (some ⟨S1.length + 1, 0, some 1⟩) 2 2, .int .i64 0]) (.tuple #[.slice (some ⟨S2.length + 1, 0, some 1⟩) 2 2, .int .i64 0]), ?_, ?_, ?_⟩
    · unfold threeF; rw [if_pos ⟨rfl, rfl, k1, le1⟩]
    · unfold threeF; rw [if_neg (fun h => d12 h.1), if_pos ⟨rfl, rfl, k2, le2⟩]
    · unfold threeF; rw [if_neg (fun h => d13 h.1), if_neg (fun h => d23 h.1), if_pos ⟨rfl, rfl, k3, le3⟩]
  have e2 := up3 (up2 out1)
  have e3 := up3 out2
  refine ⟨S3, baP_p0 g hg [baIn p q M1 o1, baIn r s M2 o2, baIn u v M3 o3] S S1 S2 S3 n1 c1 n2 c2 n c3 (baP n 2) (baP n 5) (baP n 8) (baP n 10) (S.length + 1) (S1.length + 1) (S2.length + 1)
    (foR (baAx p r) (baAy q s) (baWr u) (baWi v) n 0) (foI (baAx p r) (baAy q s) (baWr u) (baWi v) n 0) (foR (baAx p r) (baAy q s) (baWr u) (baWi v) n 1) (foI (baAx p r) (baAy q s) (baWr u) (baWi v) n 1)
    (foR (baBx r) (baBy s) (baWr u) (baWi v) n 0) (foI (baBx r) (baBy s) (baWr u) (baWi v) n 0) (foR (baBx r) (baBy s) (baWr u) (baWi v) n 1) (foI (baBx r) (baBy s) (baWr u) (baWi v) n 1)
    (foR (baCx p r) (baCy q s) (baWr u) (baWi v) n 0) (foI (baCx p r) (baCy q s) (baWr u) (baWi v) n 0) (foR (baCx p r) (baCy q s) (baWr u) (baWi v) n 1) (foI (baCx p r) (baCy q s) (baWr u) (baWi v) n 1)
    h0 hn hn1 hn2 hlen3 (ba_law p q r s u v n hn 0 (by omega)) (ba_law p q r s u v n hn 1 (by omega))
    (ld_out e3 (by omega)) (ld_out e2 (by omega)) (ld_out out3 (by omega)) (ld_out e3 (by omega)) (ld_out e2 (by omega)) (ld_out out3 (by omega)) t3 t2 t1 (fun hst => ?_)⟩
  have hl := hloop hst.none
  have hk : klA n (baP n 2) = some ⟨baP n 2, 0, some 1⟩ ∧ klA n (baP n 5) = some ⟨baP n 5, 0, some 1⟩ ∧ klA n (baP n 8) = some ⟨baP n 8, 0, some 1⟩ ∧ klA n (baP n 10) = some ⟨baP n 10, 0, some 1⟩ := by
    cases n with
    | zero => omega
    | succ n => exact ⟨rfl, rfl, rfl, rfl⟩
  unfold baF' at hl
  rw [hk.1, hk.2.1, hk.2.2.1, hk.2.2.2] at hl
  exact ((toBf hl).enter ([true, true, true, false, false, false, true, true, true, true, true, true] ++ List.replicate 145 false) (by kernel_rfl)).cast rfl rfl (by kernel_rfl) rfl
end
end Go.Lk
end

section
/- The program's head: what is asked of it by each row. -/
namespace Go.Lk
open Go.Proofs
set_option maxRecDepth 100000
theorem toList_lit (l : List Char) : (String.ofList l).toList = l := String.toList_ofList
theorem words_cons : ∀ (w r : List Char), (w.all fun c => c != Char.ofNat 32) = true → wordsSigns (w ++ Char.ofNat 32 :: r) = w :: wordsSigns r
  | [], r, _ => rfl
  | c :: w, r, h => by
    rw [List.all_cons, Bool.and_eq_true] at h
    have hc : c = Char.ofNat 32 → False := by simpa using h.1
    rw [List.cons_append, wordsSigns.eq_3 c _ hc, words_cons w r h.2]
def hw0 : List Char := [Char.ofNat 104, Char.ofNat 97, Char.ofNat 114, Char.ofNat 110, Char.ofNat 101, Char.ofNat 115, Char.ofNat 115]
def hw1 : List Char := [Char.ofNat 99, Char.ofNat 100, Char.ofNat 100, Char.ofNat 97, Char.ofNat 51, Char.ofNat 100, Char.ofNat 55, Char.ofNat 99, Char.ofNat 99, Char.ofNat 53, Char.ofNat 57, Char.ofNat 51, Char.ofNat 50, Char.ofNat 55, Char.ofNat 48, Char.ofNat 52, Char.ofNat 48, Char.ofNat 49, Char.ofNat 101, Char.ofNat 53, Char.ofNat 99, Char.ofNat 51, Char.ofNat 97, Char.ofNat 55, Char.ofNat 101, Char.ofNat 97, Char.ofNat 97, Char.ofNat 48, Char.ofNat 100, Char.ofNat 54, Char.ofNat 56, Char.ofNat 101, Char.ofNat 55, Char.ofNat 97, Char.ofNat 51, Char.ofNat 101, Char.ofNat 53, Char.ofNat 97, Char.ofNat 49, Char.ofNat 49, Char.ofNat 48, Char.ofNat 53, Char.ofNat 55, Char.ofNat 52, Char.ofNat 99, Char.ofNat 52, Char.ofNat 53, Char.ofNat 53, Char.ofNat 56, Char.ofNat 53, Char.ofNat 48, Char.ofNat 49, Char.ofNat 52, Char.ofNat 48, Char.ofNat 100, Char.ofNat 56, Char.ofNat 99, Char.ofNat 50, Char.ofNat 100, Char.ofNat 56, Char.ofNat 50, Char.ofNat 52, Char.ofNat 102, Char.ofNat 99]
def hw2 : List Char := [Char.ofNat 99, Char.ofNat 117, Char.ofNat 116]
def hwRest : List Char := [Char.ofNat 97, Char.ofNat 116, Char.ofNat 32, Char.ofNat 108, Char.ofNat 111, Char.ofNat 111, Char.ofNat 107, Char.ofNat 111, Char.ofNat 117, Char.ofNat 116, Char.ofNat 47, Char.ofNat 108, Char.ofNat 111, Char.ofNat 111, Char.ofNat 107, Char.ofNat 111, Char.ofNat 117, Char.ofNat 116, Char.ofNat 108, Char.ofNat 97, Char.ofNat 119, Char.ofNat 48, Char.ofNat 50, Char.ofNat 46, Char.ofNat 84, Char.ofNat 117, Char.ofNat 114, Char.ofNat 110, Char.ofNat 75, Char.ofNat 110, Char.ofNat 111, Char.ofNat 119, Char.ofNat 110, Char.ofNat 32, Char.ofNat 108, Char.ofNat 111, Char.ofNat 111, Char.ofNat 107, Char.ofNat 111, Char.ofNat 117, Char.ofNat 116, Char.ofNat 47, Char.ofNat 108, Char.ofNat 111, Char.ofNat 111, Char.ofNat 107, Char.ofNat 111, Char.ofNat 117, Char.ofNat 116, Char.ofNat 108, Char.ofNat 97, Char.ofNat 119, Char.ofNat 48, Char.ofNat 50, Char.ofNat 46, Char.ofNat 84, Char.ofNat 117, Char.ofNat 114, Char.ofNat 110, Char.ofNat 87, Char.ofNat 114, Char.ofNat 97, Char.ofNat 112, Char.ofNat 115, Char.ofNat 32, Char.ofNat 108, Char.ofNat 111, Char.ofNat 111, Char.ofNat 107, Char.ofNat 111, Char.ofNat 117, Char.ofNat 116, Char.ofNat 47, Char.ofNat 108, Char.ofNat 111, Char.ofNat 111, Char.ofNat 107, Char.ofNat 111, Char.ofNat 117, Char.ofNat 116, Char.ofNat 108, Char.ofNat 97, Char.ofNat 119, Char.ofNat 48, Char.ofNat 50, Char.ofNat 46, Char.ofNat 84, Char.ofNat 117, Char.ofNat 114, Char.ofNat 110, Char.ofNat 85, Char.ofNat 110, Char.ofNat 105, Char.ofNat 116, Char.ofNat 115, Char.ofNat 32, Char.ofNat 108, Char.ofNat 111, Char.ofNat 111, Char.ofNat 107, Char.ofNat 111, Char.ofNat 117, Char.ofNat 116, Char.ofNat 47, Char.ofNat 108, Char.ofNat 111, Char.ofNat 111, Char.ofNat 107, Char.ofNat 111, Char.ofNat 117, Char.ofNat 116, Char.ofNat 108, Char.ofNat 97, Char.ofNat 119, Char.ofNat 50, Char.ofNat 51, Char.ofNat 46, Char.ofNat 80, Char.ofNat 108, Char.ofNat 97, Char.ofNat 99, Char.ofNat 101, Char.ofNat 87, Char.ofNat 105, Char.ofNat 116, Char.ofNat 104, Char.ofNat 105, Char.ofNat 110, Char.ofNat 32, Char.ofNat 108, Char.ofNat 111, Char.ofNat 111, Char.ofNat 107, Char.ofNat 111, Char.ofNat 117, Char.ofNat 116, Char.ofNat 47, Char.ofNat 108, Char.ofNat 111, Char.ofNat 111, Char.ofNat 107, Char.ofNat 111, Char.ofNat 117, Char.ofNat 116, Char.ofNat 108, Char.ofNat 97, Char.ofNat 119, Char.ofNat 50, Char.ofNat 51, Char.ofNat 46, Char.ofNat 80, Char.ofNat 108, Char.ofNat 97, Char.ofNat 99, Char.ofNat 101, Char.ofNat 67, Char.ofNat 111, Char.ofNat 114, Char.ofNat 110, Char.ofNat 101, Char.ofNat 114, Char.ofNat 115, Char.ofNat 32, Char.ofNat 108, Char.ofNat 111, Char.ofNat 111, Char.ofNat 107, Char.ofNat 111, Char.ofNat 117, Char.ofNat 116, Char.ofNat 47, Char.ofNat 108, Char.ofNat 111, Char.ofNat 111, Char.ofNat 107, Char.ofNat 111, Char.ofNat 117, Char.ofNat 116, Char.ofNat 108, Char.ofNat 97, Char.ofNat 119, Char.ofNat 50, Char.ofNat 51, Char.ofNat 46, Char.ofNat 80, Char.ofNat 108, Char.ofNat 97, Char.ofNat 99, Char.ofNat 101, Char.ofNat 83, Char.ofNat 113, Char.ofNat 117, Char.ofNat 97, Char.ofNat 114, Char.ofNat 101, Char.ofNat 115, Char.ofNat 32, Char.ofNat 108, Char.ofNat 111, Char.ofNat 111, Char.ofNat 107, Char.ofNat 111, Char.ofNat 117, Char.ofNat 116, Char.ofNat 47, Char.ofNat 108, Char.ofNat 111, Char.ofNat 111, Char.ofNat 107, Char.ofNat 111, Char.ofNat 117, Char.ofNat 116, Char.ofNat 108, Char.ofNat 97, Char.ofNat 119, Char.ofNat 50, Char.ofNat 51, Char.ofNat 46, Char.ofNat 80, Char.ofNat 108, Char.ofNat 97, Char.ofNat 99, Char.ofNat 101, Char.ofNat 75, Char.ofNat 110, Char.ofNat 111, Char.ofNat 119, Char.ofNat 110, Char.ofNat 32, Char.ofNat 108, Char.ofNat 111, Char.ofNat 111, Char.ofNat 107, Char.ofNat 111, Char.ofNat 117, Char.ofNat 116, Char.ofNat 47, Char.ofNat 108, Char.ofNat 111, Char.ofNat 111, Char.ofNat 107, Char.ofNat 111, Char.ofNat 117, Char.ofNat 116, Char.ofNat 108, Char.ofNat 97, Char.ofNat 119, Char.ofNat 50, Char.ofNat 51, Char.ofNat 46, Char.ofNat 80, Char.ofNat 108, Char.ofNat 97, Char.ofNat 99, Char.ofNat 101, Char.ofNat 84, Char.ofNat 117, Char.ofNat 114, Char.ofNat 110, Char.ofNat 115, Char.ofNat 32, Char.ofNat 108, Char.ofNat 111, Char.ofNat 111, Char.ofNat 107, Char.ofNat 111, Char.ofNat 117, Char.ofNat 116, Char.ofNat 47, Char.ofNat 108, Char.ofNat 111, Char.ofNat 111, Char.ofNat 107, Char.ofNat 111, Char.ofNat 117, Char.ofNat 116, Char.ofNat 108, Char.ofNat 97, Char.ofNat 119, Char.ofNat 50, Char.ofNat 51, Char.ofNat 46, Char.ofNat 80, Char.ofNat 108, Char.ofNat 97, Char.ofNat 99, Char.ofNat 101, Char.ofNat 66, Char.ofNat 97, Char.ofNat 99, Char.ofNat 107, Char.ofNat 32, Char.ofNat 108, Char.ofNat 111, Char.ofNat 111, Char.ofNat 107, Char.ofNat 111, Char.ofNat 117, Char.ofNat 116, Char.ofNat 47, Char.ofNat 108, Char.ofNat 111, Char.ofNat 111, Char.ofNat 107, Char.ofNat 111, Char.ofNat 117, Char.ofNat 116, Char.ofNat 108, Char.ofNat 97, Char.ofNat 119, Char.ofNat 48, Char.ofNat 52, Char.ofNat 46, Char.ofNat 80, Char.ofNat 117, Char.ofNat 108, Char.ofNat 115, Char.ofNat 101, Char.ofNat 78, Char.ofNat 97, Char.ofNat 109, Char.ofNat 101, Char.ofNat 115, Char.ofNat 32, Char.ofNat 108, Char.ofNat 111, Char.ofNat 111, Char.ofNat 107, Char.ofNat 111, Char.ofNat 117, Char.ofNat 116, Char.ofNat 47, Char.ofNat 108, Char.ofNat 111, Char.ofNat 111, Char.ofNat 107, Char.ofNat 111, Char.ofNat 117, Char.ofNat 116, Char.ofNat 108, Char.ofNat 97, Char.ofNat 119, Char.ofNat 48, Char.ofNat 52, Char.ofNat 46, Char.ofNat 80, Char.ofNat 117, Char.ofNat 108, Char.ofNat 115, Char.ofNat 101, Char.ofNat 67, Char.ofNat 104, Char.ofNat 105, Char.ofNat 114, Char.ofNat 112, Char.ofNat 115, Char.ofNat 32, Char.ofNat 108, Char.ofNat 111, Char.ofNat 111, Char.ofNat 107, Char.ofNat 111, Char.ofNat 117, Char.ofNat 116, Char.ofNat 47, Char.ofNat 108, Char.ofNat 111, Char.ofNat 111, Char.ofNat 107, Char.ofNat 111, Char.ofNat 117, Char.ofNat 116, Char.ofNat 108, Char.ofNat 97, Char.ofNat 119, Char.ofNat 48, Char.ofNat 52, Char.ofNat 46, Char.ofNat 80, Char.ofNat 117, Char.ofNat 108, Char.ofNat 115, Char.ofNat 101, Char.ofNat 83, Char.ofNat 105, Char.ofNat 103, Char.ofNat 110, Char.ofNat 115, Char.ofNat 32, Char.ofNat 108, Char.ofNat 111, Char.ofNat 111, Char.ofNat 107, Char.ofNat 111, Char.ofNat 117, Char.ofNat 116, Char.ofNat 47, Char.ofNat 108, Char.ofNat 111, Char.ofNat 111, Char.ofNat 107, Char.ofNat 111, Char.ofNat 117, Char.ofNat 116, Char.ofNat 108, Char.ofNat 97, Char.ofNat 119, Char.ofNat 48, Char.ofNat 52, Char.ofNat 46, Char.ofNat 80, Char.ofNat 117, Char.ofNat 108, Char.ofNat 115, Char.ofNat 101, Char.ofNat 83, Char.ofNat 116, Char.ofNat 101, Char.ofNat 112, Char.ofNat 115, Char.ofNat 32, Char.ofNat 108, Char.ofNat 111, Char.ofNat 111, Char.ofNat 107, Char.ofNat 111, Char.ofNat 117, Char.ofNat 116, Char.ofNat 47, Char.ofNat 108, Char.ofNat 111, Char.ofNat 111, Char.ofNat 107, Char.ofNat 111, Char.ofNat 117, Char.ofNat 116, Char.ofNat 108, Char.ofNat 97, Char.ofNat 119, Char.ofNat 48, Char.ofNat 52, Char.ofNat 46, Char.ofNat 80, Char.ofNat 117, Char.ofNat 108, Char.ofNat 115, Char.ofNat 101, Char.ofNat 67, Char.ofNat 111, Char.ofNat 100, Char.ofNat 101, Char.ofNat 115, Char.ofNat 32, Char.ofNat 108, Char.ofNat 111, Char.ofNat 111, Char.ofNat 107, Char.ofNat 111, Char.ofNat 117, Char.ofNat 116, Char.ofNat 47, Char.ofNat 108, Char.ofNat 111, Char.ofNat 111, Char.ofNat 107, Char.ofNat 111, Char.ofNat 117, Char.ofNat 116, Char.ofNat 108, Char.ofNat 97, Char.ofNat 119, Char.ofNat 48, Char.ofNat 52, Char.ofNat 46, Char.ofNat 80, Char.ofNat 117, Char.ofNat 108, Char.ofNat 115, Char.ofNat 101, Char.ofNat 80, Char.ofNat 101, Char.ofNat 97, Char.ofNat 107, Char.ofNat 32, Char.ofNat 108, Char.ofNat 111, Char.ofNat 111, Char.ofNat 107, Char.ofNat 111, Char.ofNat 117, Char.ofNat 116, Char.ofNat 47, Char.ofNat 108, Char.ofNat 111, Char.ofNat 111, Char.ofNat 107, Char.ofNat 111, Char.ofNat 117, Char.ofNat 116, Char.ofNat 108, Char.ofNat 97, Char.ofNat 119, Char.ofNat 48, Char.ofNat 52, Char.ofNat 46, Char.ofNat 80, Char.ofNat 117, Char.ofNat 108, Char.ofNat 115, Char.ofNat 101, Char.ofNat 69, Char.ofNat 118, Char.ofNat 101, Char.ofNat 110, Char.ofNat 32, Char.ofNat 108, Char.ofNat 111, Char.ofNat 111, Char.ofNat 107, Char.ofNat 111, Char.ofNat 117, Char.ofNat 116, Char.ofNat 47, Char.ofNat 108, Char.ofNat 111, Char.ofNat 111, Char.ofNat 107, Char.ofNat 111, Char.ofNat 117, Char.ofNat 116, Char.ofNat 108, Char.ofNat 97, Char.ofNat 119, Char.ofNat 48, Char.ofNat 53, Char.ofNat 46, Char.ofNat 68, Char.ofNat 102, Char.ofNat 116, Char.ofNat 75, Char.ofNat 110, Char.ofNat 111, Char.ofNat 119, Char.ofNat 110, Char.ofNat 32, Char.ofNat 108, Char.ofNat 111, Char.ofNat 111, Char.ofNat 107, Char.ofNat 111, Char.ofNat 117, Char.ofNat 116, Char.ofNat 47, Char.ofNat 108, Char.ofNat 111, Char.ofNat 111, Char.ofNat 107, Char.ofNat 111, Char.ofNat 117, Char.ofNat 116, Char.ofNat 108, Char.ofNat 97, Char.ofNat 119, Char.ofNat 48, Char.ofNat 54, Char.ofNat 46, Char.ofNat 77, Char.ofNat 97, Char.ofNat 116, Char.ofNat 99, Char.ofNat 104, Char.ofNat 80, Char.ofNat 101, Char.ofNat 97, Char.ofNat 107, Char.ofNat 32, Char.ofNat 108, Char.ofNat 111, Char.ofNat 111, Char.ofNat 107, Char.ofNat 111, Char.ofNat 117, Char.ofNat 116, Char.ofNat 47, Char.ofNat 108, Char.ofNat 111, Char.ofNat 111, Char.ofNat 107, Char.ofNat 111, Char.ofNat 117, Char.ofNat 116, Char.ofNat 108, Char.ofNat 97, Char.ofNat 119, Char.ofNat 48, Char.ofNat 54, Char.ofNat 46, Char.ofNat 77, Char.ofNat 97, Char.ofNat 116, Char.ofNat 99, Char.ofNat 104, Char.ofNat 75, Char.ofNat 110, Char.ofNat 111, Char.ofNat 119, Char.ofNat 110, Char.ofNat 32, Char.ofNat 108, Char.ofNat 111, Char.ofNat 111, Char.ofNat 107, Char.ofNat 111, Char.ofNat 117, Char.ofNat 116, Char.ofNat 47, Char.ofNat 108, Char.ofNat 111, Char.ofNat 111, Char.ofNat 107, Char.ofNat 111, Char.ofNat 117, Char.ofNat 116, Char.ofNat 108, Char.ofNat 97, Char.ofNat 119, Char.ofNat 50, Char.ofNat 49, Char.ofNat 46, Char.ofNat 83, Char.ofNat 111, Char.ofNat 108, Char.ofNat 118, Char.ofNat 101, Char.ofNat 75, Char.ofNat 110, Char.ofNat 111, Char.ofNat 119, Char.ofNat 110, Char.ofNat 32, Char.ofNat 108, Char.ofNat 111, Char.ofNat 111, Char.ofNat 107, Char.ofNat 111, Char.ofNat 117, Char.ofNat 116, Char.ofNat 47, Char.ofNat 108, Char.ofNat 111, Char.ofNat 111, Char.ofNat 107, Char.ofNat 111, Char.ofNat 117, Char.ofNat 116, Char.ofNat 108, Char.ofNat 97, Char.ofNat 119, Char.ofNat 49, Char.ofNat 50, Char.ofNat 46, Char.ofNat 83, Char.ofNat 99, Char.ofNat 101, Char.ofNat 110, Char.ofNat 101, Char.ofNat 75, Char.ofNat 110, Char.ofNat 111, Char.ofNat 119, Char.ofNat 110, Char.ofNat 32, Char.ofNat 108, Char.ofNat 111, Char.ofNat 111, Char.ofNat 107, Char.ofNat 111, Char.ofNat 117, Char.ofNat 116, Char.ofNat 47, Char.ofNat 108, Char.ofNat 111, Char.ofNat 111, Char.ofNat 107, Char.ofNat 111, Char.ofNat 117, Char.ofNat 116, Char.ofNat 108, Char.ofNat 97, Char.ofNat 119, Char.ofNat 49, Char.ofNat 50, Char.ofNat 46, Char.ofNat 83, Char.ofNat 99, Char.ofNat 101, Char.ofNat 110, Char.ofNat 101, Char.ofNat 80, Char.ofNat 101, Char.ofNat 97, Char.ofNat 107, Char.ofNat 32, Char.ofNat 108, Char.ofNat 111, Char.ofNat 111, Char.ofNat 107, Char.ofNat 111, Char.ofNat 117, Char.ofNat 116, Char.ofNat 47, Char.ofNat 108, Char.ofNat 111, Char.ofNat 111, Char.ofNat 107, Char.ofNat 111, Char.ofNat 117, Char.ofNat 116, Char.ofNat 108, Char.ofNat 97, Char.ofNat 119, Char.ofNat 50, Char.ofNat 50, Char.ofNat 46, Char.ofNat 66, Char.ofNat 101, Char.ofNat 97, Char.ofNat 109, Char.ofNat 72, Char.ofNat 101, Char.ofNat 97, Char.ofNat 114, Char.ofNat 115, Char.ofNat 32, Char.ofNat 108, Char.ofNat 111, Char.ofNat 111, Char.ofNat 107, Char.ofNat 111, Char.ofNat 117, Char.ofNat 116, Char.ofNat 47, Char.ofNat 108, Char.ofNat 111, Char.ofNat 111, Char.ofNat 107, Char.ofNat 111, Char.ofNat 117, Char.ofNat 116, Char.ofNat 108, Char.ofNat 97, Char.ofNat 119, Char.ofNat 50, Char.ofNat 50, Char.ofNat 46, Char.ofNat 66, Char.ofNat 101, Char.ofNat 97, Char.ofNat 109, Char.ofNat 65, Char.ofNat 100, Char.ofNat 100, Char.ofNat 115, Char.ofNat 32, Char.ofNat 108, Char.ofNat 111, Char.ofNat 111, Char.ofNat 107, Char.ofNat 111, Char.ofNat 117, Char.ofNat 116, Char.ofNat 47, Char.ofNat 108, Char.ofNat 111, Char.ofNat 111, Char.ofNat 107, Char.ofNat 111, Char.ofNat 117, Char.ofNat 116, Char.ofNat 108, Char.ofNat 97, Char.ofNat 119, Char.ofNat 50, Char.ofNat 50, Char.ofNat 46, Char.ofNat 66, Char.ofNat 101, Char.ofNat 97, Char.ofNat 109, Char.ofNat 66, Char.ofNat 97, Char.ofNat 99, Char.ofNat 107, Char.ofNat 32, Char.ofNat 108, Char.ofNat 111, Char.ofNat 111, Char.ofNat 107, Char.ofNat 111, Char.ofNat 117, Char.ofNat 116, Char.ofNat 47, Char.ofNat 108, Char.ofNat 111, Char.ofNat 111, Char.ofNat 107, Char.ofNat 111, Char.ofNat 117, Char.ofNat 116, Char.ofNat 108, Char.ofNat 97, Char.ofNat 119, Char.ofNat 50, Char.ofNat 50, Char.ofNat 46, Char.ofNat 66, Char.ofNat 101, Char.ofNat 97, Char.ofNat 109, Char.ofNat 83, Char.ofNat 116, Char.ofNat 101, Char.ofNat 101, Char.ofNat 114, Char.ofNat 115, Char.ofNat 32, Char.ofNat 108, Char.ofNat 111, Char.ofNat 111, Char.ofNat 107, Char.ofNat 111, Char.ofNat 117, Char.ofNat 116, Char.ofNat 47, Char.ofNat 108, Char.ofNat 111, Char.ofNat 111, Char.ofNat 107, Char.ofNat 111, Char.ofNat 117, Char.ofNat 116, Char.ofNat 108, Char.ofNat 97, Char.ofNat 119, Char.ofNat 50, Char.ofNat 50, Char.ofNat 46, Char.ofNat 66, Char.ofNat 101, Char.ofNat 97, Char.ofNat 109, Char.ofNat 78, Char.ofNat 117, Char.ofNat 108, Char.ofNat 108, Char.ofNat 115, Char.ofNat 32, Char.ofNat 108, Char.ofNat 111, Char.ofNat 111, Char.ofNat 107, Char.ofNat 111, Char.ofNat 117, Char.ofNat 116, Char.ofNat 47, Char.ofNat 108, Char.ofNat 111, Char.ofNat 111, Char.ofNat 107, Char.ofNat 111, Char.ofNat 117, Char.ofNat 116, Char.ofNat 108, Char.ofNat 97, Char.ofNat 119, Char.ofNat 50, Char.ofNat 50, Char.ofNat 46, Char.ofNat 66, Char.ofNat 101, Char.ofNat 97, Char.ofNat 109, Char.ofNat 68, Char.ofNat 101, Char.ofNat 97, Char.ofNat 102, Char.ofNat 32, Char.ofNat 108, Char.ofNat 111, Char.ofNat 111, Char.ofNat 107, Char.ofNat 111, Char.ofNat 117, Char.ofNat 116, Char.ofNat 47, Char.ofNat 108, Char.ofNat 111, Char.ofNat 111, Char.ofNat 107, Char.ofNat 111, Char.ofNat 117, Char.ofNat 116, Char.ofNat 108, Char.ofNat 97, Char.ofNat 119, Char.ofNat 50, Char.ofNat 50, Char.ofNat 46, Char.ofNat 66, Char.ofNat 101, Char.ofNat 97, Char.ofNat 109, Char.ofNat 69, Char.ofNat 118, Char.ofNat 101, Char.ofNat 110]
theorem head_eq : Try.prog.initOrder.toList = hw0 ++ Char.ofNat 32 :: (hw1 ++ Char.ofNat 32 :: (hw2 ++ Char.ofNat 32 :: hwRest)) :=
  (show (String.ofList (hw0 ++ Char.ofNat 32 :: (hw1 ++ Char.ofNat 32 :: (hw2 ++ Char.ofNat 32 :: hwRest)))).toList = _ from String.toList_ofList)
theorem head_words : wordsSigns Try.prog.initOrder.toList = hw0 :: hw1 :: hw2 :: wordsSigns hwRest := by
  rw [head_eq, words_cons _ _ (by kernel_rfl), words_cons _ _ (by kernel_rfl), words_cons _ _ (by kernel_rfl)]
theorem harness_eq : "harness".toList = hw0 := toList_lit hw0
theorem head_main : behindMainWord (wordsSigns Try.prog.initOrder.toList) = hw2 :: wordsSigns hwRest := by
  rw [head_words]
  rw [behindMainWord, harness_eq, if_pos (by kernel_rfl)]
theorem strip_ne {o : String} {os : List String} {w : List Char} {ws : List (List Char)} {l : List Char} (h : o.toList = l) (h2 : (w == l) = false) : stripLifts (o :: os) (w :: ws) = stripLifts os (w :: ws) := by
  rw [stripLifts, h, h2]; rfl
theorem strip_cut : stripLifts liftWords (hw2 :: wordsSigns hwRest) = ([], hw2 :: wordsSigns hwRest) := by
  unfold liftWords
  rw [strip_ne (l := [Char.ofNat 102, Char.ofNat 105, Char.ofNat 110, Char.ofNat 97, Char.ofNat 108, Char.ofNat 115]) (toList_lit _) (by kernel_rfl)]
  rw [strip_ne (l := [Char.ofNat 114, Char.ofNat 101, Char.ofNat 102, Char.ofNat 108, Char.ofNat 101, Char.ofNat 99, Char.ofNat 116, Char.ofNat 114, Char.ofNat 111, Char.ofNat 119, Char.ofNat 115]) (toList_lit _) (by kernel_rfl)]
  rw [strip_ne (l := [Char.ofNat 108, Char.ofNat 101, Char.ofNat 97, Char.ofNat 110, Char.ofNat 114, Char.ofNat 111, Char.ofNat 119, Char.ofNat 115]) (toList_lit _) (by kernel_rfl)]
  rw [strip_ne (l := [Char.ofNat 111, Char.ofNat 110, Char.ofNat 101, Char.ofNat 98, Char.ofNat 117, Char.ofNat 105, Char.ofNat 108, Char.ofNat 100]) (toList_lit _) (by kernel_rfl)]
  rw [strip_ne (l := [Char.ofNat 112, Char.ofNat 117, Char.ofNat 98, Char.ofNat 108, Char.ofNat 105, Char.ofNat 99, Char.ofNat 115, Char.ofNat 117, Char.ofNat 109, Char.ofNat 115]) (toList_lit _) (by kernel_rfl)]
  rw [strip_ne (l := [Char.ofNat 101, Char.ofNat 113, Char.ofNat 103, Char.ofNat 117, Char.ofNat 97, Char.ofNat 114, Char.ofNat 100]) (toList_lit _) (by kernel_rfl)]
  rw [strip_ne (l := [Char.ofNat 111, Char.ofNat 119, Char.ofNat 110, Char.ofNat 117, Char.ofNat 110, Char.ofNat 115, Char.ofNat 97, Char.ofNat 102, Char.ofNat 101]) (toList_lit _) (by kernel_rfl)]
  rw [strip_ne (l := [Char.ofNat 108, Char.ofNat 105, Char.ofNat 98, Char.ofNat 98, Char.ofNat 101, Char.ofNat 115, Char.ofNat 105, Char.ofNat 100, Char.ofNat 101]) (toList_lit _) (by kernel_rfl)]
  rw [strip_ne (l := [Char.ofNat 111, Char.ofNat 119, Char.ofNat 110, Char.ofNat 98, Char.ofNat 101, Char.ofNat 115, Char.ofNat 105, Char.ofNat 100, Char.ofNat 101]) (toList_lit _) (by kernel_rfl)]
  rw [strip_ne (l := [Char.ofNat 114, Char.ofNat 101, Char.ofNat 102, Char.ofNat 108, Char.ofNat 98, Char.ofNat 101, Char.ofNat 115, Char.ofNat 105, Char.ofNat 100, Char.ofNat 101]) (toList_lit _) (by kernel_rfl)]
  rw [strip_ne (l := [Char.ofNat 97, Char.ofNat 108, Char.ofNat 105, Char.ofNat 97, Char.ofNat 115, Char.ofNat 101, Char.ofNat 115]) (toList_lit _) (by kernel_rfl)]
  rw [strip_ne (l := [Char.ofNat 97, Char.ofNat 102, Char.ofNat 116, Char.ofNat 101, Char.ofNat 114, Char.ofNat 105, Char.ofNat 110, Char.ofNat 105, Char.ofNat 116]) (toList_lit _) (by kernel_rfl)]
  rw [strip_ne (l := [Char.ofNat 99, Char.ofNat 114, Char.ofNat 99, Char.ofNat 112, Char.ofNat 108, Char.ofNat 97, Char.ofNat 105, Char.ofNat 110]) (toList_lit _) (by kernel_rfl)]
  rw [strip_ne (l := [Char.ofNat 114, Char.ofNat 111, Char.ofNat 97, Char.ofNat 100, Char.ofNat 117, Char.ofNat 110, Char.ofNat 115, Char.ofNat 97, Char.ofNat 102, Char.ofNat 101]) (toList_lit _) (by kernel_rfl)]
  rw [strip_ne (l := [Char.ofNat 102, Char.ofNat 109, Char.ofNat 116, Char.ofNat 104, Char.ofNat 97, Char.ofNat 110, Char.ofNat 100, Char.ofNat 111, Char.ofNat 110]) (toList_lit _) (by kernel_rfl)]
  rfl
theorem cut_eq : "cut".toList = hw2 := toList_lit hw2
def w_gc : List Char := [Char.ofNat 103, Char.ofNat 99]
theorem gc_eq : "gc".toList = w_gc := toList_lit w_gc
def w_spec : List Char := [Char.ofNat 115, Char.ofNat 112, Char.ofNat 101, Char.ofNat 99]
theorem spec_eq : "spec".toList = w_spec := toList_lit w_spec
def w_carried : List Char := [Char.ofNat 99, Char.ofNat 97, Char.ofNat 114, Char.ofNat 114, Char.ofNat 105, Char.ofNat 101, Char.ofNat 100]
theorem carried_eq : "carried".toList = w_carried := toList_lit w_carried
theorem headLifts_ok : Try.prog.headLifts = [] := by
  unfold Program.headLifts
  rw [head_main, strip_cut, cut_eq]
  rfl
theorem laysLater_ok : Try.prog.laysLater = false := by kernel_rfl
theorem bearsReflect_ok : Try.prog.bearsReflect = false := by kernel_rfl
theorem doors_none : (Try.prog.funcs.toList.filter fun fn => fn.body.isNone && opensWith (nameBytes "var's door: ") (nameBytes fn.name)) = [] := by kernel_rfl
theorem doorRows_ok : Try.prog.doorRows = [] := by
  unfold Program.doorRows
  rw [doors_none]
  rfl
theorem doorFits_ok : Try.prog.doorFits [] = true := by
  unfold Program.doorFits
  rw [doorRows_ok]
  rfl
theorem hw2_gc : (hw2 == w_gc) = false := by kernel_rfl
theorem hw2_spec : (hw2 == w_spec) = false := by kernel_rfl
theorem mayEnter_of {P : Program} {c : List Char} {rest : List (List Char)} (h : behindMainWord (wordsSigns P.initOrder.toList) = c :: rest) (h2 : stripLifts liftWords (c :: rest) = ([], c :: rest))
    (h3 : P.laysLater = false) (h4 : P.bearsReflect = false) (h5 : P.doorFits [] = true) (h6 : "cut".toList = c) : P.mayEnter = true := by
  unfold Program.mayEnter
  rw [h]
  simp only [h2, h3, h4, h5, h6]
  simp
theorem mayEnter_ok : Try.prog.mayEnter = true := mayEnter_of head_main strip_cut laysLater_ok bearsReflect_ok doorFits_ok cut_eq
theorem make_of {P : Program} {c g s : List Char} {rest : List (List Char)} (h : behindMainWord (wordsSigns P.initOrder.toList) = c :: rest) 
    (h6 : "cut".toList = c) (h7 : "gc".toList = g) (h8 : "spec".toList = s) (h9 : (c == g) = false) (h10 : (c == s) = false) : P.make = some .cut := by
  unfold Program.make
  rw [h]
  simp only [h6, h7, h8, h9, h10]
  simp
theorem make_ok : Try.prog.make = some .cut := make_of head_main cut_eq gc_eq spec_eq hw2_gc hw2_spec
theorem liftsFinal_ok : Try.prog.liftsFinal = false := by
  unfold Program.liftsFinal
  rw [head_main, headLifts_ok]
  simp only [gc_eq, carried_eq, cut_eq]
  kernel_rfl
theorem and2 {a b : Bool} (h : a = true) (k : b = true) : (a && b) = true := by rw [h, k]; rfl
theorem joinedFacts_of {P : Program} {f : FuncId} {fn : Func} {s : ChangeSpec} {c : OpenClaim}
    (h0 : (c.wf (OpenSpec.ofChange s)) = true)
    (h1 : (laidOutB P) = true)
    (h2 : (mapsRowed P) = true)
    (h3 : (fn.params.all (P.readableRec ·)) = true)
    (h4 : (namedTie P c.named s.vars) = true)
    (h5 : ((c.stops == [])) = true)
    (h6 : ((P.stops == [])) = true)
    (h7 : ((c.knobs == [])) = true)
    (h8 : ((P.stopKnobs == [])) = true)
    (h9 : ((c.inPlace == P.inPlace f)) = true)
    (h10 : ((c.unfollowed == P.unfollowed f)) = true)
    (h11 : ((c.recurses == P.recurses f)) = true)
    (h12 : ((c.named == P.varsNamed f)) = true)
    (h13 : ((c.maps == (fn.params.toList ++ s.plain.varTypes P).any (P.mapsRec ·))) = true)
    (h14 : ((c.ifaces == (fn.params.toList ++ s.plain.varTypes P).any (P.ifacesRec ·))) = true)
    (h15 : ((c.mapsOut == P.mapsAmong fn.resultTypes.toList)) = true)
    (h16 : ((c.loops == (fn.params.toList ++ s.plain.varTypes P).any (P.loopsFrom ·))) = true)
    (h17 : ((c.wideKeys == (fn.params.toList ++ s.plain.varTypes P ++ fn.resultTypes.toList).any (P.wideKeysFrom ·))) = true)
    (h18 : (s.vars.all (P.varReadable ·)) = true)
    (h19 : (fn.resultTypes.all (fun t => P.readableRec t && decide (t < P.types.size))) = true)
    (h20 : ((c.ifacesOut == fn.resultTypes.toList.any (P.ifacesRec ·))) = true)
    (h21 : ((c.loopsOut == fn.resultTypes.toList.any (P.loopsFrom ·))) = true)
    (h22 : ((c.plainKeys == P.plainKeys)) = true)
    (h23 : (c.shortTexts.isNone) = true)
    (h24 : (P.stopsHeard) = true)
    (h25 : (P.mayEnter) = true)
    (h26 : ((c.lifted == P.liftsFinal)) = true)
    (h27 : ((P.make == some c.make)) = true)
    (h28 : ((c.kinds == (if c.domain.isEmpty then [] else fn.params.toList.map fun t => match P.underlying t with | some (.int k) => some k | _ => none))) = true)
    (h29 : ((c.pinned == c.pinnedBy)) = true)
    (h30 : ((c.veiled == (fn.params.toList ++ s.plain.varTypes P ++ fn.resultTypes.toList).any (P.veiledRec ·))) = true)
    (h31 : (c.veiledFits P fn.params.toList (fn.params.toList ++ s.plain.varTypes P ++ fn.resultTypes.toList)) = true) : joinedFacts P f fn s c = true := by
  exact and2 (and2 (and2 (and2 (and2 (and2 (and2 (and2 (and2 (and2 (and2 (and2 (and2 (and2 (and2 (and2 (and2 (and2 (and2 (and2 (and2 (and2 (and2 (and2 (and2 (and2 (and2 (and2 (and2 (and2 (and2 (h0) h1) h2) h3) h4) h5) h6) h7) h8) h9) h10) h11) h12) h13) h14) h15) h16) h17) h18) h19) h20) h21) h22) h23) h24) h25) h26) h27) h28) h29) h30) h31
theorem laidOut_ok : laidOutB Try.prog = true := by kernel_rfl
theorem mapsRowed_ok : mapsRowed Try.prog = true := by kernel_rfl
theorem stopsHeard_ok : Try.prog.stopsHeard = true := by kernel_rfl
end Go.Lk
end
