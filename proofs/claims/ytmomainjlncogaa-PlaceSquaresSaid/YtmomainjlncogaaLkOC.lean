/- PlaceCorners: the plain law. -/
import Derived.Test.YtmomainjlncogaaLkNR
namespace Go.Lk
open Ieee
set_option linter.unusedVariables false
set_option linter.unusedSimpArgs false
theorem cls_of (x : Nat) : isNaN x = true ∨ isFin x = true ∨ ∃ s, dbl.read x = .infinity s := by
  rcases Nat.lt_trichotomy (rg x) (2047 * 2 ^ 52) with h | h | h
  · exact .inr (.inl (decide_eq_true h))
  · exact .inr (.inr ⟨_, read_inf h⟩)
  · exact .inl (read_big h)
theorem ord_if {x y : Nat} {s : Bool} (hx : dbl.read x = .infinity s) (hy : isFin y = true) : dbl.order x y = some (if s then .lt else .gt) := by
  obtain ⟨m, p, e, _⟩ := read_fin hy
  unfold Format.order
  rw [hx, e]; rfl
theorem ord_fi {x y : Nat} {s : Bool} (hx : isFin x = true) (hy : dbl.read y = .infinity s) : dbl.order x y = some (if s then .gt else .lt) := by
  obtain ⟨m, p, e, _⟩ := read_fin hx
  unfold Format.order
  rw [hy, e]; rfl
theorem ord_ii {x y : Nat} {s t : Bool} (hx : dbl.read x = .infinity s) (hy : dbl.read y = .infinity t) : dbl.order x y = some (compare t.toNat s.toNat) := by
  unfold Format.order
  rw [hx, hy]; rfl
theorem le_lt {a y c : Nat} (h1 : fle a y = true) (h2 : flt y c = true) : flt a c = true := by
  rcases cls_of a with ha | ha | ⟨sa, ha⟩
  · rw [fle_nan_l ha] at h1; cases h1
  · rcases cls_of y with hy | hy | ⟨sy, hy⟩
    · rw [fle_nan_r hy] at h1; cases h1
    · rcases cls_of c with hc | hc | ⟨sc, hc⟩
      · rw [flt_nan_r hc] at h2; cases h2
      · rw [fle_fin ha hy] at h1
        rw [flt_fin hy hc] at h2
        rw [flt_fin ha hc]
        have h1 := of_decide_eq_true h1
        have h2 := of_decide_eq_true h2
        exact decide_eq_true (by omega)
      · unfold flt at h2 ⊢
        rw [ord_fi hy hc] at h2
        rw [ord_fi ha hc]; exact h2
    · rcases cls_of c with hc | hc | ⟨sc, hc⟩
      · rw [flt_nan_r hc] at h2; cases h2
      · unfold fle at h1
        unfold flt at h2
        rw [ord_fi ha hy] at h1
        rw [ord_if hy hc] at h2
        exfalso
        revert h1 h2
        cases sy <;> decide
      · unfold fle at h1
        unfold flt at h2
        rw [ord_fi ha hy] at h1
        rw [ord_ii hy hc] at h2
        exfalso
        revert h1 h2
        cases sy <;> cases sc <;> decide
  · rcases cls_of y with hy | hy | ⟨sy, hy⟩
    · rw [fle_nan_r hy] at h1; cases h1
    · rcases cls_of c with hc | hc | ⟨sc, hc⟩
      · rw [flt_nan_r hc] at h2; cases h2
      · unfold fle at h1
        unfold flt
        rw [ord_if ha hy] at h1
        rw [ord_if ha hc]
        revert h1
        cases sa <;> decide
      · unfold fle at h1
        unfold flt at h2 ⊢
        rw [ord_if ha hy] at h1
        rw [ord_fi hy hc] at h2
        rw [ord_ii ha hc]
        revert h1 h2
        cases sa <;> cases sc <;> decide
    · rcases cls_of c with hc | hc | ⟨sc, hc⟩
      · rw [flt_nan_r hc] at h2; cases h2
      · unfold fle at h1
        unfold flt at h2 ⊢
        rw [ord_ii ha hy] at h1
        rw [ord_if hy hc] at h2
        rw [ord_if ha hc]
        revert h1 h2
        cases sa <;> cases sy <;> decide
      · unfold fle at h1
        unfold flt at h2 ⊢
        rw [ord_ii ha hy] at h1
        rw [ord_ii hy hc] at h2
        rw [ord_ii ha hc]
        revert h1 h2
        cases sa <;> cases sy <;> cases sc <;> decide
theorem lt_asym {a c : Nat} (h : flt a c = true) : flt c a = false := by
  cases h2 : flt c a
  · rfl
  · exfalso
    have h3 : fle a c = true := by
      unfold fle
      unfold flt at h
      rw [h]; rfl
    have := le_lt h3 h2
    rcases cls_of a with ha | ha | ⟨sa, ha⟩
    · rw [flt_nan_l ha] at this; cases this
    · rw [flt_fin ha ha] at this
      have := of_decide_eq_true this
      omega
    · unfold flt Format.order at this
      rw [ha] at this
      cases sa <;> exact absurd this (by decide)
/-- An edge is the same both ways. -/
theorem cross_sym (ax ay cx cy x y : Nat) : crossP ax ay cx cy x y = crossP cx cy ax ay x y := by
  unfold crossP
  cases h1 : flt cy ay
  · cases h2 : flt ay cy
    · simp only [cond_false]
      cases g1 : fle ay y
      · cases g2 : fle cy y
        · rfl
        · cases g3 : flt y ay
          · rfl
          · have := le_lt g2 g3; rw [h1] at this; cases this
      · cases g3 : flt y cy
        · cases g2 : fle cy y
          · rfl
          · cases g4 : flt y ay
            · rfl
            · have := le_lt g2 g4; rw [h1] at this; cases this
        · have := le_lt g1 g3; rw [h2] at this; cases this
    · rfl
  · rw [lt_asym h1]; rfl
/-! ### Parities -/
def xs (e : Nat → Bool) : Nat → Bool
  | 0 => false
  | k + 1 => xs e k != e k
theorem xs_congr {e f : Nat → Bool} : ∀ {k : Nat}, (∀ i, i < k → e i = f i) → xs e k = xs f k
  | 0, _ => rfl
  | k + 1, h => by unfold xs; rw [xs_congr (fun i hi => h i (by omega)), h k (by omega)]
theorem xs_add (e : Nat → Bool) (a : Nat) : ∀ c, xs e (a + c) = (xs e a != xs (fun i => e (a + i)) c)
  | 0 => by simp [xs]
  | c + 1 => by
    show (xs e (a + c) != e (a + c)) = (xs e a != (xs (fun i => e (a + i)) c != e (a + c)))
    rw [xs_add e a c]
    cases xs e a <;> cases xs (fun i => e (a + i)) c <;> cases e (a + c) <;> rfl
theorem xs_front (e : Nat → Bool) (k : Nat) : xs e (k + 1) = (e 0 != xs (fun i => e (i + 1)) k) := by
  have h := xs_add e 1 k
  rw [show 1 + k = k + 1 by omega] at h
  rw [h]
  have h2 : xs e 1 = e 0 := by simp [xs]
  rw [h2, xs_congr (f := fun i => e (i + 1)) (fun i _ => by rw [Nat.add_comm])]
theorem xs_rev (e : Nat → Bool) : ∀ k, xs (fun i => e (k - 1 - i)) k = xs e k
  | 0 => rfl
  | k + 1 => by
    rw [xs_front]
    show (e (k + 1 - 1 - 0) != xs (fun i => e (k + 1 - 1 - (i + 1))) k) = (xs e k != e k)
    rw [xs_congr (f := fun i => e (k - 1 - i)) (fun i hi => by rw [show k + 1 - 1 - (i + 1) = k - 1 - i by omega]), xs_rev e k, show k + 1 - 1 - 0 = k by omega]
    cases e k <;> cases xs e k <;> rfl
def edgeB (px py : Nat → Nat) (x y a b : Nat) : Bool := crossP (px a) (py a) (px b) (py b) x y
theorem edge_sym (px py : Nat → Nat) (x y a b : Nat) : edgeB px py x y a b = edgeB px py x y b a := cross_sym _ _ _ _ _ _
theorem odd_xs (px py : Nat → Nat) (n x y : Nat) : ∀ k, vOdd px py n x y k = xs (fun i => edgeB px py x y i (nxt n i)) k
  | 0 => rfl
  | k + 1 => by
    show (vOdd px py n x y k != _) = (xs _ k != _)
    rw [odd_xs px py n x y k]; rfl
theorem nxt_eq {n i : Nat} (h : i + 1 < n) : nxt n i = i + 1 := by unfold nxt; rw [if_neg (by omega)]
theorem nxt_end {n i : Nat} (h : i + 1 = n) : nxt n i = 0 := by unfold nxt; rw [if_pos h]
/-- Turned round by b. -/
theorem odd_turn (px py : Nat → Nat) (n b x y : Nat) (hb : b < n) : vOdd (fun i => px ((i + b) % n)) (fun i => py ((i + b) % n)) n x y n = vOdd px py n x y n := by
  rw [odd_xs, odd_xs]
  have e1 : ∀ i, i < n → edgeB (fun i => px ((i + b) % n)) (fun i => py ((i + b) % n)) x y i (nxt n i) = edgeB px py x y ((i + b) % n) (nxt n ((i + b) % n)) := by
    intro i hi
    have : (nxt n i + b) % n = nxt n ((i + b) % n) := by
      rcases Nat.lt_or_ge (i + b) n with h | h
      · rw [Nat.mod_eq_of_lt h]
        rcases Nat.lt_or_ge (i + b + 1) n with h' | h'
        · rw [nxt_eq h', nxt_eq (by omega), Nat.mod_eq_of_lt (by omega)]; omega
        · rw [nxt_end (i := i + b) (by omega)]
          rcases Nat.lt_or_ge (i + 1) n with h'' | h''
          · rw [nxt_eq h'', show i + 1 + b = n by omega, Nat.mod_self]
          · rw [nxt_end (i := i) (by omega), Nat.zero_add, show b = 0 by omega, Nat.zero_mod]
      · have hm : (i + b) % n = i + b - n := by rw [Nat.mod_eq_sub_mod h, Nat.mod_eq_of_lt (by omega)]
        rw [hm, nxt_eq (i := i + b - n) (by omega)]
        rcases Nat.lt_or_ge (i + 1) n with h'' | h''
        · rw [nxt_eq h'', Nat.mod_eq_sub_mod (by omega), Nat.mod_eq_of_lt (by omega)]; omega
        · rw [nxt_end (i := i) (by omega), Nat.zero_add, Nat.mod_eq_of_lt hb]; omega
    unfold edgeB
    simp only [this]
  rw [xs_congr e1]
  have h1 := xs_add (fun i => edgeB px py x y ((i + b) % n) (nxt n ((i + b) % n))) (n - b) b
  have h2 := xs_add (fun i => edgeB px py x y i (nxt n i)) b (n - b)
  rw [show n - b + b = n by omega] at h1
  rw [show b + (n - b) = n by omega] at h2
  rw [h1, h2]
  rw [xs_congr (k := n - b) (f := fun i => edgeB px py x y (b + i) (nxt n (b + i))) (fun i hi => by
    rw [Nat.mod_eq_of_lt (show i + b < n by omega), Nat.add_comm])]
  rw [xs_congr (k := b) (f := fun i => edgeB px py x y i (nxt n i)) (fun i hi => by
    rw [show n - b + i + b = n + i by omega, Nat.add_mod_left, Nat.mod_eq_of_lt (show i < n by omega)])]
  cases xs (fun i => edgeB px py x y (b + i) (nxt n (b + i))) (n - b) <;> cases xs (fun i => edgeB px py x y i (nxt n i)) b <;> rfl
/-- The other way round. -/
theorem odd_back (px py : Nat → Nat) (n x y : Nat) : vOdd (fun i => px (n - 1 - i)) (fun i => py (n - 1 - i)) n x y n = vOdd px py n x y n := by
  cases n with
  | zero => rfl
  | succ n =>
    rw [odd_xs, odd_xs]
    show (xs _ n != _) = (xs _ n != _)
    have e1 : ∀ i, i < n → edgeB (fun i => px (n + 1 - 1 - i)) (fun i => py (n + 1 - 1 - i)) x y i (nxt (n + 1) i) = edgeB px py x y (n - 1 - i) (nxt (n + 1) (n - 1 - i)) := by
      intro i hi
      rw [nxt_eq (by omega), nxt_eq (n := n + 1) (i := n - 1 - i) (by omega), edge_sym px py]
      unfold edgeB
      dsimp only
      rw [show n + 1 - 1 - i = n - 1 - i + 1 by omega, show n + 1 - 1 - (i + 1) = n - 1 - i by omega]
    rw [xs_congr e1, xs_rev (fun i => edgeB px py x y i (nxt (n + 1) i)) n]
    congr 1
    dsimp only
    rw [nxt_end rfl, edge_sym px py]
    unfold edgeB
    simp
/-- From hi on, round to lo. -/
def walk (n hi : Nat) : Nat → Nat
  | 0 => hi
  | s + 1 => nxt n (walk n hi s)
theorem walk_lo {n hi : Nat} (h : hi < n) : ∀ s, s < n - hi → walk n hi s = hi + s
  | 0, _ => rfl
  | s + 1, hs => by
    show nxt n (walk n hi s) = _
    rw [walk_lo h s (by omega), nxt_eq (by omega)]; omega
theorem walk_hi {n hi : Nat} (h : hi < n) : ∀ s, s < n → walk n hi (n - hi + s) = s
  | 0, _ => by
    obtain ⟨k, hk⟩ : ∃ k, n - hi = k + 1 := ⟨n - hi - 1, by omega⟩
    rw [Nat.add_zero, hk]
    show nxt n (walk n hi k) = 0
    rw [walk_lo h k (by omega), nxt_end (by omega)]
  | s + 1, hs => by
    show nxt n (walk n hi (n - hi + s)) = s + 1
    rw [walk_hi h s (by omega), nxt_eq (by omega)]
/-- Cut at a diagonal. -/
theorem odd_cut (px py : Nat → Nat) (n lo hi x y : Nat) (h1 : lo < hi) (h2 : hi < n) :
    vOdd px py n x y n = (vOdd (fun i => px (lo + i)) (fun i => py (lo + i)) (hi + 1 - lo) x y (hi + 1 - lo) != vOdd (fun i => px (walk n hi i)) (fun i => py (walk n hi i)) (n - hi + lo + 1) x y (n - hi + lo + 1)) := by
  obtain ⟨c, hc⟩ : ∃ c, hi + 1 - lo = c + 1 := ⟨hi - lo, by omega⟩
  rw [hc, odd_xs, odd_xs, odd_xs]
  -- the whole
  have w1 := xs_add (fun i => edgeB px py x y i (nxt n i)) lo (n - lo)
  rw [show lo + (n - lo) = n by omega] at w1
  have w2 := xs_add (fun i => edgeB px py x y (lo + i) (nxt n (lo + i))) c (n - hi)
  rw [show c + (n - hi) = n - lo by omega] at w2
  -- one
  have o1 : xs (fun i => edgeB (fun i => px (lo + i)) (fun i => py (lo + i)) x y i (nxt (c + 1) i)) (c + 1) = (xs (fun i => edgeB px py x y (lo + i) (nxt n (lo + i))) c != edgeB px py x y hi lo) := by
    show (xs _ c != _) = _
    congr 1
    · refine xs_congr fun i hi' => ?_
      rw [nxt_eq (n := c + 1) (by omega), nxt_eq (n := n) (i := lo + i) (by omega)]
      unfold edgeB
      rw [Nat.add_assoc]
    · dsimp only
      rw [nxt_end rfl]
      unfold edgeB
      dsimp only
      rw [show lo + c = hi by omega, Nat.add_zero]
  -- two
  have t1 : xs (fun i => edgeB (fun i => px (walk n hi i)) (fun i => py (walk n hi i)) x y i (nxt (n - hi + lo + 1) i)) (n - hi + lo + 1) = (xs (fun i => edgeB px py x y (walk n hi i) (nxt n (walk n hi i))) (n - hi + lo) != edgeB px py x y lo hi) := by
    show (xs _ (n - hi + lo) != _) = _
    congr 1
    · refine xs_congr fun i hi' => ?_
      rw [nxt_eq (n := n - hi + lo + 1) (by omega)]
      rfl
    · dsimp only
      rw [nxt_end rfl]
      unfold edgeB
      dsimp only
      rw [walk_hi h2 lo (by omega)]
      rfl
  have t2 := xs_add (fun i => edgeB px py x y (walk n hi i) (nxt n (walk n hi i))) (n - hi) lo
  have t3 : xs (fun i => edgeB px py x y (walk n hi i) (nxt n (walk n hi i))) (n - hi) = xs (fun i => edgeB px py x y (lo + (c + i)) (nxt n (lo + (c + i)))) (n - hi) := by
    refine xs_congr fun i hi' => ?_
    rw [walk_lo h2 i hi', show hi + i = lo + (c + i) by omega]
  have t4 : xs (fun i => edgeB px py x y (walk n hi (n - hi + i)) (nxt n (walk n hi (n - hi + i)))) lo = xs (fun i => edgeB px py x y i (nxt n i)) lo := by
    refine xs_congr fun i hi' => ?_
    rw [walk_hi h2 i (by omega)]
  rw [o1, t1, t2, t3, t4, w1, w2, edge_sym px py x y lo hi]
  cases xs (fun i => edgeB px py x y i (nxt n i)) lo <;> cases xs (fun i => edgeB px py x y (lo + i) (nxt n (lo + i))) c <;> cases xs (fun i => edgeB px py x y (lo + (c + i)) (nxt n (lo + (c + i)))) (n - hi) <;> cases edgeB px py x y hi lo <;> rfl
theorem within_turn (px py : Nat → Nat) (n b x y : Nat) (hb : b < n) : withinN (fun i => px ((i + b) % n)) (fun i => py ((i + b) % n)) n x y = withinN px py n x y := by
  rw [withinN_v, withinN_v, odd_turn px py n b x y hb]
theorem within_back (px py : Nat → Nat) (n x y : Nat) : withinN (fun i => px (n - 1 - i)) (fun i => py (n - 1 - i)) n x y = withinN px py n x y := by
  rw [withinN_v, withinN_v, odd_back]
theorem within_mid {px py : Nat → Nat} {n x y : Nat} (h1 : 3 ≤ n) (h2 : n ≤ 64) : withinN px py n x y = vOdd px py n x y n := by
  rw [withinN_v, decide_eq_false (by rw [iN_eq]; omega), decide_eq_false (by rw [iN_eq]; omega)]; rfl
theorem within_out {px py : Nat → Nat} {n x y : Nat} (h : n < 3 ∨ 64 < n) : withinN px py n x y = false := by
  rw [withinN_v]
  rcases h with h | h
  · rw [decide_eq_true (by rw [iN_eq]; omega)]; rfl
  · rw [decide_eq_false (by rw [iN_eq]; omega), decide_eq_true (by rw [iN_eq]; omega)]; rfl
theorem within_cut (px py : Nat → Nat) (n lo hi x y : Nat) (h1 : lo + 2 ≤ hi) (h2 : hi < n) (h3 : n ≤ 64) (h4 : 0 < lo ∨ hi + 1 < n) :
    (withinN px py n x y == (withinN (fun i => px (lo + i)) (fun i => py (lo + i)) (hi + 1 - lo) x y != withinN (fun i => px (walk n hi i)) (fun i => py (walk n hi i)) (n - hi + lo + 1) x y)) = true := by
  rw [within_mid (by omega) (by omega), within_mid (n := hi + 1 - lo) (by omega) (by omega), within_mid (n := n - hi + lo + 1) (by omega) (by omega), odd_cut px py n lo hi x y (by omega) h2]
  exact beq_self_eq_true _
end Go.Lk
