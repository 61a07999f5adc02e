/- append within a slice's room; rows of rows. -/
import Derived.Test.YtmomainjlncogaaLkLR
namespace Go.Lk
set_option linter.unusedSimpArgs false
set_option linter.unusedVariables false
theorem append_room {P : Program} {σ : AHeap} {t t2 : TypeId} {ts : List TypeId} {rest : List Value} {b k N z : Nat} {F Z : Nat → List Value} {x : Value} {opn : Option Nat}
    (hok : appOk P t t2 z = true) (hσ : σ[b]? = some (.row (rowOf (half2 F Z k) N) true opn)) (hx : aCells σ z 1 x = some (F k)) (hlx : sLen x = some 1)
    (hf : ∀ i, (F i).length = z) (hg : ∀ i, (Z i).length = z) (hone : (F k).all one = true) (hk : k < N) (hz : 0 < z) :
    aAppend P σ (t :: t2 :: ts) (.slice (some ⟨b, 0, some z⟩) k N :: x :: rest) = some (.slice (some ⟨b, 0, some z⟩) (k + 1) N, σ.set b (.row (rowOf (half2 F Z (k + 1)) N) true opn)) := by
  unfold appOk at hok
  unfold aAppend
  cases h1 : P.underlying t with
  | none => rw [h1] at hok; cases hok
  | some d1 =>
  rw [h1] at hok
  cases h2 : P.underlying t2 with
  | none => rw [h2] at hok; cases d1 <;> cases hok
  | some d2 =>
  rw [h2] at hok
  cases d1 with
  | slice e =>
    simp only [Bool.and_eq_true, Bool.not_eq_true'] at hok
    obtain ⟨hi, hok⟩ := hok
    cases h3 : P.info? e with
    | none => rw [h3] at hok; cases hok
    | some inf =>
      rw [h3] at hok
      simp only [Bool.and_eq_true, beq_iff_eq] at hok
      obtain ⟨⟨hsz, hby⟩, hzz⟩ := hok
      simp only [h1, h2, h3, hlx, hi, cond_false, hsz, hx]
      rw [if_pos (show k + 1 ≤ N from hk)]
      have hl := rowOf_len (half2_len hf hg k) N
      have h4 : k * z + z ≤ N * z := by
        have := Nat.mul_le_mul_right z (show k + 1 ≤ N from hk)
        rw [Nat.succ_mul] at this; exact this
      have hfk := hf k
      have hp : aPut σ b (0 + k * z) (F k) = some (σ.set b (.row (rowOf (half2 F Z (k + 1)) N) true opn)) := by
        unfold aPut
        have e := rowOf_splice (half2_len hf hg k) (half2_len hf hg (k + 1)) hk (fun i h => half2_ne F Z k i h)
        rw [half2_at] at e
        simp only [hσ, Nat.zero_add]
        rw [if_neg (by intro h; rw [h] at hfk; simp at hfk; omega), if_pos ⟨by omega, hone⟩, e]
      simp only [hp]
  | _ => cases hok
/-- Element i of the row of rows. -/
def nestR (n : Nat) (G : Nat → Nat → List Value) : Nat → List Value := fun i => G (i / n) (i % n)
theorem nest_at {n : Nat} (G : Nat → Nat → List Value) {i k : Nat} (hk : k < n) : nestR n G (i * n + k) = G i k := by
  unfold nestR
  rw [Nat.mul_comm, Nat.mul_add_div (by omega), Nat.mul_add_mod, Nat.div_eq_of_lt hk, Nat.mod_eq_of_lt hk, Nat.add_zero]
theorem nest_mul {n : Nat} (G : Nat → Nat → List Value) {i k : Nat} (hk : k < n) : nestR n G (n * i + k) = G i k := by
  rw [Nat.mul_comm]; exact nest_at G hk
theorem nest_hx {σ : AHeap} {z m i j : Nat} {x : Value} {G : Nat → Nat → List Value} (hj : j < m) (h : aCells σ z 1 x = some (G i j)) : aCells σ z 1 x = some (nestR m G (m * i + j)) := by
  rw [nest_mul G hj]; exact h
theorem nest_one {m : Nat} (G : Nat → Nat → List Value) (hm : 0 < m) : rowOf (nestR m G) 1 = G 0 0 := by
  have h := nest_mul G (i := 0) hm
  rw [Nat.mul_zero, Nat.zero_add] at h
  rw [← h]
  simp [rowOf]
theorem nest_len {n : Nat} {G : Nat → Nat → List Value} {s : Nat} (h : ∀ i k, (G i k).length = s) (i : Nat) : (nestR n G i).length = s := h _ _
theorem nest_all {n : Nat} {G : Nat → Nat → List Value} {p : Value → Bool} (h : ∀ i k, (G i k).all p = true) (i : Nat) : (nestR n G i).all p = true := h _ _
theorem half2_top (G Z : Nat → List Value) {n i : Nat} (h : n ≤ i) : half2 G Z n i = Z i := by
  unfold half2
  have : Nat.blt i n = false := by cases h' : Nat.blt i n; rfl; rw [Nat.blt_eq] at h'; omega
  rw [this]; rfl
theorem load_fld {P : Program} {σ : AHeap} {t : TypeId} {b off k n s j : Nat} {f : Nat → List Value} {rw' : Bool} {opn : Option Nat} {v : Value} (hσ : σ[b]? = some (.row (rowOf f n) rw' opn)) (hd : (P.underlying t).map isAggD = some false)
    (hf : ∀ i, (f i).length = s) (ho : off = k * s + j) (hj : j < s) (hk : k < n) (hv : (f k)[j]? = some v) : aLoad P σ t (.pointer (some ⟨b, off, none⟩)) = some v := by
  cases hu : P.underlying t with
  | none => rw [hu] at hd; cases hd
  | some d =>
  rw [hu] at hd
  have hd : isAggD d = false := by simpa using hd
  unfold aLoad
  simp only [hσ, hu, hd, cond_false]
  have h := rowOf_at hf hk
  have h2 := congrArg (fun l => l[j]?) h
  simp only [List.getElem?_take, List.getElem?_drop, hj, if_true] at h2
  rw [ho, h2, hv]
theorem append_many {P : Program} {σ : AHeap} {t t2 : TypeId} {ts : List TypeId} {rest xs : List Value} {b N n z : Nat} {F F' : Nat → List Value} {x : Value} {rw' : Bool} {opn : Option Nat}
    (hok : appOk P t t2 z = true) (hσ : σ[b]? = some (.row (rowOf F N) rw' opn)) (hrw : rw' = true ∨ opn = none) (hx : aCells σ z n x = some xs) (hlx : sLen x = some n) (hF : rowOf F N ++ xs = rowOf F' (N + n))
    (hf : ∀ i, (F i).length = z) (hone : xs.all one = true) (hn : 0 < n) (hN : N + n < 67108864) :
    aAppend P σ (t :: t2 :: ts) (.slice (some ⟨b, 0, some z⟩) N N :: x :: rest) = some (.slice (some ⟨σ.length, 0, some z⟩) (N + n) (N + n), kill σ b ++ [.row (rowOf F' (N + n)) true (some z)]) := by
  unfold appOk at hok
  unfold aAppend
  cases h1 : P.underlying t with
  | none => rw [h1] at hok; cases hok
  | some d1 =>
  rw [h1] at hok
  cases h2 : P.underlying t2 with
  | none => rw [h2] at hok; cases d1 <;> cases hok
  | some d2 =>
  rw [h2] at hok
  cases d1 with
  | slice e =>
    simp only [Bool.and_eq_true, Bool.not_eq_true'] at hok
    obtain ⟨hi, hok⟩ := hok
    cases h3 : P.info? e with
    | none => rw [h3] at hok; cases hok
    | some inf =>
      rw [h3] at hok
      simp only [Bool.and_eq_true, beq_iff_eq] at hok
      obtain ⟨⟨hsz, hby⟩, hzz⟩ := hok
      have hby' := Nat.le_of_ble_eq_true hby
      simp only [h1, h2, h3, hlx, hi, cond_false, hsz, hx]
      rw [if_neg (by omega)]
      have hold : aCells σ z N (.slice (some ⟨b, 0, some z⟩) N N) = some (rowOf F N) := cells_row hσ hf (Nat.le_refl _) z
      rw [hold]
      simp only
      have hb2 : (N + n) * inf.bytes ≤ 70368744177664 := by
        have h4 : (N + n) * inf.bytes ≤ 67108864 * 1048576 := Nat.mul_le_mul (by omega) hby'
        omega
      rw [if_pos ⟨hb2, hby', by omega, hone⟩]
      cases h5 : tZero P e with
      | none => rw [h5] at hzz; cases hzz
      | some zz =>
        rw [h5] at hzz
        have hzz : zz.cells.size = inf.size := by simpa using hzz
        have hne : ¬ zz.cells.size ≠ z := by omega
        simp only [h5, hne, if_false, hσ, true_and, Nat.le_refl, if_true, hrw]
        rw [hF]
  | _ => cases hok
theorem qF_eq {k : IntKind} {z c b : Int} {σ : AHeap} (h : z = c) (hb : b ≠ 0) : qF (.int k z) σ b = some (.int k c, σ) := by rw [h]; exact qF_ok _ _ hb
theorem bnd_no (d y : Nat) : bnd none d y = some d := rfl
theorem bnd_int {k : IntKind} {i d y : Nat} (h : i ≤ y) : bnd (some (.int k (iN i))) d y = some i := by
  unfold bnd
  simp only
  rw [if_pos ⟨by rw [iN_eq]; omega, by rw [iN_eq]; omega⟩]
  rfl
theorem slice_op {P : Program} {t e : TypeId} {z b o len cap l h off' n' c' : Nat} {low high : Option Value} (hu : P.underlying t = some (.slice e)) (hz : tSize P e = some z) (hl : bnd low 0 h = some l) (hh : bnd high len cap = some h) (hc : h ≤ cap)
    (ho : off' = o + l * z) (hn : n' = h - l) (hcap : c' = cap - l) :
    aSlice P t (.slice (some ⟨b, o, some z⟩) len cap) low high none = some (.slice (some ⟨b, off', some z⟩) n' c') := by
  unfold aSlice
  simp only [hu, hz]
  unfold bnds
  have h1 : bnd none cap cap = some cap := rfl
  simp only [h1, Option.isSome_none, Bool.false_and, Bool.false_eq_true, if_false, hh, hl]
  rw [if_pos ⟨trivial, hc⟩, ho, hn, hcap]
end Go.Lk
