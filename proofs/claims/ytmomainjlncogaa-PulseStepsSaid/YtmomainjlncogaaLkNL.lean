/- PulseSteps: the plain law, joined. -/
import Derived.Test.YtmomainjlncogaaLkNK
import Derived.Test.YtmomainjlncogaaLkNM
namespace Go.Lk
open Go.Proofs
set_option maxRecDepth 100000
set_option linter.unusedVariables false
set_option linter.unusedSimpArgs false
theorem append_many {P : Program} {σ : AHeap} {t t2 : TypeId} {ts : List TypeId} {rest xs : List Value} {b N n z : Nat} {F F' : Nat → List Value} {x : Value} {rw' : Bool} {opn : Option Nat}
    (hok : appOk P t t2 z = true) (hσ : σ[b]? = some (.row (rowOf F N) rw' opn)) (hrw : rw' = true ∨ opn = none) (hx : aCells σ z n x = some xs) (hlx : sLen x = some n) (hF : rowOf F N ++ xs = rowOf F' (N + n))
    (hf : ∀ i, (F i).length = z) (hone : xs.all one = true) (hn : 0 < n) (hN : N + n < 67108864) :
    aAppend P σ (t :: t2 :: ts) (.slice (some ⟨b, 0, some z⟩) N N :: x :: rest) = some (.slice (some ⟨σ.length, 0, some z⟩) (N + n) (N + n), kill σ b ++ [.row (rowOf F' (N + n)) true (some z)]) := by
  unfold appOk at hok
  unfold aAppend
  cases h1 : P.underlying t with
  | none => rw [h1] at hok; cases hok
  | some d1 =>
  rw [h1] at hok
  cases h2 : P.underlying t2 with
  | none => rw [h2] at hok; cases d1 <;> cases hok
  | some d2 =>
  rw [h2] at hok
  cases d1 with
  | slice e =>
    simp only [Bool.and_eq_true, Bool.not_eq_true'] at hok
    obtain ⟨hi, hok⟩ := hok
    cases h3 : P.info? e with
    | none => rw [h3] at hok; cases hok
    | some inf =>
      rw [h3] at hok
      simp only [Bool.and_eq_true, beq_iff_eq] at hok
      obtain ⟨⟨hsz, hby⟩, hzz⟩ := hok
      have hby' := Nat.le_of_ble_eq_true hby
      simp only [h1, h2, h3, hlx, hi, cond_false, hsz, hx]
      rw [if_neg (by omega)]
      have hold : aCells σ z N (.slice (some ⟨b, 0, some z⟩) N N) = some (rowOf F N) := cells_row hσ hf (Nat.le_refl _) z
      rw [hold]
      simp only
      have hb2 : (N + n) * inf.bytes ≤ 70368744177664 := by
        have h4 : (N + n) * inf.bytes ≤ 67108864 * 1048576 := Nat.mul_le_mul (by omega) hby'
        omega
      rw [if_pos ⟨hb2, hby', by omega, hone⟩]
      cases h5 : tZero P e with
      | none => rw [h5] at hzz; cases hzz
      | some zz =>
        rw [h5] at hzz
        have hzz : zz.cells.size = inf.size := by simpa using hzz
        have hne : ¬ zz.cells.size ≠ z := by omega
        simp only [h5, hne, if_false, hσ, true_and, Nat.le_refl, if_true, hrw]
        rw [hF]
  | _ => cases hok
theorem zr_lt {z : Nat → Int} {m i : Nat} (h : i < m) : zr z m i = z i := by
  unfold zr
  have : Nat.blt i m = true := by rw [Nat.blt_eq]; exact h
  rw [this]; rfl
theorem zr_m (z : Nat → Int) (m : Nat) : zr z m m = 77 := by
  unfold zr
  have h1 : Nat.blt m m = false := by cases h : Nat.blt m m; rfl; rw [Nat.blt_eq] at h; omega
  have h2 : Nat.beq m m = true := Nat.beq_refl m
  rw [h1, h2]; rfl
theorem zr_m1 (z : Nat → Int) (m : Nat) : zr z m (m + 1) = 78 := by
  unfold zr
  have h1 : Nat.blt (m + 1) m = false := by cases h : Nat.blt (m + 1) m; rfl; rw [Nat.blt_eq] at h; omega
  have h2 : Nat.beq (m + 1) m = false := by cases h : Nat.beq (m + 1) m; rfl; have := Nat.eq_of_beq_eq_true h; omega
  rw [h1, h2]; rfl
def psO (opn : Option Nat) (z : Nat → Int) (M : Nat) : AObj := .row (rowOf (fun i => [.int .i64 (z i)]) M) false opn
def psT : AObj := .row [.int .i64 77, .int .i64 78] true none
def psW (z : Nat → Int) (m : Nat) : AObj := .row (rowOf (fun i => [.int .i64 (zr z m i)]) (m + 2)) true (some 1)
theorem ps_row (z : Nat → Int) (m : Nat) : rowOf (fun i => [Value.int .i64 (z i)]) m ++ [.int .i64 77, .int .i64 78] = rowOf (fun i => [.int .i64 (zr z m i)]) (m + 2) := by
  have h : rowOf (fun i => [Value.int .i64 (zr z m i)]) m = rowOf (fun i => [Value.int .i64 (z i)]) m := rowOf_congr fun i hi => by rw [zr_lt hi]
  rw [rowOf_succ, rowOf_succ, zr_m, zr_m1, h]
  simp
theorem int_at {z : Nat → Int} {M i : Nat} (h : i < M) : intAt (rowOf (fun i => [Value.int .i64 (z i)]) M) i = z i := by
  have h3 := rowOf_gt (f := fun i => [Value.int .i64 (z i)]) (s := 1) (fun _ => rfl) (k := i) (n := M) (j := 0) h (by omega)
  rw [show i * 1 + 0 = i by omega] at h3
  unfold intAt
  rw [h3]; rfl
theorem ps_loop (opn : Option Nat) (z : Nat → Int) (M m cap : Nat) (n : Int) (l5 : Nat) (e5 : Int) (o5 : AObj) (l6 : Nat) (e6 : Int) (o6 : AObj) (l7 : Nat) (e7 : Int) (o7 : AObj) (p5 : plainO o5) (p6 : plainO o6) (p7 : plainO o7) (hm : m ≤ 1048576) (hM : m ≤ M) (hst : Stood false [psO opn z M]) :
    Sim dLPs 8 (.loop (loopOf Try.f15 0)) ([.slice (some ⟨0, 0, some 1⟩) m cap, .int .i64 n, undef, undef, .bool false, .slice (some ⟨4, 0, some 1⟩) (m + 2) (m + 2), .slice (some ⟨4, 0, some 1⟩) m (m + 2), .slice (some ⟨5, 0, some 2⟩) l5 l5, .int .i64 e5, .slice (some ⟨6, 0, some 1⟩) l6 l6, .int .i64 e6, .slice (some ⟨7, 0, some 1⟩) l7 l7, .int .i64 e7, .int .i64 (iN 0)] ++ List.replicate 73 undef) [psO opn z M, .row [] true none, .dead, psT, psW z m, o5, o6, o7] (.exit 0) ([.slice (some ⟨0, 0, some 1⟩) m cap, .int .i64 n, undef, undef, .bool false, .slice (some ⟨4, 0, some 1⟩) (m + 2) (m + 2), .slice (some ⟨4, 0, some 1⟩) m (m + 2), .slice (some ⟨5, 0, some 2⟩) l5 l5, .int .i64 e5, .slice (some ⟨6, 0, some 1⟩) l6 l6, .int .i64 e6, .slice (some ⟨7, 0, some 1⟩) l7 l7, .int .i64 e7, .int .i64 (iN m)] ++ List.replicate 73 undef) [psO opn z M, .row [] true none, .dead, psT, psW z m, o5, o6, o7] := by
  refine Sim.loop (fun k => (([.slice (some ⟨0, 0, some 1⟩) m cap, .int .i64 n, undef, undef, .bool false, .slice (some ⟨4, 0, some 1⟩) (m + 2) (m + 2), .slice (some ⟨4, 0, some 1⟩) m (m + 2), .slice (some ⟨5, 0, some 2⟩) l5 l5, .int .i64 e5, .slice (some ⟨6, 0, some 1⟩) l6 l6, .int .i64 e6, .slice (some ⟨7, 0, some 1⟩) l7 l7, .int .i64 e7, .int .i64 (iN k)] ++ List.replicate 73 undef), [psO opn z M, .row [] true none, .dead, psT, psW z m, o5, o6, o7])) m (fun k hk => ?_) ?_ rfl
  · exact (psR_p0 opn z M m cap n l5 e5 o5 l6 e6 o6 l7 e7 o7 (.row [] true none) .dead psT rfl trivial rfl k p5 p6 p7 hm hM hk (by rw [zr_lt hk]; simp) hst).cast (by kernel_rfl) (by kernel_rfl) (by kernel_rfl) (by kernel_rfl)
  · exact (psE_p0 opn z M m cap n l5 e5 o5 l6 e6 o6 l7 e7 o7 (.row [] true none) .dead psT rfl trivial rfl p5 p6 p7 hm hM hst).cast (by kernel_rfl) (by kernel_rfl) (by kernel_rfl) (by kernel_rfl)
theorem pn_loop (opn : Option Nat) (z : Nat → Int) (M m cap : Nat) (n : Int) (l5 : Nat) (e5 : Int) (o5 : AObj) (l6 : Nat) (e6 : Int) (o6 : AObj) (l7 : Nat) (e7 : Int) (o7 : AObj) (p5 : plainO o5) (p6 : plainO o6) (p7 : plainO o7) (hm : m ≤ 1048576) (hM : m ≤ M) (hst : Stood false [psO opn z M]) :
    Sim dLPs 8 (.loop (loopOf Try.f15 0)) ([.slice (some ⟨0, 0, some 1⟩) m cap, .int .i64 n, undef, undef, .bool false, .slice (some ⟨4, 0, some 1⟩) (m + 2) (m + 2), .slice (some ⟨4, 0, some 1⟩) m (m + 2), .slice none l5 l5, .int .i64 e5, .slice none l6 l6, .int .i64 e6, .slice none l7 l7, .int .i64 e7, .int .i64 (iN 0)] ++ List.replicate 73 undef) [psO opn z M, .row [] true none, .dead, psT, psW z m, o5, o6, o7] (.exit 0) ([.slice (some ⟨0, 0, some 1⟩) m cap, .int .i64 n, undef, undef, .bool false, .slice (some ⟨4, 0, some 1⟩) (m + 2) (m + 2), .slice (some ⟨4, 0, some 1⟩) m (m + 2), .slice none l5 l5, .int .i64 e5, .slice none l6 l6, .int .i64 e6, .slice none l7 l7, .int .i64 e7, .int .i64 (iN m)] ++ List.replicate 73 undef) [psO opn z M, .row [] true none, .dead, psT, psW z m, o5, o6, o7] := by
  refine Sim.loop (fun k => (([.slice (some ⟨0, 0, some 1⟩) m cap, .int .i64 n, undef, undef, .bool false, .slice (some ⟨4, 0, some 1⟩) (m + 2) (m + 2), .slice (some ⟨4, 0, some 1⟩) m (m + 2), .slice none l5 l5, .int .i64 e5, .slice none l6 l6, .int .i64 e6, .slice none l7 l7, .int .i64 e7, .int .i64 (iN k)] ++ List.replicate 73 undef), [psO opn z M, .row [] true none, .dead, psT, psW z m, o5, o6, o7])) m (fun k hk => ?_) ?_ rfl
  · exact (pnR_p0 opn z M m cap n l5 e5 o5 l6 e6 o6 l7 e7 o7 (.row [] true none) .dead psT rfl trivial rfl k p5 p6 p7 hm hM hk (by rw [zr_lt hk]; simp) hst).cast (by kernel_rfl) (by kernel_rfl) (by kernel_rfl) (by kernel_rfl)
  · exact (pnE_p0 opn z M m cap n l5 e5 o5 l6 e6 o6 l7 e7 o7 (.row [] true none) .dead psT rfl trivial rfl p5 p6 p7 hm hM hst).cast (by kernel_rfl) (by kernel_rfl) (by kernel_rfl) (by kernel_rfl)
theorem ps_all (opn : Option Nat) (z : Nat → Int) (M m cap : Nat) (n : Int) (hM : m ≤ M) : ∃ σ', CallR Try.prog false 15 [.slice (some ⟨0, 0, some 1⟩) m cap, .int .i64 n] [psO opn z M] (.bool true) σ' := by
  rcases Nat.lt_or_ge 1048576 m with hm | hm
  · exact ⟨_, psG_p0 opn z M m cap n hm hM⟩
  rcases Nat.eq_zero_or_pos m with rfl | h0
  · let x := stAn srA srB (intAt (rowOf (fun i => [Value.int .i64 (z i)]) M)) 0 n
    let y := stAn swA swB (intAt [.int .i64 77, .int .i64 78]) 0 n
    have hal : Alike y x := st_alike' fun i hi => absurd hi (Nat.not_lt_zero i)
    have hx : x.n = 0 := by show (stAn srA srB _ 0 n).n = 0; unfold stAn; cases decide (n < 1) <;> rfl
    have hy : y.n = 0 := by rw [hal.n]; exact hx
    refine ⟨_, py_p0 opn z M cap n x.e (aObj 2 pRow x) y.e (aObj 1 xRow y) y.e (aObj 1 xRow y) .dead ?_ ?_ ?_ ?_⟩
    · have h := told_side hal (σ := [psO opn z M, .row [] true none, psT, .row [.int .i64 77, .int .i64 78] true (some 1), aObj 2 pRow x, aObj 1 xRow y, aObj 1 xRow y]) (b := 5) (b2 := 6) (c := 4) rfl rfl rfl (by decide) (by decide) (by decide)
      rw [hx, hy] at h
      exact h
    · have h := st_side (b := 3) (m := 0) (cap := 2) (n := n) (z := 1) (row := xRow) (h := stAn swA swB) (σ := [psO opn z M, .row [] true none, psT, .row [.int .i64 77, .int .i64 78] true (some 1), aObj 2 pRow x, aObj 1 xRow y]) rfl rfl rfl rfl
      have hy : (stAn swA swB (intAt [.int .i64 77, .int .i64 78]) 0 n).n = 0 := hy
      rw [hy] at h
      exact h
    · have h := st_side (b := 3) (m := 0) (cap := 2) (n := n) (z := 1) (row := xRow) (h := stAn swA swB) (σ := [psO opn z M, .row [] true none, psT, .row [.int .i64 77, .int .i64 78] true (some 1), aObj 2 pRow x]) rfl rfl rfl rfl
      have hy : (stAn swA swB (intAt [.int .i64 77, .int .i64 78]) 0 n).n = 0 := hy
      rw [hy] at h
      exact h
    · have h := st_side (b := 0) (m := 0) (cap := cap) (n := n) (z := 2) (row := pRow) (h := stAn srA srB) (σ := [psO opn z M, .row [] true none, psT, .row [.int .i64 77, .int .i64 78] true (some 1)]) rfl (rowOf_all (fun _ => rfl) _) (Nat.ble_eq_true_of_le (Nat.zero_le _)) rfl
      have hx : (stAn srA srB (intAt (rowOf (fun i => [Value.int .i64 (z i)]) M)) 0 n).n = 0 := hx
      rw [hx] at h
      exact h
  · have hl1 : (rowOf (fun i => [Value.int .i64 (z i)]) M).length = M := by rw [rowOf_len (s := 1) (fun _ => rfl)]; omega
    have hl2 : (rowOf (fun i => [Value.int .i64 (zr z m i)]) (m + 2)).length = m + 2 := by rw [rowOf_len (s := 1) (fun _ => rfl)]; omega
    obtain ⟨x, ex⟩ : ∃ x, x = stAn srA srB (intAt (rowOf (fun i => [Value.int .i64 (z i)]) M)) m n := ⟨_, rfl⟩
    obtain ⟨y, ey⟩ : ∃ y, y = stAn swA swB (intAt (rowOf (fun i => [Value.int .i64 (zr z m i)]) (m + 2))) m n := ⟨_, rfl⟩
    have hal : Alike y x := by
      rw [ex, ey]
      exact st_alike' fun i hi => by rw [int_at (by omega), int_at (by omega), zr_lt hi]
    have s5 : aAppend Try.prog [psO opn z M, .row [] true none] [74, 74] [.slice (some ⟨1, 0, some 1⟩) 0 0, .slice (some ⟨0, 0, some 1⟩) m cap] = some (.slice (some ⟨2, 0, some 1⟩) m m, [psO opn z M, .row [] true none, .row (rowOf (fun i => [.int .i64 (z i)]) m) true (some 1)]) := by
      have h := append_many (P := Try.prog) (σ := [psO opn z M, .row [] true none]) (t := 74) (t2 := 74) (ts := []) (rest := []) (b := 1) (N := 0) (n := m) (z := 1) (F := fun i => [.int .i64 (z i)]) (F' := fun i => [.int .i64 (z i)]) (x := .slice (some ⟨0, 0, some 1⟩) m cap) (rw' := true) (opn := none)
        (by kernel_rfl) rfl (.inl rfl) (cells_row (σ := [psO opn z M, .row [] true none]) (b := 0) (z := 1) (F := fun i => [Value.int .i64 (z i)]) (m := M) rfl (fun _ => rfl) hM 1) rfl (by rw [Nat.zero_add]; rfl) (fun _ => rfl) (rowOf_all (fun _ => rfl) _) h0 (by omega)
      rw [Nat.zero_add] at h
      exact h
    have s4 : aAppend Try.prog [psO opn z M, .row [] true none, .row (rowOf (fun i => [.int .i64 (z i)]) m) true (some 1), psT] [74, 74] [.slice (some ⟨2, 0, some 1⟩) m m, .slice (some ⟨3, 0, some 1⟩) 2 2] = some (.slice (some ⟨4, 0, some 1⟩) (m + 2) (m + 2), [psO opn z M, .row [] true none, .dead, psT, psW z m]) :=
      append_many (P := Try.prog) (σ := [psO opn z M, .row [] true none, .row (rowOf (fun i => [.int .i64 (z i)]) m) true (some 1), psT]) (t := 74) (t2 := 74) (ts := []) (rest := []) (b := 2) (N := m) (n := 2) (z := 1) (F := fun i => [.int .i64 (z i)]) (F' := fun i => [.int .i64 (zr z m i)]) (x := .slice (some ⟨3, 0, some 1⟩) 2 2) (rw' := true) (opn := some 1)
        (by kernel_rfl) rfl (.inl rfl) (by kernel_rfl) rfl (ps_row z m) (fun _ => rfl) rfl (by decide) (by omega)
    have s3 : sRSteps [.slice (some ⟨0, 0, some 1⟩) m cap, .int .i64 n] [psO opn z M, .row [] true none, .dead, psT, psW z m] = some (.tuple #[.slice (aAd 5 x.n 2) x.n x.n, .int .i64 x.e], [psO opn z M, .row [] true none, .dead, psT, psW z m, aObj 2 pRow x]) := by
      subst ex
      exact st_side (b := 0) (m := m) (cap := cap) (n := n) (z := 2) (row := pRow) (h := stAn srA srB) (σ := [psO opn z M, .row [] true none, .dead, psT, psW z m]) rfl (rowOf_all (fun _ => rfl) _) (Nat.ble_eq_true_of_le (by rw [hl1]; exact hM)) rfl
    have s2 : sSteps [.slice (some ⟨4, 0, some 1⟩) m (m + 2), .int .i64 n] [psO opn z M, .row [] true none, .dead, psT, psW z m, aObj 2 pRow x] = some (.tuple #[.slice (aAd 6 y.n 1) y.n y.n, .int .i64 y.e], [psO opn z M, .row [] true none, .dead, psT, psW z m, aObj 2 pRow x, aObj 1 xRow y]) := by
      subst ey
      exact st_side (b := 4) (m := m) (cap := m + 2) (n := n) (z := 1) (row := xRow) (h := stAn swA swB) (σ := [psO opn z M, .row [] true none, .dead, psT, psW z m, aObj 2 pRow x]) rfl (rowOf_all (fun _ => rfl) _) (Nat.ble_eq_true_of_le (by rw [hl2]; omega)) rfl
    have s1 : sSteps [.slice (some ⟨4, 0, some 1⟩) m (m + 2), .int .i64 n] [psO opn z M, .row [] true none, .dead, psT, psW z m, aObj 2 pRow x, aObj 1 xRow y] = some (.tuple #[.slice (aAd 7 y.n 1) y.n y.n, .int .i64 y.e], [psO opn z M, .row [] true none, .dead, psT, psW z m, aObj 2 pRow x, aObj 1 xRow y, aObj 1 xRow y]) := by
      subst ey
      exact st_side (b := 4) (m := m) (cap := m + 2) (n := n) (z := 1) (row := xRow) (h := stAn swA swB) (σ := [psO opn z M, .row [] true none, .dead, psT, psW z m, aObj 2 pRow x, aObj 1 xRow (stAn swA swB (intAt (rowOf (fun i => [Value.int .i64 (zr z m i)]) (m + 2))) m n)]) rfl (rowOf_all (fun _ => rfl) _) (Nat.ble_eq_true_of_le (by rw [hl2]; omega)) rfl
    have s0 := told_side hal (σ := [psO opn z M, .row [] true none, .dead, psT, psW z m, aObj 2 pRow x, aObj 1 xRow y, aObj 1 xRow y]) (b := 6) (b2 := 7) (c := 5) rfl rfl rfl (by decide) (by decide) (by decide)
    have h77 : (zr z m m == Int.ofNat 77) = true := by rw [zr_m]; rfl
    have h78 : (zr z m (m + 1) == Int.ofNat 78) = true := by rw [zr_m1]; rfl
    rcases Nat.eq_zero_or_pos y.n with hy | hy
    · have hx : x.n = 0 := by rw [← hal.n]; exact hy
      have a1 : aAd 6 y.n 1 = none := by rw [hy]; rfl
      have a2 : aAd 7 y.n 1 = none := by rw [hy]; rfl
      have a3 : aAd 5 x.n 2 = none := by rw [hx]; rfl
      rw [a1, a2, a3] at s0
      rw [a1] at s2
      rw [a2] at s1
      rw [a3] at s3
      exact ⟨_, pnC_p0 opn z M m cap n x.n x.e (aObj 2 pRow x) y.n y.e (aObj 1 xRow y) y.n y.e (aObj 1 xRow y) .dead hm hM h0 h77 h78 s0 (fun hst => (pn_loop opn z M m cap n x.n x.e (aObj 2 pRow x) y.n y.e (aObj 1 xRow y) y.n y.e (aObj 1 xRow y) (aObj_plain pRow_plain x) (aObj_plain xRow_plain y) (aObj_plain xRow_plain y) hm hM hst).enter [true, true, false, false, true, true, true, true, true, true, true, true, true, true, false, false, false, false, false, false, false, false, false, false, false, false, false, false, false, false, false, false, false, false, false, false, false, false, false, false, false, false, false, false, false, false, false, false, false, false, false, false, false, false, false, false, false, false, false, false, false, false, false, false, false, false, false, false, false, false, false, false, false, false, false, false, false, false, false, false, false, false, false, false, false, false, false] (by kernel_rfl)) s1 s2 s3 s4 s5⟩
    · obtain ⟨k, hk⟩ : ∃ k, y.n = k + 1 := ⟨y.n - 1, by omega⟩
      have hx : x.n = k + 1 := by rw [← hal.n]; exact hk
      have a1 : aAd 6 y.n 1 = some ⟨6, 0, some 1⟩ := by rw [hk]; rfl
      have a2 : aAd 7 y.n 1 = some ⟨7, 0, some 1⟩ := by rw [hk]; rfl
      have a3 : aAd 5 x.n 2 = some ⟨5, 0, some 2⟩ := by rw [hx]; rfl
      rw [a1, a2, a3] at s0
      rw [a1] at s2
      rw [a2] at s1
      rw [a3] at s3
      exact ⟨_, psC_p0 opn z M m cap n x.n x.e (aObj 2 pRow x) y.n y.e (aObj 1 xRow y) y.n y.e (aObj 1 xRow y) .dead hm hM h0 h77 h78 s0 (fun hst => (ps_loop opn z M m cap n x.n x.e (aObj 2 pRow x) y.n y.e (aObj 1 xRow y) y.n y.e (aObj 1 xRow y) (aObj_plain pRow_plain x) (aObj_plain xRow_plain y) (aObj_plain xRow_plain y) hm hM hst).enter [true, true, false, false, true, true, true, true, true, true, true, true, true, true, false, false, false, false, false, false, false, false, false, false, false, false, false, false, false, false, false, false, false, false, false, false, false, false, false, false, false, false, false, false, false, false, false, false, false, false, false, false, false, false, false, false, false, false, false, false, false, false, false, false, false, false, false, false, false, false, false, false, false, false, false, false, false, false, false, false, false, false, false, false, false, false, false] (by kernel_rfl)) s1 s2 s3 s4 s5⟩
theorem ps_nil (n : Int) : ∃ σ', CallR Try.prog false 15 [.slice none 0 0, .int .i64 n] [] (.bool true) σ' := by
  let x := stAn srA srB (fun _ => 0) 0 n
  let y := stAn swA swB (intAt [.int .i64 77, .int .i64 78]) 0 n
  have hal : Alike y x := st_alike' fun i hi => absurd hi (Nat.not_lt_zero i)
  have hx : x.n = 0 := by show (stAn srA srB _ 0 n).n = 0; unfold stAn; cases decide (n < 1) <;> rfl
  have hy : y.n = 0 := by rw [hal.n]; exact hx
  refine ⟨_, pz_p0 n x.e (aObj 2 pRow x) y.e (aObj 1 xRow y) y.e (aObj 1 xRow y) .dead ?_ ?_ ?_ ?_⟩
  · have h := told_side hal (σ := [.row [] true none, psT, .row [.int .i64 77, .int .i64 78] true (some 1), aObj 2 pRow x, aObj 1 xRow y, aObj 1 xRow y]) (b := 4) (b2 := 5) (c := 3) rfl rfl rfl (by decide) (by decide) (by decide)
    rw [hx, hy] at h
    exact h
  · have h := st_side (b := 2) (m := 0) (cap := 2) (n := n) (z := 1) (row := xRow) (h := stAn swA swB) (σ := [.row [] true none, psT, .row [.int .i64 77, .int .i64 78] true (some 1), aObj 2 pRow x, aObj 1 xRow y]) rfl rfl rfl rfl
    have hy : (stAn swA swB (intAt [.int .i64 77, .int .i64 78]) 0 n).n = 0 := hy
    rw [hy] at h
    exact h
  · have h := st_side (b := 2) (m := 0) (cap := 2) (n := n) (z := 1) (row := xRow) (h := stAn swA swB) (σ := [.row [] true none, psT, .row [.int .i64 77, .int .i64 78] true (some 1), aObj 2 pRow x]) rfl rfl rfl rfl
    have hy : (stAn swA swB (intAt [.int .i64 77, .int .i64 78]) 0 n).n = 0 := hy
    rw [hy] at h
    exact h
  · show some (aVal 3 2 (stAn srA srB (fun _ => 0) 0 n), _ ++ [aObj 2 pRow (stAn srA srB (fun _ => 0) 0 n)]) = _
    have hx : (stAn srA srB (fun _ => 0) 0 n).n = 0 := hx
    rw [aVal_eq, hx]
    rfl
end Go.Lk
