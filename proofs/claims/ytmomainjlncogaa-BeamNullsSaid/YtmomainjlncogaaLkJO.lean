import Derived.Test.YtmomainjlncogaaLkBNC
import Derived.Test.YtmomainjlncogaaLkBND
section
/- Null: the coefficients; its loops. -/
namespace Go.Lk
open Go.Proofs
set_option maxRecDepth 100000
set_option linter.unusedVariables false
set_option linter.unusedSimpArgs false
/-! ### The coefficients -/
def cms (p q w : Nat × Nat) : Nat × Nat := (fsub p.1 (nMul_0 w.1 w.2 q.1 q.2), fsub p.2 (nMul_1 w.1 w.2 q.1 q.2))
/-- After i factors, the coefficient of power k. -/
def pc (W : Nat → Nat × Nat) : Nat → Nat → Nat × Nat
  | 0, 0 => (4607182418800017408, 0)
  | 0, _ + 1 => (0, 0)
  | i + 1, 0 => cms (0, 0) (pc W i 0) (W i)
  | i + 1, k + 1 => if k < i then cms (pc W i k) (pc W i (k + 1)) (W i) else if k = i then pc W i i else (0, 0)
theorem pc_hi (W : Nat → Nat × Nat) : ∀ i k, i < k → pc W i k = (0, 0)
  | 0, k + 1, _ => by simp only [pc]
  | i + 1, k + 1, h => by simp only [pc]; rw [if_neg (by omega), if_neg (by omega)]
theorem pc_top (W : Nat → Nat × Nat) (i : Nat) : pc W (i + 1) (i + 1) = pc W i i := by simp only [pc]; rw [if_neg (by omega), if_true]
theorem pc_mid (W : Nat → Nat × Nat) {i j : Nat} (h0 : 0 < j) (h : j ≤ i) : pc W (i + 1) j = cms (pc W i (j - 1)) (pc W i j) (W i) := by
  obtain ⟨k, rfl⟩ : ∃ k, j = k + 1 := ⟨j - 1, by omega⟩
  rw [show k + 1 - 1 = k by omega]
  conv => lhs; simp only [pc]
  rw [if_pos (by omega)]
theorem pc_congr {V W : Nat → Nat × Nat} : ∀ (i : Nat), (∀ j, j < i → V j = W j) → ∀ k, pc V i k = pc W i k
  | 0, _, 0 => by simp only [pc]
  | 0, _, k + 1 => by simp only [pc]
  | i + 1, h, 0 => by simp only [pc]; rw [pc_congr i (fun j hj => h j (by omega)), h i (by omega)]
  | i + 1, h, k + 1 => by
    have e := pc_congr i (fun j hj => h j (by omega))
    simp only [pc]
    rw [e, e, e, h i (by omega)]
/-- On the way down. -/
def midC (W : Nat → Nat × Nat) (i j q : Nat) : Nat × Nat := if j < q then pc W (i + 1) q else pc W i q
def conjC (W : Nat → Nat × Nat) (n k q : Nat) : Nat × Nat := if q < k then ((pc W n q).1, nCj_0 (pc W n q).1 (pc W n q).2) else pc W n q
def cRow (f : Nat → Nat × Nat) (q : Nat) : List Value := [.complex .f64 (f q).1 (f q).2]
theorem upd_row {f g : Nat → Nat × Nat} {k m : Nat} {l : List Value} (hk : k < m → l = cRow g k) (h : ∀ q, q < m → q ≠ k → f q = g q) : rowOf (updR (cRow f) k l) m = rowOf (cRow g) m := by
  refine rowOf_congr fun q hq => ?_
  by_cases e : q = k
  · subst e; rw [updR_at, hk hq]
  · rw [updR_ne _ _ _ e]; unfold cRow; rw [h q hq e]
def nA (opn : Option Nat) (x : Nat → Nat) (M : Nat) : AObj := .row (rowOf (fun i => [.float .f64 (x i)]) M) false opn
def nD (d : Nat) : AObj := .row [.float .f64 d] true none
def nR (f : Nat → Nat × Nat) (m : Nat) : AObj := .row (rowOf (cRow f) m) true none
def nW (d : Nat) (x : Nat → Nat) (i : Nat) : Nat × Nat := (wTurn_0 (cStep_0 d (x i)), wTurn_1 (cStep_0 d (x i)))
def nFi (n cap m d i wr wi j : Nat) : List Value := ([.int .i64 (iN m), .float .f64 d, .slice (some ⟨0, 0, some 1⟩) n cap, undef, undef, undef, .slice none 0 0, .int .i64 0, .slice (some ⟨2, 0, some 1⟩) m m, .int .i64 (iN i), undef, .complex .f64 wr wi, .int .i64 (iN (j))] ++ List.replicate 23 undef ++ [.slice (some ⟨0, 0, some 1⟩) n cap, .int .i64 (iN n), .int .i64 (iN i)] ++ List.replicate 61 undef)
def nFo (n cap m d i : Nat) : List Value := ([.int .i64 (iN m), .float .f64 d, .slice (some ⟨0, 0, some 1⟩) n cap, undef, undef, undef, .slice none 0 0, .int .i64 0, .slice (some ⟨2, 0, some 1⟩) m m] ++ List.replicate 27 undef ++ [.slice (some ⟨0, 0, some 1⟩) n cap, .int .i64 (iN n), .int .i64 (iN (i))] ++ List.replicate 61 undef)
def nFc (n cap m d k : Nat) : List Value := ([.int .i64 (iN m), .float .f64 d, .slice (some ⟨0, 0, some 1⟩) n cap, undef, undef, undef, .slice none 0 0, .int .i64 0, .slice (some ⟨2, 0, some 1⟩) m m] ++ List.replicate 77 undef ++ [.int .i64 (iN (n + 1)), .int .i64 (iN (k))] ++ List.replicate 12 undef)
theorem n_inner (opn : Option Nat) (x : Nat → Nat) (M n cap m d i : Nat) (hm : n ≤ M) (hn : n < m) (h64 : m ≤ 64) (hi : i < n) (hst : Stood false [nA opn x M]) :
    Sim dLn4 3 (.loop (loopOf Try.f119 1)) (nFi n cap m d i (nW d x i).1 (nW d x i).2 i) [nA opn x M, nD d, nR (midC (nW d x) i i) m] (.exit 3) (nFi n cap m d i (nW d x i).1 (nW d x i).2 0) [nA opn x M, nD d, nR (midC (nW d x) i 0) m] := by
  refine Sim.loop (fun s => (nFi n cap m d i (nW d x i).1 (nW d x i).2 (i - s), [nA opn x M, nD d, nR (midC (nW d x) i (i - s)) m])) i (fun s hs => ?_) ?_ rfl
  · refine (nI_p0 opn x M n cap m d hm hn h64 (fun q => (midC (nW d x) i (i - s) q).1) (fun q => (midC (nW d x) i (i - s) q).2) i (nW d x i).1 (nW d x i).2 hi (i - s) (by omega) (by omega) hst).cast (by kernel_rfl) (by kernel_rfl) (by kernel_rfl) ?_
    have h := upd_row (f := midC (nW d x) i (i - s)) (g := midC (nW d x) i (i - (s + 1))) (k := i - s) (m := m) (l := cRow (fun _ => cms (midC (nW d x) i (i - s) (i - s - 1)) (midC (nW d x) i (i - s) (i - s)) (nW d x i)) 0) (fun _ => by
      unfold cRow midC
      rw [if_neg (by omega), if_neg (by omega), if_pos (by omega), pc_mid _ (by omega) (by omega)]) (fun q hq hne => by
      unfold midC
      by_cases e : i - s < q
      · rw [if_pos e, if_pos (by omega)]
      · rw [if_neg e, if_neg (by omega)])
    show [nA opn x M, nD d, AObj.row (rowOf (updR (cRow (midC (nW d x) i (i - s))) (i - s) (cRow (fun _ => cms (midC (nW d x) i (i - s) (i - s - 1)) (midC (nW d x) i (i - s) (i - s)) (nW d x i)) 0)) m) true none] = _
    rw [h]; rfl
  · show Sim dLn4 3 _ (nFi n cap m d i (nW d x i).1 (nW d x i).2 (i - i)) [nA opn x M, nD d, nR (midC (nW d x) i (i - i)) m] _ _ _
    rw [Nat.sub_self]
    exact (nIE_p0 opn x M n cap m d hm hn h64 (fun q => (midC (nW d x) i 0 q).1) (fun q => (midC (nW d x) i 0 q).2) i (nW d x i).1 (nW d x i).2 hi hst).cast (by kernel_rfl) (by kernel_rfl) (by kernel_rfl) (by kernel_rfl)
theorem n_outer (opn : Option Nat) (x : Nat → Nat) (M n cap m d : Nat) (hm : n ≤ M) (hn : n < m) (h64 : m ≤ 64) (hst : Stood false [nA opn x M]) :
    Sim dLn4 3 (.loop (loopOf Try.f119 0)) (nFo n cap m d 0) [nA opn x M, nD d, nR (pc (nW d x) 0) m] (.exit 1) (nFo n cap m d n) [nA opn x M, nD d, nR (pc (nW d x) n) m] := by
  refine Sim.loop (fun i => (nFo n cap m d i, [nA opn x M, nD d, nR (pc (nW d x) i) m])) n (fun i hi => ?_) ?_ rfl
  · refine (nO_p0 opn x M n cap m d hm hn h64 (fun q => (pc (nW d x) i q).1) (fun q => (pc (nW d x) i q).2) (fun q => (midC (nW d x) i 0 q).1) (fun q => (midC (nW d x) i 0 q).2) i hi (fun hst => ?_) hst).cast (by kernel_rfl) (by kernel_rfl) (by kernel_rfl) ?_
    · have h := upd_row (f := pc (nW d x) i) (g := midC (nW d x) i i) (k := i + 1) (m := m) (l := cRow (fun _ => pc (nW d x) i i) 0) (fun _ => by
        unfold cRow midC
        rw [if_pos (by omega), pc_top]) (fun q hq hne => by
        unfold midC
        by_cases e : i < q
        · rw [if_pos e, pc_hi _ i q e, pc_hi _ (i + 1) q (by omega)]
        · rw [if_neg e])
      refine ((n_inner opn x M n cap m d i hm hn h64 hi hst).enter ([true, true, true, false, false, false, true, true, true, true, false, true, true, false, false, false, false, false, false, false, false, false, false, false, false, false, false, false, false, false, false, false, false, false, false, false, true, true, true] ++ List.replicate 61 false) (by kernel_rfl)).cast rfl ?_ (by kernel_rfl) (by kernel_rfl)
      show [nA opn x M, nD d, AObj.row (rowOf (cRow (midC (nW d x) i i)) m) true none] = [nA opn x M, nD d, AObj.row (rowOf (updR (cRow (pc (nW d x) i)) (i + 1) (cRow (fun _ => pc (nW d x) i i) 0)) m) true none]
      rw [h]
    · have h := upd_row (f := midC (nW d x) i 0) (g := pc (nW d x) (i + 1)) (k := 0) (m := m) (l := cRow (fun _ => cms (0, 0) (midC (nW d x) i 0 0) (nW d x i)) 0) (fun _ => by
        unfold cRow midC
        rw [if_neg (by omega)]
        simp only [pc]) (fun q hq hne => by
        unfold midC
        rw [if_pos (by omega)])
      show [nA opn x M, nD d, AObj.row (rowOf (updR (cRow (midC (nW d x) i 0)) 0 (cRow (fun _ => cms (0, 0) (midC (nW d x) i 0 0) (nW d x i)) 0)) m) true none] = _
      rw [h]; rfl
  · exact (nOE_p0 opn x M n cap m d hm hn h64 (fun q => (pc (nW d x) n q).1) (fun q => (pc (nW d x) n q).2) hst).cast (by kernel_rfl) (by kernel_rfl) (by kernel_rfl) (by kernel_rfl)
theorem n_conj (opn : Option Nat) (x : Nat → Nat) (M n cap m d : Nat) (W : Nat → Nat × Nat) (hm : n ≤ M) (hn : n < m) (h64 : m ≤ 64) (hst : Stood false [nA opn x M]) :
    Sim dLn4 3 (.loop (loopOf Try.f119 2)) (nFc n cap m d 0) [nA opn x M, nD d, nR (conjC W n 0) m] (.exit 5) (nFc n cap m d (n + 1)) [nA opn x M, nD d, nR (conjC W n (n + 1)) m] := by
  refine Sim.loop (fun k => (nFc n cap m d k, [nA opn x M, nD d, nR (conjC W n k) m])) (n + 1) (fun k hk => ?_) ?_ rfl
  · refine (nC_p0 opn x M n cap m d hm hn h64 (fun q => (conjC W n k q).1) (fun q => (conjC W n k q).2) k hk hst).cast (by kernel_rfl) (by kernel_rfl) (by kernel_rfl) ?_
    have h := upd_row (f := conjC W n k) (g := conjC W n (k + 1)) (k := k) (m := m) (l := cRow (fun _ => ((conjC W n k k).1, nCj_0 (conjC W n k k).1 (conjC W n k k).2)) 0) (fun _ => by
      unfold cRow conjC
      rw [if_neg (by omega), if_pos (by omega)]) (fun q hq hne => by
      unfold conjC
      by_cases e : q < k
      · rw [if_pos e, if_pos (by omega)]
      · rw [if_neg e, if_neg (by omega)])
    show [nA opn x M, nD d, AObj.row (rowOf (updR (cRow (conjC W n k)) k (cRow (fun _ => ((conjC W n k k).1, nCj_0 (conjC W n k k).1 (conjC W n k k).2)) 0)) m) true none] = _
    rw [h]; rfl
  · exact (nCE_p0 opn x M n cap m d hm hn h64 (fun q => (conjC W n (n + 1) q).1) (fun q => (conjC W n (n + 1) q).2) hst).cast (by kernel_rfl) (by kernel_rfl) (by kernel_rfl) (by kernel_rfl)

end Go.Lk
end

section
/- The document's Null: its loops. -/
namespace Go.Lk
open Go.Proofs
set_option maxRecDepth 100000
set_option linter.unusedVariables false
set_option linter.unusedSimpArgs false
def rW (d : Nat) (x : Nat → Nat) (i : Nat) : Nat × Nat := (rTurn_0 (cRStep_0 d (x i)), rTurn_1 (cRStep_0 d (x i)))
def qRow (f : Nat → Nat × Nat) (q : Nat) : List Value := [.float .f64 (f q).1, .float .f64 (f q).2]
def qR (f : Nat → Nat × Nat) (k : Nat) (o : Option Nat) : AObj := .row (rowOf (qRow f) k) true o
def okN (d : Nat) (x : Nat → Nat) : Nat → Bool
  | 0 => cRFin_0 d
  | k + 1 => bif okN d x k then cRFin_0 (x k) else false
def rFa (n cap m d : Nat) (w : Bool) (k : Nat) : List Value := ([.int .i64 (iN m), .float .f64 d, .slice (some ⟨0, 0, some 1⟩) n cap, undef, undef, undef, .slice none 0 0, .int .i64 0, .bool w, .int .i64 (iN k)] ++ List.replicate 118 undef)
theorem rn_check (opn : Option Nat) (x : Nat → Nat) (M n cap m d : Nat) (hm : n ≤ M) (hn : n < m) (h64 : m ≤ 64) (hst : Stood false []) :
    Sim dLn4 1 (.loop (loopOf Try.f118 0)) (rFa n cap m d (okN d x 0) 0) [nA opn x M] (.exit 0) (rFa n cap m d (okN d x n) n) [nA opn x M] := by
  refine Sim.loop (fun k => (rFa n cap m d (okN d x k) k, [nA opn x M])) n (fun k hk => ?_) ?_ rfl
  · show Sim dLn4 1 _ (rFa n cap m d (okN d x k) k) _ _ (rFa n cap m d (bif okN d x k then cRFin_0 (x k) else false) (k + 1)) _
    cases okN d x k
    · exact (nraF_p0 opn x M n cap m d hm hn h64 k hk hst).cast (by kernel_rfl) (by kernel_rfl) (by kernel_rfl) (by kernel_rfl)
    · exact (nraT_p0 opn x M n cap m d hm hn h64 k hk hst).cast (by kernel_rfl) (by kernel_rfl) (by kernel_rfl) (by kernel_rfl)
  · exact (nraE_p0 opn x M n cap m d hm hn h64 (okN d x n) hst).cast (by kernel_rfl) (by kernel_rfl) (by kernel_rfl) (by kernel_rfl)
def rT (w : Nat × Nat) : AObj := .row [.float .f64 w.1, .float .f64 w.2] true none
def rFb1 (n cap m d i : Nat) (acc : Value) (k : Nat) : List Value := ([.int .i64 (iN m), .float .f64 d, .slice (some ⟨0, 0, some 1⟩) n cap, undef, undef, undef, .slice none 0 0, .int .i64 0, undef, undef, undef, .slice (some ⟨1, 0, some 2⟩) (i + 1) (i + 1), .int .i64 (iN i), .pointer (some ⟨2, 0, none⟩), acc, .int .i64 (iN (k))] ++ List.replicate 112 undef)
def rSb1 (opn : Option Nat) (x : Nat → Nat) (M n cap m d : Nat) (o1 : Option Nat) (i : Nat) : Nat → List Value × AHeap
  | 0 => (rFb1 n cap m d i (.slice none 0 0) 0, [nA opn x M, qR (pc (rW d x) i) (i + 1) o1, rT (rW d x i)])
  | s + 1 => (rFb1 n cap m d i (.slice (some ⟨3, 0, some 2⟩) (s + 1) (s + 1)) (s + 1), [nA opn x M, qR (pc (rW d x) i) (i + 1) o1, rT (rW d x i), qR (pc (rW d x) (i + 1)) (s + 1) (some 2)])
theorem rn_inner1 (opn : Option Nat) (x : Nat → Nat) (M n cap m d : Nat) (hm : n ≤ M) (hn : n < m) (h64 : m ≤ 64) (o1 : Option Nat) (i : Nat) (hi : i < n) (hst : Stood false []) :
    Sim dLn4 3 (.loop (loopOf Try.f118 2)) (rFb1 n cap m d i (.slice none 0 0) 0) [nA opn x M, qR (pc (rW d x) i) (i + 1) o1, rT (rW d x i)] (.exit 4) (rFb1 n cap m d i (.slice (some ⟨3, 0, some 2⟩) (i + 1 + 1) (i + 1 + 1)) (i + 1 + 1)) [nA opn x M, qR (pc (rW d x) i) (i + 1) o1, rT (rW d x i), qR (pc (rW d x) (i + 1)) (i + 1 + 1) (some 2)] := by
  refine Sim.loop (rSb1 opn x M n cap m d o1 i) (i + 1 + 1) (fun k hk => ?_) ?_ rfl
  · cases k with
    | zero =>
      have h := append_first (P := Try.prog) (σ := [nA opn x M, qR (pc (rW d x) i) (i + 1) o1, rT (rW d x i), rT (cms (0, 0) (pc (rW d x) i 0) (rW d x i)), rT (cms (0, 0) (pc (rW d x) i 0) (rW d x i))]) (t := 63) (t2 := 63) (ts := []) (rest := []) (z := 2) (F := qRow (pc (rW d x) (i + 1))) (x := .slice (some ⟨4, 0, some 2⟩) 1 1) (n := 1)
        (by kernel_rfl) (by kernel_rfl) rfl (rowOf_all (fun _ => rfl) _) (by decide) (by decide)
      exact (nrb10_p0 opn x M n cap m d hm hn h64 (fun q => (pc (rW d x) i q).1) (fun q => (pc (rW d x) i q).2) (fun q => (pc (rW d x) (i + 1) q).1) (fun q => (pc (rW d x) (i + 1) q).2) o1 (rW d x i).1 (rW d x i).2 i hi h hst).cast (by kernel_rfl) (by kernel_rfl) (by kernel_rfl) (by kernel_rfl)
    | succ k =>
      rcases Nat.lt_or_ge (k + 1) (i + 1) with hlt | hge
      · have e : qRow (pc (rW d x) (i + 1)) (k + 1) = [.float .f64 (cms (pc (rW d x) i k) (pc (rW d x) i (k + 1)) (rW d x i)).1, .float .f64 (cms (pc (rW d x) i k) (pc (rW d x) i (k + 1)) (rW d x i)).2] := by
          unfold qRow; rw [pc_mid _ (Nat.succ_pos k) (by omega)]; rfl
        have h := append_grow (P := Try.prog) (σ := [nA opn x M, qR (pc (rW d x) i) (i + 1) o1, rT (rW d x i), qR (pc (rW d x) (i + 1)) (k + 1) (some 2), rT (cms (pc (rW d x) i k) (pc (rW d x) i (k + 1)) (rW d x i)), rT (cms (pc (rW d x) i k) (pc (rW d x) i (k + 1)) (rW d x i))]) (t := 63) (t2 := 63) (ts := []) (rest := []) (b := 3) (N := k + 1) (cap := k + 1) (z := 2) (F := qRow (pc (rW d x) (i + 1))) (x := .slice (some ⟨5, 0, some 2⟩) 1 1) (rw' := true) (opn := some 2)
          (by kernel_rfl) rfl (.inl rfl) (by rw [e]; kernel_rfl) rfl (fun _ => rfl) rfl (by omega) rfl
        exact (nrb1M_p0 opn x M n cap m d hm hn h64 (fun q => (pc (rW d x) i q).1) (fun q => (pc (rW d x) i q).2) (fun q => (pc (rW d x) (i + 1) q).1) (fun q => (pc (rW d x) (i + 1) q).2) o1 (rW d x i).1 (rW d x i).2 i hi (k + 1) (Nat.succ_pos k) hlt rfl h hst).cast (by kernel_rfl) (by kernel_rfl) (by kernel_rfl) (by kernel_rfl)
      · obtain rfl : k = i := by omega
        have e : qRow (pc (rW d x) (k + 1)) (k + 1) = [.float .f64 (pc (rW d x) k k).1, .float .f64 (pc (rW d x) k k).2] := by
          unfold qRow; rw [pc_top]
        have h := append_grow (P := Try.prog) (σ := [nA opn x M, qR (pc (rW d x) k) (k + 1) o1, rT (rW d x k), qR (pc (rW d x) (k + 1)) (k + 1) (some 2), rT (pc (rW d x) k k), rT (pc (rW d x) k k)]) (t := 63) (t2 := 63) (ts := []) (rest := []) (b := 3) (N := k + 1) (cap := k + 1) (z := 2) (F := qRow (pc (rW d x) (k + 1))) (x := .slice (some ⟨5, 0, some 2⟩) 1 1) (rw' := true) (opn := some 2)
          (by kernel_rfl) rfl (.inl rfl) (by rw [e]; kernel_rfl) rfl (fun _ => rfl) rfl (by omega) rfl
        exact (nrb1L_p0 opn x M n cap m d hm hn h64 (fun q => (pc (rW d x) k q).1) (fun q => (pc (rW d x) k q).2) (fun q => (pc (rW d x) (k + 1) q).1) (fun q => (pc (rW d x) (k + 1) q).2) o1 (rW d x k).1 (rW d x k).2 k hi rfl h hst).cast (by kernel_rfl) (by kernel_rfl) (by kernel_rfl) (by kernel_rfl)
  · exact (nrb1E_p0 opn x M n cap m d hm hn h64 (fun q => (pc (rW d x) i q).1) (fun q => (pc (rW d x) i q).2) (fun q => (pc (rW d x) (i + 1) q).1) (fun q => (pc (rW d x) (i + 1) q).2) o1 (rW d x i).1 (rW d x i).2 i hi hst).cast (by kernel_rfl) (by kernel_rfl) (by kernel_rfl) (by kernel_rfl)
def rFb2 (n cap m d i : Nat) (acc : Value) (k : Nat) : List Value := ([.int .i64 (iN m), .float .f64 d, .slice (some ⟨0, 0, some 1⟩) n cap, undef, undef, undef, .slice none 0 0, .int .i64 0, undef, undef, undef, .slice (some ⟨2, 0, some 2⟩) (i + 1) (i + 1), .int .i64 (iN i), .pointer (some ⟨3, 0, none⟩), acc, .int .i64 (iN (k))] ++ List.replicate 112 undef)
def rSb2 (opn : Option Nat) (x : Nat → Nat) (M n cap m d : Nat) (xc : AObj) (o1 : Option Nat) (i : Nat) : Nat → List Value × AHeap
  | 0 => (rFb2 n cap m d i (.slice none 0 0) 0, [nA opn x M, xc, qR (pc (rW d x) i) (i + 1) o1, rT (rW d x i)])
  | s + 1 => (rFb2 n cap m d i (.slice (some ⟨4, 0, some 2⟩) (s + 1) (s + 1)) (s + 1), [nA opn x M, xc, qR (pc (rW d x) i) (i + 1) o1, rT (rW d x i), qR (pc (rW d x) (i + 1)) (s + 1) (some 2)])
theorem rn_inner2 (opn : Option Nat) (x : Nat → Nat) (M n cap m d : Nat) (xc : AObj) (hxc : plainO xc) (hm : n ≤ M) (hn : n < m) (h64 : m ≤ 64) (o1 : Option Nat) (i : Nat) (hi : i < n) (hst : Stood false []) :
    Sim dLn4 4 (.loop (loopOf Try.f118 2)) (rFb2 n cap m d i (.slice none 0 0) 0) [nA opn x M, xc, qR (pc (rW d x) i) (i + 1) o1, rT (rW d x i)] (.exit 4) (rFb2 n cap m d i (.slice (some ⟨4, 0, some 2⟩) (i + 1 + 1) (i + 1 + 1)) (i + 1 + 1)) [nA opn x M, xc, qR (pc (rW d x) i) (i + 1) o1, rT (rW d x i), qR (pc (rW d x) (i + 1)) (i + 1 + 1) (some 2)] := by
  refine Sim.loop (rSb2 opn x M n cap m d xc o1 i) (i + 1 + 1) (fun k hk => ?_) ?_ rfl
  · cases k with
    | zero =>
      have h := append_first (P := Try.prog) (σ := [nA opn x M, xc, qR (pc (rW d x) i) (i + 1) o1, rT (rW d x i), rT (cms (0, 0) (pc (rW d x) i 0) (rW d x i)), rT (cms (0, 0) (pc (rW d x) i 0) (rW d x i))]) (t := 63) (t2 := 63) (ts := []) (rest := []) (z := 2) (F := qRow (pc (rW d x) (i + 1))) (x := .slice (some ⟨5, 0, some 2⟩) 1 1) (n := 1)
        (by kernel_rfl) (by kernel_rfl) rfl (rowOf_all (fun _ => rfl) _) (by decide) (by decide)
      exact (nrb20_p0 opn x M n cap m d xc hxc hm hn h64 (fun q => (pc (rW d x) i q).1) (fun q => (pc (rW d x) i q).2) (fun q => (pc (rW d x) (i + 1) q).1) (fun q => (pc (rW d x) (i + 1) q).2) o1 (rW d x i).1 (rW d x i).2 i hi h hst).cast (by kernel_rfl) (by kernel_rfl) (by kernel_rfl) (by kernel_rfl)
    | succ k =>
      rcases Nat.lt_or_ge (k + 1) (i + 1) with hlt | hge
      · have e : qRow (pc (rW d x) (i + 1)) (k + 1) = [.float .f64 (cms (pc (rW d x) i k) (pc (rW d x) i (k + 1)) (rW d x i)).1, .float .f64 (cms (pc (rW d x) i k) (pc (rW d x) i (k + 1)) (rW d x i)).2] := by
          unfold qRow; rw [pc_mid _ (Nat.succ_pos k) (by omega)]; rfl
        have h := append_grow (P := Try.prog) (σ := [nA opn x M, xc, qR (pc (rW d x) i) (i + 1) o1, rT (rW d x i), qR (pc (rW d x) (i + 1)) (k + 1) (some 2), rT (cms (pc (rW d x) i k) (pc (rW d x) i (k + 1)) (rW d x i)), rT (cms (pc (rW d x) i k) (pc (rW d x) i (k + 1)) (rW d x i))]) (t := 63) (t2 := 63) (ts := []) (rest := []) (b := 4) (N := k + 1) (cap := k + 1) (z := 2) (F := qRow (pc (rW d x) (i + 1))) (x := .slice (some ⟨6, 0, some 2⟩) 1 1) (rw' := true) (opn := some 2)
          (by kernel_rfl) rfl (.inl rfl) (by rw [e]; kernel_rfl) rfl (fun _ => rfl) rfl (by omega) rfl
        exact (nrb2M_p0 opn x M n cap m d xc hxc hm hn h64 (fun q => (pc (rW d x) i q).1) (fun q => (pc (rW d x) i q).2) (fun q => (pc (rW d x) (i + 1) q).1) (fun q => (pc (rW d x) (i + 1) q).2) o1 (rW d x i).1 (rW d x i).2 i hi (k + 1) (Nat.succ_pos k) hlt rfl h hst).cast (by kernel_rfl) (by kernel_rfl) (by kernel_rfl) (by kernel_rfl)
      · obtain rfl : k = i := by omega
        have e : qRow (pc (rW d x) (k + 1)) (k + 1) = [.float .f64 (pc (rW d x) k k).1, .float .f64 (pc (rW d x) k k).2] := by
          unfold qRow; rw [pc_top]
        have h := append_grow (P := Try.prog) (σ := [nA opn x M, xc, qR (pc (rW d x) k) (k + 1) o1, rT (rW d x k), qR (pc (rW d x) (k + 1)) (k + 1) (some 2), rT (pc (rW d x) k k), rT (pc (rW d x) k k)]) (t := 63) (t2 := 63) (ts := []) (rest := []) (b := 4) (N := k + 1) (cap := k + 1) (z := 2) (F := qRow (pc (rW d x) (k + 1))) (x := .slice (some ⟨6, 0, some 2⟩) 1 1) (rw' := true) (opn := some 2)
          (by kernel_rfl) rfl (.inl rfl) (by rw [e]; kernel_rfl) rfl (fun _ => rfl) rfl (by omega) rfl
        exact (nrb2L_p0 opn x M n cap m d xc hxc hm hn h64 (fun q => (pc (rW d x) k q).1) (fun q => (pc (rW d x) k q).2) (fun q => (pc (rW d x) (k + 1) q).1) (fun q => (pc (rW d x) (k + 1) q).2) o1 (rW d x k).1 (rW d x k).2 k hi rfl h hst).cast (by kernel_rfl) (by kernel_rfl) (by kernel_rfl) (by kernel_rfl)
  · exact (nrb2E_p0 opn x M n cap m d xc hxc hm hn h64 (fun q => (pc (rW d x) i q).1) (fun q => (pc (rW d x) i q).2) (fun q => (pc (rW d x) (i + 1) q).1) (fun q => (pc (rW d x) (i + 1) q).2) o1 (rW d x i).1 (rW d x i).2 i hi hst).cast (by kernel_rfl) (by kernel_rfl) (by kernel_rfl) (by kernel_rfl)
end Go.Lk
end
