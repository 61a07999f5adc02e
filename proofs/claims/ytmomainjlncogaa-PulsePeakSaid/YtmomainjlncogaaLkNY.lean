/- PulsePeak: joined. -/
import Derived.Test.YtmomainjlncogaaLkNX
namespace Go.Lk
open Go.Proofs
set_option maxRecDepth 100000
set_option linter.unusedVariables false
set_option linter.unusedSimpArgs false
def pkFr (ln : Nat → Nat) (i k : Nat) : List Value := [.bool false, .slice (some ⟨0, 0, some 1⟩) 7 7, .int .i64 (iN i), .int .i64 (iN (ln i)), .slice (some ⟨1, 0, some 1⟩) (ln i) (ln i), .int .i64 0, .slice (some ⟨2, 0, some 1⟩) (2 * ln i - 1) (2 * ln i - 1), .int .i64 (iN k)] ++ List.replicate 114 undef
def pkFo (k : Nat) : List Value := [.bool false, .slice (some ⟨0, 0, some 1⟩) 7 7, .int .i64 (iN k)] ++ List.replicate 119 undef
def pkH (ln : Nat → Nat) (i : Nat) (bw bi ow oi : Nat → Nat) : AHeap := [.row (rowOf (fun j => [.int .i64 (iN (ln j))]) 7) true none, .row (rowOf (fun j => [.complex .f64 (bw j) (bi j)]) (ln i)) true (some 1), .row (rowOf (fun j => [.complex .f64 (ow j) (oi j)]) (2 * ln i - 1)) true none]
/-- What is asked of the number at k. -/
def pkC (n : Nat) (ow oi : Nat → Nat) (k : Nat) : Bool :=
  (match ofFlr (ow k) with | some y => Nat.beq y (ow k) | none => false) && (feq (ow k) (ow k) && (feq (oi k) 0 && (bif Nat.beq k (n - 1) then feq (ow k) (FloatKind.f64.nearest (iN n)) else (match ofAbw (ow k) with | some a => !fgt a 4607182418800017408 | none => false))))
theorem pk_loop (ln : Nat → Nat) (i : Nat) (bw bi ow oi : Nat → Nat) (hi : i < 7) (h2 : 2 ≤ ln i) (h13 : ln i ≤ 13) (hall : ∀ k, k < 2 * ln i - 1 → pkC (ln i) ow oi k = true) (hst : Stood false []) :
    Sim dLPp 3 (.loop (loopOf Try.f17 1)) (pkFr ln i 0) (pkH ln i bw bi ow oi) (.exit 2) (pkFr ln i (2 * ln i - 1)) (pkH ln i bw bi ow oi) := by
  refine Sim.loop (fun k => (pkFr ln i k, pkH ln i bw bi ow oi)) (2 * ln i - 1) (fun k hk => ?_) ?_ rfl
  · have h := hall k hk
    unfold pkC at h
    simp only [Bool.and_eq_true] at h
    obtain ⟨c1, c2, c3, c4⟩ := h
    have hF : ∀ σ : AHeap, sFlr [.float .f64 (ow k)] σ = some (.float .f64 (ow k), σ) := by
      intro σ
      show (match ofFlr (ow k) with | some y => some (Value.float .f64 y, σ) | none => none) = _
      cases ho : ofFlr (ow k) with
      | none => rw [ho] at c1; cases c1
      | some y =>
        rw [ho] at c1
        rw [Nat.eq_of_beq_eq_true c1]
    cases hb : Nat.beq k (ln i - 1)
    · have hne : k ≠ ln i - 1 := fun e => by rw [e, Nat.beq_refl] at hb; cases hb
      rw [hb] at c4
      simp only [cond_false] at c4
      cases ha : ofAbw (ow k) with
      | none => rw [ha] at c4; cases c4
      | some a =>
        rw [ha] at c4
        have hA : ∀ σ : AHeap, sAbw [.float .f64 (ow k)] σ = some (.float .f64 a, σ) := by
          intro σ
          show (match ofAbw (ow k) with | some y => some (Value.float .f64 y, σ) | none => none) = _
          rw [ha]
        have e1 : (iN k == iN (ln i - 1)) = false := by rw [iN_eq, iN_eq]; simp; omega
        have e2 : (iN k != iN (ln i - 1)) = true := by unfold bne; rw [e1]; rfl
        exact (pkB_p0 ln i bw bi ow oi hi h2 h13 k a hk e1 c2 c3 (by simpa using c4) e2 (hA _) (hF _) hst).cast (by kernel_rfl) (by kernel_rfl) (by kernel_rfl) (by kernel_rfl)
    · have he : k = ln i - 1 := Nat.eq_of_beq_eq_true hb
      rw [hb] at c4
      simp only [cond_true] at c4
      have e1 : (iN k == iN (ln i - 1)) = true := by rw [he]; exact beq_self_eq_true _
      have e2 : (iN k != iN (ln i - 1)) = false := by unfold bne; rw [e1]; rfl
      exact (pkA_p0 ln i bw bi ow oi hi h2 h13 k hk e1 c2 c3 c4 e2 (hF _) hst).cast (by kernel_rfl) (by kernel_rfl) (by kernel_rfl) (by kernel_rfl)
  · exact (pkE_p0 ln i bw bi ow oi hi h2 h13 hst).cast (by kernel_rfl) (by kernel_rfl) (by kernel_rfl) (by kernel_rfl)
def pkL (i : Nat) : Nat := [2, 3, 4, 5, 7, 11, 13].getD i 0
theorem pk_r0 (hst : Stood false []) : Sim dLPp 1 (loopOf Try.f17 0) (pkFo 0) [.row (rowOf (fun j => [.int .i64 (iN (pkL j))]) 7) true none] .normal (pkFo 1) [.row (rowOf (fun j => [.int .i64 (iN (pkL j))]) 7) true none] :=
  (pkO_p0 pkL 0 (reW ob2) (imW ob2) (reW oo2) (imW oo2) (by decide) (by decide) (by decide) (by kernel_rfl) (by kernel_rfl) (by kernel_rfl) (by kernel_rfl) (by kernel_rfl)
    (fun hst => (pk_loop pkL 0 (reW ob2) (imW ob2) (reW oo2) (imW oo2) (by decide) (by decide) (by decide) (fun k hk => List.all_eq_true.1 (show (List.range 3).all (pkC 2 (reW oo2) (imW oo2)) = true by kernel_rfl) k (List.mem_range.2 hk)) hst).enter [true, true, true, true, true, true, true, true, false, false, false, false, false, false, false, false, false, false, false, false, false, false, false, false, false, false, false, false, false, false, false, false, false, false, false, false, false, false, false, false, false, false, false, false, false, false, false, false, false, false, false, false, false, false, false, false, false, false, false, false, false, false, false, false, false, false, false, false, false, false, false, false, false, false, false, false, false, false, false, false, false, false, false, false, false, false, false, false, false, false, false, false, false, false, false, false, false, false, false, false, false, false, false, false, false, false, false, false, false, false, false, false, false, false, false, false, false, false, false, false, false, false] (by kernel_rfl)) (by kernel_rfl) (by kernel_rfl) hst).cast (by kernel_rfl) (by kernel_rfl) (by kernel_rfl) (by kernel_rfl)
theorem pk_r1 (hst : Stood false []) : Sim dLPp 1 (loopOf Try.f17 0) (pkFo 1) [.row (rowOf (fun j => [.int .i64 (iN (pkL j))]) 7) true none] .normal (pkFo 2) [.row (rowOf (fun j => [.int .i64 (iN (pkL j))]) 7) true none] :=
  (pkO_p0 pkL 1 (reW ob3) (imW ob3) (reW oo3) (imW oo3) (by decide) (by decide) (by decide) (by kernel_rfl) (by kernel_rfl) (by kernel_rfl) (by kernel_rfl) (by kernel_rfl)
    (fun hst => (pk_loop pkL 1 (reW ob3) (imW ob3) (reW oo3) (imW oo3) (by decide) (by decide) (by decide) (fun k hk => List.all_eq_true.1 (show (List.range 5).all (pkC 3 (reW oo3) (imW oo3)) = true by kernel_rfl) k (List.mem_range.2 hk)) hst).enter [true, true, true, true, true, true, true, true, false, false, false, false, false, false, false, false, false, false, false, false, false, false, false, false, false, false, false, false, false, false, false, false, false, false, false, false, false, false, false, false, false, false, false, false, false, false, false, false, false, false, false, false, false, false, false, false, false, false, false, false, false, false, false, false, false, false, false, false, false, false, false, false, false, false, false, false, false, false, false, false, false, false, false, false, false, false, false, false, false, false, false, false, false, false, false, false, false, false, false, false, false, false, false, false, false, false, false, false, false, false, false, false, false, false, false, false, false, false, false, false, false, false] (by kernel_rfl)) (by kernel_rfl) (by kernel_rfl) hst).cast (by kernel_rfl) (by kernel_rfl) (by kernel_rfl) (by kernel_rfl)
theorem pk_r2 (hst : Stood false []) : Sim dLPp 1 (loopOf Try.f17 0) (pkFo 2) [.row (rowOf (fun j => [.int .i64 (iN (pkL j))]) 7) true none] .normal (pkFo 3) [.row (rowOf (fun j => [.int .i64 (iN (pkL j))]) 7) true none] :=
  (pkO_p0 pkL 2 (reW ob4) (imW ob4) (reW oo4) (imW oo4) (by decide) (by decide) (by decide) (by kernel_rfl) (by kernel_rfl) (by kernel_rfl) (by kernel_rfl) (by kernel_rfl)
    (fun hst => (pk_loop pkL 2 (reW ob4) (imW ob4) (reW oo4) (imW oo4) (by decide) (by decide) (by decide) (fun k hk => List.all_eq_true.1 (show (List.range 7).all (pkC 4 (reW oo4) (imW oo4)) = true by kernel_rfl) k (List.mem_range.2 hk)) hst).enter [true, true, true, true, true, true, true, true, false, false, false, false, false, false, false, false, false, false, false, false, false, false, false, false, false, false, false, false, false, false, false, false, false, false, false, false, false, false, false, false, false, false, false, false, false, false, false, false, false, false, false, false, false, false, false, false, false, false, false, false, false, false, false, false, false, false, false, false, false, false, false, false, false, false, false, false, false, false, false, false, false, false, false, false, false, false, false, false, false, false, false, false, false, false, false, false, false, false, false, false, false, false, false, false, false, false, false, false, false, false, false, false, false, false, false, false, false, false, false, false, false, false] (by kernel_rfl)) (by kernel_rfl) (by kernel_rfl) hst).cast (by kernel_rfl) (by kernel_rfl) (by kernel_rfl) (by kernel_rfl)
theorem pk_r3 (hst : Stood false []) : Sim dLPp 1 (loopOf Try.f17 0) (pkFo 3) [.row (rowOf (fun j => [.int .i64 (iN (pkL j))]) 7) true none] .normal (pkFo 4) [.row (rowOf (fun j => [.int .i64 (iN (pkL j))]) 7) true none] :=
  (pkO_p0 pkL 3 (reW ob5) (imW ob5) (reW oo5) (imW oo5) (by decide) (by decide) (by decide) (by kernel_rfl) (by kernel_rfl) (by kernel_rfl) (by kernel_rfl) (by kernel_rfl)
    (fun hst => (pk_loop pkL 3 (reW ob5) (imW ob5) (reW oo5) (imW oo5) (by decide) (by decide) (by decide) (fun k hk => List.all_eq_true.1 (show (List.range 9).all (pkC 5 (reW oo5) (imW oo5)) = true by kernel_rfl) k (List.mem_range.2 hk)) hst).enter [true, true, true, true, true, true, true, true, false, false, false, false, false, false, false, false, false, false, false, false, false, false, false, false, false, false, false, false, false, false, false, false, false, false, false, false, false, false, false, false, false, false, false, false, false, false, false, false, false, false, false, false, false, false, false, false, false, false, false, false, false, false, false, false, false, false, false, false, false, false, false, false, false, false, false, false, false, false, false, false, false, false, false, false, false, false, false, false, false, false, false, false, false, false, false, false, false, false, false, false, false, false, false, false, false, false, false, false, false, false, false, false, false, false, false, false, false, false, false, false, false, false] (by kernel_rfl)) (by kernel_rfl) (by kernel_rfl) hst).cast (by kernel_rfl) (by kernel_rfl) (by kernel_rfl) (by kernel_rfl)
theorem pk_r4 (hst : Stood false []) : Sim dLPp 1 (loopOf Try.f17 0) (pkFo 4) [.row (rowOf (fun j => [.int .i64 (iN (pkL j))]) 7) true none] .normal (pkFo 5) [.row (rowOf (fun j => [.int .i64 (iN (pkL j))]) 7) true none] :=
  (pkO_p0 pkL 4 (reW ob7) (imW ob7) (reW oo7) (imW oo7) (by decide) (by decide) (by decide) (by kernel_rfl) (by kernel_rfl) (by kernel_rfl) (by kernel_rfl) (by kernel_rfl)
    (fun hst => (pk_loop pkL 4 (reW ob7) (imW ob7) (reW oo7) (imW oo7) (by decide) (by decide) (by decide) (fun k hk => List.all_eq_true.1 (show (List.range 13).all (pkC 7 (reW oo7) (imW oo7)) = true by kernel_rfl) k (List.mem_range.2 hk)) hst).enter [true, true, true, true, true, true, true, true, false, false, false, false, false, false, false, false, false, false, false, false, false, false, false, false, false, false, false, false, false, false, false, false, false, false, false, false, false, false, false, false, false, false, false, false, false, false, false, false, false, false, false, false, false, false, false, false, false, false, false, false, false, false, false, false, false, false, false, false, false, false, false, false, false, false, false, false, false, false, false, false, false, false, false, false, false, false, false, false, false, false, false, false, false, false, false, false, false, false, false, false, false, false, false, false, false, false, false, false, false, false, false, false, false, false, false, false, false, false, false, false, false, false] (by kernel_rfl)) (by kernel_rfl) (by kernel_rfl) hst).cast (by kernel_rfl) (by kernel_rfl) (by kernel_rfl) (by kernel_rfl)
theorem pk_r5 (hst : Stood false []) : Sim dLPp 1 (loopOf Try.f17 0) (pkFo 5) [.row (rowOf (fun j => [.int .i64 (iN (pkL j))]) 7) true none] .normal (pkFo 6) [.row (rowOf (fun j => [.int .i64 (iN (pkL j))]) 7) true none] :=
  (pkO_p0 pkL 5 (reW ob11) (imW ob11) (reW oo11) (imW oo11) (by decide) (by decide) (by decide) (by kernel_rfl) (by kernel_rfl) (by kernel_rfl) (by kernel_rfl) (by kernel_rfl)
    (fun hst => (pk_loop pkL 5 (reW ob11) (imW ob11) (reW oo11) (imW oo11) (by decide) (by decide) (by decide) (fun k hk => List.all_eq_true.1 (show (List.range 21).all (pkC 11 (reW oo11) (imW oo11)) = true by kernel_rfl) k (List.mem_range.2 hk)) hst).enter [true, true, true, true, true, true, true, true, false, false, false, false, false, false, false, false, false, false, false, false, false, false, false, false, false, false, false, false, false, false, false, false, false, false, false, false, false, false, false, false, false, false, false, false, false, false, false, false, false, false, false, false, false, false, false, false, false, false, false, false, false, false, false, false, false, false, false, false, false, false, false, false, false, false, false, false, false, false, false, false, false, false, false, false, false, false, false, false, false, false, false, false, false, false, false, false, false, false, false, false, false, false, false, false, false, false, false, false, false, false, false, false, false, false, false, false, false, false, false, false, false, false] (by kernel_rfl)) (by kernel_rfl) (by kernel_rfl) hst).cast (by kernel_rfl) (by kernel_rfl) (by kernel_rfl) (by kernel_rfl)
theorem pk_r6 (hst : Stood false []) : Sim dLPp 1 (loopOf Try.f17 0) (pkFo 6) [.row (rowOf (fun j => [.int .i64 (iN (pkL j))]) 7) true none] .normal (pkFo 7) [.row (rowOf (fun j => [.int .i64 (iN (pkL j))]) 7) true none] :=
  (pkO_p0 pkL 6 (reW ob13) (imW ob13) (reW oo13) (imW oo13) (by decide) (by decide) (by decide) (by kernel_rfl) (by kernel_rfl) (by kernel_rfl) (by kernel_rfl) (by kernel_rfl)
    (fun hst => (pk_loop pkL 6 (reW ob13) (imW ob13) (reW oo13) (imW oo13) (by decide) (by decide) (by decide) (fun k hk => List.all_eq_true.1 (show (List.range 25).all (pkC 13 (reW oo13) (imW oo13)) = true by kernel_rfl) k (List.mem_range.2 hk)) hst).enter [true, true, true, true, true, true, true, true, false, false, false, false, false, false, false, false, false, false, false, false, false, false, false, false, false, false, false, false, false, false, false, false, false, false, false, false, false, false, false, false, false, false, false, false, false, false, false, false, false, false, false, false, false, false, false, false, false, false, false, false, false, false, false, false, false, false, false, false, false, false, false, false, false, false, false, false, false, false, false, false, false, false, false, false, false, false, false, false, false, false, false, false, false, false, false, false, false, false, false, false, false, false, false, false, false, false, false, false, false, false, false, false, false, false, false, false, false, false, false, false, false, false] (by kernel_rfl)) (by kernel_rfl) (by kernel_rfl) hst).cast (by kernel_rfl) (by kernel_rfl) (by kernel_rfl) (by kernel_rfl)
theorem pk_out (hst : Stood false []) : Sim dLPp 1 (.loop (loopOf Try.f17 0)) (pkFo 0) [.row (rowOf (fun j => [.int .i64 (iN (pkL j))]) 7) true none] (.exit 0) (pkFo 7) [.row (rowOf (fun j => [.int .i64 (iN (pkL j))]) 7) true none] := by
  refine Sim.loop (fun k => (pkFo k, [.row (rowOf (fun j => [.int .i64 (iN (pkL j))]) 7) true none])) 7 (fun k hk => ?_) ?_ rfl
  · match k, hk with
    | 0, _ => exact pk_r0 hst
    | 1, _ => exact pk_r1 hst
    | 2, _ => exact pk_r2 hst
    | 3, _ => exact pk_r3 hst
    | 4, _ => exact pk_r4 hst
    | 5, _ => exact pk_r5 hst
    | 6, _ => exact pk_r6 hst
  · exact (pkX_p0 pkL hst).cast (by kernel_rfl) (by kernel_rfl) (by kernel_rfl) (by kernel_rfl)
theorem peak_call : ∃ σ', CallR Try.prog false 17 [] [] (.bool true) σ' := ⟨_, pkF_p0 (fun hst => (pk_out hst).enter [true, true, true, false, false, false, false, false, false, false, false, false, false, false, false, false, false, false, false, false, false, false, false, false, false, false, false, false, false, false, false, false, false, false, false, false, false, false, false, false, false, false, false, false, false, false, false, false, false, false, false, false, false, false, false, false, false, false, false, false, false, false, false, false, false, false, false, false, false, false, false, false, false, false, false, false, false, false, false, false, false, false, false, false, false, false, false, false, false, false, false, false, false, false, false, false, false, false, false, false, false, false, false, false, false, false, false, false, false, false, false, false, false, false, false, false, false, false, false, false, false, false] (by kernel_rfl))⟩
end Go.Lk
