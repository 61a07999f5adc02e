/- PlaceWithin, joined. -/
import Derived.Test.YtmomainjlncogaaLkNS
namespace Go.Lk
open Go.Proofs
set_option maxRecDepth 100000
set_option linter.unusedVariables false
set_option linter.unusedSimpArgs false
theorem q_lt {px py : Nat → Nat} {n i : Nat} (h : i < n) : qx px n i = px i ∧ qy py n i = py i := by
  unfold qx qy
  have : Nat.blt i n = true := by rw [Nat.blt_eq]; exact h
  rw [this]; exact ⟨rfl, rfl⟩
theorem q_n (px py : Nat → Nat) (n : Nat) : qx px n n = 4635118810238550016 ∧ qy py n n = 0 := by
  unfold qx qy
  have : Nat.blt n n = false := by cases h : Nat.blt n n; rfl; rw [Nat.blt_eq] at h; omega
  rw [this]; exact ⟨rfl, rfl⟩
def pwO (opn : Option Nat) (px py : Nat → Nat) (m : Nat) : AObj := .row (rowOf (fun i => [.float .f64 (px i), .float .f64 (py i)]) m) false opn
def pwP (x y : Nat) : AObj := .row [.float .f64 x, .float .f64 y] true none
def pwT : AObj := .row [.float .f64 4635118810238550016, .float .f64 0] true none
def pwQ (px py : Nat → Nat) (n : Nat) : AObj := .row (rowOf (fun i => [.float .f64 (qx px n i), .float .f64 (qy py n i)]) (n + 1)) true (some 2)
theorem pw_row (px py : Nat → Nat) (n : Nat) : rowOf (fun i => [Value.float .f64 (px i), .float .f64 (py i)]) n ++ [.float .f64 4635118810238550016, .float .f64 0] = rowOf (fun i => [.float .f64 (qx px n i), .float .f64 (qy py n i)]) (n + 1) := by
  have h : rowOf (fun i => [Value.float .f64 (qx px n i), .float .f64 (qy py n i)]) n = rowOf (fun i => [Value.float .f64 (px i), .float .f64 (py i)]) n := rowOf_congr fun i hi => by rw [(q_lt (px := px) (py := py) hi).1, (q_lt (px := px) (py := py) hi).2]
  rw [rowOf_succ, (q_n px py n).1, (q_n px py n).2, h]
def pwF (n cap x y k : Nat) : List Value := ([.slice (some ⟨0, 0, some 2⟩) n cap, .agg #[.float .f64 x, .float .f64 y], undef, .pointer (some ⟨1, 0, none⟩), .bool false, .slice (some ⟨4, 0, some 2⟩) n (n + 1)] ++ List.replicate 22 undef ++ [.int .i64 (iN n), .int .i64 (iN k)] ++ List.replicate 27 undef)
theorem pw_loop (opn : Option Nat) (px py : Nat → Nat) (m n cap x y : Nat) (hm : n ≤ m) (hn : n ≤ 65536) (hst : Stood false [pwO opn px py m]) :
    Sim dLPw 5 (.loop (loopOf Try.f6 0)) (pwF n cap x y 0) [pwO opn px py m, pwP x y, .dead, pwT, pwQ px py n] (.exit 0) (pwF n cap x y n) [pwO opn px py m, pwP x y, .dead, pwT, pwQ px py n] := by
  refine Sim.loop (fun k => ((pwF n cap x y k), [pwO opn px py m, pwP x y, .dead, pwT, pwQ px py n])) n (fun k hk => ?_) ?_ rfl
  · exact (pwR_p0 opn px py m n cap x y k hm hn hk (by rw [(q_lt (px := px) (py := py) hk).1, (q_lt (px := px) (py := py) hk).2]; exact samp_refl _ _) hst).cast (by kernel_rfl) (by kernel_rfl) (by kernel_rfl) (by kernel_rfl)
  · exact (pwE_p0 opn px py m n cap x y hm hn hst).cast (by kernel_rfl) (by kernel_rfl) (by kernel_rfl) (by kernel_rfl)
theorem pw_all (opn : Option Nat) (px py : Nat → Nat) (m n cap x y : Nat) (hm : n ≤ m) : ∃ σ', CallR Try.prog false 6 [.slice (some ⟨0, 0, some 2⟩) n cap, .agg #[.float .f64 x, .float .f64 y]] [pwO opn px py m] (.bool true) σ' := by
  rcases Nat.lt_or_ge 65536 n with hn | hn
  · exact ⟨_, pwG_p0 opn px py m n cap x y hm hn⟩
  rcases Nat.eq_zero_or_pos n with rfl | h0
  · have e0 : withinN px py 0 x y = false := rfl
    refine ⟨_, pwY_p0 opn px py m cap x y ?_ ?_⟩
    · have h := sWithin_row (a := px) (b := py) (m := m) (n := 0) (cap := cap) (x := x) (y := y) (bl := 0) (σ := [pwO opn px py m, pwP x y, pwT, .row [.float .f64 4635118810238550016, .float .f64 0] true (some 2)]) rfl (Nat.zero_le _)
      rw [e0] at h
      exact h
    · rfl
  · have hq : withinN (qx px n) (qy py n) n x y = withinN px py n x y := within_congr fun i hi => q_lt hi
    have s2 : aAppend Try.prog [pwO opn px py m, pwP x y, .row (rowOf (fun i => [.float .f64 (px i), .float .f64 (py i)]) n) true (some 2), pwT] [40, 40] [.slice (some ⟨2, 0, some 2⟩) n n, .slice (some ⟨3, 0, some 2⟩) 1 1] = some (.slice (some ⟨4, 0, some 2⟩) (n + 1) (n + 1), [pwO opn px py m, pwP x y, .dead, pwT, pwQ px py n]) :=
      append_many (P := Try.prog) (σ := [pwO opn px py m, pwP x y, .row (rowOf (fun i => [.float .f64 (px i), .float .f64 (py i)]) n) true (some 2), pwT]) (t := 40) (t2 := 40) (ts := []) (rest := []) (b := 2) (N := n) (n := 1) (z := 2) (F := fun i => [.float .f64 (px i), .float .f64 (py i)]) (F' := fun i => [.float .f64 (qx px n i), .float .f64 (qy py n i)]) (x := .slice (some ⟨3, 0, some 2⟩) 1 1) (rw' := true) (opn := some 2)
        (by kernel_rfl) rfl (.inl rfl) (by kernel_rfl) rfl (pw_row px py n) (fun _ => rfl) rfl (by decide) (by omega)
    have s0 := sWithin_row (a := px) (b := py) (m := m) (n := n) (cap := cap) (x := x) (y := y) (bl := 0) (σ := [pwO opn px py m, pwP x y, .dead, pwT, pwQ px py n]) rfl hm
    have s1 := sWithin_row (a := qx px n) (b := qy py n) (m := n + 1) (n := n) (cap := n + 1) (x := x) (y := y) (bl := 4) (σ := [pwO opn px py m, pwP x y, .dead, pwT, pwQ px py n]) rfl (Nat.le_succ n)
    rw [hq] at s1
    exact ⟨_, pwC_p0 opn px py m n cap x y (withinN px py n x y) hm hn h0 (by rw [(q_n px py n).1]; decide +kernel) (beq_self_eq_true _) (fun hst => (pw_loop opn px py m n cap x y hm hn hst).enter [true, true, false, true, true, true, false, false, false, false, false, false, false, false, false, false, false, false, false, false, false, false, false, false, false, false, false, false, true, true, false, false, false, false, false, false, false, false, false, false, false, false, false, false, false, false, false, false, false, false, false, false, false, false, false, false, false] (by kernel_rfl)) s0 s1 s2⟩
theorem pw_nil (x y : Nat) : ∃ σ', CallR Try.prog false 6 [.slice none 0 0, .agg #[.float .f64 x, .float .f64 y]] [] (.bool true) σ' := ⟨_, pwZ_p0 x y rfl rfl⟩
end Go.Lk
