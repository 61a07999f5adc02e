/- Match without samples: the region; its contract with its errors. -/
import Derived.Test.YtmomainjlncogaaLkMKB
import Derived.Test.YtmomainjlncogaaLkMW
namespace Go.Lk
open Go.Proofs
set_option maxRecDepth 100000
set_option maxHeartbeats 0
set_option linter.unusedVariables false
set_option linter.unusedSimpArgs false
def mkVs (cap2 : Nat) : Nat → Value
  | 0 => .slice none 0 0
  | 1 => .int .i64 (Int.ofNat 0)
  | 2 => .slice (some ⟨1, 0, some 1⟩) 0 0
  | 3 => .slice (some ⟨0, 0, some 1⟩) 1 cap2
  | 4 => .slice (some ⟨2, 0, some 1⟩) 1 1
  | 5 => .slice (some ⟨1, 0, some 1⟩) 0 0
  | _ => .slice (some ⟨2, 0, some 1⟩) 1 1
def mkSs (r1 r2 r3 : AObj) : Nat → AHeap
  | 0 => [r1]
  | 1 => [r1]
  | 2 => [r1]
  | 3 => [r1, r2]
  | 4 => [r1, r2]
  | _ => [r1, r2, r3]
theorem mk_draw : drawOkR dLMk mmOps [] [4] = true := by kernel_rfl
theorem mk_reg (opn2 : Option Nat) (c d : Nat → Nat) (N cap2 : Nat) (hN : 1 ≤ N) :
    Sim dLMk 1 (regOf Try.f88 5) (mkP cap2) [.row (rowOf (fun i => [.complex .f64 (c i) (d i)]) N) false opn2] .normal (mkQ cap2) [.row (rowOf (fun i => [.complex .f64 (c i) (d i)]) N) false opn2, .row (rowOf (fun _ => [.complex .f64 0 0]) 0) true none, .row (rowOf (fun i => [.complex .f64 (c i) (fneg (d i))]) 1) true none] := by
  have hmk : aMake Try.prog [AObj.row (rowOf (fun i => [.complex .f64 (c i) (d i)]) N) false opn2] 66 (.int .i64 (iN 0)) (.int .i64 (iN 0)) = some (.slice (some ⟨1, 0, some 1⟩) 0 0, [AObj.row (rowOf (fun i => [.complex .f64 (c i) (d i)]) N) false opn2, .row (rowOf (fun _ => [.complex .f64 0 0]) 0) true none]) :=
    make_row (zs := [Value.complex .f64 0 0]) (by kernel_rfl) (by kernel_rfl) (by kernel_rfl) (Nat.le_refl _) (by decide)
  have htu : ∀ H : AHeap, H[0]? = some (.row (rowOf (fun i => [.complex .f64 (c i) (d i)]) N) false opn2) → H.length = 2 → sTurn [.slice (some ⟨0, 0, some 1⟩) 1 cap2] H = some (.slice (some ⟨2, 0, some 1⟩) 1 1, H ++ [.row (rowOf (fun i => [.complex .f64 (c i) (fneg (d i))]) 1) true none]) := fun H h1 hl => by
    have := sTurn_row (cap := cap2) h1 hN (by decide)
    rw [hl] at this
    exact this
  generalize AObj.row (rowOf (fun i => [.complex .f64 (c i) (d i)]) N) false opn2 = r1 at hmk htu ⊢
  generalize AObj.row (rowOf (fun _ => [.complex .f64 0 0]) 0) true none = r2 at hmk ⊢
  generalize AObj.row (rowOf (fun i => [.complex .f64 (c i) (fneg (d i))]) 1) true none = r3 at htu ⊢
  have ht : Trace dLMk mmOps (fsO mmOps (mkVs cap2) (mkP cap2)) (mkSs r1 r2 r3) (mkVs cap2) (fun _ => true) := by
    refine Trace.of_all fun i o ho => ?_
    have hi : i < 7 := by have := (Array.getElem?_eq_some_iff.1 ho).1; rw [mmOps_size] at this; exact this
    have hk : some o = mmOps[i]? := ho.symm
    have key : ∀ j, j < 7 → (mmOps[j]?).bind (fun o => wantedA mmOps (fsO mmOps (mkVs cap2) (mkP cap2) j) o) = some true ∧ (mmOps[j]?).bind (fun o => aOp dLMk (fsO mmOps (mkVs cap2) (mkP cap2) j) (mkSs r1 r2 r3 j) o.op) = some (mkVs cap2 j, mkSs r1 r2 r3 (j + 1)) := by
      intro j hj
      match j, hj with
      | 0, _ => exact ⟨by kernel_rfl, by kernel_rfl⟩
      | 1, _ => exact ⟨by kernel_rfl, by kernel_rfl⟩
      | 2, _ => exact ⟨by kernel_rfl, Eq.trans (by kernel_rfl) hmk⟩
      | 3, _ => exact ⟨by kernel_rfl, by kernel_rfl⟩
      | 4, _ => exact ⟨by kernel_rfl, Eq.trans (by kernel_rfl) (htu [r1, r2] rfl rfl)⟩
      | 5, _ => exact ⟨by kernel_rfl, by kernel_rfl⟩
      | 6, _ => exact ⟨by kernel_rfl, by kernel_rfl⟩
      | j + 7, hj => omega
    have := key i hi
    rw [ho] at this
    exact this
  have hreg : regOf Try.f88 5 = .region 5 mmOps true := by kernel_rfl
  rw [hreg]
  refine Sim.drawR (st := fun j => ([] : List Nat).contains j) (rl := fun j => [4].contains j) dLMk_ok (drawOkR_spec mk_draw) (fs := fsO mmOps (mkVs cap2) (mkP cap2)) (ss := mkSs r1 r2 r3) rfl rfl ?_ ?_ ht (fun _ _ _ _ _ _ _ h => by cases h) ?_
  · rw [mmOps_size]; kernel_rfl
  · rw [mmOps_size]; rfl
  · intro j oj hj hr h2 H hlen hH
    have hj4 : j = 4 := by simpa using hr
    subst hj4
    have hfree : ∀ b, Free dLMk mmOps (mkSs r1 r2 r3) (fun _ => true) 4 b → b = 1 := by
      rintro b ⟨i, hi, hk, _, hb⟩
      match i, hi with
      | 0, _ => exact absurd hk (by rw [show kd dLMk mmOps (fun _ => true) 0 = 0 by kernel_rfl]; decide)
      | 1, _ => exact absurd hk (by rw [show kd dLMk mmOps (fun _ => true) 1 = 0 by kernel_rfl]; decide)
      | 2, _ => exact hb.symm
      | 3, _ => exact absurd hk (by rw [show kd dLMk mmOps (fun _ => true) 3 = 0 by kernel_rfl]; decide)
    have hlen : H.length = 2 := hlen
    have h1 : H[0]? = some r1 := hH 0 (fun h => by have := hfree 0 h; omega)
    refine ⟨H ++ [r3], ?_, by simp [hlen]; rfl, fun b hb => ?_, fun b hb => ?_⟩
    · have e : aOp dLMk (fsO mmOps (mkVs cap2) (mkP cap2) 4) H oj.op = sTurn [.slice (some ⟨0, 0, some 1⟩) 1 cap2] H := by
        have : (mmOps[4]?).bind (fun o => aOp dLMk (fsO mmOps (mkVs cap2) (mkP cap2) 4) H o.op) = sTurn [.slice (some ⟨0, 0, some 1⟩) 1 cap2] H := by kernel_rfl
        rw [hj] at this
        exact this
      rw [e]
      exact htu H h1 hlen
    · rcases Nat.lt_or_ge b 2 with h | h
      · rw [List.getElem?_append_left (by omega), hH b hb]
        match b, h with
        | 0, _ => rfl
        | 1, _ => rfl
      · rw [List.getElem?_append_right (by omega), hlen]
        show [r3][b - 2]? = [r1, r2, r3][b]?
        match b, h with
        | 2, _ => rfl
        | b + 3, _ => simp
    · have := hfree b hb
      subst this
      rw [List.getElem?_append_left (by omega)]
end Go.Lk
