/- Match: the region where a new block is made beside a call; joined. -/
import Derived.Test.YtmomainjlncogaaLkJV
import Derived.Test.YtmomainjlncogaaLkRK
namespace Go.Lk
open Go.Proofs
set_option maxRecDepth 100000
set_option maxHeartbeats 0
set_option linter.unusedVariables false
set_option linter.unusedSimpArgs false
def fsO (ops : Array Oper) (vs : Nat → Value) (fr : List Value) : Nat → List Value
  | 0 => fr
  | i + 1 => match ops[i]? with | some o => putA (fsO ops vs fr i) o.dst (vs i) | none => fsO ops vs fr i
theorem Trace.of_all {C : Cfg} {ops : Array Oper} {vs : Nat → Value} {fr : List Value} {ss : Nat → AHeap} (h : ∀ i o, ops[i]? = some o → wantedA ops (fsO ops vs fr i) o = some true ∧ aOp C (fsO ops vs fr i) (ss i) o.op = some (vs i, ss (i + 1))) :
    Trace C ops (fsO ops vs fr) ss vs (fun _ => true) :=
  ⟨fun i o ho => (h i o ho).1, fun i o ho => by show (match ops[i]? with | some o => putA (fsO ops vs fr i) o.dst (vs i) | none => fsO ops vs fr i) = _; rw [ho], fun i o ho _ => (h i o ho).2, fun i o ho hw => by cases hw⟩
noncomputable def mmOps : Array Oper := regOps (regOf Try.f88 5)
def mmVs (n cap m cap2 : Nat) : Nat → Value
  | 0 => .slice (some ⟨0, 0, some 1⟩) n cap
  | 1 => .int .i64 (iN n)
  | 2 => .slice (some ⟨2, 0, some 1⟩) n n
  | 3 => .slice (some ⟨1, 0, some 1⟩) m cap2
  | 4 => .slice (some ⟨3, 0, some 1⟩) m m
  | 5 => .slice (some ⟨2, 0, some 1⟩) n n
  | _ => .slice (some ⟨3, 0, some 1⟩) m m
def mmSs (r0 r1 r2 r3 : AObj) : Nat → AHeap
  | 0 => [r0, r1]
  | 1 => [r0, r1]
  | 2 => [r0, r1]
  | 3 => [r0, r1, r2]
  | 4 => [r0, r1, r2]
  | _ => [r0, r1, r2, r3]
theorem mmOps_size : mmOps.size = 7 := by kernel_rfl
theorem mm_draw : drawOkR dLMm mmOps [] [4] = true := by kernel_rfl
theorem mm_reg (opn : Option Nat) (a b : Nat → Nat) (M : Nat) (opn2 : Option Nat) (c d : Nat → Nat) (N n cap m cap2 : Nat) (hm : n ≤ M) (hN : m ≤ N) (hn : n ≤ 16384) (hm2 : m ≤ 16384) :
    Sim dLMm 2 (regOf Try.f88 5) (mmP n cap m cap2) [.row (rowOf (fun i => [.complex .f64 (a i) (b i)]) M) false opn, .row (rowOf (fun i => [.complex .f64 (c i) (d i)]) N) false opn2] .normal (mmQ n cap m cap2)
      [.row (rowOf (fun i => [.complex .f64 (a i) (b i)]) M) false opn, .row (rowOf (fun i => [.complex .f64 (c i) (d i)]) N) false opn2, .row (rowOf (fun _ => [.complex .f64 0 0]) n) true none, .row (rowOf (fun i => [.complex .f64 (c i) (fneg (d i))]) m) true none] := by
  have hmk : aMake Try.prog [AObj.row (rowOf (fun i => [.complex .f64 (a i) (b i)]) M) false opn, .row (rowOf (fun i => [.complex .f64 (c i) (d i)]) N) false opn2] 66 (.int .i64 (iN n)) (.int .i64 (iN n)) = some (.slice (some ⟨2, 0, some 1⟩) n n, [AObj.row (rowOf (fun i => [.complex .f64 (a i) (b i)]) M) false opn, .row (rowOf (fun i => [.complex .f64 (c i) (d i)]) N) false opn2, .row (rowOf (fun _ => [.complex .f64 0 0]) n) true none]) :=
    make_row (zs := [Value.complex .f64 0 0]) (by kernel_rfl) (by kernel_rfl) (by kernel_rfl) (Nat.le_refl _) (by omega)
  have htu : ∀ H : AHeap, H[1]? = some (.row (rowOf (fun i => [.complex .f64 (c i) (d i)]) N) false opn2) → H.length = 3 → sTurn [.slice (some ⟨1, 0, some 1⟩) m cap2] H = some (.slice (some ⟨3, 0, some 1⟩) m m, H ++ [.row (rowOf (fun i => [.complex .f64 (c i) (fneg (d i))]) m) true none]) := fun H h1 hl => by
    have := sTurn_row (cap := cap2) h1 hN hm2
    rw [hl] at this
    exact this
  generalize AObj.row (rowOf (fun i => [.complex .f64 (a i) (b i)]) M) false opn = r0 at hmk ⊢
  generalize AObj.row (rowOf (fun i => [.complex .f64 (c i) (d i)]) N) false opn2 = r1 at hmk htu ⊢
  generalize AObj.row (rowOf (fun _ => [.complex .f64 0 0]) n) true none = r2 at hmk ⊢
  generalize AObj.row (rowOf (fun i => [.complex .f64 (c i) (fneg (d i))]) m) true none = r3 at htu ⊢
  have ht : Trace dLMm mmOps (fsO mmOps (mmVs n cap m cap2) (mmP n cap m cap2)) (mmSs r0 r1 r2 r3) (mmVs n cap m cap2) (fun _ => true) := by
    refine Trace.of_all fun i o ho => ?_
    have hi : i < 7 := by have := (Array.getElem?_eq_some_iff.1 ho).1; rw [mmOps_size] at this; exact this
    have hk : some o = mmOps[i]? := ho.symm
    have key : ∀ j, j < 7 → (mmOps[j]?).bind (fun o => wantedA mmOps (fsO mmOps (mmVs n cap m cap2) (mmP n cap m cap2) j) o) = some true ∧ (mmOps[j]?).bind (fun o => aOp dLMm (fsO mmOps (mmVs n cap m cap2) (mmP n cap m cap2) j) (mmSs r0 r1 r2 r3 j) o.op) = some (mmVs n cap m cap2 j, mmSs r0 r1 r2 r3 (j + 1)) := by
      intro j hj
      match j, hj with
      | 0, _ => exact ⟨by kernel_rfl, by kernel_rfl⟩
      | 1, _ => exact ⟨by kernel_rfl, by kernel_rfl⟩
      | 2, _ => exact ⟨by kernel_rfl, Eq.trans (by kernel_rfl) hmk⟩
      | 3, _ => exact ⟨by kernel_rfl, by kernel_rfl⟩
      | 4, _ => exact ⟨by kernel_rfl, Eq.trans (by kernel_rfl) (htu [r0, r1, r2] rfl rfl)⟩
      | 5, _ => exact ⟨by kernel_rfl, by kernel_rfl⟩
      | 6, _ => exact ⟨by kernel_rfl, by kernel_rfl⟩
      | j + 7, hj => omega
    have := key i hi
    rw [ho] at this
    exact this
  have hreg : regOf Try.f88 5 = .region 5 mmOps true := by kernel_rfl
  rw [hreg]
  refine Sim.drawR (st := fun j => ([] : List Nat).contains j) (rl := fun j => [4].contains j) dLMm_ok (drawOkR_spec mm_draw) (fs := fsO mmOps (mmVs n cap m cap2) (mmP n cap m cap2)) (ss := mmSs r0 r1 r2 r3) rfl rfl ?_ ?_ ht (fun _ _ _ _ _ _ _ h => by cases h) ?_
  · rw [mmOps_size]; kernel_rfl
  · rw [mmOps_size]; rfl
  · intro j oj hj hr h2 H hlen hH
    have hj4 : j = 4 := by simpa using hr
    subst hj4
    have hfree : ∀ b, Free dLMm mmOps (mmSs r0 r1 r2 r3) (fun _ => true) 4 b → b = 2 := by
      rintro b ⟨i, hi, hk, _, hb⟩
      match i, hi with
      | 0, _ => exact absurd hk (by rw [show kd dLMm mmOps (fun _ => true) 0 = 0 by kernel_rfl]; decide)
      | 1, _ => exact absurd hk (by rw [show kd dLMm mmOps (fun _ => true) 1 = 0 by kernel_rfl]; decide)
      | 2, _ => exact hb.symm
      | 3, _ => exact absurd hk (by rw [show kd dLMm mmOps (fun _ => true) 3 = 0 by kernel_rfl]; decide)
    have hlen : H.length = 3 := hlen
    have h1 : H[1]? = some r1 := hH 1 (fun h => by have := hfree 1 h; omega)
    refine ⟨H ++ [r3], ?_, by simp [hlen]; rfl, fun b hb => ?_, fun b hb => ?_⟩
    · have e : aOp dLMm (fsO mmOps (mmVs n cap m cap2) (mmP n cap m cap2) 4) H oj.op = sTurn [.slice (some ⟨1, 0, some 1⟩) m cap2] H := by
        have : (mmOps[4]?).bind (fun o => aOp dLMm (fsO mmOps (mmVs n cap m cap2) (mmP n cap m cap2) 4) H o.op) = sTurn [.slice (some ⟨1, 0, some 1⟩) m cap2] H := by kernel_rfl
        rw [hj] at this
        exact this
      rw [e]
      exact htu H h1 hlen
    · rcases Nat.lt_or_ge b 3 with h | h
      · rw [List.getElem?_append_left (by omega), hH b hb]
        match b, h with
        | 0, _ => rfl
        | 1, _ => rfl
        | 2, _ => rfl
      · rw [List.getElem?_append_right (by omega), hlen]
        show [r3][b - 3]? = [r0, r1, r2, r3][b]?
        match b, h with
        | 3, _ => rfl
        | b + 4, _ => simp
    · have := hfree b hb
      subst this
      rw [List.getElem?_append_left (by omega)]
end Go.Lk
