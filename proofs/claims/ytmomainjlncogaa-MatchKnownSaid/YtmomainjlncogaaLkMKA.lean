/- Match: its errors, and no samples. -/
import Derived.Test.YtmomainjlncogaaLkMCT
namespace Go.Lk
open Go.Proofs
set_option maxRecDepth 100000
set_option maxHeartbeats 0
set_option linter.unusedVariables false
set_option linter.unusedSimpArgs false
noncomputable def LMk : Lib := ⟨Try.prog, false, tmt, [], [(156, true, Try.f156)]⟩
theorem LMk_fp : ∀ e, e ∈ LMk.pures → Try.prog.funcs[e.1]? = some e.2 := fs_nil
theorem LMk_fh : ∀ e, e ∈ LMk.heaps → Try.prog.funcs[e.1]? = some e.2.2 := gs_cons Try.func156 (gs_nil)
theorem LMk_p1 (gp : Nat → PureFn) (g : Nat → HeapFn) : (LMk.pures.all fun e => fnOk (LMk.mk' gp g) e.2) = true := by kernel_rfl
theorem LMk_h1 (gp : Nat → PureFn) (g : Nat → HeapFn) : (LMk.heaps.all fun e => fnOk (LMk.mk' gp g) e.2.2 && (!e.2.1 || fnRo (LMk.mk' gp g) e.2.2)) = true := by kernel_rfl
theorem LMk_ok : LMk.Ok := ⟨tmt_ok, mixed, LMk_fp, LMk_fh, LMk_p1, LMk_h1⟩
noncomputable def dLMk : Cfg := LMk.cfg 100 6
theorem dLMk_ok : dLMk.Ok := LMk_ok.cfg 100 6

theorem mkA_fok : fnOkX (dLMk) [5] Try.f88 = true := by kernel_rfl
theorem mkA_p0 (opn : Option Nat) (a : Nat → Nat) (b : Nat → Nat) (M : Nat) (n : Nat) (cap : Nat) : CallR Try.prog false 88 ([Value.slice (some ⟨0, 0, some 1⟩) n cap, Value.slice none 0 0]) ([AObj.row (rowOf (fun i => [Value.complex .f64 (a i) (b i)]) M) false opn]) (Value.tuple { toList := [Value.slice none 0 0, Value.int .i64 (Int.ofNat 2)] }) ([AObj.row (rowOf (fun i => [Value.complex .f64 (a i) (b i)]) M) false opn]) := CallR.of_DOXs (C := dLMk) dLMk_ok (X := [5]) Try.func88 mkA_fok (n := 3) (orc := []) (ps := []) (by kernel_rfl) (fun hst => trivial)
theorem mkB_fok : fnOkX (dLMk) [5] Try.f88 = true := by kernel_rfl
theorem mkB_p0 (opn : Option Nat) (a : Nat → Nat) (b : Nat → Nat) (M : Nat) (opn2 : Option Nat) (c : Nat → Nat) (d : Nat → Nat) (N : Nat) (cap : Nat) (cap2 : Nat) : CallR Try.prog false 88 ([Value.slice (some ⟨0, 0, some 1⟩) 16385 cap, Value.slice (some ⟨1, 0, some 1⟩) 1 cap2]) ([AObj.row (rowOf (fun i => [Value.complex .f64 (a i) (b i)]) M) false opn, AObj.row (rowOf (fun i => [Value.complex .f64 (c i) (d i)]) N) false opn2]) (Value.tuple { toList := [Value.slice none 0 0, Value.int .i64 (Int.ofNat 3)] }) ([AObj.row (rowOf (fun i => [Value.complex .f64 (a i) (b i)]) M) false opn, AObj.row (rowOf (fun i => [Value.complex .f64 (c i) (d i)]) N) false opn2]) := CallR.of_DOXs (C := dLMk) dLMk_ok (X := [5]) Try.func88 mkB_fok (n := 3) (orc := []) (ps := []) (by kernel_rfl) (fun hst => trivial)
end Go.Lk
