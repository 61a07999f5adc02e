/- PulseNames: reckoned. -/
import Derived.Test.YtmomainjlncogaaLkM2
namespace Go.Lk
open Go.Proofs
set_option maxRecDepth 100000
noncomputable def LPulseNames : Lib := ⟨Try.prog, false, t1, [(55, Try.f55), (35, Try.f35), (51, Try.f51), (206, Try.f206), (181, Try.f181), (123, Try.f123), (32, Try.f32), (160, Try.f160), (125, Try.f125), (36, Try.f36), (127, Try.f127), (128, Try.f128), (144, Try.f144), (122, Try.f122), (135, Try.f135), (151, Try.f151), (37, Try.f37), (64, Try.f64)], [(183, true, Try.f183), (66, false, Try.f66), (146, true, Try.f146), (68, false, Try.f68), (75, false, Try.f75), (79, false, Try.f79)]⟩
theorem LPulseNames_fp : ∀ e, e ∈ LPulseNames.pures → Try.prog.funcs[e.1]? = some e.2 := fs_cons Try.func55 (fs_cons Try.func35 (fs_cons Try.func51 (fs_cons Try.func206 (fs_cons Try.func181 (fs_cons Try.func123 (fs_cons Try.func32 (fs_cons Try.func160 (fs_cons Try.func125 (fs_cons Try.func36 (fs_cons Try.func127 (fs_cons Try.func128 (fs_cons Try.func144 (fs_cons Try.func122 (fs_cons Try.func135 (fs_cons Try.func151 (fs_cons Try.func37 (fs_cons Try.func64 (fs_nil))))))))))))))))))
theorem LPulseNames_fh : ∀ e, e ∈ LPulseNames.heaps → Try.prog.funcs[e.1]? = some e.2.2 := gs_cons Try.func183 (gs_cons Try.func66 (gs_cons Try.func146 (gs_cons Try.func68 (gs_cons Try.func75 (gs_cons Try.func79 (gs_nil))))))
theorem LPulseNames_p1 (gp : Nat → PureFn) (g : Nat → HeapFn) : (LPulseNames.pures.all fun e => fnOk (LPulseNames.mk' gp g) e.2) = true := by kernel_rfl
theorem LPulseNames_h1 (gp : Nat → PureFn) (g : Nat → HeapFn) : (LPulseNames.heaps.all fun e => fnOk (LPulseNames.mk' gp g) e.2.2 && (!e.2.1 || fnRo (LPulseNames.mk' gp g) e.2.2)) = true := by kernel_rfl
theorem LPulseNames_ok : LPulseNames.Ok := ⟨t1_ok, mixed, LPulseNames_fp, LPulseNames_fh, LPulseNames_p1, LPulseNames_h1⟩

theorem pulseNames_ok : fnOk (LPulseNames.cfg 500 12) Try.f12 = true := by kernel_rfl
theorem pulseNames_run : ((DFn (LPulseNames.cfg 500 12) 500 Try.f12 [] []).map fun x => x.1) = some (.bool true) := by kernel_rfl
end Go.Lk
