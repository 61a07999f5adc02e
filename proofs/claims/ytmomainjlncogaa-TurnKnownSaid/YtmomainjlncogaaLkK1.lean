/- TurnKnown: reckoned. -/
import Derived.Test.YtmomainjlncogaaLkPP
import Derived.Test.YtmomainjlncogaaLkM1
namespace Go.Lk
open Go.Proofs
set_option maxRecDepth 100000
noncomputable def L3 : Lib := ⟨Try.prog, false, t0 false, [(32, Try.f32), (33, Try.f33), (34, Try.f34), (35, Try.f35), (36, Try.f36), (37, Try.f37), (38, Try.f38), (39, Try.f39), (51, Try.f51), (55, Try.f55), (123, Try.f123), (125, Try.f125), (126, Try.f126), (160, Try.f160), (181, Try.f181), (182, Try.f182), (184, Try.f184), (206, Try.f206), (207, Try.f207)], [(183, true, Try.f183)]⟩
theorem L3_fp : ∀ e, e ∈ L3.pures → Try.prog.funcs[e.1]? = some e.2 := fs_cons Try.func32 (fs_cons Try.func33 (fs_cons Try.func34 (fs_cons Try.func35 (fs_cons Try.func36 (fs_cons Try.func37 (fs_cons Try.func38 (fs_cons Try.func39 (fs_cons Try.func51 (fs_cons Try.func55 (fs_cons Try.func123 (fs_cons Try.func125 (fs_cons Try.func126 (fs_cons Try.func160 (fs_cons Try.func181 (fs_cons Try.func182 (fs_cons Try.func184 (fs_cons Try.func206 (fs_cons Try.func207 (fs_nil)))))))))))))))))))
theorem L3_fh : ∀ e, e ∈ L3.heaps → Try.prog.funcs[e.1]? = some e.2.2 := gs_cons Try.func183 (gs_nil)
theorem L3_p1 (gp : Nat → PureFn) (g : Nat → HeapFn) : (L3.pures.all fun e => fnOk (L3.mk' gp g) e.2) = true := by kernel_rfl
theorem L3_h1 (gp : Nat → PureFn) (g : Nat → HeapFn) : (L3.heaps.all fun e => fnOk (L3.mk' gp g) e.2.2 && (!e.2.1 || fnRo (L3.mk' gp g) e.2.2)) = true := by kernel_rfl
theorem L3_ok : L3.Ok := ⟨t0_ok false, mixed, L3_fp, L3_fh, L3_p1, L3_h1⟩

theorem turnKnown_ok : fnOk (L3.cfg 100 8) Try.f3 = true := by kernel_rfl
theorem turnKnown_run : ((DFn (L3.cfg 100 8) 100 Try.f3 [] []).map fun x => x.1) = some (.bool true) := by kernel_rfl
end Go.Lk
