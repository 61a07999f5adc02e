/- DftKnown: reckoned. -/
import Derived.Test.YtmomainjlncogaaLkM2
namespace Go.Lk
open Go.Proofs
set_option maxRecDepth 100000
noncomputable def LDftKnown : Lib := ⟨Try.prog, false, t1, [(193, Try.f193), (154, Try.f154), (194, Try.f194), (195, Try.f195), (155, Try.f155), (135, Try.f135), (55, Try.f55), (35, Try.f35), (51, Try.f51), (206, Try.f206), (181, Try.f181), (123, Try.f123), (32, Try.f32), (160, Try.f160), (125, Try.f125), (36, Try.f36), (37, Try.f37), (33, Try.f33), (128, Try.f128), (159, Try.f159), (89, Try.f89), (86, Try.f86)], [(84, false, Try.f84), (183, true, Try.f183), (192, true, Try.f192), (152, false, Try.f152), (153, false, Try.f153), (81, false, Try.f81), (146, true, Try.f146), (82, false, Try.f82), (83, false, Try.f83), (85, true, Try.f85)]⟩
theorem LDftKnown_fp : ∀ e, e ∈ LDftKnown.pures → Try.prog.funcs[e.1]? = some e.2 := fs_cons Try.func193 (fs_cons Try.func154 (fs_cons Try.func194 (fs_cons Try.func195 (fs_cons Try.func155 (fs_cons Try.func135 (fs_cons Try.func55 (fs_cons Try.func35 (fs_cons Try.func51 (fs_cons Try.func206 (fs_cons Try.func181 (fs_cons Try.func123 (fs_cons Try.func32 (fs_cons Try.func160 (fs_cons Try.func125 (fs_cons Try.func36 (fs_cons Try.func37 (fs_cons Try.func33 (fs_cons Try.func128 (fs_cons Try.func159 (fs_cons Try.func89 (fs_cons Try.func86 (fs_nil))))))))))))))))))))))
theorem LDftKnown_fh : ∀ e, e ∈ LDftKnown.heaps → Try.prog.funcs[e.1]? = some e.2.2 := gs_cons Try.func84 (gs_cons Try.func183 (gs_cons Try.func192 (gs_cons Try.func152 (gs_cons Try.func153 (gs_cons Try.func81 (gs_cons Try.func146 (gs_cons Try.func82 (gs_cons Try.func83 (gs_cons Try.func85 (gs_nil))))))))))
theorem LDftKnown_p1 (gp : Nat → PureFn) (g : Nat → HeapFn) : (LDftKnown.pures.all fun e => fnOk (LDftKnown.mk' gp g) e.2) = true := by kernel_rfl
theorem LDftKnown_h1 (gp : Nat → PureFn) (g : Nat → HeapFn) : (LDftKnown.heaps.all fun e => fnOk (LDftKnown.mk' gp g) e.2.2 && (!e.2.1 || fnRo (LDftKnown.mk' gp g) e.2.2)) = true := by kernel_rfl
theorem LDftKnown_ok : LDftKnown.Ok := ⟨t1_ok, mixed, LDftKnown_fp, LDftKnown_fh, LDftKnown_p1, LDftKnown_h1⟩

theorem dftKnown_ok : fnOk (LDftKnown.cfg 500 12) Try.f19 = true := by kernel_rfl
theorem dftKnown_run : ((DFn (LDftKnown.cfg 500 12) 500 Try.f19 [] []).map fun x => x.1) = some (.bool true) := by kernel_rfl
end Go.Lk
