/- wakes: reckoned. -/
import Derived.Test.YtmomainjlncogaaLkMKD
namespace Go.Lk
open Go.Proofs
set_option maxRecDepth 100000
noncomputable def LMKn : Lib := ⟨Try.prog, false, tmk, [(122, Try.f122), (135, Try.f135), (193, Try.f193), (154, Try.f154), (194, Try.f194), (195, Try.f195), (155, Try.f155), (55, Try.f55), (35, Try.f35), (51, Try.f51), (206, Try.f206), (181, Try.f181), (123, Try.f123), (32, Try.f32), (160, Try.f160), (207, Try.f207), (182, Try.f182), (125, Try.f125), (36, Try.f36), (37, Try.f37)], [(156, true, Try.f156), (91, false, Try.f91), (93, false, Try.f93), (162, false, Try.f162), (94, false, Try.f94), (95, false, Try.f95), (84, false, Try.f84), (183, true, Try.f183), (192, true, Try.f192), (152, false, Try.f152), (153, false, Try.f153), (81, false, Try.f81), (161, false, Try.f161), (90, false, Try.f90), (92, true, Try.f92)]⟩
theorem LMKn_fp : ∀ e, e ∈ LMKn.pures → Try.prog.funcs[e.1]? = some e.2 := fs_cons Try.func122 (fs_cons Try.func135 (fs_cons Try.func193 (fs_cons Try.func154 (fs_cons Try.func194 (fs_cons Try.func195 (fs_cons Try.func155 (fs_cons Try.func55 (fs_cons Try.func35 (fs_cons Try.func51 (fs_cons Try.func206 (fs_cons Try.func181 (fs_cons Try.func123 (fs_cons Try.func32 (fs_cons Try.func160 (fs_cons Try.func207 (fs_cons Try.func182 (fs_cons Try.func125 (fs_cons Try.func36 (fs_cons Try.func37 (fs_nil))))))))))))))))))))
theorem LMKn_fh : ∀ e, e ∈ LMKn.heaps → Try.prog.funcs[e.1]? = some e.2.2 := gs_cons Try.func156 (gs_cons Try.func91 (gs_cons Try.func93 (gs_cons Try.func162 (gs_cons Try.func94 (gs_cons Try.func95 (gs_cons Try.func84 (gs_cons Try.func183 (gs_cons Try.func192 (gs_cons Try.func152 (gs_cons Try.func153 (gs_cons Try.func81 (gs_cons Try.func161 (gs_cons Try.func90 (gs_cons Try.func92 (gs_nil)))))))))))))))
theorem LMKn_p1 (gp : Nat → PureFn) (g : Nat → HeapFn) : (LMKn.pures.all fun e => fnOk (LMKn.mk' gp g) e.2) = true := by kernel_rfl
theorem LMKn_h1 (gp : Nat → PureFn) (g : Nat → HeapFn) : (LMKn.heaps.all fun e => fnOk (LMKn.mk' gp g) e.2.2 && (!e.2.1 || fnRo (LMKn.mk' gp g) e.2.2)) = true := by kernel_rfl
theorem LMKn_ok : LMKn.Ok := ⟨tmk_ok, mixed, LMKn_fp, LMKn_fh, LMKn_p1, LMKn_h1⟩
theorem mkn_ok : (match Try.f21.body with | some b => codeOk (LMKn.cfg 500 12) b | none => false) = true := by kernel_rfl
theorem mkn_run : ((DFn (LMKn.cfg 500 12) 500 Try.f21 [] []).map fun x => x.1) = some (.bool true) := by kernel_rfl
theorem mkn_call : CallR Try.prog false 21 [] [] (.bool true) [] := by
  have h := mkn_run
  cases hd : DFn (LMKn.cfg 500 12) 500 Try.f21 [] [] with
  | none => rw [hd] at h; cases h
  | some x =>
    obtain ⟨v, σ1⟩ := x
    rw [hd] at h
    simp only [Option.map_some, Option.some.injEq] at h
    subst h
    exact CallR.of_DFn_nil (LMKn_ok.cfg 500 12) Try.func21 mkn_ok (by kernel_rfl) hd rfl
end Go.Lk
