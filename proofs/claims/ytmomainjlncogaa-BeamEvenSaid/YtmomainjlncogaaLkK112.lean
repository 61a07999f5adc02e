/- Wakes22: reckoned. -/
import Derived.Test.YtmomainjlncogaaLkJD
import Derived.Test.YtmomainjlncogaaLkJB
namespace Go.Lk
open Go.Proofs
set_option maxRecDepth 100000
noncomputable def LWakes22 : Lib := ⟨Try.prog, false, t1, [(55, Try.f55), (35, Try.f35), (51, Try.f51), (206, Try.f206), (181, Try.f181), (123, Try.f123), (32, Try.f32), (160, Try.f160), (207, Try.f207), (182, Try.f182), (125, Try.f125), (36, Try.f36), (201, Try.f201), (174, Try.f174), (122, Try.f122), (135, Try.f135), (184, Try.f184), (126, Try.f126), (38, Try.f38), (128, Try.f128), (159, Try.f159), (115, Try.f115), (193, Try.f193), (154, Try.f154), (194, Try.f194), (195, Try.f195), (155, Try.f155), (37, Try.f37), (212, Try.f212), (213, Try.f213), (202, Try.f202)], [(183, true, Try.f183), (211, false, Try.f211), (200, false, Try.f200), (173, false, Try.f173), (111, false, Try.f111), (146, true, Try.f146), (214, false, Try.f214), (203, false, Try.f203), (204, true, Try.f204), (176, false, Try.f176), (113, false, Try.f113), (119, false, Try.f119), (84, false, Try.f84), (192, true, Try.f192), (152, false, Try.f152), (153, false, Try.f153), (81, false, Try.f81), (175, false, Try.f175)]⟩
theorem LWakes22_fp : ∀ e, e ∈ LWakes22.pures → Try.prog.funcs[e.1]? = some e.2 := fs_cons Try.func55 (fs_cons Try.func35 (fs_cons Try.func51 (fs_cons Try.func206 (fs_cons Try.func181 (fs_cons Try.func123 (fs_cons Try.func32 (fs_cons Try.func160 (fs_cons Try.func207 (fs_cons Try.func182 (fs_cons Try.func125 (fs_cons Try.func36 (fs_cons Try.func201 (fs_cons Try.func174 (fs_cons Try.func122 (fs_cons Try.func135 (fs_cons Try.func184 (fs_cons Try.func126 (fs_cons Try.func38 (fs_cons Try.func128 (fs_cons Try.func159 (fs_cons Try.func115 (fs_cons Try.func193 (fs_cons Try.func154 (fs_cons Try.func194 (fs_cons Try.func195 (fs_cons Try.func155 (fs_cons Try.func37 (fs_cons Try.func212 (fs_cons Try.func213 (fs_cons Try.func202 (fs_nil)))))))))))))))))))))))))))))))
theorem LWakes22_fh : ∀ e, e ∈ LWakes22.heaps → Try.prog.funcs[e.1]? = some e.2.2 := gs_cons Try.func183 (gs_cons Try.func211 (gs_cons Try.func200 (gs_cons Try.func173 (gs_cons Try.func111 (gs_cons Try.func146 (gs_cons Try.func214 (gs_cons Try.func203 (gs_cons Try.func204 (gs_cons Try.func176 (gs_cons Try.func113 (gs_cons Try.func119 (gs_cons Try.func84 (gs_cons Try.func192 (gs_cons Try.func152 (gs_cons Try.func153 (gs_cons Try.func81 (gs_cons Try.func175 (gs_nil))))))))))))))))))
theorem LWakes22_p1 (gp : Nat → PureFn) (g : Nat → HeapFn) : (LWakes22.pures.all fun e => fnOk (LWakes22.mk' gp g) e.2) = true := by kernel_rfl
theorem LWakes22_h1 (gp : Nat → PureFn) (g : Nat → HeapFn) : (LWakes22.heaps.all fun e => fnOk (LWakes22.mk' gp g) e.2.2 && (!e.2.1 || fnRo (LWakes22.mk' gp g) e.2.2)) = true := by kernel_rfl
theorem LWakes22_ok : LWakes22.Ok := ⟨t1_ok, mixed, LWakes22_fp, LWakes22_fh, LWakes22_p1, LWakes22_h1⟩
theorem Wakes22_codeOk : (match Try.f112.body with | some b => codeOk (LWakes22.cfg 500 14) b | none => false) = true := by kernel_rfl
theorem Wakes22_run : ((DFn (LWakes22.cfg 500 14) 500 Try.f112 [] []).map fun x => x.1) = some (.bool true) := by kernel_rfl
theorem Wakes22_call : CallR Try.prog false 112 [] [] (.bool true) [] := by
  have h := Wakes22_run
  cases hd : DFn (LWakes22.cfg 500 14) 500 Try.f112 [] [] with
  | none => rw [hd] at h; cases h
  | some x =>
    obtain ⟨v, σ1⟩ := x
    rw [hd] at h
    simp only [Option.map_some, Option.some.injEq] at h
    subst h
    exact CallR.of_DFn_nil (LWakes22_ok.cfg 500 14) Try.func112 Wakes22_codeOk (by kernel_rfl) hd rfl
def sWakes22 : PureFn
  | [] => some (.bool true)
  | _ => none
theorem sWakes22_ok : IsPure Try.prog false 112 sWakes22 := by
  intro args v σ h
  unfold sWakes22 at h
  split at h
  · cases h
    exact CallR.frameQ (r := fun k => k + σ.length) (args0 := []) (σ0 := []) ⟨fun k o hk => by simp at hk, fun k hk => by omega⟩ rfl Wakes22_call rfl
  · cases h
end Go.Lk
