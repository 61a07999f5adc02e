/- Wks23: reckoned. -/
import Derived.Test.YtmomainjlncogaaLkNR
namespace Go.Lk
open Go.Proofs
set_option maxRecDepth 100000
noncomputable def LWks23 : Lib := ⟨Try.prog, false, tw2, [(55, Try.f55), (35, Try.f35), (51, Try.f51), (206, Try.f206), (181, Try.f181), (123, Try.f123), (32, Try.f32), (127, Try.f127), (128, Try.f128), (148, Try.f148), (69, Try.f69), (132, Try.f132), (52, Try.f52), (207, Try.f207), (184, Try.f184), (126, Try.f126), (38, Try.f38), (33, Try.f33), (159, Try.f159), (160, Try.f160), (89, Try.f89), (133, Try.f133), (53, Try.f53), (182, Try.f182), (125, Try.f125), (36, Try.f36), (134, Try.f134), (136, Try.f136), (56, Try.f56)], [(183, true, Try.f183), (58, false, Try.f58)]⟩
theorem LWks23_fp : ∀ e, e ∈ LWks23.pures → Try.prog.funcs[e.1]? = some e.2 := fs_cons Try.func55 (fs_cons Try.func35 (fs_cons Try.func51 (fs_cons Try.func206 (fs_cons Try.func181 (fs_cons Try.func123 (fs_cons Try.func32 (fs_cons Try.func127 (fs_cons Try.func128 (fs_cons Try.func148 (fs_cons Try.func69 (fs_cons Try.func132 (fs_cons Try.func52 (fs_cons Try.func207 (fs_cons Try.func184 (fs_cons Try.func126 (fs_cons Try.func38 (fs_cons Try.func33 (fs_cons Try.func159 (fs_cons Try.func160 (fs_cons Try.func89 (fs_cons Try.func133 (fs_cons Try.func53 (fs_cons Try.func182 (fs_cons Try.func125 (fs_cons Try.func36 (fs_cons Try.func134 (fs_cons Try.func136 (fs_cons Try.func56 (fs_nil)))))))))))))))))))))))))))))
theorem LWks23_fh : ∀ e, e ∈ LWks23.heaps → Try.prog.funcs[e.1]? = some e.2.2 := gs_cons Try.func183 (gs_cons Try.func58 (gs_nil))
theorem LWks23_p1 (gp : Nat → PureFn) (g : Nat → HeapFn) : (LWks23.pures.all fun e => fnOk (LWks23.mk' gp g) e.2) = true := by kernel_rfl
theorem LWks23_h1 (gp : Nat → PureFn) (g : Nat → HeapFn) : (LWks23.heaps.all fun e => fnOk (LWks23.mk' gp g) e.2.2 && (!e.2.1 || fnRo (LWks23.mk' gp g) e.2.2)) = true := by kernel_rfl
theorem LWks23_ok : LWks23.Ok := ⟨tw2_ok, mixed, LWks23_fp, LWks23_fh, LWks23_p1, LWks23_h1⟩
theorem Wks23_codeOk : (match Try.f46.body with | some b => codeOk (LWks23.cfg 500 12) b | none => false) = true := by kernel_rfl
theorem Wks23_run : ((DFn (LWks23.cfg 500 12) 500 Try.f46 [] []).map fun x => x.1) = some (.bool true) := by kernel_rfl
theorem Wks23_call : CallR Try.prog false 46 [] [] (.bool true) [] := by
  have h := Wks23_run
  cases hd : DFn (LWks23.cfg 500 12) 500 Try.f46 [] [] with
  | none => rw [hd] at h; cases h
  | some x =>
    obtain ⟨v, σ1⟩ := x
    rw [hd] at h
    simp only [Option.map_some, Option.some.injEq] at h
    subst h
    exact CallR.of_DFn_nil (LWks23_ok.cfg 500 12) Try.func46 Wks23_codeOk (by kernel_rfl) hd rfl
def sWks23 : PureFn
  | [] => some (.bool true)
  | _ => none
theorem sWks23_ok : IsPure Try.prog false 46 sWks23 := by
  intro args v σ h
  unfold sWks23 at h
  split at h
  · cases h
    exact CallR.frameQ (r := fun k => k + σ.length) (args0 := []) (σ0 := []) ⟨fun k o hk => by simp at hk, fun k hk => by omega⟩ rfl Wks23_call rfl
  · cases h
end Go.Lk
