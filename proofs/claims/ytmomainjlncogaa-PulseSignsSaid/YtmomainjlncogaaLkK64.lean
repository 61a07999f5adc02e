/- wakes: reckoned. -/
import Derived.Test.YtmomainjlncogaaLkM2
import Derived.Test.YtmomainjlncogaaLkFR
namespace Go.Lk
open Go.Proofs
set_option maxRecDepth 100000
noncomputable def LWakes : Lib := ⟨Try.prog, false, t1, [(55, Try.f55), (35, Try.f35), (51, Try.f51), (206, Try.f206), (181, Try.f181), (123, Try.f123), (32, Try.f32), (160, Try.f160), (125, Try.f125), (36, Try.f36), (127, Try.f127), (128, Try.f128), (144, Try.f144), (122, Try.f122), (135, Try.f135), (151, Try.f151), (37, Try.f37)], [(183, true, Try.f183), (66, false, Try.f66), (146, true, Try.f146), (68, false, Try.f68), (75, false, Try.f75), (79, false, Try.f79)]⟩
theorem LWakes_fp : ∀ e, e ∈ LWakes.pures → Try.prog.funcs[e.1]? = some e.2 := fs_cons Try.func55 (fs_cons Try.func35 (fs_cons Try.func51 (fs_cons Try.func206 (fs_cons Try.func181 (fs_cons Try.func123 (fs_cons Try.func32 (fs_cons Try.func160 (fs_cons Try.func125 (fs_cons Try.func36 (fs_cons Try.func127 (fs_cons Try.func128 (fs_cons Try.func144 (fs_cons Try.func122 (fs_cons Try.func135 (fs_cons Try.func151 (fs_cons Try.func37 (fs_nil)))))))))))))))))
theorem LWakes_fh : ∀ e, e ∈ LWakes.heaps → Try.prog.funcs[e.1]? = some e.2.2 := gs_cons Try.func183 (gs_cons Try.func66 (gs_cons Try.func146 (gs_cons Try.func68 (gs_cons Try.func75 (gs_cons Try.func79 (gs_nil))))))
theorem LWakes_p1 (gp : Nat → PureFn) (g : Nat → HeapFn) : (LWakes.pures.all fun e => fnOk (LWakes.mk' gp g) e.2) = true := by kernel_rfl
theorem LWakes_h1 (gp : Nat → PureFn) (g : Nat → HeapFn) : (LWakes.heaps.all fun e => fnOk (LWakes.mk' gp g) e.2.2 && (!e.2.1 || fnRo (LWakes.mk' gp g) e.2.2)) = true := by kernel_rfl
theorem LWakes_ok : LWakes.Ok := ⟨t1_ok, mixed, LWakes_fp, LWakes_fh, LWakes_p1, LWakes_h1⟩
theorem wakes_ok : (match Try.f64.body with | some b => codeOk (LWakes.cfg 500 12) b | none => false) = true := by kernel_rfl
theorem wakes_run : ((DFn (LWakes.cfg 500 12) 500 Try.f64 [] []).map fun x => x.1) = some (.bool true) := by kernel_rfl
theorem wakes_call : CallR Try.prog false 64 [] [] (.bool true) [] := by
  have h := wakes_run
  cases hd : DFn (LWakes.cfg 500 12) 500 Try.f64 [] [] with
  | none => rw [hd] at h; cases h
  | some x =>
    obtain ⟨v, σ1⟩ := x
    rw [hd] at h
    simp only [Option.map_some, Option.some.injEq] at h
    subst h
    exact CallR.of_DFn_nil (LWakes_ok.cfg 500 12) Try.func64 wakes_ok (by kernel_rfl) hd rfl
def sWakes : PureFn
  | [] => some (.bool true)
  | _ => none
theorem sWakes_ok : IsPure Try.prog false 64 sWakes := by
  intro args v σ h
  unfold sWakes at h
  split at h
  · cases h
    exact CallR.frameQ (r := fun k => k + σ.length) (args0 := []) (σ0 := []) ⟨fun k o hk => by simp at hk, fun k hk => by omega⟩ rfl wakes_call rfl
  · cases h
end Go.Lk
