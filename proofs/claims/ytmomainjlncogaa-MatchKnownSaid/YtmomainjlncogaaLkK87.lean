/- wakes: reckoned. -/
import Derived.Test.YtmomainjlncogaaLkMCT
namespace Go.Lk
open Go.Proofs
set_option maxRecDepth 100000
noncomputable def tmy : Tab := tmx.addH 158 false sAt
theorem tmy_ok : tmy.Ok Try.prog false := Tab.Ok.addH tmx_ok ⟨sAt_ok.1, (by intro h; cases h), sAt_ok.3⟩
noncomputable def LWks06 : Lib := ⟨Try.prog, false, tmy, [(122, Try.f122), (135, Try.f135)], [(91, false, Try.f91), (93, false, Try.f93), (162, false, Try.f162), (94, false, Try.f94), (95, false, Try.f95)]⟩
theorem LWks06_fp : ∀ e, e ∈ LWks06.pures → Try.prog.funcs[e.1]? = some e.2 := fs_cons Try.func122 (fs_cons Try.func135 (fs_nil))
theorem LWks06_fh : ∀ e, e ∈ LWks06.heaps → Try.prog.funcs[e.1]? = some e.2.2 := gs_cons Try.func91 (gs_cons Try.func93 (gs_cons Try.func162 (gs_cons Try.func94 (gs_cons Try.func95 (gs_nil)))))
theorem LWks06_p1 (gp : Nat → PureFn) (g : Nat → HeapFn) : (LWks06.pures.all fun e => fnOk (LWks06.mk' gp g) e.2) = true := by kernel_rfl
theorem LWks06_h1 (gp : Nat → PureFn) (g : Nat → HeapFn) : (LWks06.heaps.all fun e => fnOk (LWks06.mk' gp g) e.2.2 && (!e.2.1 || fnRo (LWks06.mk' gp g) e.2.2)) = true := by kernel_rfl
theorem LWks06_ok : LWks06.Ok := ⟨tmy_ok, mixed, LWks06_fp, LWks06_fh, LWks06_p1, LWks06_h1⟩
theorem wks06_ok : (match Try.f87.body with | some b => codeOk (LWks06.cfg 500 12) b | none => false) = true := by kernel_rfl
theorem wks06_run : ((DFn (LWks06.cfg 500 12) 500 Try.f87 [] []).map fun x => x.1) = some (.bool true) := by kernel_rfl
theorem wks06_call : CallR Try.prog false 87 [] [] (.bool true) [] := by
  have h := wks06_run
  cases hd : DFn (LWks06.cfg 500 12) 500 Try.f87 [] [] with
  | none => rw [hd] at h; cases h
  | some x =>
    obtain ⟨v, σ1⟩ := x
    rw [hd] at h
    simp only [Option.map_some, Option.some.injEq] at h
    subst h
    exact CallR.of_DFn_nil (LWks06_ok.cfg 500 12) Try.func87 wks06_ok (by kernel_rfl) hd rfl
def sWks06 : PureFn
  | [] => some (.bool true)
  | _ => none
theorem sWks06_ok : IsPure Try.prog false 87 sWks06 := by
  intro args v σ h
  unfold sWks06 at h
  split at h
  · cases h
    exact CallR.frameQ (r := fun k => k + σ.length) (args0 := []) (σ0 := []) ⟨fun k o hk => by simp at hk, fun k hk => by omega⟩ rfl wks06_call rfl
  · cases h
end Go.Lk
