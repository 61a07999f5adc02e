/- wakes: reckoned. -/
import Derived.Test.YtmomainjlncogaaLkM2
import Derived.Test.YtmomainjlncogaaLkFR
import Derived.Test.YtmomainjlncogaaLkQT
import Derived.Test.YtmomainjlncogaaLkKSP
namespace Go.Lk
open Go.Proofs
set_option maxRecDepth 100000
noncomputable def LScA : Lib := ⟨Try.prog, false, tsp, [(209, Try.f209), (197, Try.f197), (127, Try.f127), (51, Try.f51), (128, Try.f128), (55, Try.f55), (35, Try.f35), (206, Try.f206), (181, Try.f181), (123, Try.f123), (32, Try.f32), (160, Try.f160), (207, Try.f207), (182, Try.f182), (125, Try.f125), (36, Try.f36), (148, Try.f148), (69, Try.f69), (135, Try.f135), (136, Try.f136), (172, Try.f172), (33, Try.f33)], [(166, true, Try.f166), (167, true, Try.f167), (168, false, Try.f168), (183, true, Try.f183), (198, false, Try.f198), (169, false, Try.f169), (170, false, Try.f170)]⟩
theorem LScA_fp : ∀ e, e ∈ LScA.pures → Try.prog.funcs[e.1]? = some e.2 := fs_cons Try.func209 (fs_cons Try.func197 (fs_cons Try.func127 (fs_cons Try.func51 (fs_cons Try.func128 (fs_cons Try.func55 (fs_cons Try.func35 (fs_cons Try.func206 (fs_cons Try.func181 (fs_cons Try.func123 (fs_cons Try.func32 (fs_cons Try.func160 (fs_cons Try.func207 (fs_cons Try.func182 (fs_cons Try.func125 (fs_cons Try.func36 (fs_cons Try.func148 (fs_cons Try.func69 (fs_cons Try.func135 (fs_cons Try.func136 (fs_cons Try.func172 (fs_cons Try.func33 (fs_nil))))))))))))))))))))))
theorem LScA_fh : ∀ e, e ∈ LScA.heaps → Try.prog.funcs[e.1]? = some e.2.2 := gs_cons Try.func166 (gs_cons Try.func167 (gs_cons Try.func168 (gs_cons Try.func183 (gs_cons Try.func198 (gs_cons Try.func169 (gs_cons Try.func170 (gs_nil)))))))
theorem LScA_p1 (gp : Nat → PureFn) (g : Nat → HeapFn) : (LScA.pures.all fun e => fnOk (LScA.mk' gp g) e.2) = true := by kernel_rfl
theorem LScA_h1 (gp : Nat → PureFn) (g : Nat → HeapFn) : (LScA.heaps.all fun e => fnOk (LScA.mk' gp g) e.2.2 && (!e.2.1 || fnRo (LScA.mk' gp g) e.2.2)) = true := by kernel_rfl
theorem LScA_ok : LScA.Ok := ⟨tsp_ok, mixed, LScA_fp, LScA_fh, LScA_p1, LScA_h1⟩
noncomputable def dLScA : Cfg := LScA.cfg 3000 12
theorem dLScA_ok : dLScA.Ok := LScA_ok.cfg 3000 12
theorem ok105 : fnOkX dLScA [24] Try.f105 = true := by kernel_rfl
noncomputable def s105 : HeapFn := fun args σ =>
  match DOfnT dLScA [24] 3000 Try.f105 args σ [] with
  | some ([], v, σ1) => bif Nat.ble σ.length σ1.length then some (v, σ1) else none
  | _ => none
theorem s105_run {args : List Value} {σ σ' : AHeap} {v : Value} (h : s105 args σ = some (v, σ')) : CallR Try.prog false 105 args σ v σ' ∧ σ.length ≤ σ'.length := by
  unfold s105 at h
  split at h
  · rename_i v1 σ1 hd
    cases hb : Nat.ble σ.length σ1.length
    · rw [hb] at h; cases h
    · rw [hb] at h; cases h
      exact ⟨CallR.of_DOT dLScA_ok Try.func105 ok105 hd trivial, Nat.le_of_ble_eq_true hb⟩
  · cases h
theorem s105_ok : IsHeap Try.prog false 105 false s105 := ⟨fun _ _ _ _ h => (s105_run h).1, (by intro h; cases h), fun _ _ _ _ h => (s105_run h).2⟩
noncomputable def tsc : Tab := tsp.addH 105 false s105
theorem tsc_ok : tsc.Ok Try.prog false := Tab.Ok.addH tsp_ok s105_ok
noncomputable def LScB : Lib := ⟨Try.prog, false, tsc, [(102, Try.f102), (209, Try.f209), (197, Try.f197), (127, Try.f127), (51, Try.f51), (128, Try.f128), (55, Try.f55), (35, Try.f35), (206, Try.f206), (181, Try.f181), (123, Try.f123), (32, Try.f32), (160, Try.f160), (207, Try.f207), (182, Try.f182), (125, Try.f125), (36, Try.f36), (148, Try.f148), (69, Try.f69), (135, Try.f135), (136, Try.f136), (172, Try.f172), (33, Try.f33)], [(166, true, Try.f166), (167, true, Try.f167), (168, false, Try.f168), (183, true, Try.f183), (198, false, Try.f198), (169, false, Try.f169), (170, false, Try.f170), (103, false, Try.f103)]⟩
theorem LScB_fp : ∀ e, e ∈ LScB.pures → Try.prog.funcs[e.1]? = some e.2 := fs_cons Try.func102 (fs_cons Try.func209 (fs_cons Try.func197 (fs_cons Try.func127 (fs_cons Try.func51 (fs_cons Try.func128 (fs_cons Try.func55 (fs_cons Try.func35 (fs_cons Try.func206 (fs_cons Try.func181 (fs_cons Try.func123 (fs_cons Try.func32 (fs_cons Try.func160 (fs_cons Try.func207 (fs_cons Try.func182 (fs_cons Try.func125 (fs_cons Try.func36 (fs_cons Try.func148 (fs_cons Try.func69 (fs_cons Try.func135 (fs_cons Try.func136 (fs_cons Try.func172 (fs_cons Try.func33 (fs_nil)))))))))))))))))))))))
theorem LScB_fh : ∀ e, e ∈ LScB.heaps → Try.prog.funcs[e.1]? = some e.2.2 := gs_cons Try.func166 (gs_cons Try.func167 (gs_cons Try.func168 (gs_cons Try.func183 (gs_cons Try.func198 (gs_cons Try.func169 (gs_cons Try.func170 (gs_cons Try.func103 (gs_nil))))))))
theorem LScB_p1 (gp : Nat → PureFn) (g : Nat → HeapFn) : (LScB.pures.all fun e => fnOk (LScB.mk' gp g) e.2) = true := by kernel_rfl
theorem LScB_h1 (gp : Nat → PureFn) (g : Nat → HeapFn) : (LScB.heaps.all fun e => fnOk (LScB.mk' gp g) e.2.2 && (!e.2.1 || fnRo (LScB.mk' gp g) e.2.2)) = true := by kernel_rfl
theorem LScB_ok : LScB.Ok := ⟨tsc_ok, mixed, LScB_fp, LScB_fh, LScB_p1, LScB_h1⟩
theorem sck_ok : (match Try.f106.body with | some b => codeOk (LScB.cfg 3000 12) b | none => false) = true := by kernel_rfl
theorem sck_run : ((DFn (LScB.cfg 3000 12) 3000 Try.f106 [] []).map fun x => x.1) = some (.bool true) := by kernel_rfl
theorem sck_call : CallR Try.prog false 106 [] [] (.bool true) [] := by
  have h := sck_run
  cases hd : DFn (LScB.cfg 3000 12) 3000 Try.f106 [] [] with
  | none => rw [hd] at h; cases h
  | some x =>
    obtain ⟨v, σ1⟩ := x
    rw [hd] at h
    simp only [Option.map_some, Option.some.injEq] at h
    subst h
    exact CallR.of_DFn_nil (LScB_ok.cfg 3000 12) Try.func106 sck_ok (by kernel_rfl) hd rfl
end Go.Lk
