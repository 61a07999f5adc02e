/-
  ScenePeak: for every row (how long, how many, a pulse, a cell, a number of quarters) the function returns true. No condition.
-/
import Derived.Test.YtmomainjlncogaaSq14
import Derived.Test.YtmomainjlncogaaSq5
import Derived.Test.YtmomainjlncogaaRows
import Derived.ProofKit
import Derived.OpenShut
import Derived.ChangeOld
import Derived.Below
import Derived.Carry
namespace Go.Proofs.Ytmomainjlncogaa.scenePeak
open Go.ChangeShapes Go.WideShapes Go.ChangeAt Go.RowKit
open Go.Lk
set_option linter.unusedVariables false
set_option linter.unusedSimpArgs false

theorem own : ownKnob Try.prog.godebug = none := by kernel_rfl
theorem laidOut : laidOutB Try.prog = true := laidOut_ok

set_option maxRecDepth 100000 in
theorem lifted (os : Os) (started : os.Started) (H : Type) (enc : TypeId × Value → H) :
    ReturnsInHanded {} Try.checked os 24 .any (Rows.scenePeakSpec.pre6 enc Try.prog Try.f24 Rows.scenePeakRow.domain false) (Rows.scenePeakSpec.post enc Try.prog Try.f24 false true false false) := by
  refine returnsInHanded_of_change (C := Try.checked) own started (by kernel_rfl) Try.func24
    (ChangeSpec.witness6 (enc := enc) (C := Try.checked) false ⟨#[], #[.agg #[.int .u16 0, .int .u8 0, .slice none 0 0, .int .u16 0, .int .i8 0]], []⟩ 8 (by kernel_rfl) (by kernel_rfl) (by kernel_rfl) (by kernel_rfl)) ?_
  intro W base args ds gs before hval0 hW hcnd _
  have hval : ∀ (j : Nat) t v, Try.f24.params[j]? = some t → args[j]? = some v → Value.okWide Try.prog W .any base t v := hval0
  have hW' := hW
  obtain ⟨p, q, hA0, hV, rfl, hfz, hnd⟩ := hW
  have hA : DataW.TrodAll enc Try.prog W 0 (fun _ => true) true Try.f24.params.toList args.toList ds p := hA0
  rw [Try.params24] at hA hval
  obtain ⟨v0, vs0, d0, ds0, p0, q0, hargs, rfl, rfl, h0, r0⟩ := trodAll_cons hA
  obtain ⟨rfl, rfl, rfl⟩ := trodAll_nil r0
  obtain rfl : args = #[v0] := by cases args; simp_all
  obtain ⟨rfl, rfl⟩ := trodVars_none hV
  have k0 := h0
  have lt0 : ∀ x ∈ p0, x.block < W.heap.size := by obtain ⟨m, hm⟩ := k0; exact DataW.trod_lt m _ _ _ hm
  have hcalls : Calls Try.prog 24 #[v0] W fun e W' => e = .returned (.bool true) ∧ Go.RowKit.Below W.heap.size W W' := by
    obtain ⟨x, n0, n1, n3, qv, rfl, b0, b1, b3, bq, hx⟩ := scene_arg (t := 119) (t0 := 116) (t1 := 5) (t2 := 117) (t4 := 82) (e := 82) (by kernel_rfl) (by kernel_rfl) (by kernel_rfl) (by kernel_rfl) (by kernel_rfl) (by kernel_rfl) (by kernel_rfl) (by kernel_rfl) (by kernel_rfl) (by kernel_rfl) (by kernel_rfl) (hval 0 _ _ rfl rfl) k0
    rcases hx with rfl | ⟨w, len0, cap0, μ0, hl0, hw0, hr0, hv0⟩
    · obtain ⟨σ1, hc⟩ := sp_none n0 n1 n3 qv b0 b1 b3
      exact Calls.of_callR Try.func24 (by kernel_rfl) hc (HR.none false W) (VRs.cons (VRs.toAgg (VRs.cons (.int _ _) (VRs.cons (.int _ _) (VRs.cons (.snil 0 0) (VRs.cons (.int _ _) (VRs.cons (.int _ _) VRs.nil)))))) VRs.nil)
    · obtain ⟨σ1, hc⟩ := sp_all none w cap0 len0 cap0 n0 n1 n3 qv hl0 b0 b1 b3 bq hw0
      exact Calls.of_callR Try.func24 (by kernel_rfl) hc hr0 (VRs.cons (VRs.toAgg (VRs.cons (.int _ _) (VRs.cons (.int _ _) (VRs.cons hv0 (VRs.cons (.int _ _) (VRs.cons (.int _ _) VRs.nil)))))) VRs.nil)
  clear hA0 hval0
  refine (hcalls).mono fun e W' ⟨he, bel⟩ => ?_
  subst he
  exact ⟨_, rfl, _, _, _, [], _, [], hW', trodAll_mk1 (shut_bool Try.underlying4 _), (trodAll_cons_mk (Below.trod laidOut (by kernel_rfl) (of_decide_eq_true (by kernel_rfl)) k0 bel lt0) trodAll_mk0), rfl, bel.frame _, fun h => by cases h⟩

theorem closed : joinedFacts Try.prog 24 Try.f24 Rows.scenePeakSpec Rows.scenePeakRow = true :=
  joinedFacts_of (by kernel_rfl) laidOut_ok mapsRowed_ok (by kernel_rfl) (by kernel_rfl) (by kernel_rfl) (by kernel_rfl) (by kernel_rfl) (by kernel_rfl) (by kernel_rfl) (by kernel_rfl) (by kernel_rfl) (by kernel_rfl) (by kernel_rfl) (by kernel_rfl) (by kernel_rfl) (by kernel_rfl) (by kernel_rfl) (by kernel_rfl) (by kernel_rfl) (by kernel_rfl) (by kernel_rfl) (by kernel_rfl) (by kernel_rfl) stopsHeard_ok mayEnter_ok (by rw [liftsFinal_ok]; kernel_rfl) (by rw [make_ok]; kernel_rfl) (by kernel_rfl) (by kernel_rfl) (by kernel_rfl) (by kernel_rfl)

theorem over : Rows.scenePeakRow.holds Try.pinned (OpenSpec.ofChange Rows.scenePeakSpec) :=
  OpenClaim.holds_of_wide 24 Try.f24 rfl rfl rfl rfl rfl rfl rfl ⟨rfl, rfl, rfl, rfl, rfl⟩ rfl rfl rfl rfl rfl (by kernel_rfl) Try.func24 closed
    (of_decide_eq_true (by kernel_rfl)) (by unfold Func.isWrapper; first | (rw [if_pos (by decide +kernel)]; kernel_rfl) | (rw [if_neg (by decide +kernel)]; exact ⟨rfl, rfl⟩))
    (fun os started H enc _ => lifted os started H enc)
end Go.Proofs.Ytmomainjlncogaa.scenePeak
namespace Go.Proofs.Ytmomainjlncogaa
/-- The echo of a pulse of whole numbers peaks where it lies, with the pulse's power. -/
theorem scenePeakProved : Rows.ScenePeakSaid := scenePeak.over
#print axioms scenePeakProved
end Go.Proofs.Ytmomainjlncogaa
