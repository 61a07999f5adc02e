/-
  BeamAdds: for every two tables of pairs of whole numbers and all weights the function returns true. No condition.
-/
import Derived.Test.YtmomainjlncogaaBa8
import Derived.Test.YtmomainjlncogaaBa4
import Derived.Test.YtmomainjlncogaaRows
import Derived.ProofKit
import Derived.OpenShut
import Derived.ChangeOld
import Derived.Below
import Derived.Carry
namespace Go.Proofs.Ytmomainjlncogaa.beamAdds
open Go.ChangeShapes Go.WideShapes Go.ChangeAt Go.RowKit
open Go.Lk
set_option linter.unusedVariables false
set_option linter.unusedSimpArgs false

theorem own : ownKnob Try.prog.godebug = none := by kernel_rfl
theorem laidOut : laidOutB Try.prog = true := laidOut_ok

set_option maxRecDepth 100000 in
theorem lifted (os : Os) (started : os.Started) (H : Type) (enc : TypeId × Value → H) :
    ReturnsInHanded {} Try.checked os 26 .any (Rows.beamAddsSpec.pre6 enc Try.prog Try.f26 Rows.beamAddsRow.domain false) (Rows.beamAddsSpec.post enc Try.prog Try.f26 false true false false) := by
  refine returnsInHanded_of_change (C := Try.checked) own started (by kernel_rfl) Try.func26
    (ChangeSpec.witness6 (enc := enc) (C := Try.checked) false ⟨#[], #[.slice none 0 0, .slice none 0 0, .slice none 0 0], []⟩ 8 (by kernel_rfl) (by kernel_rfl) (by kernel_rfl) (by kernel_rfl)) ?_
  intro W base args ds gs before hval0 hW hcnd _
  have hval : ∀ (j : Nat) t v, Try.f26.params[j]? = some t → args[j]? = some v → Value.okWide Try.prog W .any base t v := hval0
  have hW' := hW
  obtain ⟨p, q, hA0, hV, rfl, hfz, hnd⟩ := hW
  have hA : DataW.TrodAll enc Try.prog W 0 (fun _ => true) true Try.f26.params.toList args.toList ds p := hA0
  rw [Try.params26] at hA hval
  obtain ⟨v0, vs0, d0, ds0, p0, q0, hargs, rfl, rfl, h0, r0⟩ := trodAll_cons hA
  obtain ⟨v1, vs1, d1, ds1, p1, q1, rfl, rfl, rfl, h1, r1⟩ := trodAll_cons r0
  obtain ⟨v2, vs2, d2, ds2, p2, q2, rfl, rfl, rfl, h2, r2⟩ := trodAll_cons r1
  obtain ⟨rfl, rfl, rfl⟩ := trodAll_nil r2
  obtain rfl : args = #[v0, v1, v2] := by cases args; simp_all
  obtain ⟨rfl, rfl⟩ := trodVars_none hV
  have k0 := h0
  have lt0 : ∀ x ∈ p0, x.block < W.heap.size := by obtain ⟨m, hm⟩ := k0; exact DataW.trod_lt m _ _ _ hm
  have k1 := h1
  have lt1 : ∀ x ∈ p1, x.block < W.heap.size := by obtain ⟨m, hm⟩ := k1; exact DataW.trod_lt m _ _ _ hm
  have k2 := h2
  have lt2 : ∀ x ∈ p2, x.block < W.heap.size := by obtain ⟨m, hm⟩ := k2; exact DataW.trod_lt m _ _ _ hm
  have hcalls : Calls Try.prog 26 #[v0, v1, v2] W fun e W' => e = .returned (.bool true) ∧ Go.RowKit.Below W.heap.size W W' := by
    obtain ⟨pa, qa, n1, c1, m1, e1, hr1, ht1, hx1⟩ := pairs_pkg (t := 126) (e := 128) (u := 3) (by kernel_rfl) (by kernel_rfl) (by kernel_rfl) (by kernel_rfl) (by kernel_rfl) (hval 0 _ _ rfl rfl) k0
    obtain ⟨pb, qb, n2, c2, m2, e2, hr2, ht2, hx2⟩ := pairs_pkg (t := 126) (e := 128) (u := 3) (by kernel_rfl) (by kernel_rfl) (by kernel_rfl) (by kernel_rfl) (by kernel_rfl) (hval 1 _ _ rfl rfl) k1
    obtain ⟨pc, qc, n3, c3, m3, e3, hr3, ht3, hx3⟩ := pairs_pkg (t := 126) (e := 128) (u := 3) (by kernel_rfl) (by kernel_rfl) (by kernel_rfl) (by kernel_rfl) (by kernel_rfl) (hval 2 _ _ rfl rfl) k2
    have hr := (hr1.join hr2 ht1 ht2).join hr3 (ht1.app ht2) ht3
    obtain ⟨a1, hv1, hs1⟩ : ∃ a1, VR false ([m1] ++ [m2] ++ [m3]) (.slice a1 n1 c1) v0 ∧ (0 < n1 → a1 = some ⟨0, 0, some 2⟩ ∧ e1 = baIn pa qa c1 none ∧ n1 ≤ c1) := by
      rcases hx1 with ⟨rfl, rfl, rfl⟩ | ⟨h1, h2, h3⟩
      · exact ⟨_, .snil 0 0, fun h => by omega⟩
      · exact ⟨_, VR.slice_left (VR.slice_left h3), fun _ => ⟨rfl, h2, h1⟩⟩
    obtain ⟨a2, hv2, hs2⟩ : ∃ a2, VR false ([m1] ++ [m2] ++ [m3]) (.slice a2 n2 c2) v1 ∧ (0 < n2 → a2 = some ⟨1, 0, some 2⟩ ∧ e2 = baIn pb qb c2 none ∧ n2 ≤ c2) := by
      rcases hx2 with ⟨rfl, rfl, rfl⟩ | ⟨h1, h2, h3⟩
      · exact ⟨_, .snil 0 0, fun h => by omega⟩
      · exact ⟨_, VR.slice_left (VR.slice_right (μ := [m1]) h3), fun _ => ⟨rfl, h2, h1⟩⟩
    obtain ⟨a3, hv3, hs3⟩ : ∃ a3, VR false ([m1] ++ [m2] ++ [m3]) (.slice a3 n3 c3) v2 ∧ (0 < n3 → a3 = some ⟨2, 0, some 2⟩ ∧ e3 = baIn pc qc c3 none ∧ n3 ≤ c3) := by
      rcases hx3 with ⟨rfl, rfl, rfl⟩ | ⟨h1, h2, h3⟩
      · exact ⟨_, .snil 0 0, fun h => by omega⟩
      · exact ⟨_, VR.slice_right (μ := [m1] ++ [m2]) h3, fun _ => ⟨rfl, h2, h1⟩⟩
    have hvs : VRs false ([m1] ++ [m2] ++ [m3]) [.slice a1 n1 c1, .slice a2 n2 c2, .slice a3 n3 c3] #[v0, v1, v2].toList := VRs.cons hv1 (VRs.cons hv2 (VRs.cons hv3 VRs.nil))
    rcases Nat.lt_or_ge n3 1 with g0 | g0
    · exact Calls.of_callR Try.func26 (by kernel_rfl) (baG1_p0 _ a1 a2 a3 n1 c1 n2 c2 n3 c3 g0) hr hvs
    rcases Nat.lt_or_ge 64 n3 with g1 | g1
    · exact Calls.of_callR Try.func26 (by kernel_rfl) (baG2_p0 _ a1 a2 a3 n1 c1 n2 c2 n3 c3 g0 g1) hr hvs
    rcases Nat.lt_or_ge n1 n3 with g2 | g2
    · exact Calls.of_callR Try.func26 (by kernel_rfl) (baG3_p0 _ a1 a2 a3 n1 c1 n2 c2 n3 c3 g0 g1 g2) hr hvs
    rcases Nat.lt_or_ge n2 n3 with g3 | g3
    · exact Calls.of_callR Try.func26 (by kernel_rfl) (baG4_p0 _ a1 a2 a3 n1 c1 n2 c2 n3 c3 g0 g1 g2 g3) hr hvs
    obtain ⟨rfl, rfl, l1⟩ := hs1 (by omega)
    obtain ⟨rfl, rfl, l2⟩ := hs2 (by omega)
    obtain ⟨rfl, rfl, l3⟩ := hs3 (by omega)
    obtain ⟨σ1, hc⟩ := ba_main pa qa pb qb pc qc c1 c2 c3 none none none n1 c1 n2 c2 n3 c3 g0 g1 g2 g3 l1 l2 l3
    exact Calls.of_callR Try.func26 (by kernel_rfl) hc hr hvs
  clear hA0 hval0
  refine (hcalls).mono fun e W' ⟨he, bel⟩ => ?_
  subst he
  exact ⟨_, rfl, _, _, _, [], _, [], hW', trodAll_mk1 (shut_bool Try.underlying4 _), (trodAll_cons_mk (Below.trod laidOut (by kernel_rfl) (of_decide_eq_true (by kernel_rfl)) k0 bel lt0) (trodAll_cons_mk (Below.trod laidOut (by kernel_rfl) (of_decide_eq_true (by kernel_rfl)) k1 bel lt1) (trodAll_cons_mk (Below.trod laidOut (by kernel_rfl) (of_decide_eq_true (by kernel_rfl)) k2 bel lt2) trodAll_mk0))), rfl, bel.frame _, fun h => by cases h⟩

theorem closed : joinedFacts Try.prog 26 Try.f26 Rows.beamAddsSpec Rows.beamAddsRow = true :=
  joinedFacts_of (by kernel_rfl) laidOut_ok mapsRowed_ok (by kernel_rfl) (by kernel_rfl) (by kernel_rfl) (by kernel_rfl) (by kernel_rfl) (by kernel_rfl) (by kernel_rfl) (by kernel_rfl) (by kernel_rfl) (by kernel_rfl) (by kernel_rfl) (by kernel_rfl) (by kernel_rfl) (by kernel_rfl) (by kernel_rfl) (by kernel_rfl) (by kernel_rfl) (by kernel_rfl) (by kernel_rfl) (by kernel_rfl) (by kernel_rfl) stopsHeard_ok mayEnter_ok (by rw [liftsFinal_ok]; kernel_rfl) (by rw [make_ok]; kernel_rfl) (by kernel_rfl) (by kernel_rfl) (by kernel_rfl) (by kernel_rfl)

theorem over : Rows.beamAddsRow.holds Try.pinned (OpenSpec.ofChange Rows.beamAddsSpec) :=
  OpenClaim.holds_of_wide 26 Try.f26 rfl rfl rfl rfl rfl rfl rfl ⟨rfl, rfl, rfl, rfl, rfl⟩ rfl rfl rfl rfl rfl (by kernel_rfl) Try.func26 closed
    (of_decide_eq_true (by kernel_rfl)) (by unfold Func.isWrapper; first | (rw [if_pos (by decide +kernel)]; kernel_rfl) | (rw [if_neg (by decide +kernel)]; exact ⟨rfl, rfl⟩))
    (fun os started H enc _ => lifted os started H enc)
end Go.Proofs.Ytmomainjlncogaa.beamAdds
namespace Go.Proofs.Ytmomainjlncogaa
/-- Of whole numbers: what is formed of two tables together is what is formed of each, together. -/
theorem beamAddsProved : Rows.BeamAddsSaid := beamAdds.over
#print axioms beamAddsProved
end Go.Proofs.Ytmomainjlncogaa
