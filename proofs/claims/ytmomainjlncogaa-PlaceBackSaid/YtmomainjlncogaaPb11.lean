import Derived.Test.YtmomainjlncogaaPb10
import Derived.Test.YtmomainjlncogaaPb3
section
/- Within, both; points that are one. -/
namespace Go.Lk
open Go.Proofs
set_option maxRecDepth 100000
set_option maxHeartbeats 0
set_option linter.unusedVariables false
set_option linter.unusedSimpArgs false
theorem wNil_fok : fnOkX (dLW) [9] Try.f47 = true := by kernel_rfl
theorem wNil_p0 (x : Nat) (y : Nat) : CallR Try.prog false 47 ([Value.slice none 0 0, Value.agg { toList := [Value.float .f64 x, Value.float .f64 y] }]) ([]) (Value.bool false) ([AObj.row [Value.float .f64 x, Value.float .f64 y] true none]) := CallR.of_DOXs (C := dLW) dLW_ok (X := [9]) Try.func47 wNil_fok (n := 100) (orc := []) (ps := []) (by kernel_rfl) (fun hst => trivial)
theorem vNil_fok : fnOkX (dLW) [] Try.f48 = true := by kernel_rfl
theorem vNil_p0 (x : Nat) (y : Nat) : CallR Try.prog false 48 ([Value.slice none 0 0, Value.agg { toList := [Value.float .f64 x, Value.float .f64 y] }]) ([]) (Value.bool false) ([AObj.row [Value.float .f64 x, Value.float .f64 y] true none]) := CallR.of_DOXs (C := dLW) dLW_ok (X := []) Try.func48 vNil_fok (n := 100) (orc := []) (ps := []) (by kernel_rfl) (fun hst => trivial)
theorem withinN_v (px py : Nat → Nat) (n x y : Nat) : withinN px py n x y = bif decide (iN n < 3) then false else bif decide (iN n > 64) then false else vOdd px py n x y n := by unfold withinN; rw [odd_both]
theorem v_small (opn : Option Nat) (px py : Nat → Nat) (m n cap x y : Nat) (hm : n ≤ m) : ∃ σ', CallR Try.prog false 48 [.slice (some ⟨0, 0, some 2⟩) n cap, .agg #[.float .f64 x, .float .f64 y]] [.row (rowOf (fun i => [.float .f64 (px i), .float .f64 (py i)]) m) false opn] (.bool (withinN px py n x y)) σ' := by
  rw [withinN_v]
  cases h0 : decide (iN n < 3) with
  | true => exact ⟨_, vWithin_p0 opn px py m n cap x y hm h0⟩
  | false =>
    cases h1 : decide (iN n > 64) with
    | true => exact ⟨_, vWithin_p1 opn px py m n cap x y hm h0 h1⟩
    | false =>
      have hn : n ≤ 64 := by
        have := of_decide_eq_false h1
        rw [iN_eq] at this
        omega
      exact ⟨_, vWithin_p2 opn px py m n cap x y hm h0 h1 (fun hst => (v_loop opn px py m n cap x y hn hm hst).enter [true, true, false, true, true, true, true, false, false, false, false, false, false, false, false, false, false, false, false, false, false, false, false, false, false, false, false, false, false, false, false, false, false, false, false, false, false, false, false, false, false, false, false, false, false, false, false, false, false, false, false, false, false, false, false, false, false, false, false, false, false, false, false, false, false, false, false, false, false, false, false, false, false, false, false, false, false, false, false, false, false, false, false, false, false, false, false] (by kernel_rfl))⟩
def sWithin2 : HeapFn
  | [.slice none 0 0, .agg ⟨[.float .f64 _, .float .f64 _]⟩], σ => some (.bool false, σ)
  | args, σ => sWithin args σ
theorem sWithin2_is {f : FuncId} (hN : ∀ x y, ∃ σ', CallR Try.prog false f [.slice none 0 0, .agg #[.float .f64 x, .float .f64 y]] [] (.bool false) σ')
    (hS : ∀ opn (px py : Nat → Nat) m n cap x y, n ≤ m → ∃ σ', CallR Try.prog false f [.slice (some ⟨0, 0, some 2⟩) n cap, .agg #[.float .f64 x, .float .f64 y]] [.row (rowOf (fun i => [.float .f64 (px i), .float .f64 (py i)]) m) false opn] (.bool (withinN px py n x y)) σ') :
    IsHeap Try.prog false f true sWithin2 := by
  have quiet : ∀ (args : List Value) (σ : AHeap) (v : Value) (σ' : AHeap), sWithin2 args σ = some (v, σ') → σ' = σ := by
    intro args σ v σ' h
    unfold sWithin2 at h
    split at h
    · cases h; rfl
    · exact sWithin_ok.quiet rfl _ _ _ _ h
  refine ⟨fun args σ v σ' h => ?_, fun _ args σ v σ' h => quiet args σ v σ' h, fun args σ v σ' h => by rw [quiet args σ v σ' h]; exact Nat.le_refl _⟩
  unfold sWithin2 at h
  split at h
  · rename_i x y
    cases h
    obtain ⟨σ1, hs⟩ := hN x y
    exact CallR.frameQ (r := fun k => k + σ.length) (args0 := [.slice none 0 0, .agg #[.float .f64 x, .float .f64 y]]) (σ0 := []) ⟨fun k o hk => by simp at hk, fun k hk => by omega⟩ rfl hs rfl
  · unfold sWithin at h
    split at h
    · rename_i b n cap x y _
      split at h
      · rename_i vs rw' opn hb
        cases hc : (allFl vs && Nat.ble (2 * n) vs.length)
        · rw [hc] at h; cases h
        · rw [hc] at h
          cases h
          rw [Bool.and_eq_true] at hc
          obtain ⟨c1, c2⟩ := hc
          have c2 := Nat.le_of_ble_eq_true c2
          obtain ⟨σ1, hs⟩ := hS opn (fun i => fl vs (2 * i)) (fun i => fl vs (2 * i + 1)) (vs.length / 2) n cap x y (by omega)
          rw [allFl_row c1] at hs
          have c1' : vs.all isFl = true := by unfold allFl at c1; rw [Bool.and_eq_true] at c1; exact c1.1
          refine CallR.frameQ (r := fun k => if k = 0 then b else k + σ.length) ⟨fun k o hk => ?_, fun k hk => ?_⟩ ?_ hs rfl
          · have : k = 0 := by have := lt_of_some hk; simpa using this
            subst this
            simp only [List.getElem?_cons_zero, Option.some.injEq] at hk
            exact ⟨vs, opn, rw', hk.symm, hb, plain_fl c1'⟩
          · have hk : 1 ≤ k := hk
            have : ¬ k = 0 := by omega
            simp only [this, if_false]; omega
          · rfl
      · cases h
    · cases h
theorem sWithin47_ok : IsHeap Try.prog false 47 true sWithin2 := sWithin2_is (fun x y => ⟨_, wNil_p0 x y⟩) within_small
theorem sWithin48_ok : IsHeap Try.prog false 48 true sWithin2 := sWithin2_is (fun x y => ⟨_, vNil_p0 x y⟩) v_small
/-! ### At rows that are told by functions -/
noncomputable def tw2 : Tab := (t1.addH 47 true sWithin2).addH 48 true sWithin2
theorem tw2_ok : tw2.Ok Try.prog false := Tab.Ok.addH (Tab.Ok.addH t1_ok sWithin47_ok) sWithin48_ok
end Go.Lk
end

section
/- Wks23: reckoned. -/
namespace Go.Lk
open Go.Proofs
set_option maxRecDepth 100000
noncomputable def LWks23 : Lib := ⟨Try.prog, false, tw2, [(55, Try.f55), (35, Try.f35), (51, Try.f51), (206, Try.f206), (181, Try.f181), (123, Try.f123), (32, Try.f32), (127, Try.f127), (128, Try.f128), (148, Try.f148), (69, Try.f69), (132, Try.f132), (52, Try.f52), (207, Try.f207), (184, Try.f184), (126, Try.f126), (38, Try.f38), (33, Try.f33), (159, Try.f159), (160, Try.f160), (89, Try.f89), (133, Try.f133), (53, Try.f53), (182, Try.f182), (125, Try.f125), (36, Try.f36), (134, Try.f134), (136, Try.f136), (56, Try.f56)], [(183, true, Try.f183), (58, false, Try.f58)]⟩
theorem LWks23_fp : ∀ e, e ∈ LWks23.pures → Try.prog.funcs[e.1]? = some e.2 := fs_cons Try.func55 (fs_cons Try.func35 (fs_cons Try.func51 (fs_cons Try.func206 (fs_cons Try.func181 (fs_cons Try.func123 (fs_cons Try.func32 (fs_cons Try.func127 (fs_cons Try.func128 (fs_cons Try.func148 (fs_cons Try.func69 (fs_cons Try.func132 (fs_cons Try.func52 (fs_cons Try.func207 (fs_cons Try.func184 (fs_cons Try.func126 (fs_cons Try.func38 (fs_cons Try.func33 (fs_cons Try.func159 (fs_cons Try.func160 (fs_cons Try.func89 (fs_cons Try.func133 (fs_cons Try.func53 (fs_cons Try.func182 (fs_cons Try.func125 (fs_cons Try.func36 (fs_cons Try.func134 (fs_cons Try.func136 (fs_cons Try.func56 (fs_nil)))))))))))))))))))))))))))))
theorem LWks23_fh : ∀ e, e ∈ LWks23.heaps → Try.prog.funcs[e.1]? = some e.2.2 := gs_cons Try.func183 (gs_cons Try.func58 (gs_nil))
theorem LWks23_p1 (gp : Nat → PureFn) (g : Nat → HeapFn) : (LWks23.pures.all fun e => fnOk (LWks23.mk' gp g) e.2) = true := by kernel_rfl
theorem LWks23_h1 (gp : Nat → PureFn) (g : Nat → HeapFn) : (LWks23.heaps.all fun e => fnOk (LWks23.mk' gp g) e.2.2 && (!e.2.1 || fnRo (LWks23.mk' gp g) e.2.2)) = true := by kernel_rfl
theorem LWks23_ok : LWks23.Ok := ⟨tw2_ok, mixed, LWks23_fp, LWks23_fh, LWks23_p1, LWks23_h1⟩
theorem Wks23_codeOk : (match Try.f46.body with | some b => codeOk (LWks23.cfg 500 12) b | none => false) = true := by kernel_rfl
theorem Wks23_run : ((DFn (LWks23.cfg 500 12) 500 Try.f46 [] []).map fun x => x.1) = some (.bool true) := by kernel_rfl
theorem Wks23_call : CallR Try.prog false 46 [] [] (.bool true) [] := by
  have h := Wks23_run
  cases hd : DFn (LWks23.cfg 500 12) 500 Try.f46 [] [] with
  | none => rw [hd] at h; cases h
  | some x =>
    obtain ⟨v, σ1⟩ := x
    rw [hd] at h
    simp only [Option.map_some, Option.some.injEq] at h
    subst h
    exact CallR.of_DFn_nil (LWks23_ok.cfg 500 12) Try.func46 Wks23_codeOk (by kernel_rfl) hd rfl
def sWks23 : PureFn
  | [] => some (.bool true)
  | _ => none
theorem sWks23_ok : IsPure Try.prog false 46 sWks23 := by
  intro args v σ h
  unfold sWks23 at h
  split at h
  · cases h
    exact CallR.frameQ (r := fun k => k + σ.length) (args0 := []) (σ0 := []) ⟨fun k o hk => by simp at hk, fun k hk => by omega⟩ rfl Wks23_call rfl
  · cases h
end Go.Lk
end
