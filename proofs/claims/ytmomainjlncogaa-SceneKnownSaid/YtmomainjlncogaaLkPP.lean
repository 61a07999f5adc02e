/- From the abstract contract to the model's own. -/
import Derived.Test.YtmomainjlncogaaLkOO
namespace Go.Lk
set_option linter.unusedSimpArgs false
set_option linter.unusedVariables false

theorem Calls.of_callR {P : Program} {ex : Bool} {f : FuncId} {fn : Func} {args : List Value} {cargs : Array Value} {σ σ' : AHeap} {μ : List (Option Ent)} {w : World}
    (hf : P.funcs[f]? = some fn) (hok : (fn.body.isSome && !(fn.name == "runtime.NumGoroutine")) = true) (h : CallR P ex f args σ (.bool true) σ')
    (hr : HR ex (old w) μ σ w) (ha : VRs ex μ args cargs.toList) : Calls P f cargs w fun e w' => e = .returned (.bool true) ∧ Go.RowKit.Below w.heap.size w w' := by
  have h1 := h _ _ _ _ hr ha
  unfold CallsTo at h1
  simp only [Bool.and_eq_true, Bool.not_eq_true'] at hok
  have hcf : (callFunc f cargs).run P w = .ok (.enter f cargs) w := by
    have hnm' : ¬ fn.name = "runtime.NumGoroutine" := by simpa using hok.2
    cases hb : fn.body with
    | none => rw [hb] at hok; cases hok.1
    | some b => simp [callFunc, hf, hnm', hb]
  rw [hcf] at h1
  refine Calls.mono h1 ?_
  rintro e w' ⟨v, rfl, μ', q1, q2, q3, q4⟩
  cases q1
  exact ⟨rfl, q4.kit⟩

theorem fnOk_body {C : Cfg} {fn : Func} (h : fnOk C fn = true) : (fn.body.isSome && !(fn.name == "runtime.NumGoroutine")) = true := by
  unfold fnOk at h
  cases hb : fn.body with
  | none => rw [hb] at h; cases h
  | some b => rw [hb] at h; simp only [Bool.and_eq_true] at h; simp only [Option.isSome_some, Bool.true_and]; exact h.2

/-- A law without arguments that reckons to true. -/
theorem Calls.of_run {C : Cfg} (hC : C.Ok) {f : FuncId} {fn : Func} {n : Nat} (hf : C.P.funcs[f]? = some fn) (hok : fnOk C fn = true)
    (h : ((DFn C n fn [] []).map fun x => x.1) = some (.bool true)) (w : World) : Calls C.P f #[] w fun e w' => e = .returned (.bool true) ∧ Go.RowKit.Below w.heap.size w w' := by
  cases hd : DFn C n fn [] [] with
  | none => rw [hd] at h; cases h
  | some x =>
    obtain ⟨v, σ1⟩ := x
    rw [hd] at h
    cases h
    have h2 := hok
    simp only [fnOk, Bool.and_eq_true, Bool.not_eq_true'] at h2
    exact Calls.of_callR hf (fnOk_body hok) (CallR.of_DFn_nil hC hf h2.1 h2.2 hd rfl) (HR.none C.ex w) VRs.nil
end Go.Lk
