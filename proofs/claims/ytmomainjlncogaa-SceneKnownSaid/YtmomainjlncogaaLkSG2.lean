/- A function's statements, some at a time. -/
import Derived.Test.YtmomainjlncogaaLkSF
namespace Go.Lk
set_option linter.unusedVariables false
noncomputable def chain (C : Cfg) (X : List Nat) (n : Nat) : Nat → Code → List Value → AHeap → Option (Code × List Value × AHeap)
  | 0, c, fr, σ => some (c, fr, σ)
  | m + 1, .seq a b, fr, σ =>
    match DCX C X n a fr σ with
    | some (.normal, fr', σ') => chain C X n m b fr' σ'
    | _ => none
  | _, _, _, _ => none
/-- What is left after some statements. -/
def dropS : Nat → Code → Code
  | 0, c => c
  | m + 1, .seq _ b => dropS m b
  | _, c => c
theorem chain_sound {C : Cfg} (hC : C.Ok) {X : List Nat} {n : Nat} : ∀ (m : Nat) (c : Code) (fr : List Value) (σ : AHeap) {c' : Code} {fr' : List Value} {σ' : AHeap}, codeOkX C X c = true → chain C X n m c fr σ = some (c', fr', σ') →
    codeOkX C X c' = true ∧ ∀ {e : Exit} {fr2 : List Value} {σ2 : AHeap}, GoodX C c' fr' σ' e fr2 σ2 → GoodX C c fr σ e fr2 σ2
  | 0, c, fr, σ, c', fr', σ', hok, h => by cases h; exact ⟨hok, fun h => h⟩
  | m + 1, .seq a b, fr, σ, c', fr', σ', hok, h => by
    simp only [codeOkX, Bool.and_eq_true] at hok
    simp only [chain] at h
    split at h
    · rename_i h1
      obtain ⟨g1, g2, g3⟩ := DCX_sound hC X n _ _ _ _ _ _ hok.1 h1
      obtain ⟨k1, k2⟩ := chain_sound hC m b _ _ hok.2 h
      exact ⟨k1, fun h => let ⟨q1, q2, q3⟩ := k2 h; ⟨g1.seq (q1.le g2), by omega, q3⟩⟩
    · cases h
theorem CallR.of_good {C : Cfg} (hC : C.Ok) {f : FuncId} {fn : Func} {body : Code} {args : List Value} {σ σ1 : AHeap} {fr1 : List Value} {v : Value} (hf : C.P.funcs[f]? = some fn) (hb : fn.body = some body) (hnm : (fn.name == "runtime.NumGoroutine") = false)
    (h : GoodX C body (args ++ List.replicate (fn.ntmps - args.length) undef) σ .ret fr1 σ1) (hr : aResults C.P fn fr1 σ1 = some v) : CallR C.P C.ex f args σ v σ1 :=
  CallR.of_sim_raw hC hf hb hnm h.1 (.inr rfl) hr
end Go.Lk
