/- Code: what it does to a frame and an abstract heap. -/
import Derived.Test.YtmomainjlncogaaLkHH
import Derived.Scope
namespace Go.Lk
set_option linter.unusedSimpArgs false
set_option linter.unusedVariables false

abbrev Res := Option (Exit × List Value × AHeap)

def iter (f : List Value → AHeap → Res) : Nat → List Value → AHeap → Res
  | 0, _, _ => none
  | n + 1, fr, σ =>
    match f fr σ with
    | some (.normal, fr', σ') => iter f n fr' σ'
    | r => r

/-- CODE, in at most n rounds of each loop. -/
def DC (C : Cfg) (n : Nat) : Code → List Value → AHeap → Res
  | .skip, fr, σ => some (.normal, fr, σ)
  | .region _ ops _, fr, σ =>
    match runOps C ops ops.toList fr σ with
    | some (fr', σ') => some (.normal, fr', σ')
    | none => none
  | .seq a b, fr, σ =>
    match DC C n a fr σ with
    | some (.normal, fr', σ') => DC C n b fr' σ'
    | r => r
  | .cond c x y, fr, σ =>
    match aev fr c with
    | some (.bool b) => bif b then DC C n x fr σ else DC C n y fr σ
    | _ => none
  | .block id body, fr, σ =>
    match DC C n body fr σ with
    | some (.exit id', fr', σ') => if id' = id then some (.normal, fr', σ') else some (.exit id', fr', σ')
    | r => r
  | .loop body, fr, σ => iter (DC C n body) n fr σ
  | .exit id, fr, σ => some (.exit id, fr, σ)
  | .ret, fr, σ => some (.ret, fr, σ)
  | .label _, fr, σ => some (.normal, fr, σ)
  | .scope body, fr, σ => DC C n body fr σ
  | _, _, _ => none

/-- Are all regions whose order is open in order? -/
def codeOk (C : Cfg) : Code → Bool
  | .region _ ops draw => !draw || drawOk C ops
  | .seq a b => codeOk C a && codeOk C b
  | .cond _ x y => codeOk C x && codeOk C y
  | .block _ b | .loop b | .scope b => codeOk C b
  | .goto _ => false
  | _ => true

/-- WHAT CODE DOES: from each state that fits it comes to one that fits what is told. (n0: blocks below it keep their names.) -/
def Sim (C : Cfg) (n0 : Nat) (c : Code) (fr : List Value) (σ : AHeap) (e : Exit) (fr' : List Value) (σ' : AHeap) : Prop :=
  ∀ (B : Nat → Prop) (μ : List (Option Ent)) (tmps : Array Value) (defers : List Deferred) (w : World) (Q : Exit → Act → World → Prop),
    FrR C.ex μ fr tmps → HR C.ex B μ σ w →
    (∀ μ' tmps' w', FrR C.ex μ' fr' tmps' → HR C.ex B μ' σ' w' → (∀ b, b < n0 → μ'[b]? = μ[b]?) → Blw B w w' → Q e ⟨tmps', defers⟩ w') →
    c.wp C.P Q ⟨tmps, defers⟩ w

end Go.Lk
