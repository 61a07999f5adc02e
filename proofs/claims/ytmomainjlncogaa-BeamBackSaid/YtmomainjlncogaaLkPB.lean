/- Arguments: structs of floats. -/
import Derived.Test.YtmomainjlncogaaLkPA
namespace Go.Lk
set_option linter.unusedSimpArgs false
set_option linter.unusedVariables false
section
variable {P : Program} {W : World} {r : Reach} {base : Nat} {t u : TypeId} {v : Value}
theorem wide_agg' {ts : List TypeId} (ht : (P.underlying t).map isAggD = some true) (hc : P.cellTypes P.depth t = some ts) (hl : P.cellsOf t = ts.length) (h : Value.okWide P W r base t v) :
    ∃ cs : Array Value, v = .agg cs ∧ cs.size = ts.length ∧ ∀ (i : Nat) (u : TypeId), ts[i]? = some u → ∃ x, cs[i]? = some x ∧ Cell.okWide P W r base u x := by
  cases hu : P.underlying t with
  | none => rw [hu] at ht; cases ht
  | some d => rw [hu] at ht; exact wide_agg hu (by simpa using ht) hc hl h
theorem wide_two (hu : P.underlying u = some (.float .f64)) (ht : (P.underlying t).map isAggD = some true) (hc : P.cellTypes P.depth t = some [u, u]) (hl : P.cellsOf t = 2) (h : Value.okWide P W r base t v) :
    ∃ a b, v = .agg #[.float .f64 a, .float .f64 b] ∧ a < 2 ^ 64 ∧ b < 2 ^ 64 := by
  obtain ⟨cs, rfl, hs, hcs⟩ := wide_agg' ht hc hl h
  obtain ⟨x, hx, hx'⟩ := hcs 0 u rfl
  obtain ⟨y, hy, hy'⟩ := hcs 1 u rfl
  obtain ⟨a, rfl, ha⟩ := cell_float hu hx'
  obtain ⟨b, rfl, hb⟩ := cell_float hu hy'
  refine ⟨a, b, ?_, ha, hb⟩
  congr 1
  apply Array.ext_getElem?
  intro i
  match i with
  | 0 => rw [hx]; rfl
  | 1 => rw [hy]; rfl
  | i + 2 => rw [Array.getElem?_eq_none (by rw [hs]; simp), Array.getElem?_eq_none (by simp)]
theorem wide_three (hu : P.underlying u = some (.float .f64)) (ht : (P.underlying t).map isAggD = some true) (hc : P.cellTypes P.depth t = some [u, u, u]) (hl : P.cellsOf t = 3) (h : Value.okWide P W r base t v) :
    ∃ a b c, v = .agg #[.float .f64 a, .float .f64 b, .float .f64 c] ∧ a < 2 ^ 64 ∧ b < 2 ^ 64 ∧ c < 2 ^ 64 := by
  obtain ⟨cs, rfl, hs, hcs⟩ := wide_agg' ht hc hl h
  obtain ⟨x, hx, hx'⟩ := hcs 0 u rfl
  obtain ⟨y, hy, hy'⟩ := hcs 1 u rfl
  obtain ⟨z, hz, hz'⟩ := hcs 2 u rfl
  obtain ⟨a, rfl, ha⟩ := cell_float hu hx'
  obtain ⟨b, rfl, hb⟩ := cell_float hu hy'
  obtain ⟨c, rfl, hc'⟩ := cell_float hu hz'
  refine ⟨a, b, c, ?_, ha, hb, hc'⟩
  congr 1
  apply Array.ext_getElem?
  intro i
  match i with
  | 0 => rw [hx]; rfl
  | 1 => rw [hy]; rfl
  | 2 => rw [hz]; rfl
  | i + 3 => rw [Array.getElem?_eq_none (by rw [hs]; simp), Array.getElem?_eq_none (by simp)]
end
theorem VR.pt {μ : List (Option Ent)} (a b : Nat) : VR false μ (.agg #[.float .f64 (can a), .float .f64 (can b)]) (.agg #[.float .f64 a, .float .f64 b]) :=
  VRs.toAgg (VRs.cons (VR.f64 a) (VRs.cons (VR.f64 b) VRs.nil))
theorem VR.pt3 {μ : List (Option Ent)} (a b c : Nat) : VR false μ (.agg #[.float .f64 (can a), .float .f64 (can b), .float .f64 (can c)]) (.agg #[.float .f64 a, .float .f64 b, .float .f64 c]) :=
  VRs.toAgg (VRs.cons (VR.f64 a) (VRs.cons (VR.f64 b) (VRs.cons (VR.f64 c) VRs.nil)))
end Go.Lk
