import Derived.Test.YtmomainjlncogaaBd4
import Derived.Test.YtmomainjlncogaaBd3
section
/- A slice of floats in memory. -/
namespace Go.Lk
set_option linter.unusedVariables false
set_option linter.unusedSimpArgs false
theorem trod_float64 {H : Type} {enc : TypeId × Value → H} {P : Program} {w : World} {base : Nat} {spare : Nat → Bool} {held : Bool} {fuel : Nat} {t : TypeId} {cs : List Value} {x : DataW H × List MemPlace} (ht : P.underlying t = some (.float .f64)) (h : DataW.trod enc P w base spare held fuel t cs = some x) : ∃ b, cs = [.float .f64 b] ∧ b < 2 ^ 64 := by
  obtain ⟨b, rfl⟩ := trod_float ht h
  refine ⟨b, rfl, ?_⟩
  cases fuel with
  | zero => simp [DataW.trod] at h
  | succ n =>
    unfold DataW.trod at h
    rw [ht] at h
    simp only at h
    split at h
    · rename_i hw
      have := hw.2
      simpa [Lit.wf] using this
    · cases h
theorem floats_arg {H : Type} {enc : TypeId × Value → H} {P : Program} {W : World} {r : Reach} {base b2 : Nat} {held : Bool} {t e : TypeId} {v : Value} {d : DataW H} {ps : List MemPlace} (ht : P.underlying t = some (.slice e)) (he : P.underlying e = some (.float .f64)) (hc : P.cellsOf e = 1)
    (hok : Value.okWide P W r base t v) (h : ∃ m, DataW.trod enc P W b2 (fun _ => true) held m t v.cells.toList = some (d, ps)) :
    v = .slice none 0 0 ∨ ∃ (px : Nat → Nat) (len cap : Nat) (μ : List (Option Ent)), len ≤ cap ∧ (∀ i, i < cap → Canon (px i)) ∧ HR false (old W) μ [.row (rowOf (fun i => [.float .f64 (px i)]) cap) false none] W ∧ VR false μ (.slice (some ⟨0, 0, some 1⟩) len cap) v := by
  rcases wide_slice ht hok with rfl | ⟨a, len, cap, rfl, hl, hs, hb⟩
  · exact .inl rfl
  · right
    obtain ⟨m, h⟩ := h
    have hcell := slice_cells (s := 1) ht hc h
    let px : Nat → Nat := fun i => cellF (W.cell? (a.add (i * 1 + 0)))
    have hx : ∀ k, k < cap → ∃ x0, W.cell? (a.add (k * 1 + 0)) = some (.float .f64 x0) ∧ x0 < 2 ^ 64 := by
      intro k hk
      obtain ⟨cs, n, y, hcs, hcell, htr⟩ := hcell k hk
      obtain ⟨x0, rfl, hb0⟩ := trod_float64 he htr
      exact ⟨x0, hcell 0 (by decide), hb0⟩
    have hlen : (rowOf (fun i => [Value.float .f64 (px i)]) cap).length = cap * 1 := rowOf_len (f := fun i => [Value.float .f64 (px i)]) (s := 1) (fun _ => rfl) cap
    refine ⟨px, len, cap, _, hl, fun i hi => ?_, row_arg hs hb (fun j v hj => ?_), slice_arg (W := W) hs hl (by decide) hlen⟩
    · obtain ⟨x0, g0, hb0⟩ := hx i hi
      have ep : px i = can x0 := by show cellF (W.cell? (a.add (i * 1 + 0))) = _; rw [g0]; rfl
      rw [ep]; exact Canon.can hb0
    · have hlt := lt_of_some hj
      rw [hlen] at hlt
      have hk : j < cap := by omega
      obtain ⟨x0, g0, hb0⟩ := hx j hk
      have hrow := rowOf_at (f := fun i => [Value.float .f64 (px i)]) (s := 1) (fun _ => rfl) (k := j) hk
      have h2 := congrArg (fun l => l[0]?) hrow
      simp only [List.getElem?_take, List.getElem?_drop, Nat.lt_one_iff, if_true, Nat.mul_one, Nat.add_zero] at h2
      rw [hj] at h2
      simp only [List.getElem?_cons_zero, Option.some.injEq] at h2
      have ep : px j = can x0 := by show cellF (W.cell? (a.add (j * 1 + 0))) = _; rw [g0]; rfl
      rw [show j * 1 + 0 = j by omega] at g0
      refine ⟨_, g0, ?_⟩
      rw [h2, ep]
      exact .float _ _
end Go.Lk
end

section
/- Arguments: structs of floats. -/
namespace Go.Lk
set_option linter.unusedSimpArgs false
set_option linter.unusedVariables false
section
variable {P : Program} {W : World} {r : Reach} {base : Nat} {t u : TypeId} {v : Value}
end
end Go.Lk
end
