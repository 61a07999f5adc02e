/- The scene wakes. -/
import Derived.Test.YtmomainjlncogaaLkKSW
namespace Go.Lk
open Go.Proofs
set_option linter.unusedVariables false
def sWks12 : PureFn
  | [] => some (.bool true)
  | _ => none
theorem sWks12_ok : IsPure Try.prog false 106 sWks12 := by
  intro args v σ h
  unfold sWks12 at h
  split at h
  · cases h
    exact CallR.frameQ (r := fun k => k + σ.length) (args0 := []) (σ0 := []) ⟨fun k o hk => by simp at hk, fun k hk => by omega⟩ rfl sck_call rfl
  · cases h
end Go.Lk
