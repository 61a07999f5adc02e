/- From words as they are to words with all NaN alike. -/
import Derived.Test.YtmomainjlncogaaLkMM
namespace Go.Lk
set_option linter.unusedSimpArgs false
set_option linter.unusedVariables false

/-- One word, or two: no names, no parts. -/
def flat : Value → Bool
  | .bool _ | .int .. | .float .. | .complex .. | .string _ => true
  | _ => false

theorem VR.flat_ren {ex : Bool} {μ μ' : List (Option Ent)} {a c : Value} (h : VR ex μ a c) (hf : flat a = true) : VR ex μ' a c := by
  cases h <;> first | (constructor; done) | (cases hf; done)
theorem VR.flat_self {μ : List (Option Ent)} {a c : Value} (h : VR true μ a c) (hf : flat a = true) : c = a := by
  cases h <;> first | rfl | (cases hf; done)
theorem VR.flat_eq {μ : List (Option Ent)} {c : Value} (hf : flat c = true) : VR true μ c c := by
  cases c <;> first | (cases hf; done) | (constructor; done)
theorem VR.flat_fl {ex : Bool} {μ : List (Option Ent)} {a c : Value} (h : VR ex μ a c) (hf : flat a = true) : flat c = true := by
  cases h <;> first | rfl | (cases hf; done)

theorem CallsTo.mono {P : Program} {f : FuncId} {args : Array Value} {w : World} {R R' : Value → World → Prop} (h : CallsTo P f args w R) (hr : ∀ v w', R v w' → R' v w') : CallsTo P f args w R' := by
  unfold CallsTo at h ⊢
  split
  · rename_i v w' e; rw [e] at h; exact hr _ _ h
  · rename_i g as w' e; rw [e] at h; exact Calls.mono h (fun _ _ ⟨v, h1, h2⟩ => ⟨v, h1, hr _ _ h2⟩)
  · rename_i e1 e2
    split at h
    · rename_i e; exact absurd e (e1 _ _)
    · rename_i e; exact absurd e (e2 _ _ _)
    · exact h

theorem HR.below {ex : Bool} {B : Nat → Prop} {μ : List (Option Ent)} {σ : AHeap} {w w' : World} (h : HR ex B μ σ w) (hb : Blw (old w) w w') : HR ex B μ σ w' := by
  refine ⟨h.len, fun k hk => Nat.lt_of_lt_of_le (h.hB k hk) hb.size, h.has, fun b o e h1 h2 => (h.obj b o e h1 h2).mono (Sub.refl _) (fun hl => hb.block _ ((h.obj b o e h1 h2).lt hl)), h.inj⟩

theorem HR.none (ex : Bool) (w : World) : HR ex (old w) [] [] w :=
  ⟨rfl, fun _ hk => hk, fun b o h => by simp at h, fun b o e h => by simp at h, fun b b' o o' e e' h => by simp at h⟩

theorem CallR.of_exact {P : Program} {f : FuncId} {args : List Value} {σ : AHeap} {v : Value} (hfl : args.all flat = true)
    (h : ∀ cargs : List Value, VRs false [] args cargs → ∃ v1, CallR P true f cargs [] v1 [] ∧ flat v1 = true ∧ VR false [] v v1) (hv : flat v = true) : CallR P false f args σ v σ := by
  intro B μ w cargs hr hargs
  have hget : ∀ i a, args[i]? = some a → flat a = true := fun i a ha => (List.all_eq_true.1 hfl) a (List.mem_of_getElem? ha)
  have h0 : VRs false [] args cargs.toList := ⟨hargs.1, fun i a ha => by
    obtain ⟨c, hc, hvr⟩ := hargs.2 i a ha
    exact ⟨c, hc, hvr.flat_ren (hget i a ha)⟩⟩
  obtain ⟨v1, hcall, hf1, hv1⟩ := h _ h0
  have hself : VRs true [] cargs.toList cargs.toList := ⟨rfl, fun i c hc => by
    refine ⟨c, hc, VR.flat_eq ?_⟩
    have hi : i < args.length := by rw [hargs.1]; exact lt_of_some hc
    obtain ⟨c', hc', hvr⟩ := h0.2 i args[i] (List.getElem?_eq_getElem hi)
    rw [hc] at hc'; cases hc'
    exact hvr.flat_fl (hget i _ (List.getElem?_eq_getElem hi))⟩
  refine (hcall (old w) [] w cargs (HR.none true w) hself).mono ?_
  rintro cv w' ⟨μ', q1, q2, q3, q4⟩
  rw [q1.flat_self hf1]
  exact ⟨μ, hv1.flat_ren hv, hr.below q4, Ext.refl _, ⟨q4.os, q4.tape, q4.output, q4.size, fun k hk => q4.block k (hr.hB k hk)⟩⟩

end Go.Lk
