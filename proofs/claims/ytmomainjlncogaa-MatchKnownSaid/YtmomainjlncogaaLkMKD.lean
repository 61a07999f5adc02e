/- Match with its errors: the contract. -/
import Derived.Test.YtmomainjlncogaaLkMKC
import Derived.Test.YtmomainjlncogaaLkK87
namespace Go.Lk
open Go.Proofs
set_option maxRecDepth 100000
set_option maxHeartbeats 0
set_option linter.unusedVariables false
set_option linter.unusedSimpArgs false
def rowCo (σ : AHeap) (b m : Nat) : Option (List Value) := match σ[b]? with | some (.row vs _ _) => bif vs.all isCo && Nat.ble m vs.length then some vs else none | _ => none
theorem rowCo_spec {σ : AHeap} {b m : Nat} {vs : List Value} (h : rowCo σ b m = some vs) : ∃ rw' opn, σ[b]? = some (.row vs rw' opn) ∧ vs.all isCo = true ∧ m ≤ vs.length := by
  unfold rowCo at h
  split at h
  · rename_i vs' rw' opn hb
    cases hc : (vs'.all isCo && Nat.ble m vs'.length)
    · rw [hc] at h; cases h
    · rw [hc] at h; cases h
      simp only [Bool.and_eq_true] at hc
      exact ⟨rw', opn, hb, hc.1, Nat.le_of_ble_eq_true hc.2⟩
  · cases h
def sMatchK : HeapFn := fun args σ =>
  match args with
  | [.slice (some ⟨b, 0, some 1⟩) n cap, .slice none 0 0] => (match rowCo σ b 0 with | some _ => some (.tuple #[.slice none 0 0, .int .i64 2], σ) | none => none)
  | [.slice none 0 0, .slice (some ⟨b, 0, some 1⟩) 1 cap2] => (match rowCo σ b 1 with | some _ => some (.tuple #[.slice (some ⟨σ.length, 0, some 1⟩) 0 0, .int .i64 0], σ ++ [.row [] true none]) | none => none)
  | [.slice (some ⟨b, 0, some 1⟩) n cap, .slice (some ⟨b2, 0, some 1⟩) m cap2] =>
    bif Nat.beq n 16385 && Nat.beq m 1 then (match rowCo σ b 0 with | some _ => (match rowCo σ b2 0 with | some _ => some (.tuple #[.slice none 0 0, .int .i64 3], σ) | none => none) | none => none) else sMatch args σ
  | _ => none
theorem mk_nil (opn2 : Option Nat) (c d : Nat → Nat) (N cap2 : Nat) (hN : 1 ≤ N) : CallR Try.prog false 88 [.slice none 0 0, .slice (some ⟨0, 0, some 1⟩) 1 cap2] [.row (rowOf (fun i => [.complex .f64 (c i) (d i)]) N) false opn2]
    (.tuple #[.slice (some ⟨1, 0, some 1⟩) 0 0, .int .i64 0]) [.row (rowOf (fun i => [.complex .f64 (c i) (d i)]) N) false opn2, .row [] true none, .row (rowOf (fun i => [.complex .f64 (c i) (fneg (d i))]) 1) true none] :=
  mkC_p0 opn2 c d N cap2 hN (fun _ => (mk_reg opn2 c d N cap2 hN).cast (by kernel_rfl) rfl (by kernel_rfl) rfl)
theorem sMatchK_run {args : List Value} {σ σ' : AHeap} {v : Value} (h : sMatchK args σ = some (v, σ')) : CallR Try.prog false 88 args σ v σ' ∧ σ.length ≤ σ'.length := by
  unfold sMatchK at h
  split at h
  · rename_i b n cap
    split at h
    · rename_i vs hb
      cases h
      obtain ⟨rw', opn, hb, c1, _⟩ := rowCo_spec hb
      have hs := mkA_p0 opn (reC vs) (imC vs) vs.length n cap
      rw [coRow c1] at hs
      refine ⟨CallR.frameQ (r := fun k => if k = 0 then b else k + σ.length) (args0 := [.slice (some ⟨0, 0, some 1⟩) n cap, .slice none 0 0]) ⟨fun k o' hk => ?_, fun k hk => ?_⟩ rfl hs rfl, Nat.le_refl _⟩
      · have : k = 0 := by have := lt_of_some hk; simpa using this
        subst this
        simp only [List.getElem?_cons_zero, Option.some.injEq] at hk
        exact ⟨vs, opn, rw', hk.symm, hb, isCo_plain c1⟩
      · have hk : 1 ≤ k := hk
        have : ¬ k = 0 := by omega
        simp only [this, if_false]; omega
    · cases h
  · rename_i b cap2
    split at h
    · rename_i vs hb
      cases h
      obtain ⟨rw', opn, hb, c1, c2⟩ := rowCo_spec hb
      have hs := mk_nil opn (reC vs) (imC vs) vs.length cap2 c2
      rw [coRow c1] at hs
      refine ⟨CallR.frameN (r := fun k => if k = 0 then b else k + σ.length) (q := fun k => if k = σ.length then 1 else k + 3) (args0 := [.slice none 0 0, .slice (some ⟨0, 0, some 1⟩) 1 cap2]) (σ0 := [.row vs false opn]) ⟨fun k o hk => ?_, fun k hk => ?_⟩ rfl hs (k := 1) rfl rfl (fun _ => rfl) (by simp [renV]), by simp⟩
      · have : k = 0 := by have := lt_of_some hk; simpa using this
        subst this
        simp only [List.getElem?_cons_zero, Option.some.injEq] at hk
        exact ⟨vs, opn, rw', hk.symm, hb, isCo_plain c1⟩
      · have hk : 1 ≤ k := hk
        have : ¬ k = 0 := by omega
        simp only [this, if_false]; omega
    · cases h
  · rename_i b n cap b2 m cap2
    cases hc : (Nat.beq n 16385 && Nat.beq m 1)
    · rw [hc] at h
      have h : sMatch [.slice (some ⟨b, 0, some 1⟩) n cap, .slice (some ⟨b2, 0, some 1⟩) m cap2] σ = some (v, σ') := h
      exact ⟨sMatch_ok.1 _ _ _ _ h, sMatch_ok.3 _ _ _ _ h⟩
    · rw [hc] at h
      simp only [Bool.and_eq_true] at hc
      obtain rfl := Nat.eq_of_beq_eq_true hc.1
      obtain rfl := Nat.eq_of_beq_eq_true hc.2
      simp only [cond_true] at h
      split at h
      · rename_i vs hb
        split at h
        · rename_i us hb2
          cases h
          obtain ⟨rw', opn, hb, c1, _⟩ := rowCo_spec hb
          obtain ⟨rw2, opn2, hb2, c2, _⟩ := rowCo_spec hb2
          have hs := mkB_p0 opn (reC vs) (imC vs) vs.length opn2 (reC us) (imC us) us.length cap cap2
          rw [coRow c1, coRow c2] at hs
          refine ⟨CallR.frameQ (r := fun k => if k = 0 then b else if k = 1 then b2 else k + σ.length) (args0 := [.slice (some ⟨0, 0, some 1⟩) 16385 cap, .slice (some ⟨1, 0, some 1⟩) 1 cap2]) ⟨fun k o' hk => ?_, fun k hk => ?_⟩ rfl hs rfl, Nat.le_refl _⟩
          · have hlt := lt_of_some hk
            have : k = 0 ∨ k = 1 := by simp at hlt; omega
            rcases this with rfl | rfl
            · simp only [List.getElem?_cons_zero, Option.some.injEq] at hk
              exact ⟨vs, opn, rw', hk.symm, hb, isCo_plain c1⟩
            · simp only [List.getElem?_cons_succ, List.getElem?_cons_zero, Option.some.injEq] at hk
              exact ⟨us, opn2, rw2, hk.symm, hb2, isCo_plain c2⟩
          · have hk : 2 ≤ k := hk
            have h0 : ¬ k = 0 := by omega
            have h1 : ¬ k = 1 := by omega
            simp only [h0, h1, if_false]; omega
        · cases h
      · cases h
  · cases h
theorem sMatchK_ok : IsHeap Try.prog false 88 false sMatchK := ⟨fun _ _ _ _ h => (sMatchK_run h).1, (by intro h; cases h), fun _ _ _ _ h => (sMatchK_run h).2⟩
noncomputable def tmk : Tab := ((tmt.addH 158 false sAt).addP 87 sWks06).addH 88 false sMatchK
theorem tmk_ok : tmk.Ok Try.prog false := Tab.Ok.addH (Tab.Ok.addP (Tab.Ok.addH tmt_ok ⟨sAt_ok.1, (by intro h; cases h), sAt_ok.3⟩) sWks06_ok) sMatchK_ok
end Go.Lk
