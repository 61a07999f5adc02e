/- PulsePeak: reckoned, Own by its rows. -/
import Derived.Test.YtmomainjlncogaaLkNU
namespace Go.Lk
open Go.Proofs
set_option maxRecDepth 100000
set_option linter.unusedVariables false
set_option linter.unusedSimpArgs false
def reW (vs : List Value) (i : Nat) : Nat := match vs[i]? with | some (.complex .f64 a _) => a | _ => 0
def imW (vs : List Value) (i : Nat) : Nat := match vs[i]? with | some (.complex .f64 _ b) => b | _ => 1
/-- Is one list the other one? -/
def sameC : List Value → List Value → Bool
  | [], [] => true
  | .complex .f64 a b :: xs, .complex .f64 c d :: ys => Nat.beq a c && (Nat.beq b d && sameC xs ys)
  | _, _ => false
theorem sameC_eq : ∀ {xs ys : List Value}, sameC xs ys = true → xs = ys
  | [], [], _ => rfl
  | [], y :: ys, h => by simp [sameC] at h
  | x :: xs, [], h => by cases x <;> simp [sameC] at h
  | x :: xs, y :: ys, h => by
    unfold sameC at h
    split at h
    · rename_i e1 e2; cases e1
    · rename_i a b xs' c d ys' e1 e2
      cases e1; cases e2
      simp only [Bool.and_eq_true] at h
      rw [Nat.eq_of_beq_eq_true h.1, Nat.eq_of_beq_eq_true h.2.1, sameC_eq h.2.2]
    · cases h
def ownOf (vs : List Value) : Option (List Value) :=
  bif sameC vs ob2 then some oo2 else bif sameC vs ob3 then some oo3 else bif sameC vs ob4 then some oo4 else bif sameC vs ob5 then some oo5 else bif sameC vs ob7 then some oo7 else bif sameC vs ob11 then some oo11 else bif sameC vs ob13 then some oo13 else none
def sOwn : HeapFn
  | [.slice (some ⟨b, 0, some 1⟩) n n'], σ =>
    match σ[b]? with
    | some (.row vs _ (some 1)) => bif Nat.beq n vs.length && Nat.beq n' n then (match ownOf vs with | some o => some (.slice (some ⟨σ.length, 0, some 1⟩) o.length o.length, σ ++ [.row o true none]) | none => none) else none
    | _ => none
  | _, _ => none
theorem own_call (n : Nat) (ob oo : List Value) (h : ((DFn (LOw.cfg 100 6) 100 Try.f68 [.slice (some ⟨0, 0, some 1⟩) n n] [.row ob false (some 1)]).map fun y => (y.1, y.2[1]?)) = some (.slice (some ⟨1, 0, some 1⟩) (2 * n - 1) (2 * n - 1), some (.row oo true none)))
    (hp : ob.all plain = true) (hq : oo.all plain = true) {b : Nat} {σ : AHeap} {rw' : Bool} (hb : σ[b]? = some (.row ob rw' (some 1))) :
    CallR Try.prog false 68 [.slice (some ⟨b, 0, some 1⟩) n n] σ (.slice (some ⟨σ.length, 0, some 1⟩) (2 * n - 1) (2 * n - 1)) (σ ++ [.row oo true none]) := by
  cases hd : DFn (LOw.cfg 100 6) 100 Try.f68 [.slice (some ⟨0, 0, some 1⟩) n n] [.row ob false (some 1)] with
  | none => rw [hd] at h; cases h
  | some y =>
    obtain ⟨v, σ1⟩ := y
    rw [hd] at h
    simp only [Option.map_some, Option.some.injEq, Prod.mk.injEq] at h
    obtain ⟨rfl, h2⟩ := h
    have hc := CallR.of_DFn_at (LOw_ok.cfg 100 6) Try.func68 own_ok (by kernel_rfl) hd
    refine CallR.frameN (r := fun k => if k = 0 then b else k + σ.length) (q := fun k => if k = σ.length then 1 else k + σ1.length) (args0 := [.slice (some ⟨0, 0, some 1⟩) n n]) (σ0 := [.row ob false (some 1)]) ⟨fun k o hk => ?_, fun k hk => ?_⟩ rfl hc (k := 1) h2 hq (fun _ => rfl) (by simp [renV])
    · have : k = 0 := by have := lt_of_some hk; simpa using this
      subst this
      simp only [List.getElem?_cons_zero, Option.some.injEq] at hk
      exact ⟨ob, some 1, rw', hk.symm, hb, hp⟩
    · have hk : 1 ≤ k := hk
      have : ¬ k = 0 := by omega
      simp only [this, if_false]; omega
theorem sOwn_ok : IsHeap Try.prog false 68 false sOwn := by
  refine ⟨fun args σ v σ' h => ?_, (by intro h; cases h), fun args σ v σ' h => ?_⟩
  · unfold sOwn at h
    split at h
    · rename_i b n n'
      split at h
      · rename_i vs rw' hb
        cases hn : (Nat.beq n vs.length && Nat.beq n' n)
        · rw [hn] at h; cases h
        · rw [hn] at h
          simp only [Bool.and_eq_true] at hn
          have e1 := Nat.eq_of_beq_eq_true hn.1
          have e2 := Nat.eq_of_beq_eq_true hn.2
          subst e2
          simp only [cond_true] at h
          unfold ownOf at h
          cases hs2 : sameC vs ob2
          case true =>
            have ev := sameC_eq hs2
            subst ev
            subst e1
            rw [hs2] at h
            cases h
            exact own_call 2 ob2 oo2 own2_run rfl rfl hb
          rw [hs2] at h
          simp only [cond_false] at h
          cases hs3 : sameC vs ob3
          case true =>
            have ev := sameC_eq hs3
            subst ev
            subst e1
            rw [hs3] at h
            cases h
            exact own_call 3 ob3 oo3 own3_run rfl rfl hb
          rw [hs3] at h
          simp only [cond_false] at h
          cases hs4 : sameC vs ob4
          case true =>
            have ev := sameC_eq hs4
            subst ev
            subst e1
            rw [hs4] at h
            cases h
            exact own_call 4 ob4 oo4 own4_run rfl rfl hb
          rw [hs4] at h
          simp only [cond_false] at h
          cases hs5 : sameC vs ob5
          case true =>
            have ev := sameC_eq hs5
            subst ev
            subst e1
            rw [hs5] at h
            cases h
            exact own_call 5 ob5 oo5 own5_run rfl rfl hb
          rw [hs5] at h
          simp only [cond_false] at h
          cases hs7 : sameC vs ob7
          case true =>
            have ev := sameC_eq hs7
            subst ev
            subst e1
            rw [hs7] at h
            cases h
            exact own_call 7 ob7 oo7 own7_run rfl rfl hb
          rw [hs7] at h
          simp only [cond_false] at h
          cases hs11 : sameC vs ob11
          case true =>
            have ev := sameC_eq hs11
            subst ev
            subst e1
            rw [hs11] at h
            cases h
            exact own_call 11 ob11 oo11 own11_run rfl rfl hb
          rw [hs11] at h
          simp only [cond_false] at h
          cases hs13 : sameC vs ob13
          case true =>
            have ev := sameC_eq hs13
            subst ev
            subst e1
            rw [hs13] at h
            cases h
            exact own_call 13 ob13 oo13 own13_run rfl rfl hb
          rw [hs13] at h
          simp only [cond_false] at h
          cases h
      · cases h
    · cases h
  · unfold sOwn at h
    split at h
    · split at h
      · rename_i vs _ _
        generalize (Nat.beq _ vs.length && _) = c at h
        cases c
        · cases h
        · simp only [cond_true] at h
          split at h
          · cases h; simp
          · cases h
      · cases h
    · cases h
noncomputable def tow : Tab := (t1.addH 68 false sOwn).addP 64 sWakes
theorem tow_ok : tow.Ok Try.prog false := Tab.Ok.addP (Tab.Ok.addH t1_ok sOwn_ok) sWakes_ok
end Go.Lk
