/- Answers: a row of numbers, or an error. -/
import Derived.Test.YtmomainjlncogaaLkJR
namespace Go.Lk
open Go.Proofs
set_option maxRecDepth 100000
set_option linter.unusedVariables false
set_option linter.unusedSimpArgs false
/-- n numbers; none: an error. -/
structure An where
  n : Nat
  a : Nat → Nat
  b : Nat → Nat
  e : Int
def anErr (e : Int) : An := ⟨0, fun _ => 0, fun _ => 0, e⟩
def aSl (L n z : Nat) : Value := match n with | 0 => .slice none 0 0 | n + 1 => .slice (some ⟨L, 0, some z⟩) (n + 1) (n + 1)
def aVal (L z : Nat) (x : An) : Value := .tuple #[aSl L x.n z, .int .i64 x.e]
def aObj (z : Nat) (row : (Nat → Nat) → (Nat → Nat) → Nat → List Value) (x : An) : AObj := match x.n with | 0 => .dead | n + 1 => .row (row x.a x.b (n + 1)) true (some z)
def sAn (z : Nat) (row : (Nat → Nat) → (Nat → Nat) → Nat → List Value) (h : List Value → Option An) : HeapFn := fun args σ => match h args with | some x => some (aVal σ.length z x, σ ++ [aObj z row x]) | none => none

theorem CallR.addDead {P : Program} {ex : Bool} {f : FuncId} {args : List Value} {σ σ' : AHeap} {v : Value} (hv : plain v = true) (h : CallR P ex f args σ v σ') : CallR P ex f args σ v (σ' ++ [.dead]) := by
  intro B μ w cargs hr hargs
  refine (h B μ w cargs hr hargs).mono ?_
  rintro cv w' ⟨μ', q1, q2, q3, q4⟩
  have := q2.dead 1
  simp only [List.replicate_one] at this
  exact ⟨μ' ++ [none], q1.plain_ren hv, this, q3.trans (Ext.snoc _ _), q4⟩

theorem CallR.quiet0 {P : Program} {ex : Bool} {f : FuncId} {args : List Value} {σ σ0' : AHeap} {v : Value} (ha : args.all plain = true) (h : CallR P ex f args [] v σ0') (hv : plain v = true) : CallR P ex f args σ v σ := by
  refine CallR.frameQ (r := fun k => k + σ.length) (args0 := args) (σ0 := []) ⟨fun k o hk => by simp at hk, fun k hk => by omega⟩ ?_ h hv
  have : ∀ l : List Value, l.all plain = true → l.map (renV (fun k => k + σ.length) 3) = l := by
    intro l
    induction l with
    | nil => intro _; rfl
    | cons v l ih =>
      intro hl
      rw [List.all_cons, Bool.and_eq_true] at hl
      rw [List.map_cons, plain_inert hl.1, ih hl.2]
  exact this args ha

/-- What a walk over an empty heap shows: an error, or a row somewhere in the heap behind it. -/
def AnCall (f : FuncId) (args : List Value) (z : Nat) (row : (Nat → Nat) → (Nat → Nat) → Nat → List Value) (x : An) : Prop :=
  (x.n = 0 ∧ ∃ σ', CallR Try.prog false f args [] (aVal 0 z x) σ') ∨
  (0 < x.n ∧ ∃ σ' k o, CallR Try.prog false f args [] (aVal k z x) σ' ∧ σ'[k]? = some (.row (row x.a x.b x.n) true o) ∧ (o = none ∨ o = some z))

theorem sAn_is {f : FuncId} {z : Nat} {row : (Nat → Nat) → (Nat → Nat) → Nat → List Value} {h : List Value → Option An} (hp : ∀ a b n, (row a b n).all plain = true)
    (hc : ∀ args x, h args = some x → args.all plain = true ∧ AnCall f args z row x) : IsHeap Try.prog false f false (sAn z row h) := by
  refine ⟨fun args σ v σ' hs => ?_, (by intro h; cases h), fun args σ v σ' hs => ?_⟩
  · unfold sAn at hs
    split at hs
    · rename_i x hx
      cases hs
      obtain ⟨ha, hc⟩ := hc args x hx
      rcases hc with ⟨h0, σ1, hc⟩ | ⟨h0, σ1, k, o, hc, hk, ho⟩
      · have e1 : aVal σ.length z x = aVal 0 z x := by unfold aVal; rw [h0]; rfl
        have e2 : aObj z row x = .dead := by unfold aObj; rw [h0]
        rw [e1, e2]
        have hv : plain (aVal 0 z x) = true := by unfold aVal; rw [h0]; rfl
        exact (CallR.quiet0 ha hc hv).addDead hv
      · obtain ⟨n, hn⟩ : ∃ n, x.n = n + 1 := ⟨x.n - 1, by omega⟩
        have e2 : aObj z row x = .row (row x.a x.b x.n) true (some z) := by unfold aObj; rw [hn]
        rw [e2]
        have hN : CallR Try.prog false f args σ (aVal σ.length z x) (σ ++ [.row (row x.a x.b x.n) true o]) := by
          refine CallR.frameN (r := fun k => k + σ.length) (q := fun b => if b = σ.length then k else b + σ1.length) (args0 := args) (σ0 := []) ⟨fun k o hk => by simp at hk, fun k hk => by omega⟩ ?_ hc hk (hp _ _ _) (fun _ => rfl) ?_
          · have : ∀ l : List Value, l.all plain = true → l.map (renV (fun k => k + σ.length) 3) = l := by
              intro l
              induction l with
              | nil => intro _; rfl
              | cons v l ih =>
                intro hl
                rw [List.all_cons, Bool.and_eq_true] at hl
                rw [List.map_cons, plain_inert hl.1, ih hl.2]
            exact this args ha
          · unfold aVal
            rw [hn]
            simp [aSl, renV]
        rcases ho with rfl | rfl
        · exact hN.loosen z (hp _ _ _)
        · exact hN
    · cases hs
  · unfold sAn at hs
    split at hs
    · cases hs; simp
    · cases hs
def aAd (L n z : Nat) : Option Addr := match n with | 0 => none | _ + 1 => some ⟨L, 0, some z⟩
theorem aSl_eq (L n z : Nat) : aSl L n z = .slice (aAd L n z) n n := by cases n <;> rfl
theorem AnCall.inner {f : FuncId} {args : List Value} {z k : Nat} {row : (Nat → Nat) → (Nat → Nat) → Nat → List Value} {x : An} {σ' : AHeap} (h : CallR Try.prog false f args [] (aVal k z x) σ') (hk : σ'[k]? = some (aObj z row x)) : AnCall f args z row x := by
  obtain ⟨n, a, b, e⟩ := x
  cases n with
  | zero => exact .inl ⟨rfl, σ', h⟩
  | succ n => exact .inr ⟨Nat.succ_pos n, σ', k, some z, h, hk, .inr rfl⟩
theorem aVal_eq (k z : Nat) (x : An) : aVal k z x = .tuple #[.slice (aAd k x.n z) x.n x.n, .int .i64 x.e] := by unfold aVal; rw [aSl_eq]
theorem sAn_side {z : Nat} {row : (Nat → Nat) → (Nat → Nat) → Nat → List Value} {h : List Value → Option An} {args : List Value} {x : An} (hx : h args = some x) (σ : AHeap) :
    sAn z row h args σ = some (.tuple #[.slice (aAd σ.length x.n z) x.n x.n, .int .i64 x.e], σ ++ [aObj z row x]) := by
  unfold sAn
  rw [hx]
  simp only [aVal_eq]
theorem AnCall.in' {f : FuncId} {args : List Value} {z k : Nat} {row : (Nat → Nat) → (Nat → Nat) → Nat → List Value} {x : An} {σ' : AHeap} (h : CallR Try.prog false f args [] (.tuple #[.slice (aAd k x.n z) x.n x.n, .int .i64 x.e]) σ') (hk : σ'[k]? = some (aObj z row x)) : AnCall f args z row x :=
  AnCall.inner (by rw [aVal_eq]; exact h) hk
theorem aObj_plain {z : Nat} {row : (Nat → Nat) → (Nat → Nat) → Nat → List Value} (hp : ∀ a b n, (row a b n).all plain = true) (x : An) : plainO (aObj z row x) := by
  obtain ⟨n, a, b, e⟩ := x
  cases n with
  | zero => trivial
  | succ n => exact hp _ _ _
theorem xRow_plain (a b : Nat → Nat) (n : Nat) : (xRow a b n).all plain = true := rowOf_all (fun _ => rfl) _
theorem pRow_plain (a b : Nat → Nat) (n : Nat) : (pRow a b n).all plain = true := rowOf_all (fun _ => rfl) _
end Go.Lk
