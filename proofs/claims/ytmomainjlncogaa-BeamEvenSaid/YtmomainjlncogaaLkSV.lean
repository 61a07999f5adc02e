/- Steer, by itself: its contract. -/
import Derived.Test.YtmomainjlncogaaLkST
import Derived.Test.YtmomainjlncogaaLkK112
namespace Go.Lk
open Go.Proofs
set_option maxRecDepth 100000
set_option maxHeartbeats 0
set_option linter.unusedVariables false
set_option linter.unusedSimpArgs false
def chNil (c : Int) : Value := .tuple #[.slice none 0 0, .int .i64 c]
def chOk (L n z : Nat) : Value := .tuple #[.slice (some ⟨L, 0, some z⟩) n n, .int .i64 0]
def sCh3 (fin : Nat → Nat → Bool) (z : Nat) (opn : Option Nat) (row : Nat → Nat → Nat → List Value) : HeapFn
  | [.int .i64 n, .float .f64 d, .float .f64 s], σ =>
    bif decide (n < 1) then some (chNil 2, σ) else bif decide (n > 64) then some (chNil 3, σ) else
      bif fin d s then some (chOk σ.length n.toNat z, σ ++ [.row (row n.toNat d s) true opn]) else some (chNil 6, σ)
  | _, _ => none
theorem sCh3_is {f : Nat} {fin : Nat → Nat → Bool} {z : Nat} {opn : Option Nat} {row : Nat → Nat → Nat → List Value} (hp : ∀ n d s, (row n d s).all plain = true)
    (hE : ∀ (n : Int) (d s : Nat), decide (n < 1) = true → CallR Try.prog false f [.int .i64 n, .float .f64 d, .float .f64 s] [] (chNil 2) [])
    (hF : ∀ (n : Int) (d s : Nat), decide (n < 1) = false → decide (n > 64) = true → CallR Try.prog false f [.int .i64 n, .float .f64 d, .float .f64 s] [] (chNil 3) [])
    (hG : ∀ (n : Int) (d s : Nat), decide (n < 1) = false → decide (n > 64) = false → fin d s = false → ∃ σ', CallR Try.prog false f [.int .i64 n, .float .f64 d, .float .f64 s] [] (chNil 6) σ')
    (hC : ∀ (n d s : Nat), 0 < n → n ≤ 64 → fin d s = true → ∃ L σ1, σ1[L]? = some (.row (row n d s) true opn) ∧ CallR Try.prog false f [.int .i64 (iN n), .float .f64 d, .float .f64 s] [] (chOk L n z) σ1) : IsHeap Try.prog false f false (sCh3 fin z opn row) := by
  have hnil : ∀ {n : Int} {d s : Nat} {c : Int} {σ σ1 : AHeap}, CallR Try.prog false f [.int .i64 n, .float .f64 d, .float .f64 s] [] (chNil c) σ1 → CallR Try.prog false f [.int .i64 n, .float .f64 d, .float .f64 s] σ (chNil c) σ := by
    intro n d s c σ σ1 h
    exact CallR.frameQ (r := fun k => k + σ.length) (args0 := [.int .i64 n, .float .f64 d, .float .f64 s]) (σ0 := []) ⟨fun k o hk => by simp at hk, fun k hk => by omega⟩ rfl h rfl
  refine ⟨fun args σ v σ' h => ?_, (by intro h; cases h), fun args σ v σ' h => ?_⟩
  · unfold sCh3 at h
    split at h
    · rename_i n d s
      cases h1 : decide (n < 1)
      · rw [h1] at h
        cases h2 : decide (n > 64)
        · rw [h2] at h
          cases h3 : fin d s
          · rw [h3] at h
            simp only [cond_false, Option.some.injEq, Prod.mk.injEq] at h
            obtain ⟨rfl, rfl⟩ := h
            obtain ⟨σ1, hg⟩ := hG n d s h1 h2 h3
            exact hnil hg
          · rw [h3] at h
            simp only [cond_false, cond_true, Option.some.injEq, Prod.mk.injEq] at h
            obtain ⟨rfl, rfl⟩ := h
            have g1 := of_decide_eq_false h1
            have g2 := of_decide_eq_false h2
            obtain ⟨L, σ1, hL, hc⟩ := hC n.toNat d s (by omega) (by omega) h3
            have e : iN n.toNat = n := by rw [iN_eq]; omega
            rw [e] at hc
            exact CallR.frameN (r := fun k => k + σ.length) (q := fun k => if k = σ.length then L else k + σ1.length) (args0 := [.int .i64 n, .float .f64 d, .float .f64 s]) (σ0 := []) ⟨fun k o hk => by simp at hk, fun k hk => by omega⟩ rfl hc (k := L) hL (hp _ _ _) (fun _ => rfl) (by simp [chOk, renV])
        · rw [h2] at h
          simp only [cond_false, cond_true, Option.some.injEq, Prod.mk.injEq] at h
          obtain ⟨rfl, rfl⟩ := h
          exact hnil (hF n d s h1 h2)
      · rw [h1] at h
        simp only [cond_true, Option.some.injEq, Prod.mk.injEq] at h
        obtain ⟨rfl, rfl⟩ := h
        exact hnil (hE n d s h1)
    · cases h
  · unfold sCh3 at h
    split at h
    · rename_i n d s
      revert h
      cases decide (n < 1) <;> cases decide (n > 64) <;> cases fin d s <;> simp only [cond_false, cond_true, Option.some.injEq, Prod.mk.injEq] <;> rintro ⟨_, rfl⟩ <;> simp
    · cases h
def wSt (n d s : Nat) : List Value := (rowOf (fun i => [.complex .f64 (wTurn_0 (stX (cStep_0 d s) i)) (wTurn_1 (stX (cStep_0 d s) i))]) n)
def stFin (d s : Nat) : Bool := feq (fsub d d) 0 && feq (fsub s s) 0
theorem two_fin (d s : Nat) : sFinN [.slice (some ⟨0, 0, some 1⟩) 2 2] [.row [.float .f64 d, .float .f64 s] true none] = some (.bool (stFin d s), [.row [.float .f64 d, .float .f64 s] true none]) := by
  have h := sFinN_row (b := 0) (m := 2) (cap := 2) (M := 2) (x := fun i => if i = 0 then d else s) (rw' := true) (opn := none) (σ := [.row [.float .f64 d, .float .f64 s] true none]) rfl (Nat.le_refl 2) (by decide)
  rw [h]
  have e : (!nBad (fun i => if i = 0 then d else s) 2) = stFin d s := by
    unfold nBad nIdx nIdx nIdx stFin cNf_0
    rw [if_pos rfl, if_neg (by decide : ¬ (1 = 0))]
    cases feq (fsub d d) 0 <;> cases feq (fsub s s) 0 <;> rfl
  rw [e]
theorem st_call (n d s : Nat) (h1 : 0 < n) (h2 : n ≤ 64) (h3 : stFin d s = true) : ∃ L σ1, σ1[L]? = some (.row (wSt n d s) true none) ∧ CallR Try.prog false 111 [.int .i64 (iN n), .float .f64 d, .float .f64 s] [] (chOk L n 1) σ1 :=
  ⟨1, _, rfl, cSt_p0 n d s (decide_eq_false (by rw [iN_eq, Int.ofNat_eq_natCast]; omega)) (decide_eq_false (by rw [iN_eq, Int.ofNat_eq_natCast]; omega)) (fun hst => by
    have h := st_loop n d s (cStep_0 d s) h2 hst
    unfold stHp at h
    rw [half2_zero, half2_full] at h
    exact h.enter ([true, true, true, false, false, false, true, true, true, true] ++ List.replicate 19 false ++ [true, true] ++ List.replicate 12 false) (by kernel_rfl)) (by rw [two_fin, h3])⟩
def sSteer : HeapFn := sCh3 stFin 1 none wSt
theorem sSteer_ok : IsHeap Try.prog false 111 false sSteer := sCh3_is (fun n d s => rowOf_all (fun _ => rfl) _) cStE_p0 cStF_p0 (fun n d s h1 h2 h3 => ⟨_, cStG_p0 n d s h1 h2 (by rw [two_fin, h3])⟩) st_call
noncomputable def tsv : Tab := (n4.addH 111 false sSteer).addP 112 sWakes22
theorem tsv_ok : tsv.Ok Try.prog false := Tab.Ok.addP (Tab.Ok.addH n4_ok sSteer_ok) sWakes22_ok
end Go.Lk
