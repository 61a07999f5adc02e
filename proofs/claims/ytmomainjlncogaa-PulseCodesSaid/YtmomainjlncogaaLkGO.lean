/- Chirp's contracts; told's. -/
import Derived.Test.YtmomainjlncogaaLkGN
import Derived.Test.YtmomainjlncogaaLkK64
namespace Go.Lk
open Go.Proofs
set_option maxRecDepth 100000
set_option maxHeartbeats 0
set_option linter.unusedVariables false
set_option linter.unusedSimpArgs false
theorem CallR.drop {P : Program} {ex : Bool} {f : FuncId} {args : List Value} {σ σ' : AHeap} {v : Value} (h : CallR P ex f args σ v σ') (hv : plain v = true) : CallR P ex f args σ v (σ.map fun _ => .dead) := by
  intro B μ w cargs hr hargs
  refine (h B μ w cargs hr hargs).mono ?_
  rintro cv w' ⟨μ', q1, q2, q3, q4⟩
  have hd : ∀ (b : Nat) (o : AObj), (σ.map fun _ => AObj.dead)[b]? = some o → o = .dead := by
    intro b o hb
    rw [List.getElem?_map] at hb
    cases hx : σ[b]? with
    | none => rw [hx] at hb; cases hb
    | some y => rw [hx] at hb; cases hb; rfl
  refine ⟨μ, q1.plain_ren hv, ⟨by rw [List.length_map]; exact hr.len, fun k hk => Nat.lt_of_lt_of_le (hr.hB k hk) q4.size, fun b o hb hl => ?_, fun b o e hb _ => ?_, fun b b' o o' e e' hb _ _ _ ho => ?_⟩, Ext.refl _, q4⟩
  · rw [hd b o hb] at hl; cases hl
  · rw [hd b o hb]; trivial
  · rw [hd b o hb] at ho; cases ho
def chNil (c : Int) : Value := .tuple #[.slice none 0 0, .int .i64 c]
def chOk (L n z : Nat) : Value := .tuple #[.slice (some ⟨L, 0, some z⟩) n n, .int .i64 0]
def sCh (fin : Nat → Bool) (z : Nat) (opn : Option Nat) (row : Nat → Nat → List Value) : HeapFn
  | [.int .i64 n, .float .f64 v], σ =>
    bif decide (n < 1) then some (chNil 2, σ) else bif decide (n > 16384) then some (chNil 3, σ) else
      bif fin v then some (chOk σ.length n.toNat z, σ ++ [.row (row n.toNat v) true opn]) else some (chNil 6, σ)
  | _, _ => none
theorem sCh_is {f : Nat} {fin : Nat → Bool} {z : Nat} {opn : Option Nat} {row : Nat → Nat → List Value} (hp : ∀ n v, (row n v).all plain = true)
    (hE : ∀ (n : Int) (v : Nat), decide (n < 1) = true → CallR Try.prog false f [.int .i64 n, .float .f64 v] [] (chNil 2) [])
    (hF : ∀ (n : Int) (v : Nat), decide (n < 1) = false → decide (n > 16384) = true → CallR Try.prog false f [.int .i64 n, .float .f64 v] [] (chNil 3) [])
    (hG : ∀ (n : Int) (v : Nat), decide (n < 1) = false → decide (n > 16384) = false → fin v = false → CallR Try.prog false f [.int .i64 n, .float .f64 v] [] (chNil 6) [])
    (hC : ∀ (n v : Nat), 0 < n → n ≤ 16384 → fin v = true → CallR Try.prog false f [.int .i64 (iN n), .float .f64 v] [] (chOk 0 n z) [.row (row n v) true opn]) : IsHeap Try.prog false f false (sCh fin z opn row) := by
  have hnil : ∀ {n : Int} {v : Nat} {c : Int} {σ : AHeap}, CallR Try.prog false f [.int .i64 n, .float .f64 v] [] (chNil c) [] → CallR Try.prog false f [.int .i64 n, .float .f64 v] σ (chNil c) σ := by
    intro n v c σ h
    exact CallR.frameQ (r := fun k => k + σ.length) (args0 := [.int .i64 n, .float .f64 v]) (σ0 := []) ⟨fun k o hk => by simp at hk, fun k hk => by omega⟩ rfl h rfl
  refine ⟨fun args σ v σ' h => ?_, (by intro h; cases h), fun args σ v σ' h => ?_⟩
  · unfold sCh at h
    split at h
    · rename_i n v
      cases h1 : decide (n < 1)
      · rw [h1] at h
        cases h2 : decide (n > 16384)
        · rw [h2] at h
          cases h3 : fin v
          · rw [h3] at h
            simp only [cond_false, Option.some.injEq, Prod.mk.injEq] at h
            obtain ⟨rfl, rfl⟩ := h
            exact hnil (hG n v h1 h2 h3)
          · rw [h3] at h
            simp only [cond_false, cond_true, Option.some.injEq, Prod.mk.injEq] at h
            obtain ⟨rfl, rfl⟩ := h
            have g1 := of_decide_eq_false h1
            have g2 := of_decide_eq_false h2
            have hc := hC n.toNat v (by omega) (by omega) h3
            have e : iN n.toNat = n := by rw [iN_eq]; omega
            rw [e] at hc
            exact CallR.frameN (r := fun k => k + σ.length) (q := fun k => if k = σ.length then 0 else k + 1) (args0 := [.int .i64 n, .float .f64 v]) (σ0 := []) ⟨fun k o hk => by simp at hk, fun k hk => by omega⟩ rfl hc (k := 0) rfl (hp _ _) (fun _ => rfl) (by simp [chOk, renV])
        · rw [h2] at h
          simp only [cond_false, cond_true, Option.some.injEq, Prod.mk.injEq] at h
          obtain ⟨rfl, rfl⟩ := h
          exact hnil (hF n v h1 h2)
      · rw [h1] at h
        simp only [cond_true, Option.some.injEq, Prod.mk.injEq] at h
        obtain ⟨rfl, rfl⟩ := h
        exact hnil (hE n v h1)
    · cases h
  · unfold sCh at h
    split at h
    · rename_i n v
      revert h
      cases decide (n < 1) <;> cases decide (n > 16384) <;> cases fin v <;> simp only [cond_false, cond_true, Option.some.injEq, Prod.mk.injEq] <;> rintro ⟨_, rfl⟩ <;> simp
    · cases h
def wRow (n v : Nat) : List Value := rowOf (fun i => [.complex .f64 (wTurn_0 (chX n v i)) (wTurn_1 (chX n v i))]) n
def rRow (n v : Nat) : List Value := rowOf (fun i => [.float .f64 (wTurn_0 (chX n v i)), .float .f64 (wTurn_1 (chX n v i))]) n
theorem ch_call (n v : Nat) (h1 : 0 < n) (h2 : n ≤ 16384) (h3 : cFin_0 v = true) : CallR Try.prog false 66 [.int .i64 (iN n), .float .f64 v] [] (chOk 0 n 1) [.row (wRow n v) true none] :=
  cCh_p0 n v (decide_eq_false (by rw [iN_eq, Int.ofNat_eq_natCast]; omega)) (decide_eq_false (by rw [iN_eq, Int.ofNat_eq_natCast]; omega)) h3 (fun hst => by
    have h := ch_loop n v h2 hst
    unfold chHp at h
    rw [half2_zero, half2_full] at h
    exact h.enter [true, true, false, false, true, true, true, false, false, false, false, false, false, false, false, false, false, false, false, false, false, true, true, false, false, false, false, false, false, false, false, false, false, false, false, false, false, false, false, false, false] (by kernel_rfl))
theorem rc_call (n v : Nat) (h1 : 0 < n) (h2 : n ≤ 16384) (h3 : cRFin_0 v = true) : CallR Try.prog false 65 [.int .i64 (iN n), .float .f64 v] [] (chOk 0 n 2) [.row (rRow n v) true (some 2)] := by
  have e : rRow n v = rowOf (fun i => [.float .f64 (rTurn_0 (chX n v i)), .float .f64 (rTurn_1 (chX n v i))]) n := by
    unfold rRow
    refine rowOf_congr fun i _ => ?_
    rw [turn_re (x := chX n v i) (Canon.fmul _ _), turn_im (x := chX n v i) (Canon.fmul _ _)]
  rw [e]
  cases n with
  | zero => omega
  | succ n =>
    exact cRc_p0 (n + 1) v (decide_eq_false (by rw [iN_eq, Int.ofNat_eq_natCast]; omega)) (decide_eq_false (by rw [iN_eq, Int.ofNat_eq_natCast]; omega)) h3 (fun hst => (rc_loop n v h2 hst).enter [true, true, false, false, true, true, true, true, true, false, false, false, false, false, false, false, false, false, false, false, false, false, false, false, false, false, false, false, false, false, false, false, false, false, false, false, false, false, false, false, false, false, false] (by rw [h3]; kernel_rfl))
def sChirp : HeapFn := sCh cFin_0 1 none wRow
def sRChirp : HeapFn := sCh cRFin_0 2 (some 2) rRow
theorem sChirp_ok : IsHeap Try.prog false 66 false sChirp := sCh_is (fun n v => rowOf_all (fun _ => rfl) _) cChE_p0 cChF_p0 cChG_p0 ch_call
theorem sRChirp_ok : IsHeap Try.prog false 65 false sRChirp := sCh_is (fun n v => rowOf_all (fun _ => rfl) _) cRcE_p0 cRcF_p0 cRcG_p0 rc_call
end Go.Lk
