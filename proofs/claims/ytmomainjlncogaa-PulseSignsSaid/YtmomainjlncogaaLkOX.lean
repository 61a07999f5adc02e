/- Own, of any row: its contract. -/
import Derived.Test.YtmomainjlncogaaLkOW
namespace Go.Lk
open Go.Proofs
set_option maxRecDepth 100000
set_option maxHeartbeats 0
set_option linter.unusedVariables false
set_option linter.unusedSimpArgs false
def owD (n e : Nat) : Int := (e : Int) + 1 - (n : Int)
def owS (n e : Nat) : Nat := n - 1 - e
def owM (n e : Nat) : Nat := min (e + 1) (2 * n - 1 - e)
def owP (n : Nat) : Nat → Nat
  | 0 => 0
  | e + 1 => owM n e
def owZr (a b : Nat → Nat) (n : Nat) : Nat → Nat → Nat
  | 0, _ => 0
  | e + 1, i => bif Nat.blt i (owM n e) then owTr a b (owD n e) (owS n e + i) else owZr a b n e i
def owZi (a b : Nat → Nat) (n : Nat) : Nat → Nat → Nat
  | 0, _ => 0
  | e + 1, i => bif Nat.blt i (owM n e) then owTi a b (owD n e) (owS n e + i) else owZi a b n e i
def owU (a b : Nat → Nat) (n e : Nat) : Nat := sumC (fun i => owTr a b (owD n e) (owS n e + i)) (owM n e)
def owV (a b : Nat → Nat) (n e : Nat) : Nat := sumC (fun i => owTi a b (owD n e) (owS n e + i)) (owM n e)
theorem ow_facts {n e : Nat} (he : e < 2 * n - 1) : 0 < owM n e ∧ owS n e + owM n e ≤ n ∧ owM n e ≤ n ∧ -(n : Int) < owD n e ∧ owD n e < n ∧ 0 ≤ (owS n e : Int) + owD n e ∧ (owS n e : Int) + owM n e + owD n e ≤ n ∧ owD n e + n = (e : Int) + 1 := by
  unfold owM owS owD
  omega
theorem ow_lim {n e : Nat} (he : e < 2 * n - 1) : (if iN n - owD n e < iN n then iN n - owD n e else iN n) = ((owS n e + owM n e : Nat) : Int) := by
  have h1 : iN n = (n : Int) := iN_eq n
  by_cases h : iN n - owD n e < iN n
  · rw [if_pos h]
    rw [h1] at h ⊢
    unfold owM owS owD at *
    omega
  · rw [if_neg h]
    rw [h1] at h ⊢
    unfold owM owS owD at *
    omega
theorem ow_max {n e : Nat} (he : e < 2 * n - 1) : (if Int.ofNat 0 - owD n e > 0 then Int.ofNat 0 - owD n e else 0) = iN (owS n e) := by
  have h1 : iN (owS n e) = (owS n e : Int) := iN_eq _
  have h2 : Int.ofNat 0 = 0 := rfl
  rw [h1, h2]
  by_cases h : 0 - owD n e > 0
  · rw [if_pos h]
    unfold owS owD at *
    omega
  · rw [if_neg h]
    unfold owS owD at *
    omega
theorem ow_glue (f g z w : Nat → Nat) (m n : Nat) : rowOf (half2 (fun i => [Value.complex .f64 (f i) (g i)]) (fun i => [Value.complex .f64 (z i) (w i)]) m) n = rowOf (fun i => [Value.complex .f64 (bif Nat.blt i m then f i else z i) (bif Nat.blt i m then g i else w i)]) n :=
  rowOf_congr fun i _ => by unfold half2; cases Nat.blt i m <;> rfl
theorem ow_in (opn : Option Nat) (a b : Nat → Nat) (M n cap : Nat) (hm : n ≤ M) (hn : n ≤ 4096) (x1 : AObj) (p1 : plainO x1) (z w : Nat → Nat) (e : Nat) (he : e < 2 * n - 1)
    (hst : Stood false [.row (rowOf (fun i => [.complex .f64 (a i) (b i)]) M) false opn]) :
    Sim dLOn 3 (.loop (loopOf Try.f68 1)) (owFr n cap (owD n e) 0 (owS n e)) [.row (rowOf (fun i => [.complex .f64 (a i) (b i)]) M) false opn, x1, .row (rowOf (fun i => [.complex .f64 (z i) (w i)]) n) true none]
      (.exit 2) (owFr n cap (owD n e) (owM n e) (owS n e + owM n e)) [.row (rowOf (fun i => [.complex .f64 (a i) (b i)]) M) false opn, x1, .row (rowOf (half2 (fun i => [.complex .f64 (owTr a b (owD n e) (owS n e + i)) (owTi a b (owD n e) (owS n e + i))]) (fun i => [.complex .f64 (z i) (w i)]) (owM n e)) n) true none] := by
  obtain ⟨f1, f2, f3, f4, f5, f6, f7, f8⟩ := ow_facts he
  have hl := ow_lim he
  have h : Sim dLOn 3 (.loop (loopOf Try.f68 1)) (owFr n cap (owD n e) 0 (owS n e + 0)) [.row (rowOf (fun i => [.complex .f64 (a i) (b i)]) M) false opn, x1, .row (rowOf (half2 (fun i => [.complex .f64 (owTr a b (owD n e) (owS n e + i)) (owTi a b (owD n e) (owS n e + i))]) (fun i => [.complex .f64 (z i) (w i)]) 0) n) true none]
      (.exit 2) (owFr n cap (owD n e) (owM n e) (owS n e + owM n e)) [.row (rowOf (fun i => [.complex .f64 (a i) (b i)]) M) false opn, x1, .row (rowOf (half2 (fun i => [.complex .f64 (owTr a b (owD n e) (owS n e + i)) (owTi a b (owD n e) (owS n e + i))]) (fun i => [.complex .f64 (z i) (w i)]) (owM n e)) n) true none] := Sim.loop (C := dLOn) (n0 := 3) (c := loopOf Try.f68 1) (fun j => (owFr n cap (owD n e) j (owS n e + j), [AObj.row (rowOf (fun i => [.complex .f64 (a i) (b i)]) M) false opn, x1, .row (rowOf (half2 (fun i => [.complex .f64 (owTr a b (owD n e) (owS n e + i)) (owTi a b (owD n e) (owS n e + i))]) (fun i => [.complex .f64 (z i) (w i)]) j) n) true none])) (owM n e)
    (fun j hj => (owR_p0 opn a b M n cap hm hn x1 p1 z w (owD n e) (owS n e) j f4 f5 (by omega) (by omega) f6 (by omega) (by rw [hl]; exact decide_eq_true (by rw [iN_eq]; omega)) hst).cast (by kernel_rfl) (by kernel_rfl) (by kernel_rfl) (by kernel_rfl))
    ((owE_p0 opn a b M n cap hm hn x1 p1 z w (owD n e) (owS n e) (owM n e) f4 f5 f2 (by rw [hl]; exact decide_eq_false (by rw [iN_eq]; omega)) hst).cast (by kernel_rfl) (by kernel_rfl) (by kernel_rfl) (by kernel_rfl)) rfl
  rw [half2_zero] at h
  exact h.cast (by kernel_rfl) rfl rfl rfl
def owHp (opn : Option Nat) (a b : Nat → Nat) (M n e : Nat) : AHeap :=
  [.row (rowOf (fun i => [.complex .f64 (a i) (b i)]) M) false opn, .row (rowOf (half2 (fun i => [.complex .f64 (owU a b n i) (owV a b n i)]) (fun _ => [.complex .f64 0 0]) e) (2 * n - 1)) true none, .row (rowOf (fun i => [.complex .f64 (owZr a b n e i) (owZi a b n e i)]) n) true none]
theorem ow_round (opn : Option Nat) (a b : Nat → Nat) (M n cap : Nat) (hm : n ≤ M) (hn : n ≤ 4096) (e : Nat) (he : e < 2 * n - 1)
    (hst : Stood false [.row (rowOf (fun i => [.complex .f64 (a i) (b i)]) M) false opn]) :
    Sim dLOn 3 (loopOf Try.f68 0) (owFo n cap (owD n e) (owP n e)) (owHp opn a b M n e) .normal (owFo n cap (owD n (e + 1)) (owP n (e + 1))) (owHp opn a b M n (e + 1)) := by
  obtain ⟨f1, f2, f3, f4, f5, f6, f7, f8⟩ := ow_facts he
  have hp : owP n e ≤ n := by
    cases e with
    | zero => exact Nat.zero_le _
    | succ e => exact (ow_facts (n := n) (e := e) (by omega)).2.2.1
  have hs := owO_p0 opn a b M n cap hm hn (owU a b n) (owV a b n) (owZr a b n e) (owZi a b n e) e (owD n e) (owP n e) (owS n e) (owM n e) f8 he hp f2
    (by
      refine sSum_row (x := fun i => owTr a b (owD n e) (owS n e + i)) (y := fun i => owTi a b (owD n e) (owS n e + i)) rfl (fun i hi => ?_) (half2_len (s := 1) (fun _ => rfl) (fun _ => rfl) _) f3 (by omega) f3 (fun i hi => ?_)
      · unfold half2; cases Nat.blt i (owM n e) <;> exact ⟨rfl, rfl⟩
      · unfold half2
        rw [show Nat.blt i (owM n e) = true from by rw [Nat.blt_eq]; exact hi]; rfl)
    (fun hst => ((ow_in opn a b M n cap hm hn (.row (rowOf (half2 (fun i => [.complex .f64 (owU a b n i) (owV a b n i)]) (fun _ => [.complex .f64 0 0]) e) (2 * n - 1)) true none) (rowOf_all (half2_all (fun _ => rfl) (fun _ => rfl) _) _) (owZr a b n e) (owZi a b n e) e he hst).enter ([true, false, false, true, true, true, true, true] ++ List.replicate 59 false) (by kernel_rfl)).cast rfl rfl (by kernel_rfl) rfl)
    (by rw [ow_max he]) hst
  refine hs.cast (by kernel_rfl) rfl ?_ ?_
  · rw [show owD n e + Int.ofNat 1 = owD n (e + 1) by unfold owD; show _ + (1 : Int) = _; omega]
    kernel_rfl
  · unfold owHp
    rw [ow_glue (fun i => owTr a b (owD n e) (owS n e + i)) (fun i => owTi a b (owD n e) (owS n e + i)) (owZr a b n e) (owZi a b n e)]
    rfl
theorem ow_loop (opn : Option Nat) (a b : Nat → Nat) (M n cap : Nat) (hm : n ≤ M) (hn : n ≤ 4096) (h0 : 0 < n)
    (hst : Stood false [.row (rowOf (fun i => [.complex .f64 (a i) (b i)]) M) false opn]) :
    Sim dLOn 3 (.loop (loopOf Try.f68 0)) (owFo n cap (owD n 0) 0) (owHp opn a b M n 0) (.exit 0) (owFo n cap (owD n (2 * n - 1)) (owP n (2 * n - 1))) (owHp opn a b M n (2 * n - 1)) := by
  have h := owX_p0 opn a b M n cap hm hn (owU a b n) (owV a b n) (owZr a b n (2 * n - 1)) (owZi a b n (2 * n - 1)) (owD n (2 * n - 1)) (owP n (2 * n - 1)) (by unfold owD; omega) hst
  have hh : owHp opn a b M n (2 * n - 1) = [.row (rowOf (fun i => [.complex .f64 (a i) (b i)]) M) false opn, .row (rowOf (fun i => [.complex .f64 (owU a b n i) (owV a b n i)]) (2 * n - 1)) true none, .row (rowOf (fun i => [.complex .f64 (owZr a b n (2 * n - 1) i) (owZi a b n (2 * n - 1) i)]) n) true none] := by
    unfold owHp; rw [half2_full]
  exact Sim.loop (fun e => (owFo n cap (owD n e) (owP n e), owHp opn a b M n e)) (2 * n - 1) (fun e he => ow_round opn a b M n cap hm hn e he hst) (h.cast (by kernel_rfl) hh.symm (by kernel_rfl) hh.symm) rfl
theorem own_small (opn : Option Nat) (a b : Nat → Nat) (M n cap : Nat) (hm : n ≤ M) (hn : n ≤ 4096) (h0 : 0 < n) : ∃ z, CallR Try.prog false 68 [.slice (some ⟨0, 0, some 1⟩) n cap] [.row (rowOf (fun i => [.complex .f64 (a i) (b i)]) M) false opn] (.slice (some ⟨1, 0, some 1⟩) (2 * n - 1) (2 * n - 1))
    [.row (rowOf (fun i => [.complex .f64 (a i) (b i)]) M) false opn, .row (rowOf (fun i => [.complex .f64 (owU a b n i) (owV a b n i)]) (2 * n - 1)) true none, z] := by
  refine ⟨_, owA_p0 opn a b M n cap hm hn (owU a b n) (owV a b n) (owZr a b n (2 * n - 1)) (owZi a b n (2 * n - 1)) (owD n (2 * n - 1)) (owP n (2 * n - 1)) h0 (by rw [iN_eq]; exact beq_false_of_ne (by show ((n : Nat) : Int) ≠ 0; omega)) (fun hst => ?_)⟩
  have h := ow_loop opn a b M n cap hm hn h0 hst
  have e0 : owHp opn a b M n 0 = [.row (rowOf (fun i => [.complex .f64 (a i) (b i)]) M) false opn, .row (rowOf (fun _ => [.complex .f64 0 0]) (2 * n - 1)) true none, .row (rowOf (fun _ => [.complex .f64 0 0]) n) true none] := by
    unfold owHp; rw [half2_zero]; rfl
  have e1 : owHp opn a b M n (2 * n - 1) = [.row (rowOf (fun i => [.complex .f64 (a i) (b i)]) M) false opn, .row (rowOf (fun i => [.complex .f64 (owU a b n i) (owV a b n i)]) (2 * n - 1)) true none, .row (rowOf (fun i => [.complex .f64 (owZr a b n (2 * n - 1) i) (owZi a b n (2 * n - 1) i)]) n) true none] := by
    unfold owHp; rw [half2_full]
  have hd : IntKind.i64.wrap (Int.ofNat 1 - iN n) = owD n 0 := by
    rw [i64_wrap ⟨by rw [iN_eq]; show _ ≤ (1 : Int) - _; omega, by rw [iN_eq]; show (1 : Int) - _ ≤ _; omega⟩, iN_eq]
    unfold owD; show (1 : Int) - _ = _; omega
  rw [hd]
  exact (h.enter ([true, false, false, true, true, true, true] ++ List.replicate 60 false) (by kernel_rfl)).cast rfl e0 (by kernel_rfl) e1
def sOwn : HeapFn
  | [.slice (some ⟨b, 0, some 1⟩) n cap], σ =>
    match σ[b]? with
    | some (.row vs _ _) => bif vs.all isCo && (Nat.ble n vs.length && (Nat.ble n 4096 && Nat.ble 1 n)) then some (.slice (some ⟨σ.length, 0, some 1⟩) (2 * n - 1) (2 * n - 1), σ ++ [.row (rowOf (fun i => [.complex .f64 (owU (reC vs) (imC vs) n i) (owV (reC vs) (imC vs) n i)]) (2 * n - 1)) true none]) else none
    | _ => none
  | _, _ => none
theorem own_congr {a b x y : Nat → Nat} {n e : Nat} (h : ∀ i, i < n → a i = x i ∧ b i = y i) (he : e < 2 * n - 1) : owU a b n e = owU x y n e ∧ owV a b n e = owV x y n e := by
  obtain ⟨f1, f2, f3, f4, f5, f6, f7, f8⟩ := ow_facts he
  have key : ∀ i, i < owM n e → a (iN (owS n e + i) + owD n e).toNat = x (iN (owS n e + i) + owD n e).toNat ∧ b (iN (owS n e + i) + owD n e).toNat = y (iN (owS n e + i) + owD n e).toNat ∧ a (owS n e + i) = x (owS n e + i) ∧ b (owS n e + i) = y (owS n e + i) := by
    intro i hi
    have h1 := h (iN (owS n e + i) + owD n e).toNat (by rw [iN_eq]; omega)
    have h2 := h (owS n e + i) (by omega)
    exact ⟨h1.1, h1.2, h2.1, h2.2⟩
  constructor
  · unfold owU
    exact sumC_congr fun i hi => by
      obtain ⟨k1, k2, k3, k4⟩ := key i hi
      unfold owTr; rw [k1, k2, k3, k4]
  · unfold owV
    exact sumC_congr fun i hi => by
      obtain ⟨k1, k2, k3, k4⟩ := key i hi
      unfold owTi; rw [k1, k2, k3, k4]
/-- At a row that is told by functions. -/
theorem sOwn_row {x y : Nat → Nat} {M n cap bl : Nat} {rw' : Bool} {opn : Option Nat} {σ : AHeap} (hσ : σ[bl]? = some (.row (rowOf (fun i => [.complex .f64 (x i) (y i)]) M) rw' opn)) (hn : n ≤ M) (h4 : n ≤ 4096) (h0 : 0 < n) :
    sOwn [.slice (some ⟨bl, 0, some 1⟩) n cap] σ = some (.slice (some ⟨σ.length, 0, some 1⟩) (2 * n - 1) (2 * n - 1), σ ++ [.row (rowOf (fun i => [.complex .f64 (owU x y n i) (owV x y n i)]) (2 * n - 1)) true none]) := by
  have hlen := rowOf_len (f := fun i => [Value.complex .f64 (x i) (y i)]) (s := 1) (fun _ => rfl) M
  rw [Nat.mul_one] at hlen
  unfold sOwn
  simp only [hσ, isCo_row, Nat.ble_eq_true_of_le (show n ≤ (rowOf (fun i => [Value.complex .f64 (x i) (y i)]) M).length by omega), Nat.ble_eq_true_of_le h4, Nat.ble_eq_true_of_le (show 1 ≤ n from h0), Bool.and_self, cond_true]
  have e : rowOf (fun i => [Value.complex .f64 (owU (reC (rowOf (fun i => [Value.complex .f64 (x i) (y i)]) M)) (imC (rowOf (fun i => [Value.complex .f64 (x i) (y i)]) M)) n i) (owV (reC (rowOf (fun i => [Value.complex .f64 (x i) (y i)]) M)) (imC (rowOf (fun i => [Value.complex .f64 (x i) (y i)]) M)) n i)]) (2 * n - 1) = rowOf (fun i => [Value.complex .f64 (owU x y n i) (owV x y n i)]) (2 * n - 1) :=
    rowOf_congr fun i hi => by
      obtain ⟨k1, k2⟩ := own_congr (a := reC (rowOf (fun i => [Value.complex .f64 (x i) (y i)]) M)) (b := imC (rowOf (fun i => [Value.complex .f64 (x i) (y i)]) M)) (x := x) (y := y) (n := n) (fun j hj => ⟨reC_row (by omega), imC_row (by omega)⟩) hi
      rw [k1, k2]
  rw [e]
theorem sOwn_ok : IsHeap Try.prog false 68 false sOwn := by
  have key : ∀ (args : List Value) (σ : AHeap) (v : Value) (σ' : AHeap), sOwn args σ = some (v, σ') → ∃ b n cap vs rw' opn, args = [.slice (some ⟨b, 0, some 1⟩) n cap] ∧ σ[b]? = some (.row vs rw' opn) ∧ vs.all isCo = true ∧ n ≤ vs.length ∧ n ≤ 4096 ∧ 0 < n ∧ v = .slice (some ⟨σ.length, 0, some 1⟩) (2 * n - 1) (2 * n - 1) ∧ σ' = σ ++ [.row (rowOf (fun i => [.complex .f64 (owU (reC vs) (imC vs) n i) (owV (reC vs) (imC vs) n i)]) (2 * n - 1)) true none] := by
    intro args σ v σ' h
    unfold sOwn at h
    split at h
    · rename_i b n cap
      split at h
      · rename_i vs rw' opn hb
        cases hc : (vs.all isCo && (Nat.ble n vs.length && (Nat.ble n 4096 && Nat.ble 1 n)))
        · rw [hc] at h; cases h
        · rw [hc] at h
          cases h
          simp only [Bool.and_eq_true] at hc
          obtain ⟨c1, c2, c3, c4⟩ := hc
          exact ⟨b, n, cap, vs, rw', opn, rfl, hb, c1, Nat.le_of_ble_eq_true c2, Nat.le_of_ble_eq_true c3, Nat.le_of_ble_eq_true c4, rfl, rfl⟩
      · cases h
    · cases h
  refine ⟨fun args σ v σ' h => ?_, (by intro h; cases h), fun args σ v σ' h => ?_⟩
  · obtain ⟨b, n, cap, vs, rw', opn, rfl, hb, c1, c2, c3, c4, rfl, rfl⟩ := key args σ v σ' h
    obtain ⟨z, hs⟩ := own_small opn (reC vs) (imC vs) vs.length n cap c2 c3 c4
    rw [coRow c1] at hs
    refine CallR.frameN (r := fun k => if k = 0 then b else k + σ.length) (q := fun k => if k = σ.length then 1 else k + 3) (args0 := [.slice (some ⟨0, 0, some 1⟩) n cap]) (σ0 := [.row vs false opn]) ⟨fun k o hk => ?_, fun k hk => ?_⟩ rfl hs (k := 1) rfl (rowOf_all (fun _ => rfl) _) (fun _ => rfl) (by simp [renV])
    · have : k = 0 := by have := lt_of_some hk; simpa using this
      subst this
      simp only [List.getElem?_cons_zero, Option.some.injEq] at hk
      exact ⟨vs, opn, rw', hk.symm, hb, isCo_plain c1⟩
    · have hk : 1 ≤ k := hk
      have : ¬ k = 0 := by omega
      simp only [this, if_false]; omega
  · obtain ⟨b, n, cap, vs, rw', opn, rfl, hb, c1, c2, c3, c4, rfl, rfl⟩ := key args σ v σ' h
    simp
end Go.Lk
