import Derived.Test.YtmomainjlncogaaSq8
import Derived.Test.YtmomainjlncogaaSq9
import Derived.Test.YtmomainjlncogaaSq11
import Derived.Test.YtmomainjlncogaaSq6
import Derived.Test.YtmomainjlncogaaSq4
import Derived.Test.YtmomainjlncogaaSq5
section
/- sums: Power, Dot, Peak: their contracts. -/
namespace Go.Lk
open Go.Proofs
set_option maxRecDepth 100000
set_option maxHeartbeats 0
set_option linter.unusedVariables false
set_option linter.unusedSimpArgs false
theorem reads_one {vs : List Value} {rw' : Bool} {opn : Option Nat} {σ : AHeap} {b : Nat} (hb : σ[b]? = some (.row vs rw' opn)) (h : vs.all plain = true) : Reads [.row vs false opn] (fun k => if k = 0 then b else k + σ.length) σ := by
  refine ⟨fun k o hk => ?_, fun k hk => ?_⟩
  · have : k = 0 := by have := lt_of_some hk; simpa using this
    subst this
    simp only [List.getElem?_cons_zero, Option.some.injEq] at hk
    exact ⟨vs, opn, rw', hk.symm, hb, h⟩
  · have hk : 1 ≤ k := hk
    have : ¬ k = 0 := by omega
    simp only [this, if_false]; omega
theorem reads_two {vs us : List Value} {rw' rw2 : Bool} {opn opn2 : Option Nat} {σ : AHeap} {b b2 : Nat} (hb : σ[b]? = some (.row vs rw' opn)) (hb2 : σ[b2]? = some (.row us rw2 opn2)) (h : vs.all plain = true) (h2 : us.all plain = true) :
    Reads [.row vs false opn, .row us false opn2] (fun k => if k = 0 then b else if k = 1 then b2 else k + σ.length) σ := by
  refine ⟨fun k o hk => ?_, fun k hk => ?_⟩
  · have hlt := lt_of_some hk
    have : k = 0 ∨ k = 1 := by simp at hlt; omega
    rcases this with rfl | rfl
    · simp only [List.getElem?_cons_zero, Option.some.injEq] at hk
      exact ⟨vs, opn, rw', hk.symm, hb, h⟩
    · simp only [List.getElem?_cons_succ, List.getElem?_cons_zero, Option.some.injEq] at hk
      exact ⟨us, opn2, rw2, hk.symm, hb2, h2⟩
  · have hk : 2 ≤ k := hk
    have h0 : ¬ k = 0 := by omega
    have h1 : ¬ k = 1 := by omega
    simp only [h0, h1, if_false]; omega
/-! ### Power -/
def pwS (a b : Nat → Nat) (k : Nat) : Nat := sumC (fun i => ab2 (a i) (b i)) k
theorem power_small (opn : Option Nat) (a b : Nat → Nat) (M n cap : Nat) (hm : n ≤ M) (hn : n ≤ 16384) :
    CallR Try.prog false 107 [.slice (some ⟨0, 0, some 1⟩) n cap] [.row (rowOf (fun i => [.complex .f64 (a i) (b i)]) M) false opn] (.float .f64 (pwS a b n)) [.row (rowOf (fun i => [.complex .f64 (a i) (b i)]) M) false opn] := by
  unfold pwS
  rw [← atS_sum]
  refine pwA_p0 opn a b M n cap hm hn _ (fun hst => ?_)
  have h : Sim dLJb 1 (.loop (loopOf Try.f107 0)) (pwFr n cap 0 0) [.row (rowOf (fun i => [.complex .f64 (a i) (b i)]) M) false opn] (.exit 0) (pwFr n cap (atS (fun i => ab2 (a i) (b i)) n) n) [.row (rowOf (fun i => [.complex .f64 (a i) (b i)]) M) false opn] :=
    Sim.loop (fun k => (pwFr n cap (atS (fun i => ab2 (a i) (b i)) k) k, [AObj.row (rowOf (fun i => [.complex .f64 (a i) (b i)]) M) false opn])) n
      (fun k hk => by
        cases k with
        | zero => exact (pw0_p0 opn a b M n cap hm hn hk hst).cast (by kernel_rfl) (by kernel_rfl) (by kernel_rfl) (by kernel_rfl)
        | succ k => exact (pw1_p0 opn a b M n cap hm hn k hk (by rw [iN_eq]; exact beq_false_of_ne (by show ((k + 1 : Nat) : Int) ≠ 0; omega)) hst).cast (by kernel_rfl) (by kernel_rfl) (by kernel_rfl) (by kernel_rfl))
      ((pwE_p0 opn a b M n cap hm hn (atS (fun i => ab2 (a i) (b i)) n) hst).cast (by kernel_rfl) (by kernel_rfl) (by kernel_rfl) (by kernel_rfl)) rfl
  exact (h.enter ([false, false, false, true, false, false, false, true, true, true] ++ List.replicate 14 false) (by kernel_rfl)).cast rfl rfl (by kernel_rfl) rfl
def sPower : HeapFn
  | [.slice (some ⟨b, 0, some 1⟩) n cap], σ =>
    match σ[b]? with
    | some (.row vs _ _) => bif vs.all isCo && (Nat.ble n vs.length && Nat.ble n 16384) then some (.float .f64 (pwS (reC vs) (imC vs) n), σ) else none
    | _ => none
  | _, _ => none
theorem sPower_ok : IsHeap Try.prog false 107 true sPower := by
  have key : ∀ (args : List Value) (σ : AHeap) (v : Value) (σ' : AHeap), sPower args σ = some (v, σ') → ∃ b n cap vs rw' opn, args = [.slice (some ⟨b, 0, some 1⟩) n cap] ∧ σ[b]? = some (.row vs rw' opn) ∧ vs.all isCo = true ∧ n ≤ vs.length ∧ n ≤ 16384 ∧ v = .float .f64 (pwS (reC vs) (imC vs) n) ∧ σ' = σ := by
    intro args σ v σ' h
    unfold sPower at h
    split at h
    · rename_i b n cap
      split at h
      · rename_i vs rw' opn hb
        cases hc : (vs.all isCo && (Nat.ble n vs.length && Nat.ble n 16384))
        · rw [hc] at h; cases h
        · rw [hc] at h
          cases h
          simp only [Bool.and_eq_true] at hc
          obtain ⟨c1, c2, c3⟩ := hc
          exact ⟨b, n, cap, vs, rw', opn, rfl, hb, c1, Nat.le_of_ble_eq_true c2, Nat.le_of_ble_eq_true c3, rfl, rfl⟩
      · cases h
    · cases h
  refine ⟨fun args σ v σ' h => ?_, fun _ args σ v σ' h => ?_, fun args σ v σ' h => ?_⟩
  · obtain ⟨b, n, cap, vs, rw', opn, rfl, hb, c1, c2, c3, rfl, rfl⟩ := key args σ v σ' h
    have hs := power_small opn (reC vs) (imC vs) vs.length n cap c2 c3
    rw [coRow c1] at hs
    exact CallR.frameQ (reads_one hb (isCo_plain c1)) rfl hs rfl
  · obtain ⟨b, n, cap, vs, rw', opn, rfl, hb, c1, c2, c3, rfl, rfl⟩ := key args σ v σ' h; rfl
  · obtain ⟨b, n, cap, vs, rw', opn, rfl, hb, c1, c2, c3, rfl, rfl⟩ := key args σ v σ' h; exact Nat.le_refl _
theorem sPower_row {x y : Nat → Nat} {M n cap bl : Nat} {rw' : Bool} {opn : Option Nat} {σ : AHeap} (hσ : σ[bl]? = some (.row (rowOf (fun i => [.complex .f64 (x i) (y i)]) M) rw' opn)) (hn : n ≤ M) (h4 : n ≤ 16384) :
    sPower [.slice (some ⟨bl, 0, some 1⟩) n cap] σ = some (.float .f64 (pwS x y n), σ) := by
  have hlen := rowOf_len (f := fun i => [Value.complex .f64 (x i) (y i)]) (s := 1) (fun _ => rfl) M
  rw [Nat.mul_one] at hlen
  unfold sPower
  simp only [hσ, isCo_row, Nat.ble_eq_true_of_le (show n ≤ (rowOf (fun i => [Value.complex .f64 (x i) (y i)]) M).length by omega), Nat.ble_eq_true_of_le h4, Bool.and_self, cond_true]
  have e : pwS (reC (rowOf (fun i => [Value.complex .f64 (x i) (y i)]) M)) (imC (rowOf (fun i => [Value.complex .f64 (x i) (y i)]) M)) n = pwS x y n :=
    sumC_congr fun i hi => by rw [reC_row (by omega), imC_row (by omega)]
  rw [e]
/-! ### Dot -/
def dtR (a b c d : Nat → Nat) (o n m : Nat) : Nat := sumC (atTr a b c (fun i => fneg (d i)) o) (min n m)
def dtI (a b c d : Nat → Nat) (o n m : Nat) : Nat := sumC (atTi a b c (fun i => fneg (d i)) o) (min n m)
theorem dot_small (opn : Option Nat) (a b : Nat → Nat) (M : Nat) (opn2 : Option Nat) (c d : Nat → Nat) (N o n cap m cap2 : Nat) (hm : o + n ≤ M) (hN : m ≤ N) (hn : n ≤ 16384) :
    CallR Try.prog false 108 [.slice (some ⟨0, o, some 1⟩) n cap, .slice (some ⟨1, 0, some 1⟩) m cap2] [.row (rowOf (fun i => [.complex .f64 (a i) (b i)]) M) false opn, .row (rowOf (fun i => [.complex .f64 (c i) (d i)]) N) false opn2]
      (.complex .f64 (dtR a b c d o n m) (dtI a b c d o n m)) [.row (rowOf (fun i => [.complex .f64 (a i) (b i)]) M) false opn, .row (rowOf (fun i => [.complex .f64 (c i) (d i)]) N) false opn2] := by
  have hmin : (if iN m < iN n then iN m else iN n) = iN (min n m) := by
    rw [iN_eq, iN_eq, iN_eq]
    by_cases h : (m : Int) < n
    · rw [if_pos h]; omega
    · rw [if_neg h]; omega
  unfold dtR dtI
  rw [← atS_sum, ← atS_sum]
  refine dtA_p0 opn a b M opn2 c d N o n cap m cap2 (min n m) hm hN hn (by omega) (by omega) _ _ ?_ ?_
  · intro hst
    have h : Sim dLJb 2 (.loop (loopOf Try.f108 0)) (dtFr o n cap m cap2 (min n m) (.complex .f64 0 0) 0) [.row (rowOf (fun i => [.complex .f64 (a i) (b i)]) M) false opn, .row (rowOf (fun i => [.complex .f64 (c i) (d i)]) N) false opn2] (.exit 0) (dtFr o n cap m cap2 (min n m) (.complex .f64 (atS (atTr a b c (fun i => fneg (d i)) o) (min n m)) (atS (atTi a b c (fun i => fneg (d i)) o) (min n m))) (min n m)) [.row (rowOf (fun i => [.complex .f64 (a i) (b i)]) M) false opn, .row (rowOf (fun i => [.complex .f64 (c i) (d i)]) N) false opn2] :=
      Sim.loop (fun k => (dtFr o n cap m cap2 (min n m) (.complex .f64 (atS (atTr a b c (fun i => fneg (d i)) o) k) (atS (atTi a b c (fun i => fneg (d i)) o) k)) k, [AObj.row (rowOf (fun i => [.complex .f64 (a i) (b i)]) M) false opn, .row (rowOf (fun i => [.complex .f64 (c i) (d i)]) N) false opn2])) (min n m)
        (fun k hk => by
          cases k with
          | zero => exact (dt0_p0 opn a b M opn2 c d N o n cap m cap2 (min n m) hm hN hn (by omega) (by omega) hk hst).cast (by kernel_rfl) (by kernel_rfl) (by kernel_rfl) (by kernel_rfl)
          | succ k => exact (dt1_p0 opn a b M opn2 c d N o n cap m cap2 (min n m) hm hN hn (by omega) (by omega) k hk (by rw [iN_eq]; exact beq_false_of_ne (by show ((k + 1 : Nat) : Int) ≠ 0; omega)) hst).cast (by kernel_rfl) (by kernel_rfl) (by kernel_rfl) (by kernel_rfl))
        ((dtE_p0 opn a b M opn2 c d N o n cap m cap2 (min n m) hm hN hn (by omega) (by omega) (atS (atTr a b c (fun i => fneg (d i)) o) (min n m)) (atS (atTi a b c (fun i => fneg (d i)) o) (min n m)) hst).cast (by kernel_rfl) (by kernel_rfl) (by kernel_rfl) (by kernel_rfl)) rfl
    exact (h.enter ([true, true, false, false, false, true, false, false, false, false, false, false, true, true] ++ List.replicate 20 false) (by kernel_rfl)).cast rfl rfl (by kernel_rfl) rfl
  · rw [hmin]
def sDot : HeapFn
  | [.slice (some ⟨b, o, some 1⟩) n cap, .slice (some ⟨b2, 0, some 1⟩) m cap2], σ =>
    match σ[b]?, σ[b2]? with
    | some (.row vs _ _), some (.row us _ _) => bif vs.all isCo && (us.all isCo && (Nat.ble (o + n) vs.length && (Nat.ble n 16384 && Nat.ble m us.length))) then
        some (.complex .f64 (dtR (reC vs) (imC vs) (reC us) (imC us) o n m) (dtI (reC vs) (imC vs) (reC us) (imC us) o n m), σ) else none
    | _, _ => none
  | _, _ => none
theorem sDot_ok : IsHeap Try.prog false 108 true sDot := by
  have key : ∀ (args : List Value) (σ : AHeap) (v : Value) (σ' : AHeap), sDot args σ = some (v, σ') → ∃ b o n cap b2 m cap2 vs rw' opn us rw2 opn2, args = [.slice (some ⟨b, o, some 1⟩) n cap, .slice (some ⟨b2, 0, some 1⟩) m cap2] ∧ σ[b]? = some (.row vs rw' opn) ∧ σ[b2]? = some (.row us rw2 opn2) ∧ vs.all isCo = true ∧ us.all isCo = true ∧ o + n ≤ vs.length ∧ n ≤ 16384 ∧ m ≤ us.length ∧
      v = .complex .f64 (dtR (reC vs) (imC vs) (reC us) (imC us) o n m) (dtI (reC vs) (imC vs) (reC us) (imC us) o n m) ∧ σ' = σ := by
    intro args σ v σ' h
    unfold sDot at h
    split at h
    · rename_i b o n cap b2 m cap2
      split at h
      · rename_i vs rw' opn us rw2 opn2 hb hb2
        cases hc : (vs.all isCo && (us.all isCo && (Nat.ble (o + n) vs.length && (Nat.ble n 16384 && Nat.ble m us.length))))
        · rw [hc] at h; cases h
        · rw [hc] at h
          cases h
          simp only [Bool.and_eq_true] at hc
          obtain ⟨c1, c2, c3, c4, c5⟩ := hc
          exact ⟨b, o, n, cap, b2, m, cap2, vs, rw', opn, us, rw2, opn2, rfl, hb, hb2, c1, c2, Nat.le_of_ble_eq_true c3, Nat.le_of_ble_eq_true c4, Nat.le_of_ble_eq_true c5, rfl, rfl⟩
      · cases h
    · cases h
  refine ⟨fun args σ v σ' h => ?_, fun _ args σ v σ' h => ?_, fun args σ v σ' h => ?_⟩
  · obtain ⟨b, o, n, cap, b2, m, cap2, vs, rw', opn, us, rw2, opn2, rfl, hb, hb2, c1, c2, c3, c4, c5, rfl, rfl⟩ := key args σ v σ' h
    have hs := dot_small opn (reC vs) (imC vs) vs.length opn2 (reC us) (imC us) us.length o n cap m cap2 c3 c5 c4
    rw [coRow c1, coRow c2] at hs
    exact CallR.frameQ (reads_two hb hb2 (isCo_plain c1) (isCo_plain c2)) rfl hs rfl
  · obtain ⟨b, o, n, cap, b2, m, cap2, vs, rw', opn, us, rw2, opn2, rfl, hb, hb2, c1, c2, c3, c4, c5, rfl, rfl⟩ := key args σ v σ' h; rfl
  · obtain ⟨b, o, n, cap, b2, m, cap2, vs, rw', opn, us, rw2, opn2, rfl, hb, hb2, c1, c2, c3, c4, c5, rfl, rfl⟩ := key args σ v σ' h; exact Nat.le_refl _
theorem sDot_row {x y c d : Nat → Nat} {M N o n cap m cap2 bl b2 : Nat} {rw' rw2 : Bool} {opn opn2 : Option Nat} {σ : AHeap} (hσ : σ[bl]? = some (.row (rowOf (fun i => [.complex .f64 (x i) (y i)]) M) rw' opn)) (hσ2 : σ[b2]? = some (.row (rowOf (fun i => [.complex .f64 (c i) (d i)]) N) rw2 opn2))
    (hm : o + n ≤ M) (hN : m ≤ N) (hn : n ≤ 16384) : sDot [.slice (some ⟨bl, o, some 1⟩) n cap, .slice (some ⟨b2, 0, some 1⟩) m cap2] σ = some (.complex .f64 (dtR x y c d o n m) (dtI x y c d o n m), σ) := by
  have hlen := rowOf_len (f := fun i => [Value.complex .f64 (x i) (y i)]) (s := 1) (fun _ => rfl) M
  have hlen2 := rowOf_len (f := fun i => [Value.complex .f64 (c i) (d i)]) (s := 1) (fun _ => rfl) N
  rw [Nat.mul_one] at hlen hlen2
  unfold sDot
  simp only [hσ, hσ2, isCo_row, Nat.ble_eq_true_of_le (show o + n ≤ (rowOf (fun i => [Value.complex .f64 (x i) (y i)]) M).length by omega), Nat.ble_eq_true_of_le (show m ≤ (rowOf (fun i => [Value.complex .f64 (c i) (d i)]) N).length by omega), Nat.ble_eq_true_of_le hn, Bool.and_self, cond_true]
  have e : ∀ i, i < min n m → reC (rowOf (fun i => [Value.complex .f64 (x i) (y i)]) M) (o + i) = x (o + i) ∧ imC (rowOf (fun i => [Value.complex .f64 (x i) (y i)]) M) (o + i) = y (o + i) ∧ reC (rowOf (fun i => [Value.complex .f64 (c i) (d i)]) N) i = c i ∧ imC (rowOf (fun i => [Value.complex .f64 (c i) (d i)]) N) i = d i :=
    fun i hi => ⟨reC_row (by omega), imC_row (by omega), reC_row (by omega), imC_row (by omega)⟩
  have e1 : dtR (reC (rowOf (fun i => [Value.complex .f64 (x i) (y i)]) M)) (imC (rowOf (fun i => [Value.complex .f64 (x i) (y i)]) M)) (reC (rowOf (fun i => [Value.complex .f64 (c i) (d i)]) N)) (imC (rowOf (fun i => [Value.complex .f64 (c i) (d i)]) N)) o n m = dtR x y c d o n m := sumC_congr fun i hi => by
    obtain ⟨k1, k2, k3, k4⟩ := e i hi
    unfold atTr; simp only [k1, k2, k3, k4]
  have e2 : dtI (reC (rowOf (fun i => [Value.complex .f64 (x i) (y i)]) M)) (imC (rowOf (fun i => [Value.complex .f64 (x i) (y i)]) M)) (reC (rowOf (fun i => [Value.complex .f64 (c i) (d i)]) N)) (imC (rowOf (fun i => [Value.complex .f64 (c i) (d i)]) N)) o n m = dtI x y c d o n m := sumC_congr fun i hi => by
    obtain ⟨k1, k2, k3, k4⟩ := e i hi
    unfold atTi; simp only [k1, k2, k3, k4]
  rw [e1, e2]
/-! ### Peak -/
theorem pkF_step {v : Nat → Nat} {i : Nat} (hs : feq (v i) (v i) = true) : pkF v (i + 1) = bif decide ((pkF v i).1 < 0) || fgt (v i) (pkF v i).2 then (iN i, v i) else pkF v i := by
  show (bif decide ((pkF v i).1 < 0) || fgt (v i) (pkF v i).2 then (iN i, bif feq (v i) (v i) then v i else negInf) else pkF v i) = _
  rw [hs]; rfl
theorem peak_small (opn : Option Nat) (a b : Nat → Nat) (M n cap : Nat) (hm : n ≤ M) (hn : n ≤ 16384) (hf : ∀ i, i < n → feq (ab2 (a i) (b i)) (ab2 (a i) (b i)) = true) :
    CallR Try.prog false 110 [.slice (some ⟨0, 0, some 1⟩) n cap] [.row (rowOf (fun i => [.complex .f64 (a i) (b i)]) M) false opn] (.int .i64 (pkF (fun i => ab2 (a i) (b i)) n).1) [.row (rowOf (fun i => [.complex .f64 (a i) (b i)]) M) false opn] := by
  refine pcA_p0 opn a b M n cap hm hn _ (pkF (fun i => ab2 (a i) (b i)) n).2 (fun hst => ?_)
  have h : Sim dLJb 1 (.loop (loopOf Try.f110 0)) (pcFr n cap (-1) negInf 0) [.row (rowOf (fun i => [.complex .f64 (a i) (b i)]) M) false opn] (.exit 0) (pcFr n cap (pkF (fun i => ab2 (a i) (b i)) n).1 (pkF (fun i => ab2 (a i) (b i)) n).2 n) [.row (rowOf (fun i => [.complex .f64 (a i) (b i)]) M) false opn] :=
    Sim.loop (fun k => (pcFr n cap (pkF (fun i => ab2 (a i) (b i)) k).1 (pkF (fun i => ab2 (a i) (b i)) k).2 k, [AObj.row (rowOf (fun i => [.complex .f64 (a i) (b i)]) M) false opn])) n
      (fun k hk => by
        have f1 := hf k hk
        have st := pkF_step (v := fun i => ab2 (a i) (b i)) f1
        show Sim _ _ _ (pcFr n cap (pkF (fun i => ab2 (a i) (b i)) k).1 (pkF (fun i => ab2 (a i) (b i)) k).2 k) _ _ (pcFr n cap (pkF (fun i => ab2 (a i) (b i)) (k + 1)).1 (pkF (fun i => ab2 (a i) (b i)) (k + 1)).2 (k + 1)) _
        rw [st]
        generalize (pkF (fun i => ab2 (a i) (b i)) k) = q at *
        obtain ⟨be, mo⟩ := q
        by_cases hb : be < 0
        · simp only [decide_eq_true hb, Bool.true_or, cond_true]
          exact (pc0_p0 opn a b M n cap hm hn be mo k hk hb f1 hst).cast (by kernel_rfl) (by kernel_rfl) (by kernel_rfl) (by kernel_rfl)
        · simp only [decide_eq_false hb, Bool.false_or]
          cases hc : fgt (ab2 (a k) (b k)) mo
          · rw [cond_false]
            exact (pc2_p0 opn a b M n cap hm hn be mo k hk (by omega) hc hst).cast (by kernel_rfl) (by kernel_rfl) (by kernel_rfl) (by kernel_rfl)
          · rw [cond_true]
            exact (pc1_p0 opn a b M n cap hm hn be mo k hk (by omega) hc f1 hst).cast (by kernel_rfl) (by kernel_rfl) (by kernel_rfl) (by kernel_rfl))
      ((pcE_p0 opn a b M n cap hm hn (pkF (fun i => ab2 (a i) (b i)) n).1 (pkF (fun i => ab2 (a i) (b i)) n).2 hst).cast (by kernel_rfl) (by kernel_rfl) (by kernel_rfl) (by kernel_rfl)) rfl
  exact (h.enter ([false, false, false, true, true, false, false, false, false, true, true, true] ++ List.replicate 20 false) (by kernel_rfl)).cast rfl rfl (by kernel_rfl) rfl
def PeakP (vs : List Value) (n : Nat) : Prop := vs.all isCo = true ∧ n ≤ vs.length ∧ n ≤ 16384 ∧ ∀ i, i < n → feq (ab2 (reC vs i) (imC vs i)) (ab2 (reC vs i) (imC vs i)) = true
open Classical in
noncomputable def sPeak : HeapFn
  | [.slice (some ⟨b, 0, some 1⟩) n cap], σ =>
    match σ[b]? with
    | some (.row vs _ _) => if PeakP vs n then some (.int .i64 (pkF (fun i => ab2 (reC vs i) (imC vs i)) n).1, σ) else none
    | _ => none
  | _, _ => none
theorem sPeak_ok : IsHeap Try.prog false 110 true sPeak := by
  have key : ∀ (args : List Value) (σ : AHeap) (v : Value) (σ' : AHeap), sPeak args σ = some (v, σ') → ∃ b n cap vs rw' opn, args = [.slice (some ⟨b, 0, some 1⟩) n cap] ∧ σ[b]? = some (.row vs rw' opn) ∧ PeakP vs n ∧ v = .int .i64 (pkF (fun i => ab2 (reC vs i) (imC vs i)) n).1 ∧ σ' = σ := by
    intro args σ v σ' h
    unfold sPeak at h
    split at h
    · rename_i b n cap
      split at h
      · rename_i vs rw' opn hb
        split at h
        · rename_i hc
          cases h
          exact ⟨b, n, cap, vs, rw', opn, rfl, hb, hc, rfl, rfl⟩
        · cases h
      · cases h
    · cases h
  refine ⟨fun args σ v σ' h => ?_, fun _ args σ v σ' h => ?_, fun args σ v σ' h => ?_⟩
  · obtain ⟨b, n, cap, vs, rw', opn, rfl, hb, ⟨c1, c2, c3, c4⟩, rfl, rfl⟩ := key args σ v σ' h
    have hs := peak_small opn (reC vs) (imC vs) vs.length n cap c2 c3 c4
    rw [coRow c1] at hs
    exact CallR.frameQ (reads_one hb (isCo_plain c1)) rfl hs rfl
  · obtain ⟨b, n, cap, vs, rw', opn, rfl, hb, _, rfl, rfl⟩ := key args σ v σ' h; rfl
  · obtain ⟨b, n, cap, vs, rw', opn, rfl, hb, _, rfl, rfl⟩ := key args σ v σ' h; exact Nat.le_refl _
theorem pkF_congr {v w : Nat → Nat} : ∀ {n : Nat}, (∀ i, i < n → v i = w i) → pkF v n = pkF w n
  | 0, _ => rfl
  | n + 1, h => by
    show (bif decide ((pkF v n).1 < 0) || fgt (v n) (pkF v n).2 then (iN n, bif feq (v n) (v n) then v n else negInf) else pkF v n) = (bif decide ((pkF w n).1 < 0) || fgt (w n) (pkF w n).2 then (iN n, bif feq (w n) (w n) then w n else negInf) else pkF w n)
    rw [pkF_congr fun i hi => h i (by omega), h n (by omega)]
theorem sPeak_row {x y : Nat → Nat} {M n cap bl : Nat} {rw' : Bool} {opn : Option Nat} {σ : AHeap} (hσ : σ[bl]? = some (.row (rowOf (fun i => [.complex .f64 (x i) (y i)]) M) rw' opn)) (hn : n ≤ M) (h4 : n ≤ 16384) (hf : ∀ i, i < n → feq (ab2 (x i) (y i)) (ab2 (x i) (y i)) = true) :
    sPeak [.slice (some ⟨bl, 0, some 1⟩) n cap] σ = some (.int .i64 (pkF (fun i => ab2 (x i) (y i)) n).1, σ) := by
  have hlen := rowOf_len (f := fun i => [Value.complex .f64 (x i) (y i)]) (s := 1) (fun _ => rfl) M
  rw [Nat.mul_one] at hlen
  have e : ∀ i, i < n → ab2 (reC (rowOf (fun i => [Value.complex .f64 (x i) (y i)]) M) i) (imC (rowOf (fun i => [Value.complex .f64 (x i) (y i)]) M) i) = ab2 (x i) (y i) := fun i hi => by rw [reC_row (by omega), imC_row (by omega)]
  unfold sPeak
  simp only [hσ]
  rw [if_pos ⟨isCo_row x y M, by omega, h4, fun i hi => by rw [e i hi]; exact hf i hi⟩, pkF_congr e]
end Go.Lk
end

section
/- Scene: Rows: its contract. -/
namespace Go.Lk
open Go.Proofs
set_option maxRecDepth 100000
set_option maxHeartbeats 0
set_option linter.unusedVariables false
set_option linter.unusedSimpArgs false
/-- After j targets. -/
def rwY (r s am tu be : Nat → Nat) (c w0 rt E time : Nat) (y z : Nat → Nat) (dd : Nat → Nat → Nat) (n T R : Nat) : Nat → Nat → Nat
  | 0 => fun _ => 0
  | j + 1 => adY (rwY r s am tu be c w0 rt E time y z dd n T R j) (adA (r j) (s j) (am j) (tu j) (be j) w0 time rt E) (adB (r j) (s j) (am j) (tu j) (be j) w0 time rt E) y z (fun p => p * E + dd j p) n T R
def rwX (r s am tu be : Nat → Nat) (c w0 rt E time : Nat) (y z : Nat → Nat) (dd : Nat → Nat → Nat) (n T R : Nat) : Nat → Nat → Nat
  | 0 => fun _ => 0
  | j + 1 => adX (rwX r s am tu be c w0 rt E time y z dd n T R j) (adA (r j) (s j) (am j) (tu j) (be j) w0 time rt E) (adB (r j) (s j) (am j) (tu j) (be j) w0 time rt E) y z (fun p => p * E + dd j p) n T R
theorem isFin_0 : isFin 0 = true := by decide
theorem sBlank_at {c w r E R : Nat} {σ : AHeap} (h0 : 0 < E) (hE : E ≤ 16384) (hR0 : 0 < R) (hR : R ≤ 256) (hRE : R * E ≤ 262144) :
    sBlank [.agg #[.float .f64 c, .float .f64 w, .float .f64 r, .int .i64 (iN E), .int .i64 (iN R)]] σ = some (.tuple #[.slice (some ⟨σ.length + 1, 0, some 1⟩) R R, .slice (some ⟨σ.length, 0, some 1⟩) (R * E) (R * E)], σ ++ [idAll R E, .row (rowOf (blG σ.length E) R) true none]) := by
  have eE : (iN E).toNat = E := by rw [iN_eq]; rfl
  have eR : (iN R).toNat = R := by rw [iN_eq]; rfl
  have hc : (decide (0 < iN E) && (decide (iN E ≤ 16384) && (decide (0 < iN R) && (decide (iN R ≤ 256) && decide ((iN R).toNat * (iN E).toNat ≤ 262144))))) = true := by
    rw [eE, eR, iN_eq, iN_eq, decide_eq_true (by omega), decide_eq_true (by omega), decide_eq_true (by omega), decide_eq_true (by omega), decide_eq_true hRE]; rfl
  show (bif (decide (0 < iN E) && (decide (iN E ≤ 16384) && (decide (0 < iN R) && (decide (iN R ≤ 256) && decide ((iN R).toNat * (iN E).toNat ≤ 262144))))) then
      some (Value.tuple #[.slice (some ⟨σ.length + 1, 0, some 1⟩) (iN R).toNat (iN R).toNat, .slice (some ⟨σ.length, 0, some 1⟩) ((iN R).toNat * (iN E).toNat) ((iN R).toNat * (iN E).toNat)], σ ++ [idAll (iN R).toNat (iN E).toNat, .row (rowOf (blG σ.length (iN E).toNat) (iN R).toNat) true none]) else none) = _
  rw [hc, cond_true, eE, eR]
section
variable (opn opn2 : Option Nat) (y z : Nat → Nat) (N : Nat) (r s am tu be : Nat → Nat) (M c w rt E R n cap m cap2 time : Nat) (seed : Int) (T : Nat) (hn : n ≤ N) (hm : m ≤ M) (hE : E ≤ 16384) (hR : R ≤ 256) (hnl : n ≤ 16384) (hml : m ≤ 256)
  (h0 : 0 < E) (hR0 : 0 < R) (hRE : R * E ≤ 262144) (hT : T = R * E) (dd : Nat → Nat → Nat) (ht : isFin time = true)
  (hf : ∀ j, j < m → isFin (r j) = true ∧ isFin (s j) = true ∧ isFin (am j) = true ∧ isFin (tu j) = true)
  (hd : ∀ j, j < m → ∀ p, p < R → AdP (r j) (s j) (am j) (tu j) (be j) c time rt E p (dd j p))
def rwB0 (opn : Option Nat) (y z : Nat → Nat) (N : Nat) : AObj := .row (rowOf (fun i => [.complex .f64 (y i) (z i)]) N) false opn
def rwB1 (opn2 : Option Nat) (r s am tu be : Nat → Nat) (M : Nat) : AObj := .row (rowOf (fun j => [.float .f64 (r j), .float .f64 (s j), .float .f64 (am j), .float .f64 (tu j), .float .f64 (be j)]) M) false opn2
def rwF (time : Nat) : AObj := .row [.float .f64 time, .float .f64 0] true none
def rwFr0 (n cap m cap2 time : Nat) (seed : Int) (k : Nat) : List Value := [undef, .slice (some ⟨0, 0, some 1⟩) n cap, .slice (some ⟨1, 0, some 5⟩) m cap2, .float .f64 time, .float .f64 0, .int .u64 seed, .pointer (some ⟨2, 0, none⟩)] ++ List.replicate 5 undef ++ [.slice none 0 0, .int .i64 0, undef, .bool true] ++ List.replicate 25 undef ++ [.slice (some ⟨1, 0, some 5⟩) m cap2, .int .i64 (iN m), .int .i64 (iN k)] ++ List.replicate 59 undef
def rwFr1 (R T m cap2 : Nat) (seed : Int) (j : Nat) : List Value := [undef, undef, .slice (some ⟨1, 0, some 5⟩) m cap2, undef, .float .f64 0, .int .u64 seed, .pointer (some ⟨2, 0, none⟩)] ++ List.replicate 5 undef ++ [.slice none 0 0, .int .i64 0] ++ List.replicate 4 undef ++ [.slice (some ⟨5, 0, some 1⟩) R R, .slice (some ⟨4, 0, some 1⟩) T T, .func (.func 198) #[] #[.pointer (some ⟨6, 0, none⟩), .pointer (some ⟨8, 0, none⟩), .pointer (some ⟨7, 0, none⟩), .pointer (some ⟨9, 0, none⟩)]] ++ List.replicate 52 undef ++ [.slice (some ⟨1, 0, some 5⟩) m cap2, .int .i64 (iN m), .int .i64 (iN j)] ++ List.replicate 27 undef
include hn hm hE hR hnl hml hf in
theorem rw_fin (hst : Stood false [rwB0 opn y z N, rwB1 opn2 r s am tu be M]) :
    Sim dLRo 4 (.loop (loopOf Try.f105 0)) (rwFr0 n cap m cap2 time seed 0) [rwB0 opn y z N, rwB1 opn2 r s am tu be M, .row (jfBV c w rt E R) true none, rwF time] (.exit 0) (rwFr0 n cap m cap2 time seed m) [rwB0 opn y z N, rwB1 opn2 r s am tu be M, .row (jfBV c w rt E R) true none, rwF time] :=
  Sim.loop (fun k => (rwFr0 n cap m cap2 time seed k, [rwB0 opn y z N, rwB1 opn2 r s am tu be M, .row (jfBV c w rt E R) true none, rwF time])) m
    (fun k hk => by
      obtain ⟨f1, f2, f3, f4⟩ := hf k hk
      have h4 : sFinS [.slice (some ⟨5, 0, some 1⟩) 4 4] [rwB0 opn y z N, rwB1 opn2 r s am tu be M, .row (jfBV c w rt E R) true none, rwF time, jfT (r k) (s k) (am k) (tu k) (be k), .row [.float .f64 (r k), .float .f64 (s k), .float .f64 (am k), .float .f64 (tu k)] true none] = some (.bool true, [rwB0 opn y z N, rwB1 opn2 r s am tu be M, .row (jfBV c w rt E R) true none, rwF time, jfT (r k) (s k) (am k) (tu k) (be k), .row [.float .f64 (r k), .float .f64 (s k), .float .f64 (am k), .float .f64 (tu k)] true none]) :=
        sFinS_row (M := 4) (x := fun i => match i with | 0 => r k | 1 => s k | 2 => am k | _ => tu k) rfl (by omega) (by omega) (fun i hi => by
          match i, hi with
          | 0, _ => exact f1
          | 1, _ => exact f2
          | 2, _ => exact f3
          | 3, _ => exact f4)
      exact (roA_p0 opn opn2 y z N r s am tu be M c w rt E R n cap m cap2 time seed 0 hn hm hE hR hnl hml k hk h4 hst).cast (by kernel_rfl) (by kernel_rfl) (by kernel_rfl) (by kernel_rfl))
    ((roAE_p0 opn opn2 y z N r s am tu be M c w rt E R n cap m cap2 time seed 0 hn hm hE hR hnl hml hst).cast (by kernel_rfl) (by kernel_rfl) (by kernel_rfl) (by kernel_rfl)) rfl
include hn hm hE hR hnl hml h0 hRE hT hd in
theorem rw_add (hst : Stood false [rwB0 opn y z N, rwB1 opn2 r s am tu be M]) :
    Sim dLRo 10 (.loop (loopOf Try.f105 1)) (rwFr1 R T m cap2 seed 0) (jfH opn y z N (rwB1 opn2 r s am tu be M) (rwF time) c w rt E R T time n cap (fun _ => 0) (fun _ => 0) []) (.exit 2) (rwFr1 R T m cap2 seed m)
      (jfH opn y z N (rwB1 opn2 r s am tu be M) (rwF time) c w rt E R T time n cap (rwY r s am tu be c w rt E time y z dd n T R m) (rwX r s am tu be c w rt E time y z dd n T R m) []) :=
  Sim.loop (fun j => (rwFr1 R T m cap2 seed j, jfH opn y z N (rwB1 opn2 r s am tu be M) (rwF time) c w rt E R T time n cap (rwY r s am tu be c w rt E time y z dd n T R j) (rwX r s am tu be c w rt E time y z dd n T R j) [])) m
    (fun j hj => by
      have hc := jf_call opn (rwB1 opn2 r s am tu be M) (rowOf_all (fun _ => rfl) M) (rwF time) (show List.all _ plain = true from rfl) y z N n cap (r j) (s j) (am j) (tu j) (be j) c w rt E R T time hn hnl h0 hE hR (by omega) (rwY r s am tu be c w rt E time y z dd n T R j) (rwX r s am tu be c w rt E time y z dd n T R j) (dd j) hRE (hd j hj)
      have hs := roB_p0 _ (oneF_ok 198 _ _ _ _) opn opn2 y z N r s am tu be M c w rt E R n cap m cap2 time seed T hn hm hE hR hnl hml (rwY r s am tu be c w rt E time y z dd n T R j) (rwX r s am tu be c w rt E time y z dd n T R j) (rwY r s am tu be c w rt E time y z dd n T R (j + 1)) (rwX r s am tu be c w rt E time y z dd n T R (j + 1)) j hj (oneF_at hc (Nat.le_of_ble_eq_true (by kernel_rfl))) hst
      exact ((Sim.cfg (C' := dLRo) rfl rfl hs).cast (by kernel_rfl) (by kernel_rfl) (by kernel_rfl) (by kernel_rfl)))
    ((roBE_p0 opn opn2 y z N r s am tu be M c w rt E R n cap m cap2 time seed T hn hm hE hR hnl hml (rwY r s am tu be c w rt E time y z dd n T R m) (rwX r s am tu be c w rt E time y z dd n T R m) hst).cast (by kernel_rfl) (by kernel_rfl) (by kernel_rfl) (by kernel_rfl)) rfl
include hn hm hE hR hnl hml h0 hRE hT hd ht hf hR0 in
theorem rows_small (hn0 : 0 < n) (hck : iaCheck_0 c w rt (iN E) (iN R) = 0) (hmn : m * R * n ≤ 16777216) :
    CallR Try.prog false 105 [.agg #[.float .f64 c, .float .f64 w, .float .f64 rt, .int .i64 (iN E), .int .i64 (iN R)], .slice (some ⟨0, 0, some 1⟩) n cap, .slice (some ⟨1, 0, some 5⟩) m cap2, .float .f64 time, .float .f64 0, .int .u64 seed] [rwB0 opn y z N, rwB1 opn2 r s am tu be M]
      (.tuple #[.slice (some ⟨5, 0, some 1⟩) R R, .int .i64 0]) (jfH opn y z N (rwB1 opn2 r s am tu be M) (rwF time) c w rt E R T time n cap (rwY r s am tu be c w rt E time y z dd n T R m) (rwX r s am tu be c w rt E time y z dd n T R m) []) := by
  have hTT : T ≤ 262144 := by omega
  refine roP_p0 opn opn2 y z N r s am tu be M c w rt E R n cap m cap2 time seed T hn hm hE hR hnl hml (rwY r s am tu be c w rt E time y z dd n T R m) (rwX r s am tu be c w rt E time y z dd n T R m) ?_ ?_ ?_ ?_ ?_ ?_
  · intro hst
    have h := rw_add opn opn2 y z N r s am tu be M c w rt E R n cap m cap2 time seed T hn hm hE hR hnl hml h0 hRE hT dd hd hst
    exact (h.enter ([false, false, true, false, true, true, true] ++ List.replicate 5 false ++ [true, true] ++ List.replicate 4 false ++ [true, true, true] ++ List.replicate 52 false ++ [true, true, true] ++ List.replicate 27 false) (by kernel_rfl)).cast rfl (by kernel_rfl) (by kernel_rfl) (by kernel_rfl)
  · unfold sAdder; kernel_rfl
  · rw [hT]
    exact sBlank_at (σ := [rwB0 opn y z N, rwB1 opn2 r s am tu be M, .row (jfBV c w rt E R) true none, rwF time]) h0 hE hR0 hR hRE
  · intro hst
    have h := rw_fin opn opn2 y z N r s am tu be M c w rt E R n cap m cap2 time seed hn hm hE hR hnl hml hf hst
    exact (h.enter ([false, true, true, true, true, true, true] ++ List.replicate 5 false ++ [true, true, false, true] ++ List.replicate 25 false ++ [true, true, true] ++ List.replicate 59 false) (by kernel_rfl)).cast rfl (by kernel_rfl) (by kernel_rfl) (by kernel_rfl)
  · exact sFinS_row (σ := [rwB0 opn y z N, rwB1 opn2 r s am tu be M, .row (jfBV c w rt E R) true none, rwF time]) (b := 3) (M := 2) (x := fun i => match i with | 0 => time | _ => 0) rfl (by omega) (by omega) (fun i hi => by
      match i, hi with
      | 0, _ => exact ht
      | 1, _ => exact isFin_0)
  · refine sRefused_at (σ := [rwB0 opn y z N, rwB1 opn2 r s am tu be M, .row (jfBV c w rt E R) true none]) (b := 0) rfl hck hn0 hnl (by rw [iN_eq]; omega) ?_
    have a1 : m * R ≤ 256 * 256 := Nat.mul_le_mul hml hR
    have e1 : iN m * iN R = iN (m * R) := iN_mul m R
    have e2 : iN (m * R) * iN n = iN (m * R * n) := iN_mul (m * R) n
    have w1 : IntKind.i64.wrap (iN (m * R)) = iN (m * R) := i64_wrap ⟨by rw [iN_eq]; omega, by rw [iN_eq]; omega⟩
    have w2 : IntKind.i64.wrap (iN (m * R * n)) = iN (m * R * n) := i64_wrap ⟨by rw [iN_eq]; omega, by rw [iN_eq]; omega⟩
    rw [e1, w1, e2, w2, iN_eq]
    omega
include hn hm hE hR hnl hml h0 hRE hT hd ht hf hR0 in
theorem rows_any (hn0 : 0 < n) (hck : iaCheck_0 c w rt (iN E) (iN R) = 0) (hmn : m * R * n ≤ 16777216) {σ : AHeap} {b b2 : Nat} {rw1 rw2 : Bool} (hb : σ[b]? = some (.row (rowOf (fun i => [.complex .f64 (y i) (z i)]) N) rw1 opn)) (hb2 : σ[b2]? = some (.row (rowOf (fun j => [.float .f64 (r j), .float .f64 (s j), .float .f64 (am j), .float .f64 (tu j), .float .f64 (be j)]) M) rw2 opn2)) :
    CallR Try.prog false 105 [.agg #[.float .f64 c, .float .f64 w, .float .f64 rt, .int .i64 (iN E), .int .i64 (iN R)], .slice (some ⟨b, 0, some 1⟩) n cap, .slice (some ⟨b2, 0, some 5⟩) m cap2, .float .f64 time, .float .f64 0, .int .u64 seed] σ
      (.tuple #[.slice (some ⟨σ.length + 1, 0, some 1⟩) R R, .int .i64 0]) (σ ++ [.row (rowOf (fun i => [.complex .f64 (rwY r s am tu be c w rt E time y z dd n T R m i) (rwX r s am tu be c w rt E time y z dd n T R m i)]) T) true none, .row (rowOf (blG σ.length E) R) true none]) := by
  have hs := rows_small opn opn2 y z N r s am tu be M c w rt E R n cap m cap2 time seed T hn hm hE hR hnl hml h0 hR0 hRE hT dd ht hf hd hn0 hck hmn
  generalize rwY r s am tu be c w rt E time y z dd n T R m = u at *
  generalize rwX r s am tu be c w rt E time y z dd n T R m = v at *
  refine CallR.frameA (q := fun b => if b = σ.length then 4 else if b = σ.length + 1 then 5 else b + 10) (ks := fun j => j + 4) (reads_two hb hb2 (rowOf_all (fun _ => rfl) N) (rowOf_all (fun _ => rfl) M)) rfl hs ?_ (fun j j' _ _ h => by omega) ?_ ?_ ?_
  · intro j o ho
    match j, ho with
    | 0, ho =>
      cases ho
      refine ⟨_, _, rfl, ?_⟩
      rw [rowOf_map]; rfl
    | 1, ho =>
      cases ho
      refine ⟨_, _, rfl, ?_⟩
      rw [rowOf_map]
      have : rowOf (fun i => (blG σ.length E i).map (renV (fun b => if b = σ.length then 4 else if b = σ.length + 1 then 5 else b + 10) 3)) R = rowOf (blG 4 E) R := rowOf_congr fun i _ => by
        unfold blG
        simp [renV]
      rw [this]; rfl
    | j + 2, ho => simp at ho
  · intro j hj
    have : j < 2 := hj
    match j, this with
    | 0, _ => simp
    | 1, _ => simp
  · intro b hb
    have hb' : b < σ.length ∨ σ.length + 2 ≤ b := hb
    show 10 ≤ if b = σ.length then 4 else if b = σ.length + 1 then 5 else b + 10
    rw [if_neg (by omega), if_neg (by omega)]; omega
  · simp [renV]
end
end Go.Lk
end

section
/- Scene: Echo: its path. -/
namespace Go.Lk
open Go.Proofs
set_option maxRecDepth 100000
set_option maxHeartbeats 0
set_option linter.unusedVariables false
set_option linter.unusedSimpArgs false
-- closed rows
-- no trees
-- ARGS g105 [.agg #[.float .f64 c, .float .f64 w, .float .f64 rt, .int .i64 (iN E), .int .i64 (iN R)], .slice (some ⟨0, 0, some 1⟩) n cap, .slice (some ⟨3, 0, some 5⟩) 1 1, .float .f64 time, .float .f64 0, .int .u64 0]
noncomputable def LEc (g105 : HeapFn) : Lib := ⟨Try.prog, false, (tjh.addH 105 false g105), [], []⟩
theorem LEc_ok (g105 : HeapFn) (hg105 : IsHeap Try.prog false 105 false g105) : (LEc g105).Ok := ⟨(Tab.Ok.addH tjh_ok hg105), mixed, fs_nil, gs_nil, fun _ _ => by kernel_rfl, fun _ _ => by kernel_rfl⟩
noncomputable def dEc (g105 : HeapFn) : Cfg := (LEc g105).cfg 100 4
theorem dEc_ok (g105 : HeapFn) (hg105 : IsHeap Try.prog false 105 false g105) : (dEc g105).Ok := (LEc_ok g105 hg105).cfg 100 4
theorem ecP_fok {g105 : HeapFn} : fnOkX ((dEc g105)) [] Try.f103 = true := by kernel_rfl
theorem ecP_p0 (g105 : HeapFn) (hg105 : IsHeap Try.prog false 105 false g105) (opn : Option Nat) (y : Nat → Nat) (z : Nat → Nat) (N : Nat) (n : Nat) (cap : Nat) (r : Nat) (s : Nat) (am : Nat) (tu : Nat) (be : Nat) (c : Nat) (w : Nat) (rt : Nat) (E : Nat) (R : Nat) (T : Nat) (time : Nat) (u : Nat → Nat) (v : Nat → Nat) (s0 : g105 [.agg #[.float .f64 c, .float .f64 w, .float .f64 rt, .int .i64 (iN E), .int .i64 (iN R)], .slice (some ⟨0, 0, some 1⟩) n cap, .slice (some ⟨3, 0, some 5⟩) 1 1, .float .f64 time, .float .f64 0, .int .u64 0] [AObj.row (rowOf (fun i => [Value.complex .f64 (y i) (z i)]) N) false opn, AObj.row [Value.float .f64 c, Value.float .f64 w, Value.float .f64 rt, Value.int .i64 (iN E), Value.int .i64 (iN R)] true none, AObj.row [Value.float .f64 r, Value.float .f64 s, Value.float .f64 am, Value.float .f64 tu, Value.float .f64 be] true none, AObj.row [Value.float .f64 r, Value.float .f64 s, Value.float .f64 am, Value.float .f64 tu, Value.float .f64 be] true none] = some (Value.tuple #[Value.slice (some ⟨5, 0, some 1⟩) R R, Value.int .i64 0], [AObj.row (rowOf (fun i => [Value.complex .f64 (y i) (z i)]) N) false opn, AObj.row [Value.float .f64 c, Value.float .f64 w, Value.float .f64 rt, Value.int .i64 (iN E), Value.int .i64 (iN R)] true none, AObj.row [Value.float .f64 r, Value.float .f64 s, Value.float .f64 am, Value.float .f64 tu, Value.float .f64 be] true none, AObj.row [Value.float .f64 r, Value.float .f64 s, Value.float .f64 am, Value.float .f64 tu, Value.float .f64 be] true none, AObj.row (rowOf (fun i => [Value.complex .f64 (u i) (v i)]) T) true none, AObj.row (rowOf (blG 4 E) R) true none])) (s1 : sRefused ([Value.agg { toList := [Value.float .f64 c, Value.float .f64 w, Value.float .f64 rt, Value.int .i64 (iN E), Value.int .i64 (iN R)] }, Value.slice (some ⟨0, 0, some 1⟩) n cap, Value.int .i64 (Int.ofNat 1)]) ([AObj.row (rowOf (fun i => [Value.complex .f64 (y i) (z i)]) N) false opn, AObj.row [Value.float .f64 c, Value.float .f64 w, Value.float .f64 rt, Value.int .i64 (iN E), Value.int .i64 (iN R)] true none, AObj.row [Value.float .f64 r, Value.float .f64 s, Value.float .f64 am, Value.float .f64 tu, Value.float .f64 be] true none]) = some (Value.int .i64 0, [AObj.row (rowOf (fun i => [Value.complex .f64 (y i) (z i)]) N) false opn, AObj.row [Value.float .f64 c, Value.float .f64 w, Value.float .f64 rt, Value.int .i64 (iN E), Value.int .i64 (iN R)] true none, AObj.row [Value.float .f64 r, Value.float .f64 s, Value.float .f64 am, Value.float .f64 tu, Value.float .f64 be] true none])) : CallR Try.prog false 103 ([Value.agg { toList := [Value.float .f64 c, Value.float .f64 w, Value.float .f64 rt, Value.int .i64 (iN E), Value.int .i64 (iN R)] }, Value.slice (some ⟨0, 0, some 1⟩) n cap, Value.agg { toList := [Value.float .f64 r, Value.float .f64 s, Value.float .f64 am, Value.float .f64 tu, Value.float .f64 be] }, Value.float .f64 time]) ([AObj.row (rowOf (fun i => [Value.complex .f64 (y i) (z i)]) N) false opn]) (Value.tuple { toList := [Value.slice (some ⟨5, 0, some 1⟩) R R, Value.int .i64 (Int.ofNat 0)] }) ([AObj.row (rowOf (fun i => [Value.complex .f64 (y i) (z i)]) N) false opn, AObj.row [Value.float .f64 c, Value.float .f64 w, Value.float .f64 rt, Value.int .i64 (iN E), Value.int .i64 (iN R)] true none, AObj.row [Value.float .f64 r, Value.float .f64 s, Value.float .f64 am, Value.float .f64 tu, Value.float .f64 be] true none, AObj.row [Value.float .f64 r, Value.float .f64 s, Value.float .f64 am, Value.float .f64 tu, Value.float .f64 be] true none, AObj.row (rowOf (fun i => [Value.complex .f64 (u i) (v i)]) T) true none, AObj.row (rowOf (blG 4 E) R) true none]) := CallR.of_DOXs (C := (dEc g105)) (dEc_ok g105 hg105) (X := []) Try.func103 ecP_fok (n := 3) (orc := [(13, Item.eff (Value.int .i64 0) [AObj.row (rowOf (fun i => [Value.complex .f64 (y i) (z i)]) N) false opn, AObj.row [Value.float .f64 c, Value.float .f64 w, Value.float .f64 rt, Value.int .i64 (iN E), Value.int .i64 (iN R)] true none, AObj.row [Value.float .f64 r, Value.float .f64 s, Value.float .f64 am, Value.float .f64 tu, Value.float .f64 be] true none]), (32, Item.eff (Value.tuple #[Value.slice (some ⟨5, 0, some 1⟩) R R, Value.int .i64 0]) [AObj.row (rowOf (fun i => [Value.complex .f64 (y i) (z i)]) N) false opn, AObj.row [Value.float .f64 c, Value.float .f64 w, Value.float .f64 rt, Value.int .i64 (iN E), Value.int .i64 (iN R)] true none, AObj.row [Value.float .f64 r, Value.float .f64 s, Value.float .f64 am, Value.float .f64 tu, Value.float .f64 be] true none, AObj.row [Value.float .f64 r, Value.float .f64 s, Value.float .f64 am, Value.float .f64 tu, Value.float .f64 be] true none, AObj.row (rowOf (fun i => [Value.complex .f64 (u i) (v i)]) T) true none, AObj.row (rowOf (blG 4 E) R) true none])]) (ps := [(sRefused ([Value.agg { toList := [Value.float .f64 c, Value.float .f64 w, Value.float .f64 rt, Value.int .i64 (iN E), Value.int .i64 (iN R)] }, Value.slice (some ⟨0, 0, some 1⟩) n cap, Value.int .i64 (Int.ofNat 1)]) ([AObj.row (rowOf (fun i => [Value.complex .f64 (y i) (z i)]) N) false opn, AObj.row [Value.float .f64 c, Value.float .f64 w, Value.float .f64 rt, Value.int .i64 (iN E), Value.int .i64 (iN R)] true none, AObj.row [Value.float .f64 r, Value.float .f64 s, Value.float .f64 am, Value.float .f64 tu, Value.float .f64 be] true none]) = some (Value.int .i64 0, [AObj.row (rowOf (fun i => [Value.complex .f64 (y i) (z i)]) N) false opn, AObj.row [Value.float .f64 c, Value.float .f64 w, Value.float .f64 rt, Value.int .i64 (iN E), Value.int .i64 (iN R)] true none, AObj.row [Value.float .f64 r, Value.float .f64 s, Value.float .f64 am, Value.float .f64 tu, Value.float .f64 be] true none])), (g105 [.agg #[.float .f64 c, .float .f64 w, .float .f64 rt, .int .i64 (iN E), .int .i64 (iN R)], .slice (some ⟨0, 0, some 1⟩) n cap, .slice (some ⟨3, 0, some 5⟩) 1 1, .float .f64 time, .float .f64 0, .int .u64 0] [AObj.row (rowOf (fun i => [Value.complex .f64 (y i) (z i)]) N) false opn, AObj.row [Value.float .f64 c, Value.float .f64 w, Value.float .f64 rt, Value.int .i64 (iN E), Value.int .i64 (iN R)] true none, AObj.row [Value.float .f64 r, Value.float .f64 s, Value.float .f64 am, Value.float .f64 tu, Value.float .f64 be] true none, AObj.row [Value.float .f64 r, Value.float .f64 s, Value.float .f64 am, Value.float .f64 tu, Value.float .f64 be] true none] = some (Value.tuple #[Value.slice (some ⟨5, 0, some 1⟩) R R, Value.int .i64 0], [AObj.row (rowOf (fun i => [Value.complex .f64 (y i) (z i)]) N) false opn, AObj.row [Value.float .f64 c, Value.float .f64 w, Value.float .f64 rt, Value.int .i64 (iN E), Value.int .i64 (iN R)] true none, AObj.row [Value.float .f64 r, Value.float .f64 s, Value.float .f64 am, Value.float .f64 tu, Value.float .f64 be] true none, AObj.row [Value.float .f64 r, Value.float .f64 s, Value.float .f64 am, Value.float .f64 tu, Value.float .f64 be] true none, AObj.row (rowOf (fun i => [Value.complex .f64 (u i) (v i)]) T) true none, AObj.row (rowOf (blG 4 E) R) true none]))]) (by kernel_rfl) (fun hst => ⟨s1, ⟨s0, trivial⟩⟩)
end Go.Lk
end

section
/- Scene: Echo: its contract. -/
namespace Go.Lk
open Go.Proofs
set_option maxRecDepth 100000
set_option maxHeartbeats 0
set_option linter.unusedVariables false
set_option linter.unusedSimpArgs false
def eoY (r s am tu be c w0 rt E time : Nat) (y z : Nat → Nat) (dd : Nat → Nat) (n T R : Nat) : Nat → Nat := adY (fun _ => 0) (adA r s am tu be w0 time rt E) (adB r s am tu be w0 time rt E) y z (fun p => p * E + dd p) n T R
def eoX (r s am tu be c w0 rt E time : Nat) (y z : Nat → Nat) (dd : Nat → Nat) (n T R : Nat) : Nat → Nat := adX (fun _ => 0) (adA r s am tu be w0 time rt E) (adB r s am tu be w0 time rt E) y z (fun p => p * E + dd p) n T R
section
variable (opn : Option Nat) (y z : Nat → Nat) (N n cap r s am tu be c w rt E R T time : Nat) (hn : n ≤ N) (hE : E ≤ 16384) (hR : R ≤ 256) (hnl : n ≤ 16384)
  (h0 : 0 < E) (hR0 : 0 < R) (hRE : R * E ≤ 262144) (hT : T = R * E) (dd : Nat → Nat) (ht : isFin time = true)
  (hf : isFin r = true ∧ isFin s = true ∧ isFin am = true ∧ isFin tu = true)
  (hd : ∀ p, p < R → AdP r s am tu be c time rt E p (dd p))
include hn hE hR hnl h0 hRE hT hd ht hf hR0
theorem echo_small (hn0 : 0 < n) (hck : iaCheck_0 c w rt (iN E) (iN R) = 0) (hmn : R * n ≤ 16777216) :
    CallR Try.prog false 103 [.agg #[.float .f64 c, .float .f64 w, .float .f64 rt, .int .i64 (iN E), .int .i64 (iN R)], .slice (some ⟨0, 0, some 1⟩) n cap, .agg #[.float .f64 r, .float .f64 s, .float .f64 am, .float .f64 tu, .float .f64 be], .float .f64 time] [.row (rowOf (fun i => [.complex .f64 (y i) (z i)]) N) false opn]
      (.tuple #[.slice (some ⟨5, 0, some 1⟩) R R, .int .i64 0])
      [.row (rowOf (fun i => [.complex .f64 (y i) (z i)]) N) false opn, .row (jfBV c w rt E R) true none, jfT r s am tu be, jfT r s am tu be, .row (rowOf (fun i => [.complex .f64 (eoY r s am tu be c w rt E time y z dd n T R i) (eoX r s am tu be c w rt E time y z dd n T R i)]) T) true none, .row (rowOf (blG 4 E) R) true none] := by
  have hmn' : 1 * R * n ≤ 16777216 := by rw [Nat.one_mul]; exact hmn
  have h := rows_any opn none y z N (fun _ => r) (fun _ => s) (fun _ => am) (fun _ => tu) (fun _ => be) 1 c w rt E R n cap 1 1 time 0 T hn (Nat.le_refl _) hE hR hnl (by omega) h0 hR0 hRE hT (fun _ => dd) ht (fun _ _ => hf) (fun _ _ => hd) hn0 hck hmn'
    (σ := [.row (rowOf (fun i => [.complex .f64 (y i) (z i)]) N) false opn, .row (jfBV c w rt E R) true none, jfT r s am tu be, jfT r s am tu be]) (b := 0) (b2 := 3) (rw1 := false) (rw2 := true) rfl rfl
  refine ecP_p0 _ (oneF_ok 105 _ _ _ _) opn y z N n cap r s am tu be c w rt E R T time (eoY r s am tu be c w rt E time y z dd n T R) (eoX r s am tu be c w rt E time y z dd n T R) (oneF_at h (Nat.le_of_ble_eq_true (by kernel_rfl))) ?_
  refine sRefused_at (σ := [.row (rowOf (fun i => [.complex .f64 (y i) (z i)]) N) false opn, .row (jfBV c w rt E R) true none, jfT r s am tu be]) (b := 0) rfl hck hn0 hnl (by decide) ?_
  have e1 : Int.ofNat 1 * iN R = iN R := Int.one_mul _
  have w1 : IntKind.i64.wrap (iN R) = iN R := i64_wrap ⟨by rw [iN_eq]; omega, by rw [iN_eq]; omega⟩
  have e2 : iN R * iN n = iN (R * n) := iN_mul R n
  have w2 : IntKind.i64.wrap (iN (R * n)) = iN (R * n) := i64_wrap ⟨by rw [iN_eq]; omega, by rw [iN_eq]; omega⟩
  rw [e1, w1, e2, w2, iN_eq]
  omega
theorem echo_any (hn0 : 0 < n) (hck : iaCheck_0 c w rt (iN E) (iN R) = 0) (hmn : R * n ≤ 16777216) {σ : AHeap} {b : Nat} {rw1 : Bool} (hb : σ[b]? = some (.row (rowOf (fun i => [.complex .f64 (y i) (z i)]) N) rw1 opn)) :
    CallR Try.prog false 103 [.agg #[.float .f64 c, .float .f64 w, .float .f64 rt, .int .i64 (iN E), .int .i64 (iN R)], .slice (some ⟨b, 0, some 1⟩) n cap, .agg #[.float .f64 r, .float .f64 s, .float .f64 am, .float .f64 tu, .float .f64 be], .float .f64 time] σ
      (.tuple #[.slice (some ⟨σ.length + 1, 0, some 1⟩) R R, .int .i64 0])
      (σ ++ [.row (rowOf (fun i => [.complex .f64 (eoY r s am tu be c w rt E time y z dd n T R i) (eoX r s am tu be c w rt E time y z dd n T R i)]) T) true none, .row (rowOf (blG σ.length E) R) true none]) := by
  have hs := echo_small opn y z N n cap r s am tu be c w rt E R T time hn hE hR hnl h0 hR0 hRE hT dd ht hf hd hn0 hck hmn
  generalize eoY r s am tu be c w rt E time y z dd n T R = u at *
  generalize eoX r s am tu be c w rt E time y z dd n T R = v at *
  refine CallR.frameA (q := fun b => if b = σ.length then 4 else if b = σ.length + 1 then 5 else b + 6) (ks := fun j => j + 4) (reads_one hb (rowOf_all (fun _ => rfl) N)) rfl hs ?_ (fun j j' _ _ h => by omega) ?_ ?_ ?_
  · intro j o ho
    match j, ho with
    | 0, ho =>
      cases ho
      refine ⟨_, _, rfl, ?_⟩
      rw [rowOf_map]; rfl
    | 1, ho =>
      cases ho
      refine ⟨_, _, rfl, ?_⟩
      rw [rowOf_map]
      have : rowOf (fun i => (blG σ.length E i).map (renV (fun b => if b = σ.length then 4 else if b = σ.length + 1 then 5 else b + 6) 3)) R = rowOf (blG 4 E) R := rowOf_congr fun i _ => by
        unfold blG
        simp [renV]
      rw [this]; rfl
    | j + 2, ho => simp at ho
  · intro j hj
    have : j < 2 := hj
    match j, this with
    | 0, _ => simp
    | 1, _ => simp
  · intro b hb
    have hb' : b < σ.length ∨ σ.length + 2 ≤ b := hb
    show 6 ≤ if b = σ.length then 4 else if b = σ.length + 1 then 5 else b + 6
    rw [if_neg (by omega), if_neg (by omega)]; omega
  · simp [renV]
end
end Go.Lk
end

section
/- Match, of a row that begins somewhere: its rounds. -/
namespace Go.Lk
open Go.Proofs
set_option maxRecDepth 100000
set_option maxHeartbeats 0
set_option linter.unusedVariables false
set_option linter.unusedSimpArgs false
def moFr (o n cap m cap2 k : Nat) : List Value := [.slice (some ⟨0, o, some 1⟩) n cap, .slice (some ⟨1, 0, some 1⟩) m cap2, undef, undef, undef, undef, .slice (some ⟨2, 0, some 1⟩) n n, .slice (some ⟨3, 0, some 1⟩) m m] ++ List.replicate 15 undef ++ [.int .i64 (iN n), .int .i64 (iN k)] ++ List.replicate 12 undef
theorem moR_okX : codeOkX (dLMm) [5] (loopOf Try.f88 0) = true := by kernel_rfl
theorem moR_p0 (opn : Option Nat) (a : Nat → Nat) (b : Nat → Nat) (M : Nat) (opn2 : Option Nat) (c : Nat → Nat) (d : Nat → Nat) (N : Nat) (n : Nat) (cap : Nat) (m : Nat) (cap2 : Nat) (u : Nat → Nat) (v : Nat → Nat) (o : Nat) (hm : o + n ≤ M) (hN : m ≤ N) (hc : n ≤ cap) (hn : n ≤ 16384) (hm2 : m ≤ 16384) (k : Nat) (hk : k < n) (s0 : sAt ([Value.slice (some { block := 0, off := o + k * 1, spot := some 1 }) (n - k) (cap - k), Value.slice (some ⟨3, 0, some 1⟩) m m]) ([AObj.row (rowOf (fun i => [Value.complex .f64 (a i) (b i)]) M) false opn, AObj.row (rowOf (fun i => [Value.complex .f64 (c i) (d i)]) N) false opn2, AObj.row (rowOf (half2 (fun i => [Value.complex .f64 (u i) (v i)]) (fun x => [Value.complex .f64 0 0]) k) n) true none, AObj.row (rowOf (fun i => [Value.complex .f64 (c i) (fneg (d i))]) m) true none]) = some (Value.complex .f64 (u k) (v k), [AObj.row (rowOf (fun i => [Value.complex .f64 (a i) (b i)]) M) false opn, AObj.row (rowOf (fun i => [Value.complex .f64 (c i) (d i)]) N) false opn2, AObj.row (rowOf (half2 (fun i => [Value.complex .f64 (u i) (v i)]) (fun x => [Value.complex .f64 0 0]) k) n) true none, AObj.row (rowOf (fun i => [Value.complex .f64 (c i) (fneg (d i))]) m) true none])) (hst : Stood false ([.row (rowOf (fun i => [.complex .f64 (a i) (b i)]) M) false opn, .row (rowOf (fun i => [.complex .f64 (c i) (d i)]) N) false opn2])) : Sim (dLMm) 4 (loopOf Try.f88 0) ((moFr o n cap m cap2 k)) ([.row (rowOf (fun i => [.complex .f64 (a i) (b i)]) M) false opn, .row (rowOf (fun i => [.complex .f64 (c i) (d i)]) N) false opn2, .row (rowOf (half2 (fun i => [.complex .f64 (u i) (v i)]) (fun _ => [.complex .f64 0 0]) k) n) true none, .row (rowOf (fun i => [.complex .f64 (c i) (fneg (d i))]) m) true none]) .normal ([Value.slice (some ⟨0, o, some 1⟩) n cap, Value.slice (some ⟨1, 0, some 1⟩) m cap2, undef, undef, undef, undef, Value.slice (some ⟨2, 0, some 1⟩) n n, Value.slice (some ⟨3, 0, some 1⟩) m m, undef, undef, undef, undef, undef, undef, undef, undef, undef, undef, undef, undef, undef, undef, undef, Value.int .i64 (iN n), Value.int .i64 (iN (k + 1)), undef, undef, undef, undef, undef, undef, undef, undef, undef, undef, undef, undef]) ([AObj.row (rowOf (fun i => [Value.complex .f64 (a i) (b i)]) M) false opn, AObj.row (rowOf (fun i => [Value.complex .f64 (c i) (d i)]) N) false opn2, AObj.row (rowOf (half2 (fun i => [Value.complex .f64 (u i) (v i)]) (fun x => [Value.complex .f64 0 0]) (k + 1)) n) true none, AObj.row (rowOf (fun i => [Value.complex .f64 (c i) (fneg (d i))]) m) true none]) := Sim.of_roundQ (C := dLMm) dLMm_ok (X := [5]) (n := 3) (orc := [(2, Item.br true), (16, Item.eff (Value.slice (some { block := 0, off := o + k * 1, spot := some 1 }) (n - k) (cap - k)) [AObj.row (rowOf (fun i => [Value.complex .f64 (a i) (b i)]) M) false opn, AObj.row (rowOf (fun i => [Value.complex .f64 (c i) (d i)]) N) false opn2, AObj.row (rowOf (half2 (fun i => [Value.complex .f64 (u i) (v i)]) (fun x => [Value.complex .f64 0 0]) k) n) true none, AObj.row (rowOf (fun i => [Value.complex .f64 (c i) (fneg (d i))]) m) true none]), (20, Item.eff (Value.complex .f64 (u k) (v k)) [AObj.row (rowOf (fun i => [Value.complex .f64 (a i) (b i)]) M) false opn, AObj.row (rowOf (fun i => [Value.complex .f64 (c i) (d i)]) N) false opn2, AObj.row (rowOf (half2 (fun i => [Value.complex .f64 (u i) (v i)]) (fun x => [Value.complex .f64 0 0]) k) n) true none, AObj.row (rowOf (fun i => [Value.complex .f64 (c i) (fneg (d i))]) m) true none]), (22, Item.res (Value.pointer (some { block := 2, off := 0 + k * 1 }))), (24, Item.eff undef [AObj.row (rowOf (fun i => [Value.complex .f64 (a i) (b i)]) M) false opn, AObj.row (rowOf (fun i => [Value.complex .f64 (c i) (d i)]) N) false opn2, AObj.row (rowOf (half2 (fun i => [Value.complex .f64 (u i) (v i)]) (fun x => [Value.complex .f64 0 0]) (k + 1)) n) true none, AObj.row (rowOf (fun i => [Value.complex .f64 (c i) (fneg (d i))]) m) true none]), (26, Item.res (Value.int .i64 (iN (k + 1))))]) (ks := [0, 1, 2, 3]) (mask := [true, true, false, false, false, false, true, true, false, false, false, false, false, false, false, false, false, false, false, false, false, false, false, true, true, false, false, false, false, false, false, false, false, false, false, false, false]) (ps := [(some (decide (iN k < iN n)) = some true), (ldF (aSlice Try.prog 66 (Value.slice (some ⟨0, o, some 1⟩) n cap) (some (Value.int .i64 (iN k))) (none) (none)) ([AObj.row (rowOf (fun i => [Value.complex .f64 (a i) (b i)]) M) false opn, AObj.row (rowOf (fun i => [Value.complex .f64 (c i) (d i)]) N) false opn2, AObj.row (rowOf (half2 (fun i => [Value.complex .f64 (u i) (v i)]) (fun x => [Value.complex .f64 0 0]) k) n) true none, AObj.row (rowOf (fun i => [Value.complex .f64 (c i) (fneg (d i))]) m) true none]) = some (Value.slice (some { block := 0, off := o + k * 1, spot := some 1 }) (n - k) (cap - k), [AObj.row (rowOf (fun i => [Value.complex .f64 (a i) (b i)]) M) false opn, AObj.row (rowOf (fun i => [Value.complex .f64 (c i) (d i)]) N) false opn2, AObj.row (rowOf (half2 (fun i => [Value.complex .f64 (u i) (v i)]) (fun x => [Value.complex .f64 0 0]) k) n) true none, AObj.row (rowOf (fun i => [Value.complex .f64 (c i) (fneg (d i))]) m) true none])), (sAt ([Value.slice (some { block := 0, off := o + k * 1, spot := some 1 }) (n - k) (cap - k), Value.slice (some ⟨3, 0, some 1⟩) m m]) ([AObj.row (rowOf (fun i => [Value.complex .f64 (a i) (b i)]) M) false opn, AObj.row (rowOf (fun i => [Value.complex .f64 (c i) (d i)]) N) false opn2, AObj.row (rowOf (half2 (fun i => [Value.complex .f64 (u i) (v i)]) (fun x => [Value.complex .f64 0 0]) k) n) true none, AObj.row (rowOf (fun i => [Value.complex .f64 (c i) (fneg (d i))]) m) true none]) = some (Value.complex .f64 (u k) (v k), [AObj.row (rowOf (fun i => [Value.complex .f64 (a i) (b i)]) M) false opn, AObj.row (rowOf (fun i => [Value.complex .f64 (c i) (d i)]) N) false opn2, AObj.row (rowOf (half2 (fun i => [Value.complex .f64 (u i) (v i)]) (fun x => [Value.complex .f64 0 0]) k) n) true none, AObj.row (rowOf (fun i => [Value.complex .f64 (c i) (fneg (d i))]) m) true none])), (ixF (Value.pointer (some { block := 2, off := 0 + k * 1 })) ([AObj.row (rowOf (fun i => [Value.complex .f64 (a i) (b i)]) M) false opn, AObj.row (rowOf (fun i => [Value.complex .f64 (c i) (d i)]) N) false opn2, AObj.row (rowOf (half2 (fun i => [Value.complex .f64 (u i) (v i)]) (fun x => [Value.complex .f64 0 0]) k) n) true none, AObj.row (rowOf (fun i => [Value.complex .f64 (c i) (fneg (d i))]) m) true none]) (iN k) (n) = some (Value.pointer (some { block := 2, off := 0 + k * 1 }), [AObj.row (rowOf (fun i => [Value.complex .f64 (a i) (b i)]) M) false opn, AObj.row (rowOf (fun i => [Value.complex .f64 (c i) (d i)]) N) false opn2, AObj.row (rowOf (half2 (fun i => [Value.complex .f64 (u i) (v i)]) (fun x => [Value.complex .f64 0 0]) k) n) true none, AObj.row (rowOf (fun i => [Value.complex .f64 (c i) (fneg (d i))]) m) true none])), (stF (aStore Try.prog ([AObj.row (rowOf (fun i => [Value.complex .f64 (a i) (b i)]) M) false opn, AObj.row (rowOf (fun i => [Value.complex .f64 (c i) (d i)]) N) false opn2, AObj.row (rowOf (half2 (fun i => [Value.complex .f64 (u i) (v i)]) (fun x => [Value.complex .f64 0 0]) k) n) true none, AObj.row (rowOf (fun i => [Value.complex .f64 (c i) (fneg (d i))]) m) true none]) 27 (.pointer (some ⟨2, 0 + k * 1, none⟩)) (Value.complex .f64 (u k) (v k))) = some (undef, [AObj.row (rowOf (fun i => [Value.complex .f64 (a i) (b i)]) M) false opn, AObj.row (rowOf (fun i => [Value.complex .f64 (c i) (d i)]) N) false opn2, AObj.row (rowOf (half2 (fun i => [Value.complex .f64 (u i) (v i)]) (fun x => [Value.complex .f64 0 0]) (k + 1)) n) true none, AObj.row (rowOf (fun i => [Value.complex .f64 (c i) (fneg (d i))]) m) true none])), (wF IntKind.i64 (iN k + 1) ([AObj.row (rowOf (fun i => [Value.complex .f64 (a i) (b i)]) M) false opn, AObj.row (rowOf (fun i => [Value.complex .f64 (c i) (d i)]) N) false opn2, AObj.row (rowOf (half2 (fun i => [Value.complex .f64 (u i) (v i)]) (fun x => [Value.complex .f64 0 0]) (k + 1)) n) true none, AObj.row (rowOf (fun i => [Value.complex .f64 (c i) (fneg (d i))]) m) true none]) = some (.int IntKind.i64 (iN (k + 1)), [AObj.row (rowOf (fun i => [Value.complex .f64 (a i) (b i)]) M) false opn, AObj.row (rowOf (fun i => [Value.complex .f64 (c i) (d i)]) N) false opn2, AObj.row (rowOf (half2 (fun i => [Value.complex .f64 (u i) (v i)]) (fun x => [Value.complex .f64 0 0]) (k + 1)) n) true none, AObj.row (rowOf (fun i => [Value.complex .f64 (c i) (fneg (d i))]) m) true none]))]) (L := 4) 4 moR_okX (by kernel_rfl) ⟨bP_of (fun x => x) (show (decide (iN k < iN n)) = true from decide_eq_true (by (try simp only [decide_eq_true_eq, decide_eq_false_iff_not] at *); (try simp only [iN_eq, Int.ofNat_eq_natCast] at *); try omega)), ⟨ldF_ok (slice_op (e := 27) (z := 1) (l := k) (h := n) (by kernel_rfl) (by kernel_rfl) (bnd_int (by (try simp only [decide_eq_true_eq, decide_eq_false_iff_not] at *); (try simp only [iN_eq, Int.ofNat_eq_natCast] at *); try omega)) (bnd_no _ _) (by (try simp only [decide_eq_true_eq, decide_eq_false_iff_not] at *); (try simp only [iN_eq, Int.ofNat_eq_natCast] at *); try omega) (by (try simp only [decide_eq_true_eq, decide_eq_false_iff_not] at *); (try simp only [iN_eq, Int.ofNat_eq_natCast] at *); try omega) (by (try simp only [decide_eq_true_eq, decide_eq_false_iff_not] at *); (try simp only [iN_eq, Int.ofNat_eq_natCast] at *); try omega) (by (try simp only [decide_eq_true_eq, decide_eq_false_iff_not] at *); (try simp only [iN_eq, Int.ofNat_eq_natCast] at *); try omega)), ⟨s0, ⟨ixF_ok _ _ (by (try simp only [decide_eq_true_eq, decide_eq_false_iff_not] at *); (try simp only [iN_eq, Int.ofNat_eq_natCast] at *); try omega), ⟨stF_ok (store_row (z := 1) (k := k) (f := half2 (fun i => [Value.complex .f64 (u i) (v i)]) (fun x => [Value.complex .f64 0 0]) k) (g := half2 (fun i => [Value.complex .f64 (u i) (v i)]) (fun x => [Value.complex .f64 0 0]) (k + 1)) rfl (by kernel_rfl) (half2_len (s := 1) (fun _ => rfl) (fun _ => rfl) _) (half2_len (s := 1) (fun _ => rfl) (fun _ => rfl) _) (by rw [half2_at]; try kernel_rfl) (by rw [half2_at]; try kernel_rfl) (by (try simp only [decide_eq_true_eq, decide_eq_false_iff_not] at *); (try simp only [iN_eq, Int.ofNat_eq_natCast] at *); try omega) (by (try simp only [decide_eq_true_eq, decide_eq_false_iff_not] at *); (try simp only [iN_eq, Int.ofNat_eq_natCast] at *); try omega) (fun i h => half2_ne _ _ _ i h)), ⟨wF_ok _ (by (try simp only [decide_eq_true_eq, decide_eq_false_iff_not] at *); (try simp only [iN_eq, Int.ofNat_eq_natCast] at *); try omega) (by (try simp only [decide_eq_true_eq, decide_eq_false_iff_not] at *); (try simp only [iN_eq, Int.ofNat_eq_natCast] at *); try omega), trivial⟩⟩⟩⟩⟩⟩ hst (by kernel_rfl) (by kernel_rfl) (by kernel_rfl) (by decide) (by kernel_rfl) ⟨rowOf_all (half2_all (fun _ => rfl) (fun _ => rfl) _) _, ⟨rowOf_all (fun _ => rfl) _, trivial⟩⟩
theorem moE_okX : codeOkX (dLMm) [5] (loopOf Try.f88 0) = true := by kernel_rfl
theorem moE_p0 (opn : Option Nat) (a : Nat → Nat) (b : Nat → Nat) (M : Nat) (opn2 : Option Nat) (c : Nat → Nat) (d : Nat → Nat) (N : Nat) (n : Nat) (cap : Nat) (m : Nat) (cap2 : Nat) (u : Nat → Nat) (v : Nat → Nat) (o : Nat) (hm : o + n ≤ M) (hN : m ≤ N) (hc : n ≤ cap) (hn : n ≤ 16384) (hm2 : m ≤ 16384) (hst : Stood false ([.row (rowOf (fun i => [.complex .f64 (a i) (b i)]) M) false opn, .row (rowOf (fun i => [.complex .f64 (c i) (d i)]) N) false opn2])) : Sim (dLMm) 4 (loopOf Try.f88 0) ((moFr o n cap m cap2 n)) ([.row (rowOf (fun i => [.complex .f64 (a i) (b i)]) M) false opn, .row (rowOf (fun i => [.complex .f64 (c i) (d i)]) N) false opn2, .row (rowOf (fun i => [.complex .f64 (u i) (v i)]) n) true none, .row (rowOf (fun i => [.complex .f64 (c i) (fneg (d i))]) m) true none]) (.exit 1) ([Value.slice (some ⟨0, o, some 1⟩) n cap, Value.slice (some ⟨1, 0, some 1⟩) m cap2, undef, undef, undef, undef, Value.slice (some ⟨2, 0, some 1⟩) n n, Value.slice (some ⟨3, 0, some 1⟩) m m, undef, undef, undef, undef, undef, undef, undef, undef, undef, undef, undef, undef, undef, undef, undef, Value.int .i64 (iN n), Value.int .i64 (iN n), undef, undef, undef, undef, undef, undef, undef, undef, undef, undef, undef, undef]) ([AObj.row (rowOf (fun i => [Value.complex .f64 (a i) (b i)]) M) false opn, AObj.row (rowOf (fun i => [Value.complex .f64 (c i) (d i)]) N) false opn2, AObj.row (rowOf (fun i => [Value.complex .f64 (u i) (v i)]) n) true none, AObj.row (rowOf (fun i => [Value.complex .f64 (c i) (fneg (d i))]) m) true none]) := Sim.of_roundQ (C := dLMm) dLMm_ok (X := [5]) (n := 3) (orc := [(2, Item.br false)]) (ks := [0, 1, 2, 3]) (mask := [true, true, false, false, false, false, true, true, false, false, false, false, false, false, false, false, false, false, false, false, false, false, false, true, true, false, false, false, false, false, false, false, false, false, false, false, false]) (ps := [(some (decide (iN n < iN n)) = some false)]) (L := 4) 4 moE_okX (by kernel_rfl) ⟨bP_of (fun x => x) (show (decide (iN n < iN n)) = false from decide_eq_false (by (try simp only [decide_eq_true_eq, decide_eq_false_iff_not] at *); (try simp only [iN_eq, Int.ofNat_eq_natCast] at *); try omega)), trivial⟩ hst (by kernel_rfl) (by kernel_rfl) (by kernel_rfl) (by decide) (by kernel_rfl) ⟨rowOf_all (fun _ => rfl) _, ⟨rowOf_all (fun _ => rfl) _, trivial⟩⟩
def moP (o n cap m cap2 : Nat) : List Value := [.slice (some ⟨0, o, some 1⟩) n cap, .slice (some ⟨1, 0, some 1⟩) m cap2, undef, undef, .slice none 0 0, .int .i64 (Int.ofNat 0), undef, undef, undef, .bool (iN m == Int.ofNat 0), .slice (some ⟨1, 0, some 1⟩) m cap2, .int .i64 (iN m), .bool (iN m == Int.ofNat 0), .bool false, .slice (some ⟨0, o, some 1⟩) n cap, .slice (some ⟨1, 0, some 1⟩) m cap2, .bool false] ++ List.replicate 20 undef
def moQ (o n cap m cap2 : Nat) : List Value := [.slice (some ⟨0, o, some 1⟩) n cap, .slice (some ⟨1, 0, some 1⟩) m cap2, undef, undef, .slice none 0 0, .int .i64 (Int.ofNat 0), .slice (some ⟨2, 0, some 1⟩) n n, .slice (some ⟨3, 0, some 1⟩) m m, undef, .bool (iN m == Int.ofNat 0), .slice (some ⟨1, 0, some 1⟩) m cap2, .int .i64 (iN m), .bool (iN m == Int.ofNat 0), .bool false, .slice (some ⟨0, o, some 1⟩) n cap, .slice (some ⟨1, 0, some 1⟩) m cap2, .bool false, .slice (some ⟨0, o, some 1⟩) n cap, .int .i64 (iN n), .slice (some ⟨2, 0, some 1⟩) n n, .slice (some ⟨1, 0, some 1⟩) m cap2, .slice (some ⟨3, 0, some 1⟩) m m] ++ List.replicate 15 undef
theorem moA_fok : fnOkR (dLMm) [5] Try.f88 = true := by kernel_rfl
theorem moA_p0 (opn : Option Nat) (a : Nat → Nat) (b : Nat → Nat) (M : Nat) (opn2 : Option Nat) (c : Nat → Nat) (d : Nat → Nat) (N : Nat) (n : Nat) (cap : Nat) (m : Nat) (cap2 : Nat) (u : Nat → Nat) (v : Nat → Nat) (o : Nat) (hm : o + n ≤ M) (hN : m ≤ N) (hc : n ≤ cap) (hn : n ≤ 16384) (hm2 : m ≤ 16384) (he : (iN m == Int.ofNat 0) = false) (hnm : n * m ≤ 16777216) (l0 : Stood false ([AObj.row (rowOf (fun i => [Value.complex .f64 (a i) (b i)]) M) false opn, AObj.row (rowOf (fun i => [Value.complex .f64 (c i) (d i)]) N) false opn2]) → Sim (dLMm) 4 (.loop (loopOf Try.f88 0)) ([Value.slice (some ⟨0, o, some 1⟩) n cap, Value.slice (some ⟨1, 0, some 1⟩) m cap2, undef, undef, Value.slice none 0 0, Value.int .i64 (Int.ofNat 0), Value.slice (some ⟨2, 0, some 1⟩) n n, Value.slice (some ⟨3, 0, some 1⟩) m m, undef, Value.bool (iN m == Int.ofNat 0), Value.slice (some ⟨1, 0, some 1⟩) m cap2, Value.int .i64 (iN m), Value.bool (iN m == Int.ofNat 0), Value.bool false, Value.slice (some ⟨0, o, some 1⟩) n cap, Value.slice (some ⟨1, 0, some 1⟩) m cap2, Value.bool false, Value.slice (some ⟨0, o, some 1⟩) n cap, Value.int .i64 (iN n), Value.slice (some ⟨2, 0, some 1⟩) n n, Value.slice (some ⟨1, 0, some 1⟩) m cap2, Value.slice (some ⟨3, 0, some 1⟩) m m, Value.slice (some ⟨0, o, some 1⟩) n cap, Value.int .i64 (iN n), Value.int .i64 (Int.ofNat 0), undef, undef, undef, undef, undef, undef, undef, undef, undef, undef, undef, undef]) ([AObj.row (rowOf (fun i => [Value.complex .f64 (a i) (b i)]) M) false opn, AObj.row (rowOf (fun i => [Value.complex .f64 (c i) (d i)]) N) false opn2, AObj.row (rowOf (fun x => [Value.complex .f64 0 0]) n) true none, AObj.row (rowOf (fun i => [Value.complex .f64 (c i) (fneg (d i))]) m) true none]) (Exit.exit 1) ([Value.slice (some ⟨0, o, some 1⟩) n cap, Value.slice (some ⟨1, 0, some 1⟩) m cap2, undef, undef, undef, undef, Value.slice (some ⟨2, 0, some 1⟩) n n, Value.slice (some ⟨3, 0, some 1⟩) m m, undef, undef, undef, undef, undef, undef, undef, undef, undef, undef, undef, undef, undef, undef, undef, Value.int .i64 (iN n), Value.int .i64 (iN n), undef, undef, undef, undef, undef, undef, undef, undef, undef, undef, undef, undef]) ([AObj.row (rowOf (fun i => [Value.complex .f64 (a i) (b i)]) M) false opn, AObj.row (rowOf (fun i => [Value.complex .f64 (c i) (d i)]) N) false opn2, AObj.row (rowOf (fun i => [Value.complex .f64 (u i) (v i)]) n) true none, AObj.row (rowOf (fun i => [Value.complex .f64 (c i) (fneg (d i))]) m) true none])) (g5 : Stood false ([AObj.row (rowOf (fun i => [Value.complex .f64 (a i) (b i)]) M) false opn, AObj.row (rowOf (fun i => [Value.complex .f64 (c i) (d i)]) N) false opn2]) → Sim (dLMm) 2 (regOf Try.f88 5) ([Value.slice (some ⟨0, o, some 1⟩) n cap, Value.slice (some ⟨1, 0, some 1⟩) m cap2, undef, undef, Value.slice none 0 0, Value.int .i64 (Int.ofNat 0), undef, undef, undef, Value.bool (iN m == Int.ofNat 0), Value.slice (some ⟨1, 0, some 1⟩) m cap2, Value.int .i64 (iN m), Value.bool (iN m == Int.ofNat 0), Value.bool false, Value.slice (some ⟨0, o, some 1⟩) n cap, Value.slice (some ⟨1, 0, some 1⟩) m cap2, Value.bool false, undef, undef, undef, undef, undef, undef, undef, undef, undef, undef, undef, undef, undef, undef, undef, undef, undef, undef, undef, undef]) ([AObj.row (rowOf (fun i => [Value.complex .f64 (a i) (b i)]) M) false opn, AObj.row (rowOf (fun i => [Value.complex .f64 (c i) (d i)]) N) false opn2]) .normal ([Value.slice (some ⟨0, o, some 1⟩) n cap, Value.slice (some ⟨1, 0, some 1⟩) m cap2, undef, undef, Value.slice none 0 0, Value.int .i64 (Int.ofNat 0), Value.slice (some ⟨2, 0, some 1⟩) n n, Value.slice (some ⟨3, 0, some 1⟩) m m, undef, Value.bool (iN m == Int.ofNat 0), Value.slice (some ⟨1, 0, some 1⟩) m cap2, Value.int .i64 (iN m), Value.bool (iN m == Int.ofNat 0), Value.bool false, Value.slice (some ⟨0, o, some 1⟩) n cap, Value.slice (some ⟨1, 0, some 1⟩) m cap2, Value.bool false, Value.slice (some ⟨0, o, some 1⟩) n cap, Value.int .i64 (iN n), Value.slice (some ⟨2, 0, some 1⟩) n n, Value.slice (some ⟨1, 0, some 1⟩) m cap2, Value.slice (some ⟨3, 0, some 1⟩) m m, undef, undef, undef, undef, undef, undef, undef, undef, undef, undef, undef, undef, undef, undef, undef]) ([AObj.row (rowOf (fun i => [Value.complex .f64 (a i) (b i)]) M) false opn, AObj.row (rowOf (fun i => [Value.complex .f64 (c i) (d i)]) N) false opn2, AObj.row (rowOf (fun x => [Value.complex .f64 0 0]) n) true none, AObj.row (rowOf (fun i => [Value.complex .f64 (c i) (fneg (d i))]) m) true none])) (s0 : sLong ([Value.slice (some ⟨0, o, some 1⟩) n cap, Value.slice (some ⟨1, 0, some 1⟩) m cap2]) ([AObj.row (rowOf (fun i => [Value.complex .f64 (a i) (b i)]) M) false opn, AObj.row (rowOf (fun i => [Value.complex .f64 (c i) (d i)]) N) false opn2]) = some (Value.bool false, [AObj.row (rowOf (fun i => [Value.complex .f64 (a i) (b i)]) M) false opn, AObj.row (rowOf (fun i => [Value.complex .f64 (c i) (d i)]) N) false opn2])) : CallR Try.prog false 88 ([Value.slice (some ⟨0, o, some 1⟩) n cap, Value.slice (some ⟨1, 0, some 1⟩) m cap2]) ([AObj.row (rowOf (fun i => [Value.complex .f64 (a i) (b i)]) M) false opn, AObj.row (rowOf (fun i => [Value.complex .f64 (c i) (d i)]) N) false opn2]) (Value.tuple { toList := [Value.slice (some ⟨2, 0, some 1⟩) n n, Value.int .i64 (Int.ofNat 0)] }) ([AObj.row (rowOf (fun i => [Value.complex .f64 (a i) (b i)]) M) false opn, AObj.row (rowOf (fun i => [Value.complex .f64 (c i) (d i)]) N) false opn2, AObj.row (rowOf (fun i => [Value.complex .f64 (u i) (v i)]) n) true none, AObj.row (rowOf (fun i => [Value.complex .f64 (c i) (fneg (d i))]) m) true none]) := CallR.of_DORs (C := dLMm) dLMm_ok (X := [5]) Try.func88 moA_fok (n := 3) (orc := [(12, Item.br false), (18, Item.eff (Value.bool false) [AObj.row (rowOf (fun i => [Value.complex .f64 (a i) (b i)]) M) false opn, AObj.row (rowOf (fun i => [Value.complex .f64 (c i) (d i)]) N) false opn2]), (22, Item.loop Exit.normal (moQ o n cap m cap2) [AObj.row (rowOf (fun i => [Value.complex .f64 (a i) (b i)]) M) false opn, AObj.row (rowOf (fun i => [Value.complex .f64 (c i) (d i)]) N) false opn2, AObj.row (rowOf (fun x => [Value.complex .f64 0 0]) n) true none, AObj.row (rowOf (fun i => [Value.complex .f64 (c i) (fneg (d i))]) m) true none]), (29, Item.loop (Exit.exit 1) (moFr o n cap m cap2 n) [AObj.row (rowOf (fun i => [Value.complex .f64 (a i) (b i)]) M) false opn, AObj.row (rowOf (fun i => [Value.complex .f64 (c i) (d i)]) N) false opn2, AObj.row (rowOf (fun i => [Value.complex .f64 (u i) (v i)]) n) true none, AObj.row (rowOf (fun i => [Value.complex .f64 (c i) (fneg (d i))]) m) true none])]) (ps := [(bP (iN m == Int.ofNat 0) false), (sLong ([Value.slice (some ⟨0, o, some 1⟩) n cap, Value.slice (some ⟨1, 0, some 1⟩) m cap2]) ([AObj.row (rowOf (fun i => [Value.complex .f64 (a i) (b i)]) M) false opn, AObj.row (rowOf (fun i => [Value.complex .f64 (c i) (d i)]) N) false opn2]) = some (Value.bool false, [AObj.row (rowOf (fun i => [Value.complex .f64 (a i) (b i)]) M) false opn, AObj.row (rowOf (fun i => [Value.complex .f64 (c i) (d i)]) N) false opn2])), (Sim (dLMm) 2 (regOf Try.f88 5) ([Value.slice (some ⟨0, o, some 1⟩) n cap, Value.slice (some ⟨1, 0, some 1⟩) m cap2, undef, undef, Value.slice none 0 0, Value.int .i64 (Int.ofNat 0), undef, undef, undef, Value.bool (iN m == Int.ofNat 0), Value.slice (some ⟨1, 0, some 1⟩) m cap2, Value.int .i64 (iN m), Value.bool (iN m == Int.ofNat 0), Value.bool false, Value.slice (some ⟨0, o, some 1⟩) n cap, Value.slice (some ⟨1, 0, some 1⟩) m cap2, Value.bool false, undef, undef, undef, undef, undef, undef, undef, undef, undef, undef, undef, undef, undef, undef, undef, undef, undef, undef, undef, undef]) ([AObj.row (rowOf (fun i => [Value.complex .f64 (a i) (b i)]) M) false opn, AObj.row (rowOf (fun i => [Value.complex .f64 (c i) (d i)]) N) false opn2]) .normal ([Value.slice (some ⟨0, o, some 1⟩) n cap, Value.slice (some ⟨1, 0, some 1⟩) m cap2, undef, undef, Value.slice none 0 0, Value.int .i64 (Int.ofNat 0), Value.slice (some ⟨2, 0, some 1⟩) n n, Value.slice (some ⟨3, 0, some 1⟩) m m, undef, Value.bool (iN m == Int.ofNat 0), Value.slice (some ⟨1, 0, some 1⟩) m cap2, Value.int .i64 (iN m), Value.bool (iN m == Int.ofNat 0), Value.bool false, Value.slice (some ⟨0, o, some 1⟩) n cap, Value.slice (some ⟨1, 0, some 1⟩) m cap2, Value.bool false, Value.slice (some ⟨0, o, some 1⟩) n cap, Value.int .i64 (iN n), Value.slice (some ⟨2, 0, some 1⟩) n n, Value.slice (some ⟨1, 0, some 1⟩) m cap2, Value.slice (some ⟨3, 0, some 1⟩) m m, undef, undef, undef, undef, undef, undef, undef, undef, undef, undef, undef, undef, undef, undef, undef]) ([AObj.row (rowOf (fun i => [Value.complex .f64 (a i) (b i)]) M) false opn, AObj.row (rowOf (fun i => [Value.complex .f64 (c i) (d i)]) N) false opn2, AObj.row (rowOf (fun x => [Value.complex .f64 0 0]) n) true none, AObj.row (rowOf (fun i => [Value.complex .f64 (c i) (fneg (d i))]) m) true none])), (List.length (α := AObj) ([AObj.row (rowOf (fun i => [Value.complex .f64 (a i) (b i)]) M) false opn, AObj.row (rowOf (fun i => [Value.complex .f64 (c i) (d i)]) N) false opn2]) ≤ List.length ([AObj.row (rowOf (fun i => [Value.complex .f64 (a i) (b i)]) M) false opn, AObj.row (rowOf (fun i => [Value.complex .f64 (c i) (d i)]) N) false opn2, AObj.row (rowOf (fun x => [Value.complex .f64 0 0]) n) true none, AObj.row (rowOf (fun i => [Value.complex .f64 (c i) (fneg (d i))]) m) true none])), (Lk.Exit.isG .normal = false), (Sim (dLMm) 4 (.loop (loopOf Try.f88 0)) ([Value.slice (some ⟨0, o, some 1⟩) n cap, Value.slice (some ⟨1, 0, some 1⟩) m cap2, undef, undef, Value.slice none 0 0, Value.int .i64 (Int.ofNat 0), Value.slice (some ⟨2, 0, some 1⟩) n n, Value.slice (some ⟨3, 0, some 1⟩) m m, undef, Value.bool (iN m == Int.ofNat 0), Value.slice (some ⟨1, 0, some 1⟩) m cap2, Value.int .i64 (iN m), Value.bool (iN m == Int.ofNat 0), Value.bool false, Value.slice (some ⟨0, o, some 1⟩) n cap, Value.slice (some ⟨1, 0, some 1⟩) m cap2, Value.bool false, Value.slice (some ⟨0, o, some 1⟩) n cap, Value.int .i64 (iN n), Value.slice (some ⟨2, 0, some 1⟩) n n, Value.slice (some ⟨1, 0, some 1⟩) m cap2, Value.slice (some ⟨3, 0, some 1⟩) m m, Value.slice (some ⟨0, o, some 1⟩) n cap, Value.int .i64 (iN n), Value.int .i64 (Int.ofNat 0), undef, undef, undef, undef, undef, undef, undef, undef, undef, undef, undef, undef]) ([AObj.row (rowOf (fun i => [Value.complex .f64 (a i) (b i)]) M) false opn, AObj.row (rowOf (fun i => [Value.complex .f64 (c i) (d i)]) N) false opn2, AObj.row (rowOf (fun x => [Value.complex .f64 0 0]) n) true none, AObj.row (rowOf (fun i => [Value.complex .f64 (c i) (fneg (d i))]) m) true none]) (Exit.exit 1) ([Value.slice (some ⟨0, o, some 1⟩) n cap, Value.slice (some ⟨1, 0, some 1⟩) m cap2, undef, undef, undef, undef, Value.slice (some ⟨2, 0, some 1⟩) n n, Value.slice (some ⟨3, 0, some 1⟩) m m, undef, undef, undef, undef, undef, undef, undef, undef, undef, undef, undef, undef, undef, undef, undef, Value.int .i64 (iN n), Value.int .i64 (iN n), undef, undef, undef, undef, undef, undef, undef, undef, undef, undef, undef, undef]) ([AObj.row (rowOf (fun i => [Value.complex .f64 (a i) (b i)]) M) false opn, AObj.row (rowOf (fun i => [Value.complex .f64 (c i) (d i)]) N) false opn2, AObj.row (rowOf (fun i => [Value.complex .f64 (u i) (v i)]) n) true none, AObj.row (rowOf (fun i => [Value.complex .f64 (c i) (fneg (d i))]) m) true none])), (List.length (α := AObj) ([AObj.row (rowOf (fun i => [Value.complex .f64 (a i) (b i)]) M) false opn, AObj.row (rowOf (fun i => [Value.complex .f64 (c i) (d i)]) N) false opn2, AObj.row (rowOf (fun x => [Value.complex .f64 0 0]) n) true none, AObj.row (rowOf (fun i => [Value.complex .f64 (c i) (fneg (d i))]) m) true none]) ≤ List.length ([AObj.row (rowOf (fun i => [Value.complex .f64 (a i) (b i)]) M) false opn, AObj.row (rowOf (fun i => [Value.complex .f64 (c i) (d i)]) N) false opn2, AObj.row (rowOf (fun i => [Value.complex .f64 (u i) (v i)]) n) true none, AObj.row (rowOf (fun i => [Value.complex .f64 (c i) (fneg (d i))]) m) true none])), (Lk.Exit.isG (Exit.exit 1) = false)]) (by kernel_rfl) (fun hst => ⟨bP_of (fun x => x) he, ⟨s0, ⟨g5 hst, Nat.le_of_ble_eq_true (by kernel_rfl), rfl, ⟨l0 hst, Nat.le_of_ble_eq_true (by kernel_rfl), rfl, trivial⟩⟩⟩⟩)
end Go.Lk
end

section
/- Match, of a row that begins somewhere: its contract. -/
namespace Go.Lk
open Go.Proofs
set_option maxRecDepth 100000
set_option maxHeartbeats 0
set_option linter.unusedVariables false
set_option linter.unusedSimpArgs false
def mtO (a b c d : Nat → Nat) (o n m k : Nat) : Nat := sumC (atTr a b c (fun i => fneg (d i)) (o + k)) (min (n - k) m)
def mtJ (a b c d : Nat → Nat) (o n m k : Nat) : Nat := sumC (atTi a b c (fun i => fneg (d i)) (o + k)) (min (n - k) m)
noncomputable def moOps : Array Oper := regOps (regOf Try.f88 5)
def moVs (o n cap m cap2 : Nat) : Nat → Value
  | 0 => .slice (some ⟨0, o, some 1⟩) n cap
  | 1 => .int .i64 (iN n)
  | 2 => .slice (some ⟨2, 0, some 1⟩) n n
  | 3 => .slice (some ⟨1, 0, some 1⟩) m cap2
  | 4 => .slice (some ⟨3, 0, some 1⟩) m m
  | 5 => .slice (some ⟨2, 0, some 1⟩) n n
  | _ => .slice (some ⟨3, 0, some 1⟩) m m
def moSs (r0 r1 r2 r3 : AObj) : Nat → AHeap
  | 0 => [r0, r1]
  | 1 => [r0, r1]
  | 2 => [r0, r1]
  | 3 => [r0, r1, r2]
  | 4 => [r0, r1, r2]
  | _ => [r0, r1, r2, r3]
theorem moOps_size : moOps.size = 7 := by kernel_rfl
theorem mo_draw : drawOkR dLMm moOps [] [4] = true := by kernel_rfl
theorem mo_reg (opn : Option Nat) (a b : Nat → Nat) (M : Nat) (opn2 : Option Nat) (c d : Nat → Nat) (N o n cap m cap2 : Nat) (hm : o + n ≤ M) (hN : m ≤ N) (hn : n ≤ 16384) (hm2 : m ≤ 16384) :
    Sim dLMm 2 (regOf Try.f88 5) (moP o n cap m cap2) [.row (rowOf (fun i => [.complex .f64 (a i) (b i)]) M) false opn, .row (rowOf (fun i => [.complex .f64 (c i) (d i)]) N) false opn2] .normal (moQ o n cap m cap2)
      [.row (rowOf (fun i => [.complex .f64 (a i) (b i)]) M) false opn, .row (rowOf (fun i => [.complex .f64 (c i) (d i)]) N) false opn2, .row (rowOf (fun _ => [.complex .f64 0 0]) n) true none, .row (rowOf (fun i => [.complex .f64 (c i) (fneg (d i))]) m) true none] := by
  have hmk : aMake Try.prog [AObj.row (rowOf (fun i => [.complex .f64 (a i) (b i)]) M) false opn, .row (rowOf (fun i => [.complex .f64 (c i) (d i)]) N) false opn2] 66 (.int .i64 (iN n)) (.int .i64 (iN n)) = some (.slice (some ⟨2, 0, some 1⟩) n n, [AObj.row (rowOf (fun i => [.complex .f64 (a i) (b i)]) M) false opn, .row (rowOf (fun i => [.complex .f64 (c i) (d i)]) N) false opn2, .row (rowOf (fun _ => [.complex .f64 0 0]) n) true none]) :=
    make_row (zs := [Value.complex .f64 0 0]) (by kernel_rfl) (by kernel_rfl) (by kernel_rfl) (Nat.le_refl _) (by omega)
  have htu : ∀ H : AHeap, H[1]? = some (.row (rowOf (fun i => [.complex .f64 (c i) (d i)]) N) false opn2) → H.length = 3 → sTrn [.slice (some ⟨1, 0, some 1⟩) m cap2] H = some (.slice (some ⟨3, 0, some 1⟩) m m, H ++ [.row (rowOf (fun i => [.complex .f64 (c i) (fneg (d i))]) m) true none]) := fun H h1 hl => by
    have := sTrn_row (cap := cap2) h1 hN hm2
    rw [hl] at this
    exact this
  generalize AObj.row (rowOf (fun i => [.complex .f64 (a i) (b i)]) M) false opn = r0 at hmk ⊢
  generalize AObj.row (rowOf (fun i => [.complex .f64 (c i) (d i)]) N) false opn2 = r1 at hmk htu ⊢
  generalize AObj.row (rowOf (fun _ => [.complex .f64 0 0]) n) true none = r2 at hmk ⊢
  generalize AObj.row (rowOf (fun i => [.complex .f64 (c i) (fneg (d i))]) m) true none = r3 at htu ⊢
  have ht : Trace dLMm moOps (fsO moOps (moVs o n cap m cap2) (moP o n cap m cap2)) (moSs r0 r1 r2 r3) (moVs o n cap m cap2) (fun _ => true) := by
    refine Trace.of_all fun i oo ho => ?_
    have hi : i < 7 := by have := (Array.getElem?_eq_some_iff.1 ho).1; rw [moOps_size] at this; exact this
    have hk : some oo = moOps[i]? := ho.symm
    have key : ∀ j, j < 7 → (moOps[j]?).bind (fun p => wantedA moOps (fsO moOps (moVs o n cap m cap2) (moP o n cap m cap2) j) p) = some true ∧ (moOps[j]?).bind (fun p => aOp dLMm (fsO moOps (moVs o n cap m cap2) (moP o n cap m cap2) j) (moSs r0 r1 r2 r3 j) p.op) = some (moVs o n cap m cap2 j, moSs r0 r1 r2 r3 (j + 1)) := by
      intro j hj
      match j, hj with
      | 0, _ => exact ⟨by kernel_rfl, by kernel_rfl⟩
      | 1, _ => exact ⟨by kernel_rfl, by kernel_rfl⟩
      | 2, _ => exact ⟨by kernel_rfl, Eq.trans (by kernel_rfl) hmk⟩
      | 3, _ => exact ⟨by kernel_rfl, by kernel_rfl⟩
      | 4, _ => exact ⟨by kernel_rfl, Eq.trans (by kernel_rfl) (htu [r0, r1, r2] rfl rfl)⟩
      | 5, _ => exact ⟨by kernel_rfl, by kernel_rfl⟩
      | 6, _ => exact ⟨by kernel_rfl, by kernel_rfl⟩
      | j + 7, hj => omega
    have := key i hi
    rw [ho] at this
    exact this
  have hreg : regOf Try.f88 5 = .region 5 moOps true := by kernel_rfl
  rw [hreg]
  refine Sim.drawR (st := fun j => ([] : List Nat).contains j) (rl := fun j => [4].contains j) dLMm_ok (drawOkR_spec mo_draw) (fs := fsO moOps (moVs o n cap m cap2) (moP o n cap m cap2)) (ss := moSs r0 r1 r2 r3) rfl rfl ?_ ?_ ht (fun _ _ _ _ _ _ _ h => by cases h) ?_
  · rw [moOps_size]; kernel_rfl
  · rw [moOps_size]; rfl
  · intro j oj hj hr h2 H hlen hH
    have hj4 : j = 4 := by simpa using hr
    subst hj4
    have hfree : ∀ b, Free dLMm moOps (moSs r0 r1 r2 r3) (fun _ => true) 4 b → b = 2 := by
      rintro b ⟨i, hi, hk, _, hb⟩
      match i, hi with
      | 0, _ => exact absurd hk (by rw [show kd dLMm moOps (fun _ => true) 0 = 0 by kernel_rfl]; decide)
      | 1, _ => exact absurd hk (by rw [show kd dLMm moOps (fun _ => true) 1 = 0 by kernel_rfl]; decide)
      | 2, _ => exact hb.symm
      | 3, _ => exact absurd hk (by rw [show kd dLMm moOps (fun _ => true) 3 = 0 by kernel_rfl]; decide)
    have hlen : H.length = 3 := hlen
    have h1 : H[1]? = some r1 := hH 1 (fun h => by have := hfree 1 h; omega)
    refine ⟨H ++ [r3], ?_, by simp [hlen]; rfl, fun b hb => ?_, fun b hb => ?_⟩
    · have e : aOp dLMm (fsO moOps (moVs o n cap m cap2) (moP o n cap m cap2) 4) H oj.op = sTrn [.slice (some ⟨1, 0, some 1⟩) m cap2] H := by
        have : (moOps[4]?).bind (fun p => aOp dLMm (fsO moOps (moVs o n cap m cap2) (moP o n cap m cap2) 4) H p.op) = sTrn [.slice (some ⟨1, 0, some 1⟩) m cap2] H := by kernel_rfl
        rw [hj] at this
        exact this
      rw [e]
      exact htu H h1 hlen
    · rcases Nat.lt_or_ge b 3 with h | h
      · rw [List.getElem?_append_left (by omega), hH b hb]
        match b, h with
        | 0, _ => rfl
        | 1, _ => rfl
        | 2, _ => rfl
      · rw [List.getElem?_append_right (by omega), hlen]
        show [r3][b - 3]? = [r0, r1, r2, r3][b]?
        match b, h with
        | 3, _ => rfl
        | b + 4, _ => simp
    · have := hfree b hb
      subst this
      rw [List.getElem?_append_left (by omega)]
theorem matchO_small (opn : Option Nat) (a b : Nat → Nat) (M : Nat) (opn2 : Option Nat) (c d : Nat → Nat) (N o n cap m cap2 : Nat) (hm : o + n ≤ M) (hN : m ≤ N) (hc : n ≤ cap) (hn : n ≤ 16384) (hm2 : m ≤ 16384) (h0 : 0 < m) (hnm : n * m ≤ 16777216) :
    CallR Try.prog false 88 [.slice (some ⟨0, o, some 1⟩) n cap, .slice (some ⟨1, 0, some 1⟩) m cap2] [.row (rowOf (fun i => [.complex .f64 (a i) (b i)]) M) false opn, .row (rowOf (fun i => [.complex .f64 (c i) (d i)]) N) false opn2]
      (.tuple #[.slice (some ⟨2, 0, some 1⟩) n n, .int .i64 0])
      [.row (rowOf (fun i => [.complex .f64 (a i) (b i)]) M) false opn, .row (rowOf (fun i => [.complex .f64 (c i) (d i)]) N) false opn2, .row (rowOf (fun i => [.complex .f64 (mtO a b c d o n m i) (mtJ a b c d o n m i)]) n) true none, .row (rowOf (fun i => [.complex .f64 (c i) (fneg (d i))]) m) true none] := by
  refine moA_p0 opn a b M opn2 c d N n cap m cap2 (mtO a b c d o n m) (mtJ a b c d o n m) o hm hN hc hn hm2 (by rw [iN_eq]; exact beq_false_of_ne (by show ((m : Nat) : Int) ≠ 0; omega)) hnm ?_ (fun _ => ?_) ?_
  · intro hst
    have h : Sim dLMm 4 (.loop (loopOf Try.f88 0)) (moFr o n cap m cap2 0) [.row (rowOf (fun i => [.complex .f64 (a i) (b i)]) M) false opn, .row (rowOf (fun i => [.complex .f64 (c i) (d i)]) N) false opn2, .row (rowOf (half2 (fun i => [.complex .f64 (mtO a b c d o n m i) (mtJ a b c d o n m i)]) (fun _ => [.complex .f64 0 0]) 0) n) true none, .row (rowOf (fun i => [.complex .f64 (c i) (fneg (d i))]) m) true none] (.exit 1) (moFr o n cap m cap2 n)
        [.row (rowOf (fun i => [.complex .f64 (a i) (b i)]) M) false opn, .row (rowOf (fun i => [.complex .f64 (c i) (d i)]) N) false opn2, .row (rowOf (half2 (fun i => [.complex .f64 (mtO a b c d o n m i) (mtJ a b c d o n m i)]) (fun _ => [.complex .f64 0 0]) n) n) true none, .row (rowOf (fun i => [.complex .f64 (c i) (fneg (d i))]) m) true none] :=
      Sim.loop (fun k => (moFr o n cap m cap2 k, [AObj.row (rowOf (fun i => [.complex .f64 (a i) (b i)]) M) false opn, .row (rowOf (fun i => [.complex .f64 (c i) (d i)]) N) false opn2, .row (rowOf (half2 (fun i => [.complex .f64 (mtO a b c d o n m i) (mtJ a b c d o n m i)]) (fun _ => [.complex .f64 0 0]) k) n) true none, .row (rowOf (fun i => [.complex .f64 (c i) (fneg (d i))]) m) true none])) n
        (fun k hk => by
          refine (moR_p0 opn a b M opn2 c d N n cap m cap2 (mtO a b c d o n m) (mtJ a b c d o n m) o hm hN hc hn hm2 k hk ?_ hst).cast (by kernel_rfl) (by kernel_rfl) (by kernel_rfl) (by kernel_rfl)
          rw [Nat.mul_one]
          exact sAt_row (o := o + k) (n := n - k) (m := m) rfl rfl (by omega) (Nat.le_refl _) (by omega))
        (by
          show Sim _ _ _ (moFr o n cap m cap2 n) [_, _, AObj.row (rowOf (half2 _ _ n) n) true none, _] _ _ [_, _, AObj.row (rowOf (half2 _ _ n) n) true none, _]
          rw [half2_full]
          exact (moE_p0 opn a b M opn2 c d N n cap m cap2 (mtO a b c d o n m) (mtJ a b c d o n m) o hm hN hc hn hm2 hst).cast (by kernel_rfl) (by kernel_rfl) (by kernel_rfl) (by kernel_rfl)) rfl
    rw [half2_zero, half2_full] at h
    exact (h.enter ([true, true, false, false, false, false, true, true] ++ List.replicate 15 false ++ [true, true] ++ List.replicate 12 false) (by kernel_rfl)).cast rfl rfl (by kernel_rfl) rfl
  · exact (mo_reg opn a b M opn2 c d N o n cap m cap2 hm hN hn hm2).cast (by kernel_rfl) rfl (by kernel_rfl) rfl
  · exact sLong_row (σ := [.row (rowOf (fun i => [.complex .f64 (a i) (b i)]) M) false opn, .row (rowOf (fun i => [.complex .f64 (c i) (d i)]) N) false opn2]) rfl rfl hn hm2 hnm
def sMatchO : HeapFn
  | [.slice (some ⟨b, o, some 1⟩) n cap, .slice (some ⟨b2, 0, some 1⟩) m cap2], σ =>
    match σ[b]?, σ[b2]? with
    | some (.row vs _ _), some (.row us _ _) => bif vs.all isCo && (us.all isCo && (Nat.ble (o + n) vs.length && (Nat.ble m us.length && (Nat.ble n cap && (Nat.ble n 16384 && (Nat.ble m 16384 && (Nat.ble 1 m && Nat.ble (n * m) 16777216))))))) then
        some (.tuple #[.slice (some ⟨σ.length, 0, some 1⟩) n n, .int .i64 0], σ ++ [.row (rowOf (fun i => [.complex .f64 (mtO (reC vs) (imC vs) (reC us) (imC us) o n m i) (mtJ (reC vs) (imC vs) (reC us) (imC us) o n m i)]) n) true none]) else none
    | _, _ => none
  | _, _ => none
theorem sMatchO_ok : IsHeap Try.prog false 88 false sMatchO := by
  have key : ∀ (args : List Value) (σ : AHeap) (v : Value) (σ' : AHeap), sMatchO args σ = some (v, σ') → ∃ b o n cap b2 m cap2 vs rw' opn us rw2 opn2, args = [.slice (some ⟨b, o, some 1⟩) n cap, .slice (some ⟨b2, 0, some 1⟩) m cap2] ∧ σ[b]? = some (.row vs rw' opn) ∧ σ[b2]? = some (.row us rw2 opn2) ∧ vs.all isCo = true ∧ us.all isCo = true ∧ o + n ≤ vs.length ∧ m ≤ us.length ∧ n ≤ cap ∧ n ≤ 16384 ∧ m ≤ 16384 ∧ 1 ≤ m ∧ n * m ≤ 16777216 ∧
      v = .tuple #[.slice (some ⟨σ.length, 0, some 1⟩) n n, .int .i64 0] ∧ σ' = σ ++ [.row (rowOf (fun i => [.complex .f64 (mtO (reC vs) (imC vs) (reC us) (imC us) o n m i) (mtJ (reC vs) (imC vs) (reC us) (imC us) o n m i)]) n) true none] := by
    intro args σ v σ' h
    unfold sMatchO at h
    split at h
    · rename_i b o n cap b2 m cap2
      split at h
      · rename_i vs rw' opn us rw2 opn2 hb hb2
        cases hc : (vs.all isCo && (us.all isCo && (Nat.ble (o + n) vs.length && (Nat.ble m us.length && (Nat.ble n cap && (Nat.ble n 16384 && (Nat.ble m 16384 && (Nat.ble 1 m && Nat.ble (n * m) 16777216))))))))
        · rw [hc] at h; cases h
        · rw [hc] at h
          cases h
          simp only [Bool.and_eq_true] at hc
          obtain ⟨c1, c2, c3, c4, c5, c6, c7, c8, c9⟩ := hc
          exact ⟨b, o, n, cap, b2, m, cap2, vs, rw', opn, us, rw2, opn2, rfl, hb, hb2, c1, c2, Nat.le_of_ble_eq_true c3, Nat.le_of_ble_eq_true c4, Nat.le_of_ble_eq_true c5, Nat.le_of_ble_eq_true c6, Nat.le_of_ble_eq_true c7, Nat.le_of_ble_eq_true c8, Nat.le_of_ble_eq_true c9, rfl, rfl⟩
      · cases h
    · cases h
  refine ⟨fun args σ v σ' h => ?_, (by intro h; cases h), fun args σ v σ' h => ?_⟩
  · obtain ⟨b, o, n, cap, b2, m, cap2, vs, rw', opn, us, rw2, opn2, rfl, hb, hb2, c1, c2, c3, c4, c5, c6, c7, c8, c9, rfl, rfl⟩ := key args σ v σ' h
    have hs := matchO_small opn (reC vs) (imC vs) vs.length opn2 (reC us) (imC us) us.length o n cap m cap2 c3 c4 c5 c6 c7 (by omega) c9
    rw [coRow c1, coRow c2] at hs
    refine CallR.frameN (r := fun k => if k = 0 then b else if k = 1 then b2 else k + σ.length) (q := fun k => if k = σ.length then 2 else k + 4) (args0 := [.slice (some ⟨0, o, some 1⟩) n cap, .slice (some ⟨1, 0, some 1⟩) m cap2]) (σ0 := [.row vs false opn, .row us false opn2]) ⟨fun k o' hk => ?_, fun k hk => ?_⟩ rfl hs (k := 2) rfl (rowOf_all (fun _ => rfl) _) (fun _ => rfl) (by simp [renV])
    · have hlt := lt_of_some hk
      have : k = 0 ∨ k = 1 := by simp at hlt; omega
      rcases this with rfl | rfl
      · simp only [List.getElem?_cons_zero, Option.some.injEq] at hk
        exact ⟨vs, opn, rw', hk.symm, hb, isCo_plain c1⟩
      · simp only [List.getElem?_cons_succ, List.getElem?_cons_zero, Option.some.injEq] at hk
        exact ⟨us, opn2, rw2, hk.symm, hb2, isCo_plain c2⟩
    · have hk : 2 ≤ k := hk
      have h0 : ¬ k = 0 := by omega
      have h1 : ¬ k = 1 := by omega
      simp only [h0, h1, if_false]; omega
  · obtain ⟨b, o, n, cap, b2, m, cap2, vs, rw', opn, us, rw2, opn2, rfl, hb, hb2, c1, c2, c3, c4, c5, c6, c7, c8, c9, rfl, rfl⟩ := key args σ v σ' h
    simp
theorem sMatchO_row {x y c d : Nat → Nat} {M N o n cap m cap2 bl b2 : Nat} {rw' rw2 : Bool} {opn opn2 : Option Nat} {σ : AHeap} (hσ : σ[bl]? = some (.row (rowOf (fun i => [.complex .f64 (x i) (y i)]) M) rw' opn)) (hσ2 : σ[b2]? = some (.row (rowOf (fun i => [.complex .f64 (c i) (d i)]) N) rw2 opn2))
    (hm : o + n ≤ M) (hN : m ≤ N) (hc : n ≤ cap) (hn : n ≤ 16384) (hm2 : m ≤ 16384) (h0 : 1 ≤ m) (hnm : n * m ≤ 16777216) : sMatchO [.slice (some ⟨bl, o, some 1⟩) n cap, .slice (some ⟨b2, 0, some 1⟩) m cap2] σ = some (.tuple #[.slice (some ⟨σ.length, 0, some 1⟩) n n, .int .i64 0], σ ++ [.row (rowOf (fun i => [.complex .f64 (mtO x y c d o n m i) (mtJ x y c d o n m i)]) n) true none]) := by
  have hlen := rowOf_len (f := fun i => [Value.complex .f64 (x i) (y i)]) (s := 1) (fun _ => rfl) M
  have hlen2 := rowOf_len (f := fun i => [Value.complex .f64 (c i) (d i)]) (s := 1) (fun _ => rfl) N
  rw [Nat.mul_one] at hlen hlen2
  unfold sMatchO
  simp only [hσ, hσ2, isCo_row, Nat.ble_eq_true_of_le (show o + n ≤ (rowOf (fun i => [Value.complex .f64 (x i) (y i)]) M).length by omega), Nat.ble_eq_true_of_le (show m ≤ (rowOf (fun i => [Value.complex .f64 (c i) (d i)]) N).length by omega), Nat.ble_eq_true_of_le hc, Nat.ble_eq_true_of_le hn, Nat.ble_eq_true_of_le hm2, Nat.ble_eq_true_of_le h0, Nat.ble_eq_true_of_le hnm, Bool.and_self, cond_true]
  have key : ∀ i, i < n → mtO (reC (rowOf (fun i => [Value.complex .f64 (x i) (y i)]) M)) (imC (rowOf (fun i => [Value.complex .f64 (x i) (y i)]) M)) (reC (rowOf (fun i => [Value.complex .f64 (c i) (d i)]) N)) (imC (rowOf (fun i => [Value.complex .f64 (c i) (d i)]) N)) o n m i = mtO x y c d o n m i ∧
      mtJ (reC (rowOf (fun i => [Value.complex .f64 (x i) (y i)]) M)) (imC (rowOf (fun i => [Value.complex .f64 (x i) (y i)]) M)) (reC (rowOf (fun i => [Value.complex .f64 (c i) (d i)]) N)) (imC (rowOf (fun i => [Value.complex .f64 (c i) (d i)]) N)) o n m i = mtJ x y c d o n m i := by
    intro i hi
    have e : ∀ j, j < min (n - i) m → reC (rowOf (fun i => [Value.complex .f64 (x i) (y i)]) M) (o + i + j) = x (o + i + j) ∧ imC (rowOf (fun i => [Value.complex .f64 (x i) (y i)]) M) (o + i + j) = y (o + i + j) ∧ reC (rowOf (fun i => [Value.complex .f64 (c i) (d i)]) N) j = c j ∧ imC (rowOf (fun i => [Value.complex .f64 (c i) (d i)]) N) j = d j :=
      fun j hj => ⟨reC_row (by omega), imC_row (by omega), reC_row (by omega), imC_row (by omega)⟩
    unfold mtO mtJ
    exact ⟨sumC_congr fun j hj => by obtain ⟨k1, k2, k3, k4⟩ := e j hj; unfold atTr; simp only [k1, k2, k3, k4], sumC_congr fun j hj => by obtain ⟨k1, k2, k3, k4⟩ := e j hj; unfold atTi; simp only [k1, k2, k3, k4]⟩
  rw [rowOf_congr (n := n) (g := fun i => [Value.complex .f64 (mtO x y c d o n m i) (mtJ x y c d o n m i)]) fun i hi => by rw [(key i hi).1, (key i hi).2]]
end Go.Lk
end

section
/- Samples of noise, reckoned. -/
namespace Go.Lk
open Go.Proofs
set_option maxRecDepth 100000
set_option linter.unusedVariables false
noncomputable def LSp : Lib := ⟨Try.prog, false, t1, [(217, Try.f217), (33, Try.f33), (35, Try.f35), (127, Try.f127), (51, Try.f51), (128, Try.f128), (219, Try.f219), (218, Try.f218), (215, Try.f215)], [(216, false, Try.f216), (210, false, Try.f210), (199, false, Try.f199)]⟩
theorem LSp_fp : ∀ e, e ∈ LSp.pures → Try.prog.funcs[e.1]? = some e.2 := fs_cons Try.func217 (fs_cons Try.func33 (fs_cons Try.func35 (fs_cons Try.func127 (fs_cons Try.func51 (fs_cons Try.func128 (fs_cons Try.func219 (fs_cons Try.func218 (fs_cons Try.func215 (fs_nil)))))))))
theorem LSp_fh : ∀ e, e ∈ LSp.heaps → Try.prog.funcs[e.1]? = some e.2.2 := gs_cons Try.func216 (gs_cons Try.func210 (gs_cons Try.func199 (gs_nil)))
theorem LSp_p1 (gp : Nat → PureFn) (g : Nat → HeapFn) : (LSp.pures.all fun e => fnOk (LSp.mk' gp g) e.2) = true := by kernel_rfl
theorem LSp_h1 (gp : Nat → PureFn) (g : Nat → HeapFn) : (LSp.heaps.all fun e => fnOk (LSp.mk' gp g) e.2.2 && (!e.2.1 || fnRo (LSp.mk' gp g) e.2.2)) = true := by kernel_rfl
theorem LSp_ok : LSp.Ok := ⟨t1_ok, mixed, LSp_fp, LSp_fh, LSp_p1, LSp_h1⟩
theorem sp_ok : (match Try.f171.body with | some b => codeOk (LSp.cfg 500 12) b | none => false) = true := by kernel_rfl
def spA : List Value := [.pointer (some ⟨0, 0, none⟩), .float .f64 4607182418800017408]
def spH (a : Nat) : AHeap := [.row [.int .u64 (Int.ofNat a)] true none]
def spV (re im : Nat) : Value := .complex .f64 re im
theorem sp_of {a re im a' : Nat} (h : DFn (LSp.cfg 500 12) 500 Try.f171 spA (spH a) = some (spV re im, spH a')) : CallR Try.prog false 171 spA (spH a) (spV re im) (spH a') :=
  CallR.of_DFn (LSp_ok.cfg 500 12) Try.func171 sp_ok (by kernel_rfl) h
theorem sp_0 : DFn (LSp.cfg 500 12) 500 Try.f171 spA (spH 7) = some (spV 13830558752551049776 4608684551068439744, spH 15362738631823041023) := by kernel_rfl
theorem sp_1 : DFn (LSp.cfg 500 12) 500 Try.f171 spA (spH 15362738631823041023) = some (spV 4602848713819600392 13829467918653838968, spH 12278733189936530423) := by kernel_rfl
theorem sp_2 : DFn (LSp.cfg 500 12) 500 Try.f171 spA (spH 12278733189936530423) = some (spV 13823248695234237888 4604715686661395728, spH 9194727748050019823) := by kernel_rfl
theorem sp_3 : DFn (LSp.cfg 500 12) 500 Try.f171 spA (spH 9194727748050019823) = some (spV 4601722161429101120 13816669062821602752, spH 6110722306163509223) := by kernel_rfl
theorem sp_4 : DFn (LSp.cfg 500 12) 500 Try.f171 spA (spH 6110722306163509223) = some (spV 4608962639542601248 4610445780615190228, spH 3026716864276998623) := by kernel_rfl
theorem sp_5 : DFn (LSp.cfg 500 12) 500 Try.f171 spA (spH 3026716864276998623) = some (spV 4607781139877813552 13828392264417234552, spH 18389455496100039639) := by kernel_rfl
theorem sp_6 : DFn (LSp.cfg 500 12) 500 Try.f171 spA (spH 18389455496100039639) = some (spV 4607266093971153024 13831293102400434700, spH 15305450054213529039) := by kernel_rfl
theorem sp_7 : DFn (LSp.cfg 500 12) 500 Try.f171 spA (spH 15305450054213529039) = some (spV 13832564226928140736 4611537902845789580, spH 12221444612327018439) := by kernel_rfl
theorem sp_8 : DFn (LSp.cfg 500 12) 500 Try.f171 spA (spH 12221444612327018439) = some (spV 13828623622671413008 13827284867873513800, spH 9137439170440507839) := by kernel_rfl
theorem sp_9 : DFn (LSp.cfg 500 12) 500 Try.f171 spA (spH 9137439170440507839) = some (spV 13827843526635211696 13810950849017655040, spH 6053433728553997239) := by kernel_rfl
theorem sp_10 : DFn (LSp.cfg 500 12) 500 Try.f171 spA (spH 6053433728553997239) = some (spV 13829960480008595576 13833010185991751984, spH 2969428286667486639) := by kernel_rfl
theorem sp_11 : DFn (LSp.cfg 500 12) 500 Try.f171 spA (spH 2969428286667486639) = some (spV 13822068835359376912 13822262199738139184, spH 18332166918490527655) := by kernel_rfl
theorem sp_12 : DFn (LSp.cfg 500 12) 500 Try.f171 spA (spH 18332166918490527655) = some (spV 4608813006974432080 4598192854152445584, spH 15248161476604017055) := by kernel_rfl
theorem sp_13 : DFn (LSp.cfg 500 12) 500 Try.f171 spA (spH 15248161476604017055) = some (spV 4594767440219657536 13826569700653569440, spH 12164156034717506455) := by kernel_rfl
theorem sp_14 : DFn (LSp.cfg 500 12) 500 Try.f171 spA (spH 12164156034717506455) = some (spV 4603288333978638816 4603484288820972616, spH 9080150592830995855) := by kernel_rfl
theorem sp_15 : DFn (LSp.cfg 500 12) 500 Try.f171 spA (spH 9080150592830995855) = some (spV 13835247248069406440 13835350638895646107, spH 5996145150944485255) := by kernel_rfl
def spT : List (Nat × (Nat × (Nat × Nat))) := [(7, (13830558752551049776, (4608684551068439744, 15362738631823041023))), (15362738631823041023, (4602848713819600392, (13829467918653838968, 12278733189936530423))), (12278733189936530423, (13823248695234237888, (4604715686661395728, 9194727748050019823))), (9194727748050019823, (4601722161429101120, (13816669062821602752, 6110722306163509223))), (6110722306163509223, (4608962639542601248, (4610445780615190228, 3026716864276998623))), (3026716864276998623, (4607781139877813552, (13828392264417234552, 18389455496100039639))), (18389455496100039639, (4607266093971153024, (13831293102400434700, 15305450054213529039))), (15305450054213529039, (13832564226928140736, (4611537902845789580, 12221444612327018439))), (12221444612327018439, (13828623622671413008, (13827284867873513800, 9137439170440507839))), (9137439170440507839, (13827843526635211696, (13810950849017655040, 6053433728553997239))), (6053433728553997239, (13829960480008595576, (13833010185991751984, 2969428286667486639))), (2969428286667486639, (13822068835359376912, (13822262199738139184, 18332166918490527655))), (18332166918490527655, (4608813006974432080, (4598192854152445584, 15248161476604017055))), (15248161476604017055, (4594767440219657536, (13826569700653569440, 12164156034717506455))), (12164156034717506455, (4603288333978638816, (4603484288820972616, 9080150592830995855))), (9080150592830995855, (13835247248069406440, (13835350638895646107, 5996145150944485255)))]
theorem spT_ok : ∀ e, e ∈ spT → CallR Try.prog false 171 spA (spH e.1) (spV e.2.1 e.2.2.1) (spH e.2.2.2) := by
  intro e h
  unfold spT at h
  simp only [List.mem_cons, List.not_mem_nil, or_false] at h
  rcases h with rfl | rfl | rfl | rfl | rfl | rfl | rfl | rfl | rfl | rfl | rfl | rfl | rfl | rfl | rfl | rfl
  · exact sp_of sp_0
  · exact sp_of sp_1
  · exact sp_of sp_2
  · exact sp_of sp_3
  · exact sp_of sp_4
  · exact sp_of sp_5
  · exact sp_of sp_6
  · exact sp_of sp_7
  · exact sp_of sp_8
  · exact sp_of sp_9
  · exact sp_of sp_10
  · exact sp_of sp_11
  · exact sp_of sp_12
  · exact sp_of sp_13
  · exact sp_of sp_14
  · exact sp_of sp_15
def sPair : HeapFn
  | [.pointer (some ⟨b, 0, none⟩), .float .f64 4607182418800017408], σ =>
    match σ[b]? with
    | some (.row [.int .u64 (.ofNat a)] true none) =>
      match look spT a with
      | some (re, im, a') => some (.complex .f64 re im, σ.set b (.row [.int .u64 (Int.ofNat a')] true none))
      | none => none
    | _ => none
  | _, _ => none
theorem sPair_is {b a re im a' : Nat} {σ : AHeap} (hb : σ[b]? = some (.row [.int .u64 (Int.ofNat a)] true none)) (h : CallR Try.prog false 171 spA (spH a) (spV re im) (spH a')) :
    CallR Try.prog false 171 [.pointer (some ⟨b, 0, none⟩), .float .f64 4607182418800017408] σ (.complex .f64 re im) (σ.set b (.row [.int .u64 (Int.ofNat a')] true none)) := by
  have hlt := lt_of_some hb
  refine CallR.frameW (r := fun k => if k = 0 then b else k + σ.length) (σ0 := spH a) (args0 := spA) ⟨fun k o hk => ?_, fun k k' h1 h2 _ => ?_, fun k hk => ?_⟩ ?_ h rfl (by simp) (fun k o hk => ?_)
  · cases k with
    | zero => cases hk; exact ⟨_, _, _, _, rfl, hb, fun h => h, rfl⟩
    | succ k => simp [spH] at hk
  · simp [spH] at h1 h2; omega
  · have : k ≠ 0 := by simp [spH] at hk; omega
    rw [if_neg this]; omega
  · rfl
  · rw [List.getElem?_set] at hk
    by_cases e : b = k
    · rw [if_pos e, if_pos hlt] at hk
      cases hk
      exact .inr (.inr ⟨0, _, _, _, by simpa using e, rfl, rfl, rfl, rfl⟩)
    · rw [if_neg e] at hk
      refine .inr (.inl ⟨hk, fun k' hw => ?_⟩)
      cases k' with
      | zero => simpa using e
      | succ k' => simp [wrk, spH] at hw
theorem sPair_ok : IsHeap Try.prog false 171 false sPair := by
  have key : ∀ args σ v σ', sPair args σ = some (v, σ') → CallR Try.prog false 171 args σ v σ' ∧ σ.length ≤ σ'.length := by
    intro args σ v σ' h
    unfold sPair at h
    split at h
    · split at h
      · rename_i hb
        split at h
        · rename_i hl
          cases h
          exact ⟨sPair_is hb (spT_ok _ (look_mem hl)), by simp⟩
        · cases h
      · cases h
    · cases h
  exact ⟨fun _ _ _ _ h => (key _ _ _ _ h).1, (by intro h; cases h), fun _ _ _ _ h => (key _ _ _ _ h).2⟩
noncomputable def tsp : Tab := (t1.addH 171 false sPair)
theorem tsp_ok : tsp.Ok Try.prog false := (Tab.Ok.addH t1_ok sPair_ok)
end Go.Lk
end

section
/- wakes: reckoned. -/
namespace Go.Lk
open Go.Proofs
set_option maxRecDepth 100000
noncomputable def LScA : Lib := ⟨Try.prog, false, tsp, [(209, Try.f209), (197, Try.f197), (127, Try.f127), (51, Try.f51), (128, Try.f128), (55, Try.f55), (35, Try.f35), (206, Try.f206), (181, Try.f181), (123, Try.f123), (32, Try.f32), (160, Try.f160), (207, Try.f207), (182, Try.f182), (125, Try.f125), (36, Try.f36), (148, Try.f148), (69, Try.f69), (135, Try.f135), (136, Try.f136), (172, Try.f172), (33, Try.f33)], [(166, true, Try.f166), (167, true, Try.f167), (168, false, Try.f168), (183, true, Try.f183), (198, false, Try.f198), (169, false, Try.f169), (170, false, Try.f170)]⟩
theorem LScA_fp : ∀ e, e ∈ LScA.pures → Try.prog.funcs[e.1]? = some e.2 := fs_cons Try.func209 (fs_cons Try.func197 (fs_cons Try.func127 (fs_cons Try.func51 (fs_cons Try.func128 (fs_cons Try.func55 (fs_cons Try.func35 (fs_cons Try.func206 (fs_cons Try.func181 (fs_cons Try.func123 (fs_cons Try.func32 (fs_cons Try.func160 (fs_cons Try.func207 (fs_cons Try.func182 (fs_cons Try.func125 (fs_cons Try.func36 (fs_cons Try.func148 (fs_cons Try.func69 (fs_cons Try.func135 (fs_cons Try.func136 (fs_cons Try.func172 (fs_cons Try.func33 (fs_nil))))))))))))))))))))))
theorem LScA_fh : ∀ e, e ∈ LScA.heaps → Try.prog.funcs[e.1]? = some e.2.2 := gs_cons Try.func166 (gs_cons Try.func167 (gs_cons Try.func168 (gs_cons Try.func183 (gs_cons Try.func198 (gs_cons Try.func169 (gs_cons Try.func170 (gs_nil)))))))
theorem LScA_p1 (gp : Nat → PureFn) (g : Nat → HeapFn) : (LScA.pures.all fun e => fnOk (LScA.mk' gp g) e.2) = true := by kernel_rfl
theorem LScA_h1 (gp : Nat → PureFn) (g : Nat → HeapFn) : (LScA.heaps.all fun e => fnOk (LScA.mk' gp g) e.2.2 && (!e.2.1 || fnRo (LScA.mk' gp g) e.2.2)) = true := by kernel_rfl
theorem LScA_ok : LScA.Ok := ⟨tsp_ok, mixed, LScA_fp, LScA_fh, LScA_p1, LScA_h1⟩
noncomputable def dLScA : Cfg := LScA.cfg 3000 12
theorem dLScA_ok : dLScA.Ok := LScA_ok.cfg 3000 12
theorem ok105 : fnOkX dLScA [24] Try.f105 = true := by kernel_rfl
noncomputable def s105 : HeapFn := fun args σ =>
  match DOfnT dLScA [24] 3000 Try.f105 args σ [] with
  | some ([], v, σ1) => bif Nat.ble σ.length σ1.length then some (v, σ1) else none
  | _ => none
theorem s105_run {args : List Value} {σ σ' : AHeap} {v : Value} (h : s105 args σ = some (v, σ')) : CallR Try.prog false 105 args σ v σ' ∧ σ.length ≤ σ'.length := by
  unfold s105 at h
  split at h
  · rename_i v1 σ1 hd
    cases hb : Nat.ble σ.length σ1.length
    · rw [hb] at h; cases h
    · rw [hb] at h; cases h
      exact ⟨CallR.of_DOT dLScA_ok Try.func105 ok105 hd trivial, Nat.le_of_ble_eq_true hb⟩
  · cases h
theorem s105_ok : IsHeap Try.prog false 105 false s105 := ⟨fun _ _ _ _ h => (s105_run h).1, (by intro h; cases h), fun _ _ _ _ h => (s105_run h).2⟩
noncomputable def tsc : Tab := (tsp.addH 105 false s105)
theorem tsc_ok : tsc.Ok Try.prog false := (Tab.Ok.addH tsp_ok s105_ok)
noncomputable def LScB : Lib := ⟨Try.prog, false, tsc, [(102, Try.f102), (209, Try.f209), (197, Try.f197), (127, Try.f127), (51, Try.f51), (128, Try.f128), (55, Try.f55), (35, Try.f35), (206, Try.f206), (181, Try.f181), (123, Try.f123), (32, Try.f32), (160, Try.f160), (207, Try.f207), (182, Try.f182), (125, Try.f125), (36, Try.f36), (148, Try.f148), (69, Try.f69), (135, Try.f135), (136, Try.f136), (172, Try.f172), (33, Try.f33)], [(166, true, Try.f166), (167, true, Try.f167), (168, false, Try.f168), (183, true, Try.f183), (198, false, Try.f198), (169, false, Try.f169), (170, false, Try.f170), (103, false, Try.f103)]⟩
theorem LScB_fp : ∀ e, e ∈ LScB.pures → Try.prog.funcs[e.1]? = some e.2 := fs_cons Try.func102 (fs_cons Try.func209 (fs_cons Try.func197 (fs_cons Try.func127 (fs_cons Try.func51 (fs_cons Try.func128 (fs_cons Try.func55 (fs_cons Try.func35 (fs_cons Try.func206 (fs_cons Try.func181 (fs_cons Try.func123 (fs_cons Try.func32 (fs_cons Try.func160 (fs_cons Try.func207 (fs_cons Try.func182 (fs_cons Try.func125 (fs_cons Try.func36 (fs_cons Try.func148 (fs_cons Try.func69 (fs_cons Try.func135 (fs_cons Try.func136 (fs_cons Try.func172 (fs_cons Try.func33 (fs_nil)))))))))))))))))))))))
theorem LScB_fh : ∀ e, e ∈ LScB.heaps → Try.prog.funcs[e.1]? = some e.2.2 := gs_cons Try.func166 (gs_cons Try.func167 (gs_cons Try.func168 (gs_cons Try.func183 (gs_cons Try.func198 (gs_cons Try.func169 (gs_cons Try.func170 (gs_cons Try.func103 (gs_nil))))))))
theorem LScB_p1 (gp : Nat → PureFn) (g : Nat → HeapFn) : (LScB.pures.all fun e => fnOk (LScB.mk' gp g) e.2) = true := by kernel_rfl
theorem LScB_h1 (gp : Nat → PureFn) (g : Nat → HeapFn) : (LScB.heaps.all fun e => fnOk (LScB.mk' gp g) e.2.2 && (!e.2.1 || fnRo (LScB.mk' gp g) e.2.2)) = true := by kernel_rfl
theorem LScB_ok : LScB.Ok := ⟨tsc_ok, mixed, LScB_fp, LScB_fh, LScB_p1, LScB_h1⟩
theorem sck_ok : (match Try.f106.body with | some b => codeOk (LScB.cfg 3000 12) b | none => false) = true := by kernel_rfl
theorem sck_run : ((DFn (LScB.cfg 3000 12) 3000 Try.f106 [] []).map fun x => x.1) = some (.bool true) := by kernel_rfl
theorem sck_call : CallR Try.prog false 106 [] [] (.bool true) [] := by
  have h := sck_run
  cases hd : DFn (LScB.cfg 3000 12) 3000 Try.f106 [] [] with
  | none => rw [hd] at h; cases h
  | some x =>
    obtain ⟨v, σ1⟩ := x
    rw [hd] at h
    simp only [Option.map_some, Option.some.injEq] at h
    subst h
    exact CallR.of_DFn_nil (LScB_ok.cfg 3000 12) Try.func106 sck_ok (by kernel_rfl) hd rfl
end Go.Lk
end

section
/- The scene wakes. -/
namespace Go.Lk
open Go.Proofs
set_option linter.unusedVariables false
def sWks12 : PureFn
  | [] => some (.bool true)
  | _ => none
theorem sWks12_ok : IsPure Try.prog false 106 sWks12 := by
  intro args v σ h
  unfold sWks12 at h
  split at h
  · cases h
    exact CallR.frameQ (r := fun k => k + σ.length) (args0 := []) (σ0 := []) ⟨fun k o hk => by simp at hk, fun k hk => by omega⟩ rfl sck_call rfl
  · cases h
end Go.Lk
end
