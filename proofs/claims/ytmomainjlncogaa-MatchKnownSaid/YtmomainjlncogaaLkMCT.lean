/- Match: its contract. -/
import Derived.Test.YtmomainjlncogaaLkMW
namespace Go.Lk
open Go.Proofs
set_option maxRecDepth 100000
set_option maxHeartbeats 0
set_option linter.unusedVariables false
set_option linter.unusedSimpArgs false
def mtR (a b c d : Nat → Nat) (n m k : Nat) : Nat := sumC (atTr a b c (fun i => fneg (d i)) k) (min (n - k) m)
def mtI (a b c d : Nat → Nat) (n m k : Nat) : Nat := sumC (atTi a b c (fun i => fneg (d i)) k) (min (n - k) m)
theorem match_small (opn : Option Nat) (a b : Nat → Nat) (M : Nat) (opn2 : Option Nat) (c d : Nat → Nat) (N n cap m cap2 : Nat) (hm : n ≤ M) (hN : m ≤ N) (hc : n ≤ cap) (hn : n ≤ 16384) (hm2 : m ≤ 16384) (h0 : 0 < m) (hnm : n * m ≤ 16777216) :
    CallR Try.prog false 88 [.slice (some ⟨0, 0, some 1⟩) n cap, .slice (some ⟨1, 0, some 1⟩) m cap2] [.row (rowOf (fun i => [.complex .f64 (a i) (b i)]) M) false opn, .row (rowOf (fun i => [.complex .f64 (c i) (d i)]) N) false opn2]
      (.tuple #[.slice (some ⟨2, 0, some 1⟩) n n, .int .i64 0])
      [.row (rowOf (fun i => [.complex .f64 (a i) (b i)]) M) false opn, .row (rowOf (fun i => [.complex .f64 (c i) (d i)]) N) false opn2, .row (rowOf (fun i => [.complex .f64 (mtR a b c d n m i) (mtI a b c d n m i)]) n) true none, .row (rowOf (fun i => [.complex .f64 (c i) (fneg (d i))]) m) true none] := by
  refine mmA_p0 opn a b M opn2 c d N n cap m cap2 (mtR a b c d n m) (mtI a b c d n m) hm hN hc hn hm2 (by rw [iN_eq]; exact beq_false_of_ne (by show ((m : Nat) : Int) ≠ 0; omega)) hnm ?_ (fun _ => ?_) ?_
  · intro hst
    have h : Sim dLMm 4 (.loop (loopOf Try.f88 0)) (mmFr n cap m cap2 0) [.row (rowOf (fun i => [.complex .f64 (a i) (b i)]) M) false opn, .row (rowOf (fun i => [.complex .f64 (c i) (d i)]) N) false opn2, .row (rowOf (half2 (fun i => [.complex .f64 (mtR a b c d n m i) (mtI a b c d n m i)]) (fun _ => [.complex .f64 0 0]) 0) n) true none, .row (rowOf (fun i => [.complex .f64 (c i) (fneg (d i))]) m) true none] (.exit 1) (mmFr n cap m cap2 n)
        [.row (rowOf (fun i => [.complex .f64 (a i) (b i)]) M) false opn, .row (rowOf (fun i => [.complex .f64 (c i) (d i)]) N) false opn2, .row (rowOf (half2 (fun i => [.complex .f64 (mtR a b c d n m i) (mtI a b c d n m i)]) (fun _ => [.complex .f64 0 0]) n) n) true none, .row (rowOf (fun i => [.complex .f64 (c i) (fneg (d i))]) m) true none] :=
      Sim.loop (fun k => (mmFr n cap m cap2 k, [AObj.row (rowOf (fun i => [.complex .f64 (a i) (b i)]) M) false opn, .row (rowOf (fun i => [.complex .f64 (c i) (d i)]) N) false opn2, .row (rowOf (half2 (fun i => [.complex .f64 (mtR a b c d n m i) (mtI a b c d n m i)]) (fun _ => [.complex .f64 0 0]) k) n) true none, .row (rowOf (fun i => [.complex .f64 (c i) (fneg (d i))]) m) true none])) n
        (fun k hk => by
          refine (mmR_p0 opn a b M opn2 c d N n cap m cap2 (mtR a b c d n m) (mtI a b c d n m) hm hN hc hn hm2 k hk ?_ hst).cast (by kernel_rfl) (by kernel_rfl) (by kernel_rfl) (by kernel_rfl)
          rw [Nat.mul_one, Nat.zero_add]
          exact sAt_row (o := k) (n := n - k) (m := m) rfl rfl (by omega) (Nat.le_refl _) (by omega))
        (by
          show Sim _ _ _ (mmFr n cap m cap2 n) [_, _, AObj.row (rowOf (half2 _ _ n) n) true none, _] _ _ [_, _, AObj.row (rowOf (half2 _ _ n) n) true none, _]
          rw [half2_full]
          exact (mmE_p0 opn a b M opn2 c d N n cap m cap2 (mtR a b c d n m) (mtI a b c d n m) hm hN hc hn hm2 hst).cast (by kernel_rfl) (by kernel_rfl) (by kernel_rfl) (by kernel_rfl)) rfl
    rw [half2_zero, half2_full] at h
    exact (h.enter ([true, true, false, false, false, false, true, true] ++ List.replicate 15 false ++ [true, true] ++ List.replicate 12 false) (by kernel_rfl)).cast rfl rfl (by kernel_rfl) rfl
  · exact (mm_reg opn a b M opn2 c d N n cap m cap2 hm hN hn hm2).cast (by kernel_rfl) rfl (by kernel_rfl) rfl
  · exact sLong_row (σ := [.row (rowOf (fun i => [.complex .f64 (a i) (b i)]) M) false opn, .row (rowOf (fun i => [.complex .f64 (c i) (d i)]) N) false opn2]) rfl rfl hn hm2 hnm
def sMatch : HeapFn
  | [.slice (some ⟨b, 0, some 1⟩) n cap, .slice (some ⟨b2, 0, some 1⟩) m cap2], σ =>
    match σ[b]?, σ[b2]? with
    | some (.row vs _ _), some (.row us _ _) => bif vs.all isCo && (us.all isCo && (Nat.ble n vs.length && (Nat.ble m us.length && (Nat.ble n cap && (Nat.ble n 16384 && (Nat.ble m 16384 && (Nat.ble 1 m && Nat.ble (n * m) 16777216))))))) then
        some (.tuple #[.slice (some ⟨σ.length, 0, some 1⟩) n n, .int .i64 0], σ ++ [.row (rowOf (fun i => [.complex .f64 (mtR (reC vs) (imC vs) (reC us) (imC us) n m i) (mtI (reC vs) (imC vs) (reC us) (imC us) n m i)]) n) true none]) else none
    | _, _ => none
  | _, _ => none
theorem sMatch_ok : IsHeap Try.prog false 88 false sMatch := by
  have key : ∀ (args : List Value) (σ : AHeap) (v : Value) (σ' : AHeap), sMatch args σ = some (v, σ') → ∃ b n cap b2 m cap2 vs rw' opn us rw2 opn2, args = [.slice (some ⟨b, 0, some 1⟩) n cap, .slice (some ⟨b2, 0, some 1⟩) m cap2] ∧ σ[b]? = some (.row vs rw' opn) ∧ σ[b2]? = some (.row us rw2 opn2) ∧ vs.all isCo = true ∧ us.all isCo = true ∧ n ≤ vs.length ∧ m ≤ us.length ∧ n ≤ cap ∧ n ≤ 16384 ∧ m ≤ 16384 ∧ 1 ≤ m ∧ n * m ≤ 16777216 ∧
      v = .tuple #[.slice (some ⟨σ.length, 0, some 1⟩) n n, .int .i64 0] ∧ σ' = σ ++ [.row (rowOf (fun i => [.complex .f64 (mtR (reC vs) (imC vs) (reC us) (imC us) n m i) (mtI (reC vs) (imC vs) (reC us) (imC us) n m i)]) n) true none] := by
    intro args σ v σ' h
    unfold sMatch at h
    split at h
    · rename_i b n cap b2 m cap2
      split at h
      · rename_i vs rw' opn us rw2 opn2 hb hb2
        cases hc : (vs.all isCo && (us.all isCo && (Nat.ble n vs.length && (Nat.ble m us.length && (Nat.ble n cap && (Nat.ble n 16384 && (Nat.ble m 16384 && (Nat.ble 1 m && Nat.ble (n * m) 16777216))))))))
        · rw [hc] at h; cases h
        · rw [hc] at h
          cases h
          simp only [Bool.and_eq_true] at hc
          obtain ⟨c1, c2, c3, c4, c5, c6, c7, c8, c9⟩ := hc
          exact ⟨b, n, cap, b2, m, cap2, vs, rw', opn, us, rw2, opn2, rfl, hb, hb2, c1, c2, Nat.le_of_ble_eq_true c3, Nat.le_of_ble_eq_true c4, Nat.le_of_ble_eq_true c5, Nat.le_of_ble_eq_true c6, Nat.le_of_ble_eq_true c7, Nat.le_of_ble_eq_true c8, Nat.le_of_ble_eq_true c9, rfl, rfl⟩
      · cases h
    · cases h
  refine ⟨fun args σ v σ' h => ?_, (by intro h; cases h), fun args σ v σ' h => ?_⟩
  · obtain ⟨b, n, cap, b2, m, cap2, vs, rw', opn, us, rw2, opn2, rfl, hb, hb2, c1, c2, c3, c4, c5, c6, c7, c8, c9, rfl, rfl⟩ := key args σ v σ' h
    have hs := match_small opn (reC vs) (imC vs) vs.length opn2 (reC us) (imC us) us.length n cap m cap2 c3 c4 c5 c6 c7 (by omega) c9
    rw [coRow c1, coRow c2] at hs
    refine CallR.frameN (r := fun k => if k = 0 then b else if k = 1 then b2 else k + σ.length) (q := fun k => if k = σ.length then 2 else k + 4) (args0 := [.slice (some ⟨0, 0, some 1⟩) n cap, .slice (some ⟨1, 0, some 1⟩) m cap2]) (σ0 := [.row vs false opn, .row us false opn2]) ⟨fun k o' hk => ?_, fun k hk => ?_⟩ rfl hs (k := 2) rfl (rowOf_all (fun _ => rfl) _) (fun _ => rfl) (by simp [renV])
    · have hlt := lt_of_some hk
      have : k = 0 ∨ k = 1 := by simp at hlt; omega
      rcases this with rfl | rfl
      · simp only [List.getElem?_cons_zero, Option.some.injEq] at hk
        exact ⟨vs, opn, rw', hk.symm, hb, isCo_plain c1⟩
      · simp only [List.getElem?_cons_succ, List.getElem?_cons_zero, Option.some.injEq] at hk
        exact ⟨us, opn2, rw2, hk.symm, hb2, isCo_plain c2⟩
    · have hk : 2 ≤ k := hk
      have h0 : ¬ k = 0 := by omega
      have h1 : ¬ k = 1 := by omega
      simp only [h0, h1, if_false]; omega
  · obtain ⟨b, n, cap, b2, m, cap2, vs, rw', opn, us, rw2, opn2, rfl, hb, hb2, c1, c2, c3, c4, c5, c6, c7, c8, c9, rfl, rfl⟩ := key args σ v σ' h
    simp
theorem sMatch_row {x y c d : Nat → Nat} {M N n cap m cap2 bl b2 : Nat} {rw' rw2 : Bool} {opn opn2 : Option Nat} {σ : AHeap} (hσ : σ[bl]? = some (.row (rowOf (fun i => [.complex .f64 (x i) (y i)]) M) rw' opn)) (hσ2 : σ[b2]? = some (.row (rowOf (fun i => [.complex .f64 (c i) (d i)]) N) rw2 opn2))
    (hm : n ≤ M) (hN : m ≤ N) (hc : n ≤ cap) (hn : n ≤ 16384) (hm2 : m ≤ 16384) (h0 : 1 ≤ m) (hnm : n * m ≤ 16777216) : sMatch [.slice (some ⟨bl, 0, some 1⟩) n cap, .slice (some ⟨b2, 0, some 1⟩) m cap2] σ = some (.tuple #[.slice (some ⟨σ.length, 0, some 1⟩) n n, .int .i64 0], σ ++ [.row (rowOf (fun i => [.complex .f64 (mtR x y c d n m i) (mtI x y c d n m i)]) n) true none]) := by
  have hlen := rowOf_len (f := fun i => [Value.complex .f64 (x i) (y i)]) (s := 1) (fun _ => rfl) M
  have hlen2 := rowOf_len (f := fun i => [Value.complex .f64 (c i) (d i)]) (s := 1) (fun _ => rfl) N
  rw [Nat.mul_one] at hlen hlen2
  unfold sMatch
  simp only [hσ, hσ2, isCo_row, Nat.ble_eq_true_of_le (show n ≤ (rowOf (fun i => [Value.complex .f64 (x i) (y i)]) M).length by omega), Nat.ble_eq_true_of_le (show m ≤ (rowOf (fun i => [Value.complex .f64 (c i) (d i)]) N).length by omega), Nat.ble_eq_true_of_le hc, Nat.ble_eq_true_of_le hn, Nat.ble_eq_true_of_le hm2, Nat.ble_eq_true_of_le h0, Nat.ble_eq_true_of_le hnm, Bool.and_self, cond_true]
  have key : ∀ i, i < n → mtR (reC (rowOf (fun i => [Value.complex .f64 (x i) (y i)]) M)) (imC (rowOf (fun i => [Value.complex .f64 (x i) (y i)]) M)) (reC (rowOf (fun i => [Value.complex .f64 (c i) (d i)]) N)) (imC (rowOf (fun i => [Value.complex .f64 (c i) (d i)]) N)) n m i = mtR x y c d n m i ∧
      mtI (reC (rowOf (fun i => [Value.complex .f64 (x i) (y i)]) M)) (imC (rowOf (fun i => [Value.complex .f64 (x i) (y i)]) M)) (reC (rowOf (fun i => [Value.complex .f64 (c i) (d i)]) N)) (imC (rowOf (fun i => [Value.complex .f64 (c i) (d i)]) N)) n m i = mtI x y c d n m i := by
    intro i hi
    have e : ∀ j, j < min (n - i) m → reC (rowOf (fun i => [Value.complex .f64 (x i) (y i)]) M) (i + j) = x (i + j) ∧ imC (rowOf (fun i => [Value.complex .f64 (x i) (y i)]) M) (i + j) = y (i + j) ∧ reC (rowOf (fun i => [Value.complex .f64 (c i) (d i)]) N) j = c j ∧ imC (rowOf (fun i => [Value.complex .f64 (c i) (d i)]) N) j = d j :=
      fun j hj => ⟨reC_row (by omega), imC_row (by omega), reC_row (by omega), imC_row (by omega)⟩
    unfold mtR mtI
    exact ⟨sumC_congr fun j hj => by obtain ⟨k1, k2, k3, k4⟩ := e j hj; unfold atTr; simp only [k1, k2, k3, k4], sumC_congr fun j hj => by obtain ⟨k1, k2, k3, k4⟩ := e j hj; unfold atTi; simp only [k1, k2, k3, k4]⟩
  rw [rowOf_congr (n := n) (g := fun i => [Value.complex .f64 (mtR x y c d n m i) (mtI x y c d n m i)]) fun i hi => by rw [(key i hi).1, (key i hi).2]]
noncomputable def tmx : Tab := tmv.addH 88 false sMatch
theorem tmx_ok : tmx.Ok Try.prog false := Tab.Ok.addH tmv_ok sMatch_ok
end Go.Lk
