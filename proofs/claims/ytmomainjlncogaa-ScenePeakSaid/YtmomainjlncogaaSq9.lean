import Derived.Test.YtmomainjlncogaaSq8
import Derived.Test.YtmomainjlncogaaSq4
import Derived.Test.YtmomainjlncogaaSq5
import Derived.Test.YtmomainjlncogaaSq7
section
/- Match: its rounds. -/
namespace Go.Lk
open Go.Proofs
set_option maxRecDepth 100000
set_option maxHeartbeats 0
set_option linter.unusedVariables false
set_option linter.unusedSimpArgs false
noncomputable def LMl : Lib := ⟨Try.prog, false, tmt, [], []⟩
theorem LMl_fp : ∀ e, e ∈ LMl.pures → Try.prog.funcs[e.1]? = some e.2 := fs_nil
theorem LMl_fh : ∀ e, e ∈ LMl.heaps → Try.prog.funcs[e.1]? = some e.2.2 := gs_nil
theorem LMl_p1 (gp : Nat → PureFn) (g : Nat → HeapFn) : (LMl.pures.all fun e => fnOk (LMl.mk' gp g) e.2) = true := by kernel_rfl
theorem LMl_h1 (gp : Nat → PureFn) (g : Nat → HeapFn) : (LMl.heaps.all fun e => fnOk (LMl.mk' gp g) e.2.2 && (!e.2.1 || fnRo (LMl.mk' gp g) e.2.2)) = true := by kernel_rfl
theorem LMl_ok : LMl.Ok := ⟨tmt_ok, mixed, LMl_fp, LMl_fh, LMl_p1, LMl_h1⟩
noncomputable def dLMl : Cfg := LMl.cfg 100 6
theorem dLMl_ok : dLMl.Ok := LMl_ok.cfg 100 6

theorem lgA_fok : fnOkX (dLMl) [] Try.f156 = true := by kernel_rfl
theorem lgA_p0 (opn : Option Nat) (a : Nat → Nat) (b : Nat → Nat) (M : Nat) (opn2 : Option Nat) (c : Nat → Nat) (d : Nat → Nat) (N : Nat) (o : Nat) (n : Nat) (cap : Nat) (m : Nat) (cap2 : Nat) (hn : n ≤ 16384) (hm : m ≤ 16384) (hnm : n * m ≤ 16777216) : CallR Try.prog false 156 ([Value.slice (some ⟨0, o, some 1⟩) n cap, Value.slice (some ⟨1, 0, some 1⟩) m cap2]) ([AObj.row (rowOf (fun i => [Value.complex .f64 (a i) (b i)]) M) false opn, AObj.row (rowOf (fun i => [Value.complex .f64 (c i) (d i)]) N) false opn2]) (Value.bool (decide (iN (n * m) > 16777216))) ([AObj.row (rowOf (fun i => [Value.complex .f64 (a i) (b i)]) M) false opn, AObj.row (rowOf (fun i => [Value.complex .f64 (c i) (d i)]) N) false opn2]) := CallR.of_DOXs (C := dLMl) dLMl_ok (X := []) Try.func156 lgA_fok (n := 3) (orc := [(10, Item.br true), (12, Item.br true), (14, Item.br true), (17, Item.res (Value.bool (decide (iN m > 16384)))), (20, Item.br true), (22, Item.br true), (24, Item.br true), (26, Item.br true), (28, Item.br true), (29, Item.res (Value.int .i64 (iN (n * m)))), (30, Item.br true), (33, Item.res (Value.bool (decide (iN (n * m) > 16777216))))]) (ps := [(some (decide (iN n > 16384) == false) = some true), (some (decide (iN n > 16384) == false) = some true), (some (decide (iN n > 16384) == false) = some true), (pP (some (Value.bool true)) (some (Value.bool (decide (iN m > 16384)))) ([AObj.row (rowOf (fun i => [Value.complex .f64 (a i) (b i)]) M) false opn, AObj.row (rowOf (fun i => [Value.complex .f64 (c i) (d i)]) N) false opn2]) (decide (iN n > 16384)) (Value.bool (decide (iN m > 16384)))), (some (decide (iN m > 16384) == false) = some true), (some (decide (iN m > 16384) == false) = some true), (some (decide (iN m > 16384) == false) = some true), (some (decide (iN m > 16384) == false) = some true), (some (decide (iN m > 16384) == false) = some true), (wF IntKind.i64 (iN n * iN m) ([AObj.row (rowOf (fun i => [Value.complex .f64 (a i) (b i)]) M) false opn, AObj.row (rowOf (fun i => [Value.complex .f64 (c i) (d i)]) N) false opn2]) = some (.int IntKind.i64 (iN (n * m)), [AObj.row (rowOf (fun i => [Value.complex .f64 (a i) (b i)]) M) false opn, AObj.row (rowOf (fun i => [Value.complex .f64 (c i) (d i)]) N) false opn2])), (some (decide (iN m > 16384) == false) = some true), (pP (some (Value.bool true)) (some (Value.bool (decide (iN (n * m) > 16777216)))) ([AObj.row (rowOf (fun i => [Value.complex .f64 (a i) (b i)]) M) false opn, AObj.row (rowOf (fun i => [Value.complex .f64 (c i) (d i)]) N) false opn2]) (decide (iN m > 16384)) (Value.bool (decide (iN (n * m) > 16777216))))]) (by kernel_rfl) (fun hst => ⟨bP_of (fun x => x == false) (show (decide (iN n > 16384)) = false from decide_eq_false (by (try simp only [decide_eq_true_eq, decide_eq_false_iff_not] at *); (try simp only [iN_eq, Int.ofNat_eq_natCast] at *); try omega)), ⟨bP_of (fun x => x == false) (show (decide (iN n > 16384)) = false from decide_eq_false (by (try simp only [decide_eq_true_eq, decide_eq_false_iff_not] at *); (try simp only [iN_eq, Int.ofNat_eq_natCast] at *); try omega)), ⟨bP_of (fun x => x == false) (show (decide (iN n > 16384)) = false from decide_eq_false (by (try simp only [decide_eq_true_eq, decide_eq_false_iff_not] at *); (try simp only [iN_eq, Int.ofNat_eq_natCast] at *); try omega)), ⟨pP_f _ _ _ (congrArg (fun bb => (bb)) (show (decide (iN n > 16384)) = false from decide_eq_false (by (try simp only [decide_eq_true_eq, decide_eq_false_iff_not] at *); (try simp only [iN_eq, Int.ofNat_eq_natCast] at *); try omega))), ⟨bP_of (fun x => x == false) (show (decide (iN m > 16384)) = false from decide_eq_false (by (try simp only [decide_eq_true_eq, decide_eq_false_iff_not] at *); (try simp only [iN_eq, Int.ofNat_eq_natCast] at *); try omega)), ⟨bP_of (fun x => x == false) (show (decide (iN m > 16384)) = false from decide_eq_false (by (try simp only [decide_eq_true_eq, decide_eq_false_iff_not] at *); (try simp only [iN_eq, Int.ofNat_eq_natCast] at *); try omega)), ⟨bP_of (fun x => x == false) (show (decide (iN m > 16384)) = false from decide_eq_false (by (try simp only [decide_eq_true_eq, decide_eq_false_iff_not] at *); (try simp only [iN_eq, Int.ofNat_eq_natCast] at *); try omega)), ⟨bP_of (fun x => x == false) (show (decide (iN m > 16384)) = false from decide_eq_false (by (try simp only [decide_eq_true_eq, decide_eq_false_iff_not] at *); (try simp only [iN_eq, Int.ofNat_eq_natCast] at *); try omega)), ⟨bP_of (fun x => x == false) (show (decide (iN m > 16384)) = false from decide_eq_false (by (try simp only [decide_eq_true_eq, decide_eq_false_iff_not] at *); (try simp only [iN_eq, Int.ofNat_eq_natCast] at *); try omega)), ⟨wF_ok _ (by (try simp only [decide_eq_true_eq, decide_eq_false_iff_not] at *); (try simp only [iN_eq, Int.ofNat_eq_natCast] at *); try omega) (by (try simp only [decide_eq_true_eq, decide_eq_false_iff_not] at *); (try simp only [iN_eq, Int.ofNat_eq_natCast] at *); try omega), ⟨bP_of (fun x => x == false) (show (decide (iN m > 16384)) = false from decide_eq_false (by (try simp only [decide_eq_true_eq, decide_eq_false_iff_not] at *); (try simp only [iN_eq, Int.ofNat_eq_natCast] at *); try omega)), ⟨pP_f _ _ _ (congrArg (fun bb => (bb)) (show (decide (iN m > 16384)) = false from decide_eq_false (by (try simp only [decide_eq_true_eq, decide_eq_false_iff_not] at *); (try simp only [iN_eq, Int.ofNat_eq_natCast] at *); try omega))), trivial⟩⟩⟩⟩⟩⟩⟩⟩⟩⟩⟩⟩)
def sLong : HeapFn
  | [.slice (some ⟨b, o, some 1⟩) n cap, .slice (some ⟨b2, 0, some 1⟩) m cap2], σ =>
    match σ[b]?, σ[b2]? with
    | some (.row vs _ _), some (.row us _ _) => bif vs.all isCo && (us.all isCo && (Nat.ble n 16384 && (Nat.ble m 16384 && Nat.ble (n * m) 16777216))) then some (.bool false, σ) else none
    | _, _ => none
  | _, _ => none
theorem sLong_ok : IsHeap Try.prog false 156 true sLong := by
  have key : ∀ (args : List Value) (σ : AHeap) (v : Value) (σ' : AHeap), sLong args σ = some (v, σ') → ∃ b o n cap b2 m cap2 vs rw' opn us rw2 opn2, args = [.slice (some ⟨b, o, some 1⟩) n cap, .slice (some ⟨b2, 0, some 1⟩) m cap2] ∧ σ[b]? = some (.row vs rw' opn) ∧ σ[b2]? = some (.row us rw2 opn2) ∧ vs.all isCo = true ∧ us.all isCo = true ∧ n ≤ 16384 ∧ m ≤ 16384 ∧ n * m ≤ 16777216 ∧
      v = .bool false ∧ σ' = σ := by
    intro args σ v σ' h
    unfold sLong at h
    split at h
    · rename_i b o n cap b2 m cap2
      split at h
      · rename_i vs rw' opn us rw2 opn2 hb hb2
        cases hc : (vs.all isCo && (us.all isCo && (Nat.ble n 16384 && (Nat.ble m 16384 && Nat.ble (n * m) 16777216))))
        · rw [hc] at h; cases h
        · rw [hc] at h
          cases h
          simp only [Bool.and_eq_true] at hc
          obtain ⟨c1, c2, c3, c4, c5⟩ := hc
          exact ⟨b, o, n, cap, b2, m, cap2, vs, rw', opn, us, rw2, opn2, rfl, hb, hb2, c1, c2, Nat.le_of_ble_eq_true c3, Nat.le_of_ble_eq_true c4, Nat.le_of_ble_eq_true c5, rfl, rfl⟩
      · cases h
    · cases h
  refine ⟨fun args σ v σ' h => ?_, fun _ args σ v σ' h => ?_, fun args σ v σ' h => ?_⟩
  · obtain ⟨b, o, n, cap, b2, m, cap2, vs, rw', opn, us, rw2, opn2, rfl, hb, hb2, c1, c2, c3, c4, c5, rfl, rfl⟩ := key args σ v σ' h
    have hs := lgA_p0 opn (reC vs) (imC vs) vs.length opn2 (reC us) (imC us) us.length o n cap m cap2 c3 c4 c5
    rw [coRow c1, coRow c2, show decide (iN (n * m) > 16777216) = false from decide_eq_false (by rw [iN_eq]; omega)] at hs
    refine CallR.frameQ (r := fun k => if k = 0 then b else if k = 1 then b2 else k + σ'.length) (args0 := [.slice (some ⟨0, o, some 1⟩) n cap, .slice (some ⟨1, 0, some 1⟩) m cap2]) ⟨fun k o' hk => ?_, fun k hk => ?_⟩ ?_ hs rfl
    · have hlt := lt_of_some hk
      have : k = 0 ∨ k = 1 := by simp at hlt; omega
      rcases this with rfl | rfl
      · simp only [List.getElem?_cons_zero, Option.some.injEq] at hk
        exact ⟨vs, opn, rw', hk.symm, hb, isCo_plain c1⟩
      · simp only [List.getElem?_cons_succ, List.getElem?_cons_zero, Option.some.injEq] at hk
        exact ⟨us, opn2, rw2, hk.symm, hb2, isCo_plain c2⟩
    · have hk : 2 ≤ k := hk
      have h0 : ¬ k = 0 := by omega
      have h1 : ¬ k = 1 := by omega
      simp only [h0, h1, if_false]; omega
    · rfl
  · obtain ⟨b, o, n, cap, b2, m, cap2, vs, rw', opn, us, rw2, opn2, rfl, hb, hb2, c1, c2, c3, c4, c5, rfl, rfl⟩ := key args σ v σ' h; rfl
  · obtain ⟨b, o, n, cap, b2, m, cap2, vs, rw', opn, us, rw2, opn2, rfl, hb, hb2, c1, c2, c3, c4, c5, rfl, rfl⟩ := key args σ v σ' h; exact Nat.le_refl _
theorem sLong_row {x y c d : Nat → Nat} {M N o n cap m cap2 bl b2 : Nat} {rw' rw2 : Bool} {opn opn2 : Option Nat} {σ : AHeap} (hσ : σ[bl]? = some (.row (rowOf (fun i => [.complex .f64 (x i) (y i)]) M) rw' opn)) (hσ2 : σ[b2]? = some (.row (rowOf (fun i => [.complex .f64 (c i) (d i)]) N) rw2 opn2))
    (hn : n ≤ 16384) (hm : m ≤ 16384) (hnm : n * m ≤ 16777216) : sLong [.slice (some ⟨bl, o, some 1⟩) n cap, .slice (some ⟨b2, 0, some 1⟩) m cap2] σ = some (.bool false, σ) := by
  unfold sLong
  simp only [hσ, hσ2, isCo_row, Nat.ble_eq_true_of_le hn, Nat.ble_eq_true_of_le hm, Nat.ble_eq_true_of_le hnm, Bool.and_self, cond_true]
noncomputable def tmv : Tab := (tmt.addH 156 true sLong)
theorem tmv_ok : tmv.Ok Try.prog false := (Tab.Ok.addH tmt_ok sLong_ok)
noncomputable def LMm : Lib := ⟨Try.prog, false, tmv, [], []⟩
theorem LMm_fp : ∀ e, e ∈ LMm.pures → Try.prog.funcs[e.1]? = some e.2 := fs_nil
theorem LMm_fh : ∀ e, e ∈ LMm.heaps → Try.prog.funcs[e.1]? = some e.2.2 := gs_nil
theorem LMm_p1 (gp : Nat → PureFn) (g : Nat → HeapFn) : (LMm.pures.all fun e => fnOk (LMm.mk' gp g) e.2) = true := by kernel_rfl
theorem LMm_h1 (gp : Nat → PureFn) (g : Nat → HeapFn) : (LMm.heaps.all fun e => fnOk (LMm.mk' gp g) e.2.2 && (!e.2.1 || fnRo (LMm.mk' gp g) e.2.2)) = true := by kernel_rfl
theorem LMm_ok : LMm.Ok := ⟨tmv_ok, mixed, LMm_fp, LMm_fh, LMm_p1, LMm_h1⟩
noncomputable def dLMm : Cfg := LMm.cfg 100 6
theorem dLMm_ok : dLMm.Ok := LMm_ok.cfg 100 6

end Go.Lk
end

section
/- Match: the region where a new block is made beside a call; joined. -/
namespace Go.Lk
open Go.Proofs
set_option maxRecDepth 100000
set_option maxHeartbeats 0
set_option linter.unusedVariables false
set_option linter.unusedSimpArgs false
def fsO (ops : Array Oper) (vs : Nat → Value) (fr : List Value) : Nat → List Value
  | 0 => fr
  | i + 1 => match ops[i]? with | some o => putA (fsO ops vs fr i) o.dst (vs i) | none => fsO ops vs fr i
theorem Trace.of_all {C : Cfg} {ops : Array Oper} {vs : Nat → Value} {fr : List Value} {ss : Nat → AHeap} (h : ∀ i o, ops[i]? = some o → wantedA ops (fsO ops vs fr i) o = some true ∧ aOp C (fsO ops vs fr i) (ss i) o.op = some (vs i, ss (i + 1))) :
    Trace C ops (fsO ops vs fr) ss vs (fun _ => true) :=
  ⟨fun i o ho => (h i o ho).1, fun i o ho => by show (match ops[i]? with | some o => putA (fsO ops vs fr i) o.dst (vs i) | none => fsO ops vs fr i) = _; rw [ho], fun i o ho _ => (h i o ho).2, fun i o ho hw => by cases hw⟩
end Go.Lk
end

section
/- Match: its contract. -/
namespace Go.Lk
open Go.Proofs
set_option maxRecDepth 100000
set_option maxHeartbeats 0
set_option linter.unusedVariables false
set_option linter.unusedSimpArgs false
def mtR (a b c d : Nat → Nat) (n m k : Nat) : Nat := sumC (atTr a b c (fun i => fneg (d i)) k) (min (n - k) m)
def mtI (a b c d : Nat → Nat) (n m k : Nat) : Nat := sumC (atTi a b c (fun i => fneg (d i)) k) (min (n - k) m)
end Go.Lk
end

section
/- MatchPeak: the plain law. -/
namespace Go.Lk
open Ieee (Format Datum)
set_option maxRecDepth 100000
set_option maxHeartbeats 0
set_option linter.unusedVariables false
set_option linter.unusedSimpArgs false
/-! ### Abs of what lies on the line -/
theorem wd0_w (s : Bool) : IsW (wd s 0) 0 := by
  cases s
  · exact isW_0
  · have : wd true 0 = 2 ^ 63 := by decide
    rw [this]; exact isW_m0
theorem one_of {x : Nat} (h : IsW x 1) (hc : Canon x) : x = 4607182418800017408 := by
  have h1 := h.abs
  have h2 := isW_1.abs
  have h3 : rg x = rg 4607182418800017408 := fxr_inj (h1.trans h2.symm)
  have h4 := h.sg_of (by decide)
  have e : wd (sg x) (rg x) = x := wd_sg hc.lt
  rw [← e, h3, h4]
  decide
/-! ### Sums with a nought in them -/
theorem sumZ_trim {z : Nat → Int} {w : Nat} : ∀ d, (∀ j, w ≤ j → j < w + d → z j = 0) → sumZ z (w + d) = sumZ z w
  | 0, _ => rfl
  | d + 1, h => by
    show sumZ z (w + d) + z (w + d) = _
    rw [sumZ_trim d fun j h1 h2 => h j h1 (by omega), h (w + d) (by omega) (by omega), Int.add_zero]
theorem sumZ_trim' {z : Nat → Int} {w m : Nat} (hw : w ≤ m) (h : ∀ j, w ≤ j → j < m → z j = 0) : sumZ z m = sumZ z w := by
  have := sumZ_trim (z := z) (w := w) (m - w) fun j h1 h2 => h j h1 (by omega)
  rwa [show w + (m - w) = m by omega] at this
/-! ### The rows -/
/-! ### The match -/
end Go.Lk
end

section
/- ScenePeak: the plain law. -/
namespace Go.Lk
set_option maxRecDepth 100000
set_option linter.unusedSimpArgs false
set_option linter.unusedVariables false
/-! ### Sums -/
theorem sumZ_split (w : Nat → Int) (k : Nat) : ∀ m, sumZ w (k + m) = sumZ w k + sumZ (fun i => w (k + i)) m
  | 0 => by simp [sumZ]
  | m + 1 => by
    show sumZ w (k + m) + w (k + m) = sumZ w k + (sumZ (fun i => w (k + i)) m + w (k + m))
    rw [sumZ_split w k m, Int.add_assoc]
theorem sumZ_nil {w : Nat → Int} {m : Nat} (h : ∀ i, i < m → w i = 0) : sumZ w m = 0 := by
  rw [sumZ_congr (w := fun _ => 0) h, sumZ_const, Int.mul_zero]
theorem sumZ_mul (c : Int) (w : Nat → Int) : ∀ m, sumZ (fun i => c * w i) m = c * sumZ w m
  | 0 => by simp [sumZ]
  | m + 1 => by
    show sumZ (fun i => c * w i) m + c * w m = c * (sumZ w m + w m)
    rw [sumZ_mul c w m, Int.mul_add]
/-! ### The echo in whole numbers -/
def spZ (z : Nat → Int) (d n i : Nat) : Int := bif (Nat.ble d i && Nat.blt i (d + n)) then z (i - d) else 0
theorem in_iff {d n i : Nat} : (Nat.ble d i && Nat.blt i (d + n)) = decide (d ≤ i ∧ i < d + n) := by
  by_cases h : d ≤ i ∧ i < d + n
  · rw [Nat.ble_eq_true_of_le h.1, show Nat.blt i (d + n) = true from Nat.ble_eq_true_of_le h.2, decide_eq_true h]; rfl
  · rw [decide_eq_false h]
    cases h1 : Nat.ble d i
    · rfl
    · have := Nat.le_of_ble_eq_true h1
      cases h2 : Nat.blt i (d + n)
      · rfl
      · have : i + 1 ≤ d + n := Nat.le_of_ble_eq_true h2
        omega
theorem spZ_in {z : Nat → Int} {d n i : Nat} (h1 : d ≤ i) (h2 : i < d + n) : spZ z d n i = z (i - d) := by
  unfold spZ; rw [in_iff, decide_eq_true ⟨h1, h2⟩]; rfl
theorem spZ_out {z : Nat → Int} {d n i : Nat} (h : ¬ (d ≤ i ∧ i < d + n)) : spZ z d n i = 0 := by
  unfold spZ; rw [in_iff, decide_eq_false h]; rfl
theorem spZ_abs {z : Nat → Int} {d n i B : Nat} (h : ∀ j, j < n → (z j).natAbs ≤ B) : (spZ z d n i).natAbs ≤ B := by
  by_cases hc : d ≤ i ∧ i < d + n
  · rw [spZ_in hc.1 hc.2]; exact h _ (by omega)
  · rw [spZ_out hc]; simp
def spS (z : Nat → Int) (d n N o : Nat) : Int := sumZ (fun j => spZ z d n (o + j) * z j) (min (N - o) n)
def spD (z : Nat → Int) (n k : Nat) : Int := sumZ (fun j => z (k + j) * z j) (n - k)
theorem spS_peak {z : Nat → Int} {d n N : Nat} (hN : d + n ≤ N) : spS z d n N d = spD z n 0 := by
  unfold spS spD
  rw [show min (N - d) n = n by omega, Nat.sub_zero]
  refine sumZ_congr fun j hj => ?_
  rw [spZ_in (by omega) (by omega), show d + j - d = 0 + j by omega]
theorem spS_off {z : Nat → Int} {d n N o : Nat} (hN : d + n ≤ N) (ho : o ≠ d) : (∃ k, 1 ≤ k ∧ k < n ∧ spS z d n N o = spD z n k) ∨ spS z d n N o = 0 := by
  unfold spS spD
  rcases Nat.lt_or_gt_of_ne ho with h1 | h1
  · rcases Nat.lt_or_ge (d - o) n with h2 | h2
    · refine .inl ⟨d - o, by omega, h2, ?_⟩
      rw [show min (N - o) n = (d - o) + (n - (d - o)) by omega, sumZ_split, sumZ_nil fun i hi => by rw [spZ_out (by omega), Int.zero_mul], Int.zero_add]
      refine sumZ_congr fun j hj => ?_
      rw [spZ_in (by omega) (by omega), show o + (d - o + j) - d = j by omega, Int.mul_comm]
    · exact .inr (sumZ_nil fun i hi => by rw [spZ_out (by omega), Int.zero_mul])
  · rcases Nat.lt_or_ge (o - d) n with h2 | h2
    · refine .inl ⟨o - d, by omega, h2, ?_⟩
      rw [sumZ_trim' (w := n - (o - d)) (by omega) fun j h3 h4 => by rw [spZ_out (by omega), Int.zero_mul]]
      refine sumZ_congr fun j hj => ?_
      rw [spZ_in (by omega) (by omega), show o + j - d = o - d + j by omega]
    · exact .inr (sumZ_nil fun i hi => by rw [spZ_out (by omega), Int.zero_mul])
theorem spD_abs {z : Nat → Int} {n k B : Nat} (h : ∀ j, j < n → (z j).natAbs ≤ B) : (spD z n k).natAbs ≤ (n - k) * (B * B) := by
  unfold spD
  refine sumZ_bound fun i hi => ?_
  rw [Int.natAbs_mul]
  exact Nat.mul_le_mul (h _ (by omega)) (h _ (by omega))
/-! ### The match -/
theorem IsW.ab2_of {x y : Nat} {a b : Int} (hx : IsW x a) (hy : IsW y b) (ha : a.natAbs < 2 ^ 25) (hb : b.natAbs < 2 ^ 25) : IsW (ab2 x y) (a * a + b * b) := by
  have h1 : a.natAbs * a.natAbs ≤ 2 ^ 25 * 2 ^ 25 := Nat.mul_le_mul (by omega) (by omega)
  have h2 : b.natAbs * b.natAbs ≤ 2 ^ 25 * 2 ^ 25 := Nat.mul_le_mul (by omega) (by omega)
  have e1 : (a * a).natAbs = a.natAbs * a.natAbs := Int.natAbs_mul a a
  have e2 : (b * b).natAbs = b.natAbs * b.natAbs := Int.natAbs_mul b b
  unfold ab2
  exact (hx.mul hx (by omega)).add (hy.mul hy (by omega)) (by omega)
theorem IsW.fge_iff {x y : Nat} {a b : Int} (hx : IsW x a) (hy : IsW y b) : fge x y = decide (b ≤ a) := by
  rw [fge_fin hx.1 hy.1, hx.2, hy.2]
  by_cases h : b ≤ a
  · rw [decide_eq_true h]; exact decide_eq_true (mul_U_le.2 h)
  · rw [decide_eq_false h]; exact decide_eq_false fun h2 => h (mul_U_le.1 h2)
theorem scaled_abs {a x : Int} {B : Nat} (ha : a.natAbs ≤ 1) (hx : x.natAbs ≤ B) : (a * x).natAbs ≤ B := by
  rw [Int.natAbs_mul]
  have := Nat.mul_le_mul ha hx
  omega
theorem at_w {X Y P : Nat → Nat} {x z : Nat → Int} {a b : Int} {o m : Nat} (ha : a.natAbs ≤ 1) (hb : b.natAbs ≤ 1) (hX : ∀ j, j < m → IsW (X (o + j)) (a * x j) ∧ IsW (Y (o + j)) (b * x j)) (hx : ∀ j, j < m → (x j).natAbs ≤ 128)
    (hP : ∀ j, j < m → IsW (P j) (z j) ∧ (z j).natAbs ≤ 128) (hm : m ≤ 60) :
    IsW (sumC (atTr X Y P (fun _ => fneg 0) o) m) (a * sumZ (fun j => x j * z j) m) ∧ IsW (sumC (atTi X Y P (fun _ => fneg 0) o) m) (b * sumZ (fun j => x j * z j) m) := by
  have hB : m * 16384 < 2 ^ 53 := by omega
  have key : ∀ (c : Int) (j : Nat), c.natAbs ≤ 1 → j < m → (c * (x j * z j)).natAbs ≤ 16384 := fun c j hc hj => scaled_abs hc (by
    rw [Int.natAbs_mul]
    exact Nat.mul_le_mul (hx j hj) (hP j hj).2)
  constructor
  · rw [← sumZ_mul]
    refine sumC_w (B := 16384) (fun j hj => ⟨?_, key a j ha hj⟩) hB
    have k1 := key a j ha hj
    have h1 := (hX j hj).1.mul (hP j hj).1 (by rw [Int.mul_assoc]; omega)
    have h2 := (hX j hj).2.mul fneg_0 (by rw [Int.mul_zero]; decide)
    have h3 := h1.sub h2 (by rw [Int.mul_zero, Int.sub_zero, Int.mul_assoc]; omega)
    rw [Int.mul_zero, Int.sub_zero, Int.mul_assoc] at h3
    exact h3
  · rw [← sumZ_mul]
    refine sumC_w (B := 16384) (fun j hj => ⟨?_, key b j hb hj⟩) hB
    have k1 := key b j hb hj
    have h1 := (hX j hj).2.mul (hP j hj).1 (by rw [Int.mul_assoc]; omega)
    have h2 := (hX j hj).1.mul fneg_0 (by rw [Int.mul_zero]; decide)
    have h3 := h2.add h1 (by rw [Int.mul_zero, Int.zero_add, Int.mul_assoc]; omega)
    rw [Int.mul_zero, Int.zero_add, Int.mul_assoc] at h3
    exact h3
theorem sp_match {X Y P : Nat → Nat} {z : Nat → Int} {a b : Int} {d n N o : Nat} (h4 : Four a b) (hn : n ≤ 60) (hX : ∀ i, i < N → IsW (X i) (a * spZ z d n i) ∧ IsW (Y i) (b * spZ z d n i)) (hP : ∀ j, j < n → IsW (P j) (z j) ∧ (z j).natAbs ≤ 128) :
    IsW (mtR X Y P (fun _ => 0) N n o) (a * spS z d n N o) ∧ IsW (mtI X Y P (fun _ => 0) N n o) (b * spS z d n N o) := by
  unfold mtR mtI spS
  exact at_w (x := fun j => spZ z d n (o + j)) h4.abs.1 h4.abs.2 (fun j hj => hX (o + j) (by omega)) (fun j hj => spZ_abs fun i hi => (hP i hi).2) (fun j hj => hP j (by omega)) (by omega)
theorem sp_dot {P : Nat → Nat} {z : Nat → Int} {n k : Nat} (hn : n ≤ 60) (hP : ∀ j, j < n → IsW (P j) (z j) ∧ (z j).natAbs ≤ 128) :
    IsW (sumC (atTr P (fun _ => 0) P (fun _ => fneg 0) k) (min (n - k) n)) (spD z n k) ∧ IsW (sumC (atTi P (fun _ => 0) P (fun _ => fneg 0) k) (min (n - k) n)) 0 := by
  have h := at_w (X := P) (Y := fun _ => 0) (P := P) (x := fun j => z (k + j)) (z := z) (a := 1) (b := 0) (o := k) (m := min (n - k) n) (by decide) (by decide)
    (fun j hj => ⟨by rw [Int.one_mul]; exact (hP (k + j) (by omega)).1, by rw [Int.zero_mul]; exact isW_0⟩) (fun j hj => (hP (k + j) (by omega)).2) (fun j hj => hP j (by omega)) (by omega)
  rw [Int.one_mul, Int.zero_mul] at h
  unfold spD
  have e : min (n - k) n = n - k := by omega
  rw [e] at h ⊢
  exact h
theorem sp_power {P : Nat → Nat} {z : Nat → Int} {n : Nat} (hn : n ≤ 60) (hP : ∀ j, j < n → IsW (P j) (z j) ∧ (z j).natAbs ≤ 128) : IsW (sumC (fun i => ab2 (P i) 0) n) (spD z n 0) := by
  unfold spD
  rw [Nat.sub_zero]
  refine sumC_w (B := 16384) (fun j hj => ?_) (by omega)
  have h := (hP j hj).1.ab2_of isW_0 (by have := (hP j hj).2; omega) (by decide)
  rw [Int.mul_zero, Int.add_zero] at h
  rw [Nat.zero_add]
  exact ⟨h, by rw [Int.natAbs_mul]; exact Nat.mul_le_mul (hP j hj).2 (hP j hj).2⟩
theorem sp_less {z : Nat → Int} {d n N o : Nat} (hn : n ≤ 60) (hz : ∀ j, j < n → (z j).natAbs ≤ 128) (hN : d + n ≤ N) (ho : o ≠ d) (hp : 0 < spD z n 0) (hk : ∀ k, 1 ≤ k → k < n → spD z n k * spD z n k < spD z n 0 * spD z n 0) :
    spS z d n N o * spS z d n N o < spD z n 0 * spD z n 0 ∧ (spS z d n N o).natAbs < 2 ^ 20 := by
  rcases spS_off (z := z) hN ho with ⟨k, h1, h2, h3⟩ | h3
  · rw [h3]
    have := spD_abs (z := z) (n := n) (k := k) (B := 128) hz
    have h5 : (n - k) * (128 * 128) ≤ 60 * (128 * 128) := Nat.mul_le_mul_right _ (by omega)
    exact ⟨hk k h1 h2, by omega⟩
  · rw [h3]
    exact ⟨by rw [Int.zero_mul]; exact Int.mul_pos hp hp, by decide⟩
/-! ### The peak -/
def pkF : (Nat → Nat) → Nat → Int × Nat
  | _, 0 => (-1, negInf)
  | v, i + 1 => bif decide ((pkF v i).1 < 0) || fgt (v i) (pkF v i).2 then (iN i, bif feq (v i) (v i) then v i else negInf) else pkF v i
theorem pkF_at {v : Nat → Nat} {s : Nat → Int} {d N : Nat} (hv : ∀ i, i < N → IsW (v i) (s i)) (hd : d < N) (h : ∀ i, i < N → i ≠ d → s i < s d) : ∀ j, j ≤ N → (j = 0 ∧ pkF v j = (-1, negInf)) ∨ (0 < j ∧ j ≤ d ∧ 0 ≤ (pkF v j).1 ∧ ∃ t, IsW (pkF v j).2 t ∧ t < s d) ∨ (d < j ∧ pkF v j = (iN d, v d))
  | 0, _ => .inl ⟨rfl, rfl⟩
  | j + 1, hj => by
    have hj' : j < N := hj
    have hself : feq (v j) (v j) = true := (hv j hj').feq_of (hv j hj')
    have hstep : (decide ((pkF v j).1 < 0) || fgt (v j) (pkF v j).2) = true → pkF v (j + 1) = (iN j, v j) := fun hc => by
      show (bif decide ((pkF v j).1 < 0) || fgt (v j) (pkF v j).2 then (iN j, bif feq (v j) (v j) then v j else negInf) else pkF v j) = _
      rw [hc, hself]; rfl
    have hstay : (decide ((pkF v j).1 < 0) || fgt (v j) (pkF v j).2) = false → pkF v (j + 1) = pkF v j := fun hc => by
      show (bif decide ((pkF v j).1 < 0) || fgt (v j) (pkF v j).2 then (iN j, bif feq (v j) (v j) then v j else negInf) else pkF v j) = _
      rw [hc]; rfl
    have hi : ∀ i, 0 ≤ iN i := fun i => by rw [iN_eq]; omega
    rcases pkF_at hv hd h j (by omega) with ⟨h0, h1⟩ | ⟨h0, h1, h2, t, h3, h4⟩ | ⟨h0, h1⟩
    · have e := hstep (by rw [h1]; rfl)
      rcases Nat.lt_or_ge d (j + 1) with h5 | h5
      · have : j = d := by omega
        rw [this] at e ⊢
        exact .inr (.inr ⟨by omega, e⟩)
      · exact .inr (.inl ⟨by omega, by omega, by rw [e]; exact hi j, s j, by rw [e]; exact hv j hj', h j hj' (by omega)⟩)
    · have hneg : decide ((pkF v j).1 < 0) = false := decide_eq_false (by omega)
      have hf := (hv j hj').fgt_iff h3
      rcases Nat.lt_or_ge d (j + 1) with h5 | h5
      · have hjd : j = d := by omega
        have e := hstep (by rw [hneg, hf, Bool.false_or]; exact decide_eq_true (by rw [hjd]; exact h4))
        rw [hjd] at e ⊢
        exact .inr (.inr ⟨by omega, e⟩)
      · cases hc : fgt (v j) (pkF v j).2
        · have e := hstay (by rw [hneg, hc]; rfl)
          exact .inr (.inl ⟨by omega, by omega, by rw [e]; exact h2, t, by rw [e]; exact h3, h4⟩)
        · have e := hstep (by rw [hneg, hc]; rfl)
          exact .inr (.inl ⟨by omega, by omega, by rw [e]; exact hi j, s j, by rw [e]; exact hv j hj', h j hj' (by omega)⟩)
    · have hneg : decide ((pkF v j).1 < 0) = false := decide_eq_false (by rw [h1]; have := hi d; simp only; omega)
      have hf : fgt (v j) (pkF v j).2 = false := by
        rw [h1, (hv j hj').fgt_iff (hv d hd)]
        exact decide_eq_false (by have := h j hj' (by omega); omega)
      have e := hstay (by rw [hneg, hf]; rfl)
      exact .inr (.inr ⟨by omega, by rw [e, h1]⟩)
theorem pkF_peak {v : Nat → Nat} {s : Nat → Int} {d N : Nat} (hv : ∀ i, i < N → IsW (v i) (s i)) (hd : d < N) (h : ∀ i, i < N → i ≠ d → s i < s d) : (pkF v N).1 = iN d := by
  rcases pkF_at hv hd h N (Nat.le_refl _) with ⟨h0, h1⟩ | ⟨h0, h1, _⟩ | ⟨h0, h1⟩
  · omega
  · omega
  · rw [h1]
/-! ### What the last round asks -/
theorem sp_round {X Y P : Nat → Nat} {z : Nat → Int} {a b : Int} {d n N : Nat} (h4 : Four a b) (h0 : 0 < n) (hn : n ≤ 60) (hN : d + n ≤ N) (hX : ∀ i, i < N → IsW (X i) (a * spZ z d n i) ∧ IsW (Y i) (b * spZ z d n i)) (hP : ∀ j, j < n → IsW (P j) (z j) ∧ (z j).natAbs ≤ 128)
    (hk : ∀ k, 1 ≤ k → k < n → spD z n k * spD z n k < spD z n 0 * spD z n 0) {pw : Nat} (hw : IsW pw (spD z n 0)) :
    feq (ab2 (mtR X Y P (fun _ => 0) N n d) (mtI X Y P (fun _ => 0) N n d)) (fmul pw pw) = true ∧
    (fgt pw 0 = true → (pkF (fun i => ab2 (mtR X Y P (fun _ => 0) N n i) (mtI X Y P (fun _ => 0) N n i)) N).1 = iN d) := by
  have hz : ∀ j, j < n → (z j).natAbs ≤ 128 := fun j hj => (hP j hj).2
  have hPb := spD_abs (z := z) (n := n) (k := 0) (B := 128) hz
  have hPb' : (n - 0) * (128 * 128) ≤ 60 * (128 * 128) := Nat.mul_le_mul_right _ (by omega)
  have hfour : ∀ S : Int, a * S * (a * S) + b * S * (b * S) = S * S := fun S => by
    have := h4.sq
    have e : a * S * (a * S) + b * S * (b * S) = (a * a + b * b) * (S * S) := by
      rw [Int.add_mul]
      congr 1
      · rw [Int.mul_assoc, Int.mul_assoc, ← Int.mul_assoc S a S, Int.mul_comm S a, Int.mul_assoc a S S]
      · rw [Int.mul_assoc, Int.mul_assoc, ← Int.mul_assoc S b S, Int.mul_comm S b, Int.mul_assoc b S S]
    rw [e, this, Int.one_mul]
  have hval : ∀ o, (spS z d n N o).natAbs < 2 ^ 20 → IsW (ab2 (mtR X Y P (fun _ => 0) N n o) (mtI X Y P (fun _ => 0) N n o)) (spS z d n N o * spS z d n N o) := fun o ho => by
    obtain ⟨m1, m2⟩ := sp_match (o := o) h4 hn hX hP
    have h := m1.ab2_of m2 (Nat.lt_of_le_of_lt (scaled_abs h4.abs.1 (Nat.le_refl _)) (by omega)) (Nat.lt_of_le_of_lt (scaled_abs h4.abs.2 (Nat.le_refl _)) (by omega))
    rwa [hfour] at h
  have hpeak := spS_peak (z := z) hN
  have hsq : IsW (fmul pw pw) (spD z n 0 * spD z n 0) := hw.mul hw (by
    rw [Int.natAbs_mul]
    have : (spD z n 0).natAbs * (spD z n 0).natAbs ≤ 2 ^ 20 * 2 ^ 20 := Nat.mul_le_mul (by omega) (by omega)
    omega)
  have hd := hval d (by rw [hpeak]; omega)
  rw [hpeak] at hd
  refine ⟨hd.feq_of hsq, fun hp => ?_⟩
  rw [hw.fgt_iff isW_0] at hp
  have hp := of_decide_eq_true hp
  refine pkF_peak (s := fun o => spS z d n N o * spS z d n N o) (fun i hi => ?_) (by omega) fun i hi hne => ?_
  · by_cases hid : i = d
    · rw [hid]; exact hval d (by rw [hpeak]; omega)
    · exact hval i (sp_less hn hz hN hid hp hk).2
  · show _ < spS z d n N d * spS z d n N d
    rw [hpeak]
    exact (sp_less hn hz hN hne hp hk).1
/-! ### The echo -/
def adR (y : Nat → Nat) (a b : Nat) (pr pi : Nat → Nat) (q m i : Nat) : Nat := bif (Nat.ble q i && Nat.blt i (q + m)) then fadd (y i) (fsub (fmul a (pr (i - q))) (fmul b (pi (i - q)))) else y i
def adI (y : Nat → Nat) (a b : Nat) (pr pi : Nat → Nat) (q m i : Nat) : Nat := bif (Nat.ble q i && Nat.blt i (q + m)) then fadd (y i) (fadd (fmul a (pi (i - q))) (fmul b (pr (i - q)))) else y i
def adY (y : Nat → Nat) (a b : Nat → Nat) (pr pi : Nat → Nat) (D : Nat → Nat) (n T : Nat) : Nat → Nat → Nat
  | 0 => y
  | p + 1 => adR (adY y a b pr pi D n T p) (a p) (b p) pr pi (D p) (min n (T - D p))
def adX (y : Nat → Nat) (a b : Nat → Nat) (pr pi : Nat → Nat) (D : Nat → Nat) (n T : Nat) : Nat → Nat → Nat
  | 0 => y
  | p + 1 => adI (adX y a b pr pi D n T p) (a p) (b p) pr pi (D p) (min n (T - D p))
theorem ad_step (y z : Nat → Nat) (a b : Nat) (pr pi : Nat → Nat) (q k : Nat) : updR (fun i => [Value.complex .f64 (adR y a b pr pi q k i) (adI z a b pr pi q k i)]) (q + k) [.complex .f64 (fadd (y (q + k)) (fsub (fmul a (pr k)) (fmul b (pi k)))) (fadd (z (q + k)) (fadd (fmul a (pi k)) (fmul b (pr k))))] = fun i => [Value.complex .f64 (adR y a b pr pi q (k + 1) i) (adI z a b pr pi q (k + 1) i)] := by
  funext i
  by_cases h : i = q + k
  · subst h
    rw [updR_at]
    unfold adR adI
    rw [in_iff, decide_eq_true ⟨by omega, by omega⟩, cond_true, cond_true, show q + k - q = k by omega]
  · rw [updR_ne _ _ _ h]
    unfold adR adI
    rw [in_iff, in_iff]
    have : decide (q ≤ i ∧ i < q + k) = decide (q ≤ i ∧ i < q + (k + 1)) := by
      by_cases h1 : q ≤ i ∧ i < q + k
      · rw [decide_eq_true h1, decide_eq_true ⟨h1.1, by omega⟩]
      · rw [decide_eq_false h1, decide_eq_false (by omega)]
    rw [this]
theorem ad_none (y : Nat → Nat) (a b : Nat) (pr pi : Nat → Nat) (q : Nat) : adR y a b pr pi q 0 = y ∧ adI y a b pr pi q 0 = y := by
  constructor <;> (funext i; first | unfold adR | unfold adI) <;> (rw [in_iff, decide_eq_false (by omega)]; rfl)
theorem ad_old (y : Nat → Nat) (a b : Nat) (pr pi : Nat → Nat) (q k : Nat) : adR y a b pr pi q k (q + k) = y (q + k) ∧ adI y a b pr pi q k (q + k) = y (q + k) := by
  constructor
  · unfold adR; rw [in_iff, decide_eq_false (by omega)]; rfl
  · unfold adI; rw [in_iff, decide_eq_false (by omega)]; rfl
theorem row_pos {p q E g h : Nat} (hg : g < E) (hh : h < E) (e : p * E + g = q * E + h) : p = q := by
  rcases Nat.lt_trichotomy p q with h1 | h1 | h1
  · have := Nat.mul_le_mul_right E (show p + 1 ≤ q from h1)
    rw [Nat.add_mul, Nat.one_mul] at this; omega
  · exact h1
  · have := Nat.mul_le_mul_right E (show q + 1 ≤ p from h1)
    rw [Nat.add_mul, Nat.one_mul] at this; omega
/-- After some rows: what stands in row p at place g. -/
theorem ad_rows {y : Nat → Nat} {a b : Nat → Nat} {pr pi : Nat → Nat} {E d n R : Nat} (hd : d + n ≤ E) {p g : Nat} (hg : g < E) : ∀ r, r ≤ R →
    adY y a b pr pi (fun p => p * E + d) n (R * E) r (p * E + g) = (bif decide (p < r) && (Nat.ble d g && Nat.blt g (d + n)) then fadd (y (p * E + g)) (fsub (fmul (a p) (pr (g - d))) (fmul (b p) (pi (g - d)))) else y (p * E + g)) ∧
    adX y a b pr pi (fun p => p * E + d) n (R * E) r (p * E + g) = (bif decide (p < r) && (Nat.ble d g && Nat.blt g (d + n)) then fadd (y (p * E + g)) (fadd (fmul (a p) (pi (g - d))) (fmul (b p) (pr (g - d)))) else y (p * E + g))
  | 0, _ => by
    rw [show decide (p < 0) = false from decide_eq_false (by omega)]
    exact ⟨rfl, rfl⟩
  | r + 1, hr => by
    obtain ⟨i1, i2⟩ := ad_rows (R := R) hd hg r (by omega)
    have hm : min n (R * E - (r * E + d)) = n := by
      have := Nat.mul_le_mul_right E (show r + 1 ≤ R from hr)
      rw [Nat.add_mul, Nat.one_mul] at this
      omega
    show adR (adY y a b pr pi (fun p => p * E + d) n (R * E) r) (a r) (b r) pr pi (r * E + d) (min n (R * E - (r * E + d))) (p * E + g) = _ ∧ adI (adX y a b pr pi (fun p => p * E + d) n (R * E) r) (a r) (b r) pr pi (r * E + d) (min n (R * E - (r * E + d))) (p * E + g) = _
    rw [hm]
    unfold adR adI
    rw [i1, i2, in_iff, in_iff]
    by_cases hpr : p = r
    · subst hpr
      rw [show decide (p < p) = false from decide_eq_false (by omega), show decide (p < p + 1) = true from decide_eq_true (by omega), Bool.false_and, Bool.true_and, cond_false, cond_false]
      have e : decide (p * E + d ≤ p * E + g ∧ p * E + g < p * E + d + n) = decide (d ≤ g ∧ g < d + n) := by
        by_cases h1 : d ≤ g ∧ g < d + n
        · rw [decide_eq_true h1, decide_eq_true (by omega)]
        · rw [decide_eq_false h1, decide_eq_false (by omega)]
      rw [e, show p * E + g - (p * E + d) = g - d by omega]
      exact ⟨rfl, rfl⟩
    · have e : decide (r * E + d ≤ p * E + g ∧ p * E + g < r * E + d + n) = false := decide_eq_false fun h => hpr (row_pos (h := p * E + g - r * E) hg (by omega) (by omega))
      have e2 : decide (p < r + 1) = decide (p < r) := by
        by_cases h1 : p < r
        · rw [decide_eq_true h1, decide_eq_true (by omega)]
        · rw [decide_eq_false h1, decide_eq_false (by omega)]
      rw [e, e2]
      exact ⟨rfl, rfl⟩
/-- The echo's rows, of whole numbers. -/
theorem echo_w {aR aI : Nat → Nat} {P : Nat → Nat} {z : Nat → Int} {a b : Nat → Int} {E d n R : Nat} (hd : d + n ≤ E) {p g : Nat} (hp : p < R) (hg : g < E) (h4 : Four (a p) (b p)) (ha : IsW (aR p) (a p)) (hb : IsW (aI p) (b p)) (hP : ∀ j, j < n → IsW (P j) (z j) ∧ (z j).natAbs ≤ 128) :
    IsW (adY (fun _ => 0) aR aI P (fun _ => 0) (fun p => p * E + d) n (R * E) R (p * E + g)) (a p * spZ z d n g) ∧ IsW (adX (fun _ => 0) aR aI P (fun _ => 0) (fun p => p * E + d) n (R * E) R (p * E + g)) (b p * spZ z d n g) := by
  obtain ⟨e1, e2⟩ := ad_rows (y := fun _ => 0) (a := aR) (b := aI) (pr := P) (pi := fun _ => 0) (R := R) hd (p := p) hg R (Nat.le_refl _)
  rw [e1, e2, decide_eq_true hp, Bool.true_and, in_iff]
  by_cases h : d ≤ g ∧ g < d + n
  · rw [decide_eq_true h, cond_true, cond_true, spZ_in h.1 h.2]
    obtain ⟨w1, w2⟩ := hP (g - d) (by omega)
    have s1 := scaled_abs h4.abs.1 w2
    have s2 := scaled_abs h4.abs.2 w2
    have a1 := ha.mul w1 (by omega)
    have a2 := hb.mul isW_0 (by rw [Int.mul_zero]; decide)
    have b1 := hb.mul w1 (by omega)
    have b2 := ha.mul isW_0 (by rw [Int.mul_zero]; decide)
    rw [Int.mul_zero] at a2 b2
    constructor
    · have := isW_0.add (a1.sub a2 (by rw [Int.sub_zero]; omega)) (by rw [Int.sub_zero, Int.zero_add]; omega)
      rwa [Int.sub_zero, Int.zero_add] at this
    · have := isW_0.add (b2.add b1 (by rw [Int.zero_add]; omega)) (by rw [Int.zero_add, Int.zero_add]; omega)
      rwa [Int.zero_add, Int.zero_add] at this
  · rw [decide_eq_false h, cond_false, cond_false, spZ_out h, Int.mul_zero, Int.mul_zero]
    exact ⟨isW_0, isW_0⟩
end Go.Lk
end
