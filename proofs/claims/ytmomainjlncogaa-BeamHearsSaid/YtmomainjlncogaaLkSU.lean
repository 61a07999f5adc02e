/- Sum, of any row of complex numbers. -/
import Derived.Test.YtmomainjlncogaaLkM2
import Derived.Test.YtmomainjlncogaaLkLF
import Derived.Test.YtmomainjlncogaaLkLG
namespace Go.Lk
open Go.Proofs
set_option maxRecDepth 100000
set_option maxHeartbeats 0
set_option linter.unusedVariables false
set_option linter.unusedSimpArgs false
noncomputable def LSu : Lib := ⟨Try.prog, false, t1, [], []⟩
theorem LSu_fp : ∀ e, e ∈ LSu.pures → Try.prog.funcs[e.1]? = some e.2 := fs_nil
theorem LSu_fh : ∀ e, e ∈ LSu.heaps → Try.prog.funcs[e.1]? = some e.2.2 := gs_nil
theorem LSu_p1 (gp : Nat → PureFn) (g : Nat → HeapFn) : (LSu.pures.all fun e => fnOk (LSu.mk' gp g) e.2) = true := by kernel_rfl
theorem LSu_h1 (gp : Nat → PureFn) (g : Nat → HeapFn) : (LSu.heaps.all fun e => fnOk (LSu.mk' gp g) e.2.2 && (!e.2.1 || fnRo (LSu.mk' gp g) e.2.2)) = true := by kernel_rfl
theorem LSu_ok : LSu.Ok := ⟨t1_ok, mixed, LSu_fp, LSu_fh, LSu_p1, LSu_h1⟩
noncomputable def dLSu : Cfg := LSu.cfg 100 4
theorem dLSu_ok : dLSu.Ok := LSu_ok.cfg 100 4

/-- The sum of the first k + 1. -/
def smA (a : Nat → Nat) : Nat → Nat
  | 0 => a 0
  | k + 1 => fadd (smA a k) (a (k + 1))
def suFr (a b : Nat → Nat) (m cap k : Nat) : List Value := [.slice (some ⟨0, 0, some 1⟩) m cap, undef, undef, .complex .f64 (smA a k) (smA b k)] ++ List.replicate 9 undef ++ [.slice (some ⟨0, 0 + 1 * 1, some 1⟩) (m - 1) (cap - 1), .int .i64 (iN (m - 1)), .int .i64 (iN k)] ++ List.replicate 8 undef
theorem suR_okX : codeOkX (dLSu) [] (loopOf Try.f146 0) = true := by kernel_rfl
theorem suR_p0 (opn : Option Nat) (a : Nat → Nat) (b : Nat → Nat) (M : Nat) (m : Nat) (cap : Nat) (hm : m ≤ M) (hM : m ≤ 65536) (hc : m ≤ cap) (h0 : 0 < m) (k : Nat) (hk : k < m - 1) (hst : Stood false ([.row (rowOf (fun i => [.complex .f64 (a i) (b i)]) M) false opn])) : Sim (dLSu) 1 (loopOf Try.f146 0) ((suFr a b m cap k)) ([.row (rowOf (fun i => [.complex .f64 (a i) (b i)]) M) false opn]) .normal ([Value.slice (some ⟨0, 0, some 1⟩) m cap, undef, undef, Value.complex .f64 (fadd (smA a k) (a (k + 1))) (fadd (smA b k) (b (k + 1))), undef, undef, undef, undef, undef, undef, undef, undef, undef, Value.slice (some ⟨0, 1, some 1⟩) (m - 1) (cap - 1), Value.int .i64 (iN (m - 1)), Value.int .i64 (iN (k + 1)), undef, undef, undef, undef, undef, undef, undef, undef]) ([AObj.row (rowOf (fun i => [Value.complex .f64 (a i) (b i)]) M) false opn]) := Sim.of_roundQ (C := dLSu) dLSu_ok (X := []) (n := 3) (orc := [(2, Item.br true), (4, Item.res (Value.pointer (some { block := 0, off := 1 + k * 1 }))), (6, Item.res (Value.complex .f64 (a (k + 1)) (b (k + 1)))), (18, Item.res (Value.int .i64 (iN (k + 1))))]) (ks := [0]) (mask := [true, false, false, true, false, false, false, false, false, false, false, false, false, true, true, true, false, false, false, false, false, false, false, false]) (ps := [(some (decide (iN k < iN (m - 1))) = some true), (ixF (Value.pointer (some { block := 0, off := 1 + k * 1 })) ([AObj.row (rowOf (fun i => [Value.complex .f64 (a i) (b i)]) M) false opn]) (iN k) (m - 1) = some (Value.pointer (some { block := 0, off := 1 + k * 1 }), [AObj.row (rowOf (fun i => [Value.complex .f64 (a i) (b i)]) M) false opn])), (ldF (aLoad Try.prog ([AObj.row (rowOf (fun i => [Value.complex .f64 (a i) (b i)]) M) false opn]) 27 (.pointer (some ⟨0, 1 + k * 1, none⟩))) ([AObj.row (rowOf (fun i => [Value.complex .f64 (a i) (b i)]) M) false opn]) = some (Value.complex .f64 (a (k + 1)) (b (k + 1)), [AObj.row (rowOf (fun i => [Value.complex .f64 (a i) (b i)]) M) false opn])), (wF IntKind.i64 (iN k + 1) ([AObj.row (rowOf (fun i => [Value.complex .f64 (a i) (b i)]) M) false opn]) = some (.int IntKind.i64 (iN (k + 1)), [AObj.row (rowOf (fun i => [Value.complex .f64 (a i) (b i)]) M) false opn]))]) (L := 1) 1 suR_okX (by kernel_rfl) ⟨bP_of (fun x => x) (show (decide (iN k < iN (m - 1))) = true from decide_eq_true (by (try simp only [decide_eq_true_eq, decide_eq_false_iff_not] at *); (try simp only [iN_eq, Int.ofNat_eq_natCast] at *); try omega)), ⟨ixF_ok _ _ (by (try simp only [decide_eq_true_eq, decide_eq_false_iff_not] at *); (try simp only [iN_eq, Int.ofNat_eq_natCast] at *); try omega), ⟨ldF_ok (load_one (k := k + 1) (n := M) (g := fun i => ((fun i => [Value.complex .f64 (a i) (b i)]) i).getD 0 undef) rfl (by kernel_rfl) (by omega) (by (try simp only [decide_eq_true_eq, decide_eq_false_iff_not] at *); (try simp only [iN_eq, Int.ofNat_eq_natCast] at *); try omega)), ⟨wF_ok _ (by (try simp only [decide_eq_true_eq, decide_eq_false_iff_not] at *); (try simp only [iN_eq, Int.ofNat_eq_natCast] at *); try omega) (by (try simp only [decide_eq_true_eq, decide_eq_false_iff_not] at *); (try simp only [iN_eq, Int.ofNat_eq_natCast] at *); try omega), trivial⟩⟩⟩⟩ hst (by kernel_rfl) (by kernel_rfl) (by kernel_rfl) (by decide) (by kernel_rfl) trivial
theorem suE_okX : codeOkX (dLSu) [] (loopOf Try.f146 0) = true := by kernel_rfl
theorem suE_p0 (opn : Option Nat) (a : Nat → Nat) (b : Nat → Nat) (M : Nat) (m : Nat) (cap : Nat) (hm : m ≤ M) (hM : m ≤ 65536) (hc : m ≤ cap) (h0 : 0 < m) (hst : Stood false ([.row (rowOf (fun i => [.complex .f64 (a i) (b i)]) M) false opn])) : Sim (dLSu) 1 (loopOf Try.f146 0) ((suFr a b m cap (m - 1))) ([.row (rowOf (fun i => [.complex .f64 (a i) (b i)]) M) false opn]) (.exit 0) ([Value.slice (some ⟨0, 0, some 1⟩) m cap, undef, undef, Value.complex .f64 (smA a (m - 1)) (smA b (m - 1)), undef, undef, undef, undef, undef, undef, undef, undef, undef, Value.slice (some ⟨0, 1, some 1⟩) (m - 1) (cap - 1), Value.int .i64 (iN (m - 1)), Value.int .i64 (iN (m - 1)), undef, undef, undef, undef, undef, undef, undef, undef]) ([AObj.row (rowOf (fun i => [Value.complex .f64 (a i) (b i)]) M) false opn]) := Sim.of_roundQ (C := dLSu) dLSu_ok (X := []) (n := 3) (orc := [(2, Item.br false)]) (ks := [0]) (mask := [true, false, false, true, false, false, false, false, false, false, false, false, false, true, true, true, false, false, false, false, false, false, false, false]) (ps := [(some (decide (iN (m - 1) < iN (m - 1))) = some false)]) (L := 1) 1 suE_okX (by kernel_rfl) ⟨bP_of (fun x => x) (show (decide (iN (m - 1) < iN (m - 1))) = false from decide_eq_false (by (try simp only [decide_eq_true_eq, decide_eq_false_iff_not] at *); (try simp only [iN_eq, Int.ofNat_eq_natCast] at *); try omega)), trivial⟩ hst (by kernel_rfl) (by kernel_rfl) (by kernel_rfl) (by decide) (by kernel_rfl) trivial
theorem suA_fok : fnOkX (dLSu) [] Try.f146 = true := by kernel_rfl
theorem suA_p0 (opn : Option Nat) (a : Nat → Nat) (b : Nat → Nat) (M : Nat) (m : Nat) (cap : Nat) (hm : m ≤ M) (hM : m ≤ 65536) (hc : m ≤ cap) (h0 : 0 < m) (he : (iN m == Int.ofNat 0) = false) (l0 : Stood false ([AObj.row (rowOf (fun i => [Value.complex .f64 (a i) (b i)]) M) false opn]) → Sim (dLSu) 1 (.loop (loopOf Try.f146 0)) ([Value.slice (some ⟨0, 0, some 1⟩) m cap, undef, Value.complex .f64 0 0, Value.complex .f64 (a 0) (b 0), undef, undef, Value.slice (some ⟨0, 0, some 1⟩) m cap, Value.int .i64 (iN m), Value.bool (iN m == Int.ofNat 0), Value.slice (some ⟨0, 0, some 1⟩) m cap, Value.pointer (some { block := 0, off := 0 + (Int.ofNat 0).toNat * 1 }), Value.complex .f64 (a 0) (b 0), Value.slice (some ⟨0, 0, some 1⟩) m cap, Value.slice (some { block := 0, off := 0 + 1 * 1, spot := some 1 }) (m - 1) (cap - 1), Value.int .i64 (iN (m - 1)), Value.int .i64 (Int.ofNat 0), undef, undef, undef, undef, undef, undef, undef, undef]) ([AObj.row (rowOf (fun i => [Value.complex .f64 (a i) (b i)]) M) false opn]) (Exit.exit 0) ([Value.slice (some ⟨0, 0, some 1⟩) m cap, undef, undef, Value.complex .f64 (smA a (m - 1)) (smA b (m - 1)), undef, undef, undef, undef, undef, undef, undef, undef, undef, Value.slice (some ⟨0, 1, some 1⟩) (m - 1) (cap - 1), Value.int .i64 (iN (m - 1)), Value.int .i64 (iN (m - 1)), undef, undef, undef, undef, undef, undef, undef, undef]) ([AObj.row (rowOf (fun i => [Value.complex .f64 (a i) (b i)]) M) false opn])) : CallR Try.prog false 146 ([Value.slice (some ⟨0, 0, some 1⟩) m cap]) ([AObj.row (rowOf (fun i => [Value.complex .f64 (a i) (b i)]) M) false opn]) (Value.complex .f64 (smA a (m - 1)) (smA b (m - 1))) ([AObj.row (rowOf (fun i => [Value.complex .f64 (a i) (b i)]) M) false opn]) := CallR.of_DOXs (C := dLSu) dLSu_ok (X := []) Try.func146 suA_fok (n := 3) (orc := [(8, Item.br false), (12, Item.res (Value.pointer (some { block := 0, off := 0 + (Int.ofNat 0).toNat * 1 }))), (14, Item.res (Value.complex .f64 (a 0) (b 0))), (20, Item.eff (Value.slice (some { block := 0, off := 0 + 1 * 1, spot := some 1 }) (m - 1) (cap - 1)) [AObj.row (rowOf (fun i => [Value.complex .f64 (a i) (b i)]) M) false opn]), (25, Item.loop (Exit.exit 0) (suFr a b m cap (m - 1)) [AObj.row (rowOf (fun i => [Value.complex .f64 (a i) (b i)]) M) false opn])]) (ps := [(bP (iN m == Int.ofNat 0) false), (ixF (Value.pointer (some { block := 0, off := 0 + (Int.ofNat 0).toNat * 1 })) ([AObj.row (rowOf (fun i => [Value.complex .f64 (a i) (b i)]) M) false opn]) (Int.ofNat 0) (m) = some (Value.pointer (some { block := 0, off := 0 + (Int.ofNat 0).toNat * 1 }), [AObj.row (rowOf (fun i => [Value.complex .f64 (a i) (b i)]) M) false opn])), (ldF (aLoad Try.prog ([AObj.row (rowOf (fun i => [Value.complex .f64 (a i) (b i)]) M) false opn]) 27 (.pointer (some ⟨0, 0, none⟩))) ([AObj.row (rowOf (fun i => [Value.complex .f64 (a i) (b i)]) M) false opn]) = some (Value.complex .f64 (a 0) (b 0), [AObj.row (rowOf (fun i => [Value.complex .f64 (a i) (b i)]) M) false opn])), (ldF (aSlice Try.prog 66 (Value.slice (some ⟨0, 0, some 1⟩) m cap) (some (Value.int .i64 (iN 1))) (none) (none)) ([AObj.row (rowOf (fun i => [Value.complex .f64 (a i) (b i)]) M) false opn]) = some (Value.slice (some { block := 0, off := 0 + 1 * 1, spot := some 1 }) (m - 1) (cap - 1), [AObj.row (rowOf (fun i => [Value.complex .f64 (a i) (b i)]) M) false opn])), (Sim (dLSu) 1 (.loop (loopOf Try.f146 0)) ([Value.slice (some ⟨0, 0, some 1⟩) m cap, undef, Value.complex .f64 0 0, Value.complex .f64 (a 0) (b 0), undef, undef, Value.slice (some ⟨0, 0, some 1⟩) m cap, Value.int .i64 (iN m), Value.bool (iN m == Int.ofNat 0), Value.slice (some ⟨0, 0, some 1⟩) m cap, Value.pointer (some { block := 0, off := 0 + (Int.ofNat 0).toNat * 1 }), Value.complex .f64 (a 0) (b 0), Value.slice (some ⟨0, 0, some 1⟩) m cap, Value.slice (some { block := 0, off := 0 + 1 * 1, spot := some 1 }) (m - 1) (cap - 1), Value.int .i64 (iN (m - 1)), Value.int .i64 (Int.ofNat 0), undef, undef, undef, undef, undef, undef, undef, undef]) ([AObj.row (rowOf (fun i => [Value.complex .f64 (a i) (b i)]) M) false opn]) (Exit.exit 0) ([Value.slice (some ⟨0, 0, some 1⟩) m cap, undef, undef, Value.complex .f64 (smA a (m - 1)) (smA b (m - 1)), undef, undef, undef, undef, undef, undef, undef, undef, undef, Value.slice (some ⟨0, 1, some 1⟩) (m - 1) (cap - 1), Value.int .i64 (iN (m - 1)), Value.int .i64 (iN (m - 1)), undef, undef, undef, undef, undef, undef, undef, undef]) ([AObj.row (rowOf (fun i => [Value.complex .f64 (a i) (b i)]) M) false opn])), (List.length (α := AObj) ([AObj.row (rowOf (fun i => [Value.complex .f64 (a i) (b i)]) M) false opn]) ≤ List.length ([AObj.row (rowOf (fun i => [Value.complex .f64 (a i) (b i)]) M) false opn])), (Lk.Exit.isG (Exit.exit 0) = false)]) (by kernel_rfl) (fun hst => ⟨bP_of (fun x => x) he, ⟨ixF_ok _ _ (by (try simp only [decide_eq_true_eq, decide_eq_false_iff_not] at *); (try simp only [iN_eq, Int.ofNat_eq_natCast] at *); try omega), ⟨ldF_ok (load_one (k := 0) (n := M) (g := fun i => ((fun i => [Value.complex .f64 (a i) (b i)]) i).getD 0 undef) rfl (by kernel_rfl) (by omega) (by (try simp only [decide_eq_true_eq, decide_eq_false_iff_not] at *); (try simp only [iN_eq, Int.ofNat_eq_natCast] at *); try omega)), ⟨ldF_ok (slice_op (e := 27) (z := 1) (l := 1) (h := m) (by kernel_rfl) (by kernel_rfl) (bnd_int (by (try simp only [decide_eq_true_eq, decide_eq_false_iff_not] at *); (try simp only [iN_eq, Int.ofNat_eq_natCast] at *); try omega)) (bnd_no _ _) (by (try simp only [decide_eq_true_eq, decide_eq_false_iff_not] at *); (try simp only [iN_eq, Int.ofNat_eq_natCast] at *); try omega) (by (try simp only [decide_eq_true_eq, decide_eq_false_iff_not] at *); (try simp only [iN_eq, Int.ofNat_eq_natCast] at *); try omega) (by (try simp only [decide_eq_true_eq, decide_eq_false_iff_not] at *); (try simp only [iN_eq, Int.ofNat_eq_natCast] at *); try omega) (by (try simp only [decide_eq_true_eq, decide_eq_false_iff_not] at *); (try simp only [iN_eq, Int.ofNat_eq_natCast] at *); try omega)), ⟨l0 hst, Nat.le_of_ble_eq_true (by kernel_rfl), rfl, trivial⟩⟩⟩⟩⟩)
theorem suZ_fok : fnOkX (dLSu) [] Try.f146 = true := by kernel_rfl
theorem suZ_p0 (opn : Option Nat) (a : Nat → Nat) (b : Nat → Nat) (M : Nat) (cap : Nat) : CallR Try.prog false 146 ([Value.slice (some ⟨0, 0, some 1⟩) 0 cap]) ([AObj.row (rowOf (fun i => [Value.complex .f64 (a i) (b i)]) M) false opn]) (Value.complex .f64 0 0) ([AObj.row (rowOf (fun i => [Value.complex .f64 (a i) (b i)]) M) false opn]) := CallR.of_DOXs (C := dLSu) dLSu_ok (X := []) Try.func146 suZ_fok (n := 3) (orc := []) (ps := []) (by kernel_rfl) (fun hst => trivial)
/-! ### Rows of complex numbers -/
def isCo : Value → Bool | .complex .f64 _ _ => true | _ => false
def reC (vs : List Value) (i : Nat) : Nat := match vs[i]? with | some (.complex .f64 a _) => a | _ => 0
def imC (vs : List Value) (i : Nat) : Nat := match vs[i]? with | some (.complex .f64 _ b) => b | _ => 0
theorem isCo_eq {v : Value} (h : isCo v = true) : ∃ a b, v = .complex .f64 a b := by
  unfold isCo at h
  split at h
  · exact ⟨_, _, rfl⟩
  · cases h
theorem coRow {vs : List Value} (h : vs.all isCo = true) : rowOf (fun i => [.complex .f64 (reC vs i) (imC vs i)]) vs.length = vs := by
  have hl := rowOf_len (f := fun i => [Value.complex .f64 (reC vs i) (imC vs i)]) (s := 1) (fun _ => rfl) vs.length
  apply List.ext_getElem?
  intro j
  rcases Nat.lt_or_ge j vs.length with hj | hj
  · have h3 := rowOf_at (f := fun i => [Value.complex .f64 (reC vs i) (imC vs i)]) (s := 1) (fun _ => rfl) (k := j) (n := vs.length) hj
    have h3 := congrArg (fun l => l[0]?) h3
    simp only [List.getElem?_take, List.getElem?_drop, Nat.mul_one, Nat.add_zero] at h3
    simp only [Nat.lt_one_iff, if_true, List.getElem?_cons_zero] at h3
    rw [h3]
    have hm : vs[j]? = some vs[j] := List.getElem?_eq_getElem hj
    obtain ⟨a, b, e⟩ := isCo_eq (List.all_eq_true.1 h vs[j] (List.getElem_mem hj))
    rw [e] at hm
    simp only [reC, imC, hm]
  · rw [List.getElem?_eq_none hj, List.getElem?_eq_none (by rw [hl]; omega)]
theorem co_get {x y : Nat → Nat} {M i : Nat} (h : i < M) : (rowOf (fun i => [Value.complex .f64 (x i) (y i)]) M)[i]? = some (.complex .f64 (x i) (y i)) := by
  have h3 := rowOf_at (f := fun i => [Value.complex .f64 (x i) (y i)]) (s := 1) (fun _ => rfl) (k := i) (n := M) h
  have h3 := congrArg (fun l => l[0]?) h3
  simp only [List.getElem?_take, List.getElem?_drop, Nat.mul_one, Nat.add_zero] at h3
  simp only [Nat.lt_one_iff, if_true, List.getElem?_cons_zero] at h3
  exact h3
theorem reC_row {x y : Nat → Nat} {M i : Nat} (h : i < M) : reC (rowOf (fun i => [.complex .f64 (x i) (y i)]) M) i = x i := by unfold reC; rw [co_get h]
theorem imC_row {x y : Nat → Nat} {M i : Nat} (h : i < M) : imC (rowOf (fun i => [.complex .f64 (x i) (y i)]) M) i = y i := by unfold imC; rw [co_get h]
theorem isCo_plain {vs : List Value} (h : vs.all isCo = true) : vs.all plain = true := by
  rw [List.all_eq_true] at h ⊢
  intro v hv
  obtain ⟨a, b, rfl⟩ := isCo_eq (h v hv)
  rfl
theorem isCo_row (x y : Nat → Nat) (M : Nat) : (rowOf (fun i => [Value.complex .f64 (x i) (y i)]) M).all isCo = true := rowOf_all (fun _ => rfl) M
theorem smA_congr {a b : Nat → Nat} : ∀ {k : Nat}, (∀ i, i ≤ k → a i = b i) → smA a k = smA b k
  | 0, h => h 0 (Nat.le_refl _)
  | k + 1, h => by
    show fadd (smA a k) (a (k + 1)) = fadd (smA b k) (b (k + 1))
    rw [smA_congr (fun i hi => h i (by omega)), h (k + 1) (Nat.le_refl _)]
/-- The sum of m, as Sum tells it. -/
def sumC (a : Nat → Nat) (m : Nat) : Nat := bif Nat.beq m 0 then 0 else smA a (m - 1)
theorem sumC_congr {a b : Nat → Nat} {m : Nat} (h : ∀ i, i < m → a i = b i) : sumC a m = sumC b m := by
  unfold sumC
  cases hm : Nat.beq m 0
  · have : m ≠ 0 := by rintro rfl; cases hm
    rw [cond_false, cond_false, smA_congr (fun i hi => h i (by omega))]
  · rfl
def sSum : HeapFn
  | [.slice (some ⟨b, 0, some 1⟩) m cap], σ =>
    match σ[b]? with
    | some (.row vs _ _) => bif vs.all isCo && (Nat.ble m vs.length && (Nat.ble m 65536 && Nat.ble m cap)) then some (.complex .f64 (sumC (reC vs) m) (sumC (imC vs) m), σ) else none
    | _ => none
  | _, _ => none
theorem sum_loop (opn : Option Nat) (a b : Nat → Nat) (M m cap : Nat) (hm : m ≤ M) (hM : m ≤ 65536) (hc : m ≤ cap) (h0 : 0 < m) (hst : Stood false [.row (rowOf (fun i => [.complex .f64 (a i) (b i)]) M) false opn]) :
    Sim dLSu 1 (.loop (loopOf Try.f146 0)) (suFr a b m cap 0) [.row (rowOf (fun i => [.complex .f64 (a i) (b i)]) M) false opn] (.exit 0) (suFr a b m cap (m - 1)) [.row (rowOf (fun i => [.complex .f64 (a i) (b i)]) M) false opn] :=
  Sim.loop (fun k => (suFr a b m cap k, [.row (rowOf (fun i => [.complex .f64 (a i) (b i)]) M) false opn])) (m - 1)
    (fun k hk => (suR_p0 opn a b M m cap hm hM hc h0 k hk hst).cast (by kernel_rfl) (by kernel_rfl) (by kernel_rfl) (by kernel_rfl))
    ((suE_p0 opn a b M m cap hm hM hc h0 hst).cast (by kernel_rfl) (by kernel_rfl) (by kernel_rfl) (by kernel_rfl)) rfl
theorem sum_small (opn : Option Nat) (a b : Nat → Nat) (M m cap : Nat) (hm : m ≤ M) (hM : m ≤ 65536) (hc : m ≤ cap) : ∃ σ', CallR Try.prog false 146 [.slice (some ⟨0, 0, some 1⟩) m cap] [.row (rowOf (fun i => [.complex .f64 (a i) (b i)]) M) false opn] (.complex .f64 (sumC a m) (sumC b m)) σ' := by
  rcases Nat.eq_zero_or_pos m with rfl | h0
  · exact ⟨_, suZ_p0 opn a b M cap⟩
  · have e : ∀ x : Nat → Nat, sumC x m = smA x (m - 1) := by
      intro x
      unfold sumC
      rw [show Nat.beq m 0 = false from by cases m with | zero => omega | succ m => rfl]
      rfl
    rw [e, e]
    exact ⟨_, suA_p0 opn a b M m cap hm hM hc h0 (by rw [iN_eq]; exact beq_false_of_ne (by show ((m : Nat) : Int) ≠ 0; omega)) (fun hst => ((sum_loop opn a b M m cap hm hM hc h0 hst).enter ([true, false, false, true] ++ List.replicate 9 false ++ [true, true, true] ++ List.replicate 8 false) (by kernel_rfl)).cast rfl rfl (by kernel_rfl) rfl)⟩
theorem sSum_ok : IsHeap Try.prog false 146 true sSum := by
  have key : ∀ (args : List Value) (σ : AHeap) (v : Value) (σ' : AHeap), sSum args σ = some (v, σ') → σ' = σ := by
    intro args σ v σ' h
    unfold sSum at h
    split at h
    · split at h
      · rename_i vs _ _ _
        cases hc : (vs.all isCo && (Nat.ble _ vs.length && (Nat.ble _ 65536 && Nat.ble _ _))) <;> rw [hc] at h <;> cases h
        rfl
      · cases h
    · cases h
  refine ⟨fun args σ v σ' h => ?_, fun _ args σ v σ' h => key args σ v σ' h, fun args σ v σ' h => by rw [key args σ v σ' h]; exact Nat.le_refl _⟩
  unfold sSum at h
  split at h
  · rename_i b m cap
    split at h
    · rename_i vs rw' opn hb
      cases hc : (vs.all isCo && (Nat.ble m vs.length && (Nat.ble m 65536 && Nat.ble m cap)))
      · rw [hc] at h; cases h
      · rw [hc] at h
        cases h
        simp only [Bool.and_eq_true] at hc
        obtain ⟨c1, c2, c3, c4⟩ := hc
        obtain ⟨σ1, hs⟩ := sum_small opn (reC vs) (imC vs) vs.length m cap (Nat.le_of_ble_eq_true c2) (Nat.le_of_ble_eq_true c3) (Nat.le_of_ble_eq_true c4)
        rw [coRow c1] at hs
        refine CallR.frameQ (r := fun k => if k = 0 then b else k + σ.length) ⟨fun k o hk => ?_, fun k hk => ?_⟩ ?_ hs rfl
        · have : k = 0 := by have := lt_of_some hk; simpa using this
          subst this
          simp only [List.getElem?_cons_zero, Option.some.injEq] at hk
          exact ⟨vs, opn, rw', hk.symm, hb, isCo_plain c1⟩
        · have hk : 1 ≤ k := hk
          have : ¬ k = 0 := by omega
          simp only [this, if_false]; omega
        · rfl
    · cases h
  · cases h
/-- At a row that is told by a function. -/
theorem sSum_row {F : Nat → List Value} {x y : Nat → Nat} {M m cap bl : Nat} {rw' : Bool} {opn : Option Nat} {σ : AHeap} (hσ : σ[bl]? = some (.row (rowOf F M) rw' opn)) (hF : ∀ i, i < M → isCo ((F i).headD undef) = true ∧ (F i).length = 1) (hl : ∀ i, (F i).length = 1) (hm : m ≤ M) (hM : m ≤ 65536) (hc : m ≤ cap)
    (hx : ∀ i, i < m → F i = [.complex .f64 (x i) (y i)]) : sSum [.slice (some ⟨bl, 0, some 1⟩) m cap] σ = some (.complex .f64 (sumC x m) (sumC y m), σ) := by
  have hget : ∀ i, i < M → (rowOf F M)[i]? = some ((F i).headD undef) := by
    intro i hi
    have h3 := rowOf_at (f := F) (s := 1) hl (k := i) (n := M) hi
    have h3 := congrArg (fun l => l[0]?) h3
    simp only [List.getElem?_take, List.getElem?_drop, Nat.mul_one, Nat.add_zero] at h3
    simp only [Nat.lt_one_iff, if_true] at h3
    rw [h3]
    have := hl i
    match hFi : F i, this with
    | [v], _ => rfl
  have hlen := rowOf_len (f := F) (s := 1) hl M
  rw [Nat.mul_one] at hlen
  have hall : (rowOf F M).all isCo = true := by
    rw [List.all_eq_true]
    intro v hv
    obtain ⟨i, hi, e⟩ := List.mem_iff_getElem.1 hv
    have h1 := hget i (by omega)
    rw [List.getElem?_eq_getElem hi] at h1
    have h2 := Option.some.inj h1
    rw [← e, h2]
    exact (hF i (by omega)).1
  unfold sSum
  simp only [hσ, hall, Nat.ble_eq_true_of_le (show m ≤ (rowOf F M).length by omega), Nat.ble_eq_true_of_le hM, Nat.ble_eq_true_of_le hc, Bool.and_self, cond_true]
  have e1 : sumC (reC (rowOf F M)) m = sumC x m := sumC_congr fun i hi => by unfold reC; rw [hget i (by omega), hx i hi]; rfl
  have e2 : sumC (imC (rowOf F M)) m = sumC y m := sumC_congr fun i hi => by unfold imC; rw [hget i (by omega), hx i hi]; rfl
  rw [e1, e2]
noncomputable def tsu : Tab := t1.addH 146 true sSum
theorem tsu_ok : tsu.Ok Try.prog false := Tab.Ok.addH t1_ok sSum_ok
end Go.Lk
