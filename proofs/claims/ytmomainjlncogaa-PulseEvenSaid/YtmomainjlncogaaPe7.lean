import Derived.Test.YtmomainjlncogaaPe6
import Derived.Test.YtmomainjlncogaaPe4
import Derived.Test.YtmomainjlncogaaPe5
section
/- Windows: rounds and paths. -/
namespace Go.Lk
open Go.Proofs
set_option maxRecDepth 100000
set_option maxHeartbeats 0
set_option linter.unusedVariables false
set_option linter.unusedSimpArgs false
noncomputable def LWi : Lib := ⟨Try.prog, false, t7, [], []⟩
theorem LWi_fp : ∀ e, e ∈ LWi.pures → Try.prog.funcs[e.1]? = some e.2 := fs_nil
theorem LWi_fh : ∀ e, e ∈ LWi.heaps → Try.prog.funcs[e.1]? = some e.2.2 := gs_nil
theorem LWi_p1 (gp : Nat → PureFn) (g : Nat → HeapFn) : (LWi.pures.all fun e => fnOk (LWi.mk' gp g) e.2) = true := by kernel_rfl
theorem LWi_h1 (gp : Nat → PureFn) (g : Nat → HeapFn) : (LWi.heaps.all fun e => fnOk (LWi.mk' gp g) e.2.2 && (!e.2.1 || fnRo (LWi.mk' gp g) e.2.2)) = true := by kernel_rfl
theorem LWi_ok : LWi.Ok := ⟨t7_ok, mixed, LWi_fp, LWi_fh, LWi_p1, LWi_h1⟩
noncomputable def dLWi : Cfg := LWi.cfg 100 4
theorem dLWi_ok : dLWi.Ok := LWi_ok.cfg 100 4

def wiW (K : Int) (n i : Nat) : Nat := bif K == 1 then fsub 4602678819172646912 (fmul 4602678819172646912 (wUnit_0 (iN i) (iN n))) else bif K == 2 then fsub 4603039107142836552 (fmul 4601958243232267633 (wUnit_0 (iN i) (iN n))) else bif K == 3 then fsub 4607182418800017408 (fdiv (fabs (FloatKind.f64.nearest (IntKind.i64.wrap (iN (2 * i + 1) - iN n)))) (FloatKind.f64.nearest (iN n))) else 4607182418800017408
def wiF (K : Int) (n k : Nat) : List Value := [.int .i8 K, .int .i64 (iN n), undef, undef, .slice none 0 0, .slice (some ⟨0, 0, some 1⟩) n n, undef, undef, undef, undef, undef, undef, undef, undef, undef, undef, undef, .int .i64 (iN n), .int .i64 (iN k)] ++ List.replicate 44 undef
theorem wi0_okX : codeOkX (dLWi) [] (loopOf Try.f79 0) = true := by kernel_rfl
theorem wi0_p0 (n : Nat) (k : Nat) (hk : k < n) (hn : n ≤ 16384) (hst : Stood false ([])) : Sim (dLWi) 1 (loopOf Try.f79 0) ((wiF 0 n k)) ([.row (rowOf (half2 (fun i => [.float .f64 (wiW 0 n i)]) (fun _ => [.float .f64 0]) k) n) true none]) .normal ([Value.int IntKind.i8 (Int.ofNat 0), Value.int .i64 (iN n), undef, undef, Value.slice none 0 0, Value.slice (some ⟨0, 0, some 1⟩) n n, undef, undef, undef, undef, undef, undef, undef, undef, undef, undef, undef, Value.int .i64 (iN n), Value.int .i64 (iN (k + 1)), undef, undef, undef, undef, undef, undef, undef, undef, undef, undef, undef, undef, undef, undef, undef, undef, undef, undef, undef, undef, undef, undef, undef, undef, undef, undef, undef, undef, undef, undef, undef, undef, undef, undef, undef, undef, undef, undef, undef, undef, undef, undef, undef, undef]) ([AObj.row (rowOf (half2 (fun i => [Value.float .f64 (wiW 0 n i)]) (fun x => [Value.float .f64 0]) (k + 1)) n) true none]) := Sim.of_roundQ (C := dLWi) dLWi_ok (X := []) (n := 3) (orc := [(2, Item.br true), (39, Item.res (Value.pointer (some { block := 0, off := 0 + k * 1 }))), (41, Item.eff undef [AObj.row (rowOf (half2 (fun i => [Value.float .f64 (wiW 0 n i)]) (fun x => [Value.float .f64 0]) (k + 1)) n) true none]), (43, Item.res (Value.int .i64 (iN (k + 1))))]) (ks := [0]) (mask := [true, true, false, false, true, true, false, false, false, false, false, false, false, false, false, false, false, true, true, false, false, false, false, false, false, false, false, false, false, false, false, false, false, false, false, false, false, false, false, false, false, false, false, false, false, false, false, false, false, false, false, false, false, false, false, false, false, false, false, false, false, false, false]) (ps := [(some (decide (iN k < iN n)) = some true), (ixF (Value.pointer (some { block := 0, off := 0 + k * 1 })) ([AObj.row (rowOf (half2 (fun i => [Value.float .f64 (wiW 0 n i)]) (fun x => [Value.float .f64 0]) k) n) true none]) (iN k) (n) = some (Value.pointer (some { block := 0, off := 0 + k * 1 }), [AObj.row (rowOf (half2 (fun i => [Value.float .f64 (wiW 0 n i)]) (fun x => [Value.float .f64 0]) k) n) true none])), (stF (aStore Try.prog ([AObj.row (rowOf (half2 (fun i => [Value.float .f64 (wiW 0 n i)]) (fun x => [Value.float .f64 0]) k) n) true none]) 22 (.pointer (some ⟨0, 0 + k * 1, none⟩)) (Value.float .f64 4607182418800017408)) = some (undef, [AObj.row (rowOf (half2 (fun i => [Value.float .f64 (wiW 0 n i)]) (fun x => [Value.float .f64 0]) (k + 1)) n) true none])), (wF IntKind.i64 (iN k + 1) ([AObj.row (rowOf (half2 (fun i => [Value.float .f64 (wiW 0 n i)]) (fun x => [Value.float .f64 0]) (k + 1)) n) true none]) = some (.int IntKind.i64 (iN (k + 1)), [AObj.row (rowOf (half2 (fun i => [Value.float .f64 (wiW 0 n i)]) (fun x => [Value.float .f64 0]) (k + 1)) n) true none]))]) (L := 1) 1 wi0_okX (by kernel_rfl) ⟨bP_of (fun x => x) (show (decide (iN k < iN n)) = true from decide_eq_true (by (try simp only [decide_eq_true_eq, decide_eq_false_iff_not] at *); (try simp only [iN_eq, Int.ofNat_eq_natCast] at *); try omega)), ⟨ixF_ok _ _ (by (try simp only [decide_eq_true_eq, decide_eq_false_iff_not] at *); (try simp only [iN_eq, Int.ofNat_eq_natCast] at *); try omega), ⟨stF_ok (store_row (z := 1) (k := k) (f := half2 (fun i => [Value.float .f64 (wiW 0 n i)]) (fun x => [Value.float .f64 0]) k) (g := half2 (fun i => [Value.float .f64 (wiW 0 n i)]) (fun x => [Value.float .f64 0]) (k + 1)) rfl (by kernel_rfl) (half2_len (s := 1) (fun _ => rfl) (fun _ => rfl) _) (half2_len (s := 1) (fun _ => rfl) (fun _ => rfl) _) (by rw [half2_at]; try kernel_rfl) (by rw [half2_at]; try kernel_rfl) (by (try simp only [decide_eq_true_eq, decide_eq_false_iff_not] at *); (try simp only [iN_eq, Int.ofNat_eq_natCast] at *); try omega) (by (try simp only [decide_eq_true_eq, decide_eq_false_iff_not] at *); (try simp only [iN_eq, Int.ofNat_eq_natCast] at *); try omega) (fun i h => half2_ne _ _ _ i h)), ⟨wF_ok _ (by (try simp only [decide_eq_true_eq, decide_eq_false_iff_not] at *); (try simp only [iN_eq, Int.ofNat_eq_natCast] at *); try omega) (by (try simp only [decide_eq_true_eq, decide_eq_false_iff_not] at *); (try simp only [iN_eq, Int.ofNat_eq_natCast] at *); try omega), trivial⟩⟩⟩⟩ hst (by kernel_rfl) (by kernel_rfl) (by kernel_rfl) (by decide) (by kernel_rfl) ⟨rowOf_all (half2_all (fun _ => rfl) (fun _ => rfl) _) _, trivial⟩
theorem wi1_okX : codeOkX (dLWi) [] (loopOf Try.f79 0) = true := by kernel_rfl
theorem wi1_p0 (n : Nat) (k : Nat) (hk : k < n) (hn : n ≤ 16384) (hst : Stood false ([])) : Sim (dLWi) 1 (loopOf Try.f79 0) ((wiF 1 n k)) ([.row (rowOf (half2 (fun i => [.float .f64 (wiW 1 n i)]) (fun _ => [.float .f64 0]) k) n) true none]) .normal ([Value.int IntKind.i8 (Int.ofNat 1), Value.int .i64 (iN n), undef, undef, Value.slice none 0 0, Value.slice (some ⟨0, 0, some 1⟩) n n, undef, undef, undef, undef, undef, undef, undef, undef, undef, undef, undef, Value.int .i64 (iN n), Value.int .i64 (iN (k + 1)), undef, undef, undef, undef, undef, undef, undef, undef, undef, undef, undef, undef, undef, undef, undef, undef, undef, undef, undef, undef, undef, undef, undef, undef, undef, undef, undef, undef, undef, undef, undef, undef, undef, undef, undef, undef, undef, undef, undef, undef, undef, undef, undef, undef]) ([AObj.row (rowOf (half2 (fun i => [Value.float .f64 (wiW 1 n i)]) (fun x => [Value.float .f64 0]) (k + 1)) n) true none]) := Sim.of_roundQ (C := dLWi) dLWi_ok (X := []) (n := 3) (orc := [(2, Item.br true), (35, Item.res (Value.pointer (some { block := 0, off := 0 + k * 1 }))), (37, Item.eff undef [AObj.row (rowOf (half2 (fun i => [Value.float .f64 (wiW 1 n i)]) (fun x => [Value.float .f64 0]) (k + 1)) n) true none]), (39, Item.res (Value.int .i64 (iN (k + 1))))]) (ks := [0]) (mask := [true, true, false, false, true, true, false, false, false, false, false, false, false, false, false, false, false, true, true, false, false, false, false, false, false, false, false, false, false, false, false, false, false, false, false, false, false, false, false, false, false, false, false, false, false, false, false, false, false, false, false, false, false, false, false, false, false, false, false, false, false, false, false]) (ps := [(some (decide (iN k < iN n)) = some true), (ixF (Value.pointer (some { block := 0, off := 0 + k * 1 })) ([AObj.row (rowOf (half2 (fun i => [Value.float .f64 (wiW 1 n i)]) (fun x => [Value.float .f64 0]) k) n) true none]) (iN k) (n) = some (Value.pointer (some { block := 0, off := 0 + k * 1 }), [AObj.row (rowOf (half2 (fun i => [Value.float .f64 (wiW 1 n i)]) (fun x => [Value.float .f64 0]) k) n) true none])), (stF (aStore Try.prog ([AObj.row (rowOf (half2 (fun i => [Value.float .f64 (wiW 1 n i)]) (fun x => [Value.float .f64 0]) k) n) true none]) 22 (.pointer (some ⟨0, 0 + k * 1, none⟩)) (Value.float .f64 (fsub 4602678819172646912 (fmul 4602678819172646912 (wUnit_0 (iN k) (iN n)))))) = some (undef, [AObj.row (rowOf (half2 (fun i => [Value.float .f64 (wiW 1 n i)]) (fun x => [Value.float .f64 0]) (k + 1)) n) true none])), (wF IntKind.i64 (iN k + 1) ([AObj.row (rowOf (half2 (fun i => [Value.float .f64 (wiW 1 n i)]) (fun x => [Value.float .f64 0]) (k + 1)) n) true none]) = some (.int IntKind.i64 (iN (k + 1)), [AObj.row (rowOf (half2 (fun i => [Value.float .f64 (wiW 1 n i)]) (fun x => [Value.float .f64 0]) (k + 1)) n) true none]))]) (L := 1) 1 wi1_okX (by kernel_rfl) ⟨bP_of (fun x => x) (show (decide (iN k < iN n)) = true from decide_eq_true (by (try simp only [decide_eq_true_eq, decide_eq_false_iff_not] at *); (try simp only [iN_eq, Int.ofNat_eq_natCast] at *); try omega)), ⟨ixF_ok _ _ (by (try simp only [decide_eq_true_eq, decide_eq_false_iff_not] at *); (try simp only [iN_eq, Int.ofNat_eq_natCast] at *); try omega), ⟨stF_ok (store_row (z := 1) (k := k) (f := half2 (fun i => [Value.float .f64 (wiW 1 n i)]) (fun x => [Value.float .f64 0]) k) (g := half2 (fun i => [Value.float .f64 (wiW 1 n i)]) (fun x => [Value.float .f64 0]) (k + 1)) rfl (by kernel_rfl) (half2_len (s := 1) (fun _ => rfl) (fun _ => rfl) _) (half2_len (s := 1) (fun _ => rfl) (fun _ => rfl) _) (by rw [half2_at]; try kernel_rfl) (by rw [half2_at]; try kernel_rfl) (by (try simp only [decide_eq_true_eq, decide_eq_false_iff_not] at *); (try simp only [iN_eq, Int.ofNat_eq_natCast] at *); try omega) (by (try simp only [decide_eq_true_eq, decide_eq_false_iff_not] at *); (try simp only [iN_eq, Int.ofNat_eq_natCast] at *); try omega) (fun i h => half2_ne _ _ _ i h)), ⟨wF_ok _ (by (try simp only [decide_eq_true_eq, decide_eq_false_iff_not] at *); (try simp only [iN_eq, Int.ofNat_eq_natCast] at *); try omega) (by (try simp only [decide_eq_true_eq, decide_eq_false_iff_not] at *); (try simp only [iN_eq, Int.ofNat_eq_natCast] at *); try omega), trivial⟩⟩⟩⟩ hst (by kernel_rfl) (by kernel_rfl) (by kernel_rfl) (by decide) (by kernel_rfl) ⟨rowOf_all (half2_all (fun _ => rfl) (fun _ => rfl) _) _, trivial⟩
theorem wi2_okX : codeOkX (dLWi) [] (loopOf Try.f79 0) = true := by kernel_rfl
theorem wi2_p0 (n : Nat) (k : Nat) (hk : k < n) (hn : n ≤ 16384) (hst : Stood false ([])) : Sim (dLWi) 1 (loopOf Try.f79 0) ((wiF 2 n k)) ([.row (rowOf (half2 (fun i => [.float .f64 (wiW 2 n i)]) (fun _ => [.float .f64 0]) k) n) true none]) .normal ([Value.int IntKind.i8 (Int.ofNat 2), Value.int .i64 (iN n), undef, undef, Value.slice none 0 0, Value.slice (some ⟨0, 0, some 1⟩) n n, undef, undef, undef, undef, undef, undef, undef, undef, undef, undef, undef, Value.int .i64 (iN n), Value.int .i64 (iN (k + 1)), undef, undef, undef, undef, undef, undef, undef, undef, undef, undef, undef, undef, undef, undef, undef, undef, undef, undef, undef, undef, undef, undef, undef, undef, undef, undef, undef, undef, undef, undef, undef, undef, undef, undef, undef, undef, undef, undef, undef, undef, undef, undef, undef, undef]) ([AObj.row (rowOf (half2 (fun i => [Value.float .f64 (wiW 2 n i)]) (fun x => [Value.float .f64 0]) (k + 1)) n) true none]) := Sim.of_roundQ (C := dLWi) dLWi_ok (X := []) (n := 3) (orc := [(2, Item.br true), (40, Item.res (Value.pointer (some { block := 0, off := 0 + k * 1 }))), (42, Item.eff undef [AObj.row (rowOf (half2 (fun i => [Value.float .f64 (wiW 2 n i)]) (fun x => [Value.float .f64 0]) (k + 1)) n) true none]), (44, Item.res (Value.int .i64 (iN (k + 1))))]) (ks := [0]) (mask := [true, true, false, false, true, true, false, false, false, false, false, false, false, false, false, false, false, true, true, false, false, false, false, false, false, false, false, false, false, false, false, false, false, false, false, false, false, false, false, false, false, false, false, false, false, false, false, false, false, false, false, false, false, false, false, false, false, false, false, false, false, false, false]) (ps := [(some (decide (iN k < iN n)) = some true), (ixF (Value.pointer (some { block := 0, off := 0 + k * 1 })) ([AObj.row (rowOf (half2 (fun i => [Value.float .f64 (wiW 2 n i)]) (fun x => [Value.float .f64 0]) k) n) true none]) (iN k) (n) = some (Value.pointer (some { block := 0, off := 0 + k * 1 }), [AObj.row (rowOf (half2 (fun i => [Value.float .f64 (wiW 2 n i)]) (fun x => [Value.float .f64 0]) k) n) true none])), (stF (aStore Try.prog ([AObj.row (rowOf (half2 (fun i => [Value.float .f64 (wiW 2 n i)]) (fun x => [Value.float .f64 0]) k) n) true none]) 22 (.pointer (some ⟨0, 0 + k * 1, none⟩)) (Value.float .f64 (fsub 4603039107142836552 (fmul 4601958243232267633 (wUnit_0 (iN k) (iN n)))))) = some (undef, [AObj.row (rowOf (half2 (fun i => [Value.float .f64 (wiW 2 n i)]) (fun x => [Value.float .f64 0]) (k + 1)) n) true none])), (wF IntKind.i64 (iN k + 1) ([AObj.row (rowOf (half2 (fun i => [Value.float .f64 (wiW 2 n i)]) (fun x => [Value.float .f64 0]) (k + 1)) n) true none]) = some (.int IntKind.i64 (iN (k + 1)), [AObj.row (rowOf (half2 (fun i => [Value.float .f64 (wiW 2 n i)]) (fun x => [Value.float .f64 0]) (k + 1)) n) true none]))]) (L := 1) 1 wi2_okX (by kernel_rfl) ⟨bP_of (fun x => x) (show (decide (iN k < iN n)) = true from decide_eq_true (by (try simp only [decide_eq_true_eq, decide_eq_false_iff_not] at *); (try simp only [iN_eq, Int.ofNat_eq_natCast] at *); try omega)), ⟨ixF_ok _ _ (by (try simp only [decide_eq_true_eq, decide_eq_false_iff_not] at *); (try simp only [iN_eq, Int.ofNat_eq_natCast] at *); try omega), ⟨stF_ok (store_row (z := 1) (k := k) (f := half2 (fun i => [Value.float .f64 (wiW 2 n i)]) (fun x => [Value.float .f64 0]) k) (g := half2 (fun i => [Value.float .f64 (wiW 2 n i)]) (fun x => [Value.float .f64 0]) (k + 1)) rfl (by kernel_rfl) (half2_len (s := 1) (fun _ => rfl) (fun _ => rfl) _) (half2_len (s := 1) (fun _ => rfl) (fun _ => rfl) _) (by rw [half2_at]; try kernel_rfl) (by rw [half2_at]; try kernel_rfl) (by (try simp only [decide_eq_true_eq, decide_eq_false_iff_not] at *); (try simp only [iN_eq, Int.ofNat_eq_natCast] at *); try omega) (by (try simp only [decide_eq_true_eq, decide_eq_false_iff_not] at *); (try simp only [iN_eq, Int.ofNat_eq_natCast] at *); try omega) (fun i h => half2_ne _ _ _ i h)), ⟨wF_ok _ (by (try simp only [decide_eq_true_eq, decide_eq_false_iff_not] at *); (try simp only [iN_eq, Int.ofNat_eq_natCast] at *); try omega) (by (try simp only [decide_eq_true_eq, decide_eq_false_iff_not] at *); (try simp only [iN_eq, Int.ofNat_eq_natCast] at *); try omega), trivial⟩⟩⟩⟩ hst (by kernel_rfl) (by kernel_rfl) (by kernel_rfl) (by decide) (by kernel_rfl) ⟨rowOf_all (half2_all (fun _ => rfl) (fun _ => rfl) _) _, trivial⟩
theorem wi3_okX : codeOkX (dLWi) [] (loopOf Try.f79 0) = true := by kernel_rfl
theorem wi3_p0 (n : Nat) (k : Nat) (hk : k < n) (hn : n ≤ 16384) (hst : Stood false ([])) : Sim (dLWi) 1 (loopOf Try.f79 0) ((wiF 3 n k)) ([.row (rowOf (half2 (fun i => [.float .f64 (wiW 3 n i)]) (fun _ => [.float .f64 0]) k) n) true none]) .normal ([Value.int IntKind.i8 (Int.ofNat 3), Value.int .i64 (iN n), undef, undef, Value.slice none 0 0, Value.slice (some ⟨0, 0, some 1⟩) n n, undef, undef, undef, undef, undef, undef, undef, undef, undef, undef, undef, Value.int .i64 (iN n), Value.int .i64 (iN (k + 1)), undef, undef, undef, undef, undef, undef, undef, undef, undef, undef, undef, undef, undef, undef, undef, undef, undef, undef, undef, undef, undef, undef, undef, undef, undef, undef, undef, undef, undef, undef, undef, undef, undef, undef, undef, undef, undef, undef, undef, undef, undef, undef, undef, undef]) ([AObj.row (rowOf (half2 (fun i => [Value.float .f64 (wiW 3 n i)]) (fun x => [Value.float .f64 0]) (k + 1)) n) true none]) := Sim.of_roundQ (C := dLWi) dLWi_ok (X := []) (n := 3) (orc := [(2, Item.br true), (41, Item.res (Value.int .i64 (iN (2 * k)))), (43, Item.res (Value.int .i64 (iN (2 * k + 1)))), (61, Item.res (Value.pointer (some { block := 0, off := 0 + k * 1 }))), (63, Item.eff undef [AObj.row (rowOf (half2 (fun i => [Value.float .f64 (wiW 3 n i)]) (fun x => [Value.float .f64 0]) (k + 1)) n) true none]), (65, Item.res (Value.int .i64 (iN (k + 1))))]) (ks := [0]) (mask := [true, true, false, false, true, true, false, false, false, false, false, false, false, false, false, false, false, true, true, false, false, false, false, false, false, false, false, false, false, false, false, false, false, false, false, false, false, false, false, false, false, false, false, false, false, false, false, false, false, false, false, false, false, false, false, false, false, false, false, false, false, false, false]) (ps := [(some (decide (iN k < iN n)) = some true), (wF IntKind.i64 (2 * iN k) ([AObj.row (rowOf (half2 (fun i => [Value.float .f64 (wiW 3 n i)]) (fun x => [Value.float .f64 0]) k) n) true none]) = some (.int IntKind.i64 (iN (2 * k)), [AObj.row (rowOf (half2 (fun i => [Value.float .f64 (wiW 3 n i)]) (fun x => [Value.float .f64 0]) k) n) true none])), (wF IntKind.i64 (iN (2 * k) + 1) ([AObj.row (rowOf (half2 (fun i => [Value.float .f64 (wiW 3 n i)]) (fun x => [Value.float .f64 0]) k) n) true none]) = some (.int IntKind.i64 (iN (2 * k + 1)), [AObj.row (rowOf (half2 (fun i => [Value.float .f64 (wiW 3 n i)]) (fun x => [Value.float .f64 0]) k) n) true none])), (ixF (Value.pointer (some { block := 0, off := 0 + k * 1 })) ([AObj.row (rowOf (half2 (fun i => [Value.float .f64 (wiW 3 n i)]) (fun x => [Value.float .f64 0]) k) n) true none]) (iN k) (n) = some (Value.pointer (some { block := 0, off := 0 + k * 1 }), [AObj.row (rowOf (half2 (fun i => [Value.float .f64 (wiW 3 n i)]) (fun x => [Value.float .f64 0]) k) n) true none])), (stF (aStore Try.prog ([AObj.row (rowOf (half2 (fun i => [Value.float .f64 (wiW 3 n i)]) (fun x => [Value.float .f64 0]) k) n) true none]) 22 (.pointer (some ⟨0, 0 + k * 1, none⟩)) (Value.float .f64 (fsub 4607182418800017408 (fdiv (fabs (FloatKind.f64.nearest (IntKind.i64.wrap (iN (2 * k + 1) - iN n)))) (FloatKind.f64.nearest (iN n)))))) = some (undef, [AObj.row (rowOf (half2 (fun i => [Value.float .f64 (wiW 3 n i)]) (fun x => [Value.float .f64 0]) (k + 1)) n) true none])), (wF IntKind.i64 (iN k + 1) ([AObj.row (rowOf (half2 (fun i => [Value.float .f64 (wiW 3 n i)]) (fun x => [Value.float .f64 0]) (k + 1)) n) true none]) = some (.int IntKind.i64 (iN (k + 1)), [AObj.row (rowOf (half2 (fun i => [Value.float .f64 (wiW 3 n i)]) (fun x => [Value.float .f64 0]) (k + 1)) n) true none]))]) (L := 1) 1 wi3_okX (by kernel_rfl) ⟨bP_of (fun x => x) (show (decide (iN k < iN n)) = true from decide_eq_true (by (try simp only [decide_eq_true_eq, decide_eq_false_iff_not] at *); (try simp only [iN_eq, Int.ofNat_eq_natCast] at *); try omega)), ⟨wF_ok _ (by (try simp only [decide_eq_true_eq, decide_eq_false_iff_not] at *); (try simp only [iN_eq, Int.ofNat_eq_natCast] at *); try omega) (by (try simp only [decide_eq_true_eq, decide_eq_false_iff_not] at *); (try simp only [iN_eq, Int.ofNat_eq_natCast] at *); try omega), ⟨wF_ok _ (by (try simp only [decide_eq_true_eq, decide_eq_false_iff_not] at *); (try simp only [iN_eq, Int.ofNat_eq_natCast] at *); try omega) (by (try simp only [decide_eq_true_eq, decide_eq_false_iff_not] at *); (try simp only [iN_eq, Int.ofNat_eq_natCast] at *); try omega), ⟨ixF_ok _ _ (by (try simp only [decide_eq_true_eq, decide_eq_false_iff_not] at *); (try simp only [iN_eq, Int.ofNat_eq_natCast] at *); try omega), ⟨stF_ok (store_row (z := 1) (k := k) (f := half2 (fun i => [Value.float .f64 (wiW 3 n i)]) (fun x => [Value.float .f64 0]) k) (g := half2 (fun i => [Value.float .f64 (wiW 3 n i)]) (fun x => [Value.float .f64 0]) (k + 1)) rfl (by kernel_rfl) (half2_len (s := 1) (fun _ => rfl) (fun _ => rfl) _) (half2_len (s := 1) (fun _ => rfl) (fun _ => rfl) _) (by rw [half2_at]; try kernel_rfl) (by rw [half2_at]; try kernel_rfl) (by (try simp only [decide_eq_true_eq, decide_eq_false_iff_not] at *); (try simp only [iN_eq, Int.ofNat_eq_natCast] at *); try omega) (by (try simp only [decide_eq_true_eq, decide_eq_false_iff_not] at *); (try simp only [iN_eq, Int.ofNat_eq_natCast] at *); try omega) (fun i h => half2_ne _ _ _ i h)), ⟨wF_ok _ (by (try simp only [decide_eq_true_eq, decide_eq_false_iff_not] at *); (try simp only [iN_eq, Int.ofNat_eq_natCast] at *); try omega) (by (try simp only [decide_eq_true_eq, decide_eq_false_iff_not] at *); (try simp only [iN_eq, Int.ofNat_eq_natCast] at *); try omega), trivial⟩⟩⟩⟩⟩⟩ hst (by kernel_rfl) (by kernel_rfl) (by kernel_rfl) (by decide) (by kernel_rfl) ⟨rowOf_all (half2_all (fun _ => rfl) (fun _ => rfl) _) _, trivial⟩
theorem wiE_okX : codeOkX (dLWi) [] (loopOf Try.f79 0) = true := by kernel_rfl
theorem wiE_p0 (K : Int) (n : Nat) (hn : n ≤ 16384) (hst : Stood false ([])) : Sim (dLWi) 1 (loopOf Try.f79 0) ((wiF K n n)) ([.row (rowOf (half2 (fun i => [.float .f64 (wiW K n i)]) (fun _ => [.float .f64 0]) n) n) true none]) (.exit 0) ([Value.int IntKind.i8 K, Value.int .i64 (iN n), undef, undef, Value.slice none 0 0, Value.slice (some ⟨0, 0, some 1⟩) n n, undef, undef, undef, undef, undef, undef, undef, undef, undef, undef, undef, Value.int .i64 (iN n), Value.int .i64 (iN n), undef, undef, undef, undef, undef, undef, undef, undef, undef, undef, undef, undef, undef, undef, undef, undef, undef, undef, undef, undef, undef, undef, undef, undef, undef, undef, undef, undef, undef, undef, undef, undef, undef, undef, undef, undef, undef, undef, undef, undef, undef, undef, undef, undef]) ([AObj.row (rowOf (half2 (fun i => [Value.float .f64 (wiW K n i)]) (fun x => [Value.float .f64 0]) n) n) true none]) := Sim.of_roundQ (C := dLWi) dLWi_ok (X := []) (n := 3) (orc := [(2, Item.br false)]) (ks := [0]) (mask := [true, true, false, false, true, true, false, false, false, false, false, false, false, false, false, false, false, true, true, false, false, false, false, false, false, false, false, false, false, false, false, false, false, false, false, false, false, false, false, false, false, false, false, false, false, false, false, false, false, false, false, false, false, false, false, false, false, false, false, false, false, false, false]) (ps := [(some (decide (iN n < iN n)) = some false)]) (L := 1) 1 wiE_okX (by kernel_rfl) ⟨bP_of (fun x => x) (show (decide (iN n < iN n)) = false from decide_eq_false (by (try simp only [decide_eq_true_eq, decide_eq_false_iff_not] at *); (try simp only [iN_eq, Int.ofNat_eq_natCast] at *); try omega)), trivial⟩ hst (by kernel_rfl) (by kernel_rfl) (by kernel_rfl) (by decide) (by kernel_rfl) ⟨rowOf_all (half2_all (fun _ => rfl) (fun _ => rfl) _) _, trivial⟩
theorem wiP_fok : fnOkX (dLWi) [] Try.f79 = true := by kernel_rfl
theorem wiP_p0 (K : Int) (n : Nat) (h1 : decide (iN n < Int.ofNat 1) = false) (h2 : decide (iN n > Int.ofNat 16384) = false) (l0 : Stood false ([]) → Sim (dLWi) 1 (.loop (loopOf Try.f79 0)) ([Value.int IntKind.i8 K, Value.int .i64 (iN n), undef, undef, Value.slice none 0 0, Value.slice (some ⟨0, 0, some 1⟩) n n, undef, undef, Value.int .i64 (iN n), Value.bool (decide (iN n < 1)), Value.bool (decide (iN n < 1)), Value.int .i64 (iN n), Value.bool (decide (iN n > 16384)), Value.bool (decide (iN n > 16384)), Value.int .i64 (iN n), Value.slice (some ⟨0, 0, some 1⟩) n n, Value.slice (some ⟨0, 0, some 1⟩) n n, Value.int .i64 (iN n), Value.int .i64 (Int.ofNat 0), undef, undef, undef, undef, undef, undef, undef, undef, undef, undef, undef, undef, undef, undef, undef, undef, undef, undef, undef, undef, undef, undef, undef, undef, undef, undef, undef, undef, undef, undef, undef, undef, undef, undef, undef, undef, undef, undef, undef, undef, undef, undef, undef, undef]) ([AObj.row (rowOf (fun i => [Value.float .f64 0]) n) true none]) (Exit.exit 0) ([Value.int IntKind.i8 K, Value.int .i64 (iN n), undef, undef, Value.slice none 0 0, Value.slice (some ⟨0, 0, some 1⟩) n n, undef, undef, undef, undef, undef, undef, undef, undef, undef, undef, undef, Value.int .i64 (iN n), Value.int .i64 (iN n), undef, undef, undef, undef, undef, undef, undef, undef, undef, undef, undef, undef, undef, undef, undef, undef, undef, undef, undef, undef, undef, undef, undef, undef, undef, undef, undef, undef, undef, undef, undef, undef, undef, undef, undef, undef, undef, undef, undef, undef, undef, undef, undef, undef]) ([AObj.row (rowOf (fun i => [Value.float .f64 (wiW K n i)]) n) true none])) : CallR Try.prog false 79 ([Value.int IntKind.i8 K, Value.int .i64 (iN n)]) ([]) (Value.slice (some ⟨0, 0, some 1⟩) n n) ([AObj.row (rowOf (fun i => [Value.float .f64 (wiW K n i)]) n) true none]) := CallR.of_DOXs (C := dLWi) dLWi_ok (X := []) Try.func79 wiP_fok (n := 3) (orc := [(8, Item.br true), (10, Item.br true), (13, Item.res (Value.bool (decide (iN n > 16384)))), (14, Item.br false), (18, Item.eff (Value.slice (some ⟨0, 0, some 1⟩) n n) [AObj.row (rowOf (fun i => [Value.float .f64 0]) n) true none]), (27, Item.loop (Exit.exit 0) (wiF K n n) [AObj.row (rowOf (fun i => [Value.float .f64 (wiW K n i)]) n) true none])]) (ps := [(some (decide (iN n < 1) == false) = some true), (some (decide (iN n < 1) == false) = some true), (pP (some (Value.bool true)) (some (Value.bool (decide (iN n > 16384)))) ([]) (decide (iN n < 1)) (Value.bool (decide (iN n > 16384)))), (some (decide (iN n > 16384)) = some false), (aMake Try.prog ([]) 83 (.int IntKind.i64 (iN (n))) (.int IntKind.i64 (iN (n))) = some (Value.slice (some ⟨0, 0, some 1⟩) n n, [AObj.row (rowOf (fun i => [Value.float .f64 0]) n) true none])), (Sim (dLWi) 1 (.loop (loopOf Try.f79 0)) ([Value.int IntKind.i8 K, Value.int .i64 (iN n), undef, undef, Value.slice none 0 0, Value.slice (some ⟨0, 0, some 1⟩) n n, undef, undef, Value.int .i64 (iN n), Value.bool (decide (iN n < 1)), Value.bool (decide (iN n < 1)), Value.int .i64 (iN n), Value.bool (decide (iN n > 16384)), Value.bool (decide (iN n > 16384)), Value.int .i64 (iN n), Value.slice (some ⟨0, 0, some 1⟩) n n, Value.slice (some ⟨0, 0, some 1⟩) n n, Value.int .i64 (iN n), Value.int .i64 (Int.ofNat 0), undef, undef, undef, undef, undef, undef, undef, undef, undef, undef, undef, undef, undef, undef, undef, undef, undef, undef, undef, undef, undef, undef, undef, undef, undef, undef, undef, undef, undef, undef, undef, undef, undef, undef, undef, undef, undef, undef, undef, undef, undef, undef, undef, undef]) ([AObj.row (rowOf (fun i => [Value.float .f64 0]) n) true none]) (Exit.exit 0) ([Value.int IntKind.i8 K, Value.int .i64 (iN n), undef, undef, Value.slice none 0 0, Value.slice (some ⟨0, 0, some 1⟩) n n, undef, undef, undef, undef, undef, undef, undef, undef, undef, undef, undef, Value.int .i64 (iN n), Value.int .i64 (iN n), undef, undef, undef, undef, undef, undef, undef, undef, undef, undef, undef, undef, undef, undef, undef, undef, undef, undef, undef, undef, undef, undef, undef, undef, undef, undef, undef, undef, undef, undef, undef, undef, undef, undef, undef, undef, undef, undef, undef, undef, undef, undef, undef, undef]) ([AObj.row (rowOf (fun i => [Value.float .f64 (wiW K n i)]) n) true none])), (List.length (α := AObj) ([AObj.row (rowOf (fun i => [Value.float .f64 0]) n) true none]) ≤ List.length ([AObj.row (rowOf (fun i => [Value.float .f64 (wiW K n i)]) n) true none])), (Lk.Exit.isG (Exit.exit 0) = false)]) (by kernel_rfl) (fun hst => ⟨bP_of (fun x => x == false) (show (decide (iN n < 1)) = false from decide_eq_false (by (try simp only [decide_eq_true_eq, decide_eq_false_iff_not] at *); (try simp only [iN_eq, Int.ofNat_eq_natCast] at *); try omega)), ⟨bP_of (fun x => x == false) (show (decide (iN n < 1)) = false from decide_eq_false (by (try simp only [decide_eq_true_eq, decide_eq_false_iff_not] at *); (try simp only [iN_eq, Int.ofNat_eq_natCast] at *); try omega)), ⟨pP_f _ _ _ (congrArg (fun bb => (bb)) (show (decide (iN n < 1)) = false from decide_eq_false (by (try simp only [decide_eq_true_eq, decide_eq_false_iff_not] at *); (try simp only [iN_eq, Int.ofNat_eq_natCast] at *); try omega))), ⟨bP_of (fun x => x) (show (decide (iN n > 16384)) = false from decide_eq_false (by (try simp only [decide_eq_true_eq, decide_eq_false_iff_not] at *); (try simp only [iN_eq, Int.ofNat_eq_natCast] at *); try omega)), ⟨make_row (zs := [Value.float .f64 0]) (by kernel_rfl) (by kernel_rfl) (by kernel_rfl) (by (try simp only [decide_eq_true_eq, decide_eq_false_iff_not] at *); (try simp only [iN_eq, Int.ofNat_eq_natCast] at *); try omega) (by (try simp only [decide_eq_true_eq, decide_eq_false_iff_not] at *); (try simp only [iN_eq, Int.ofNat_eq_natCast] at *); try omega), ⟨l0 hst, Nat.le_of_ble_eq_true (by kernel_rfl), rfl, trivial⟩⟩⟩⟩⟩⟩)
theorem wiN_fok : fnOkX (dLWi) [] Try.f79 = true := by kernel_rfl
theorem wiN_p0 (K : Int) (n : Int) (h1 : decide (n < Int.ofNat 1) = true) : CallR Try.prog false 79 ([Value.int IntKind.i8 K, Value.int .i64 n]) ([]) (Value.slice none 0 0) ([]) := CallR.of_DOXs (C := dLWi) dLWi_ok (X := []) Try.func79 wiN_fok (n := 3) (orc := [(8, Item.br false), (10, Item.br false), (13, Item.res (Value.bool true))]) (ps := [(some (decide (n < 1) == false) = some false), (some (decide (n < 1) == false) = some false), (pP (some (Value.bool true)) (none) ([]) (decide (n < 1)) (Value.bool true))]) (by kernel_rfl) (fun hst => ⟨bP_of (fun x => x == false) (show (decide (n < 1)) = true from decide_eq_true (by (try simp only [decide_eq_true_eq, decide_eq_false_iff_not] at *); (try simp only [iN_eq, Int.ofNat_eq_natCast] at *); try omega)), ⟨bP_of (fun x => x == false) (show (decide (n < 1)) = true from decide_eq_true (by (try simp only [decide_eq_true_eq, decide_eq_false_iff_not] at *); (try simp only [iN_eq, Int.ofNat_eq_natCast] at *); try omega)), ⟨pP_t _ _ _ (congrArg (fun bb => (bb)) (show (decide (n < 1)) = true from decide_eq_true (by (try simp only [decide_eq_true_eq, decide_eq_false_iff_not] at *); (try simp only [iN_eq, Int.ofNat_eq_natCast] at *); try omega))), trivial⟩⟩⟩)
end Go.Lk
end

section
/- PulseEven: plain laws of windows. -/
namespace Go.Lk
set_option linter.unusedSimpArgs false
set_option linter.unusedVariables false
set_option maxRecDepth 100000
set_option maxHeartbeats 1000000
/-! ### The point at k of n -/
theorem tmod_bd (k : Int) (n : Nat) (h0 : 0 < n) : -(n : Int) < k.tmod n ∧ k.tmod n < n := by
  have h := Int.natAbs_tmod k n
  have h2 := Nat.mod_lt k.natAbs (show 0 < (n : Int).natAbs by omega)
  rw [← h] at h2
  omega
theorem unit_any (k : Int) (n : Nat) (h0 : 0 < n) (hn : n ≤ 16384) : ∃ j : Int, j.natAbs ≤ 32768 ∧ wUnit_0 k (iN n) = wTurn_0 (fdiv (FloatKind.f64.nearest j) (FloatKind.f64.nearest (iN n))) ∧ wUnit_1 k (iN n) = wTurn_1 (fdiv (FloatKind.f64.nearest j) (FloatKind.f64.nearest (iN n))) := by
  obtain ⟨b1, b2⟩ := tmod_bd k n h0
  have en : iN n = (n : Int) := iN_eq n
  have h1 : decide (iN n < 1) = false := decide_eq_false (by rw [en]; omega)
  unfold wUnit_0 wUnit_1
  rw [h1, en]
  simp only [cond_false]
  have w1 : IntKind.i64.wrap (k.tmod n + n) = k.tmod n + n := i64_wrap (by omega)
  have w3 : IntKind.i64.wrap (k.tmod n - n) = k.tmod n - n := i64_wrap (by omega)
  rw [w1, w3]
  have w4 : IntKind.i64.wrap (k.tmod n + n - n) = k.tmod n + n - n := i64_wrap (by omega)
  rw [w4]
  cases decide (k.tmod n < 0)
  · simp only [cond_false]
    cases decide (k.tmod n > IntKind.i64.wrap (n - k.tmod n))
    · exact ⟨_, by omega, rfl, rfl⟩
    · exact ⟨_, by omega, rfl, rfl⟩
  · simp only [cond_true]
    cases decide (k.tmod n + n > IntKind.i64.wrap (n - (k.tmod n + n)))
    · exact ⟨_, by omega, rfl, rfl⟩
    · exact ⟨_, by omega, rfl, rfl⟩
/-- Which turn it is, of k from 0 to n - 1. -/
def unJ (k n : Nat) : Int := if n < 2 * k then (k : Int) - n else k
theorem unit_is {k n : Nat} (hk : k < n) (hn : n ≤ 16384) : wUnit_0 (iN k) (iN n) = wTurn_0 (fdiv (FloatKind.f64.nearest (unJ k n)) (FloatKind.f64.nearest (iN n))) := by
  have en : iN n = (n : Int) := iN_eq n
  have ek : iN k = (k : Int) := iN_eq k
  have h1 : decide ((n : Int) < 1) = false := decide_eq_false (by omega)
  have hm : (k : Int).tmod n = k := Int.tmod_eq_of_lt (by omega) (by omega)
  unfold wUnit_0
  rw [en, ek, h1, hm]
  have h2 : decide ((k : Int) < 0) = false := decide_eq_false (by omega)
  rw [h2]
  simp only [cond_false]
  have w1 : IntKind.i64.wrap ((n : Int) - k) = n - k := i64_wrap (by omega)
  have w3 : IntKind.i64.wrap ((k : Int) - n) = k - n := i64_wrap (by omega)
  rw [w1, w3]
  unfold unJ
  by_cases h3 : n < 2 * k
  · rw [if_pos h3, decide_eq_true (show (k : Int) > n - k by omega)]; rfl
  · rw [if_neg h3, decide_eq_false (show ¬ (k : Int) > n - k by omega)]; rfl
theorem near_n {n : Nat} (h0 : 0 < n) (hn : n ≤ 65536) : isFin (FloatKind.f64.nearest (iN n)) = true ∧ fxr (rg (FloatKind.f64.nearest (iN n))) = n * U ∧ U ≤ fxr (rg (FloatKind.f64.nearest (iN n))) := by
  have w := isW_near (n := iN n) (by rw [iN_eq]; omega)
  have e := w.abs
  rw [iN_eq, Int.natAbs_natCast] at e
  rw [← iN_eq] at e
  refine ⟨w.1, e, ?_⟩
  rw [e]
  exact Nat.le_mul_of_pos_left U h0
theorem frac_fin {j : Int} {n : Nat} (hj : j.natAbs ≤ 32768) (h0 : 0 < n) (hn : n ≤ 65536) : isFin (fdiv (FloatKind.f64.nearest j) (FloatKind.f64.nearest (iN n))) = true := by
  obtain ⟨n1, _, n3⟩ := near_n h0 hn
  exact (fdiv_le (isW_near (by omega)).1 n1 n3).1
theorem unit_even {k n : Nat} (h0 : 0 < k) (hk : k < n) (hn : n ≤ 16384) : wUnit_0 (iN (n - k)) (iN n) = wUnit_0 (iN k) (iN n) := by
  rw [unit_is hk hn, unit_is (by omega) hn]
  have hj : (unJ k n).natAbs ≤ 32768 := by unfold unJ; split <;> omega
  have hj' : (unJ (n - k) n).natAbs ≤ 32768 := by unfold unJ; split <;> omega
  obtain ⟨n1, n2, n3⟩ := near_n (n := n) (by omega) (by omega)
  have hU := U_pos
  by_cases h2 : n = 2 * k
  · have : n - k = k := by omega
    rw [this]
  · have e : unJ (n - k) n = -unJ k n := by
      unfold unJ
      split <;> split <;> omega
    have w := isW_near (n := unJ k n) (by omega)
    have w' := isW_near (n := unJ (n - k) n) (by omega)
    refine turn_even (Canon.fdiv _ _) (Canon.fdiv _ _) (frac_fin hj (by omega) (by omega)) (frac_fin hj' (by omega) (by omega)) (fdiv_neg w.1 w'.1 n1 (by omega) ?_)
    rw [w.2, w'.2, e, Int.neg_mul]
theorem unit_cos {k n : Nat} (hk : k < n) (hn : n ≤ 16384) : isFin (wUnit_0 (iN k) (iN n)) = true ∧ fxr (rg (wUnit_0 (iN k) (iN n))) ≤ U := by
  rw [unit_is hk hn]
  have hj : (unJ k n).natAbs ≤ 32768 := by unfold unJ; split <;> omega
  have hf := frac_fin hj (n := n) (by omega) (by omega)
  exact ⟨(turn_near (Canon.fdiv _ _) hf).1, real_le (Canon.fdiv _ _) hf⟩
/-! ### The numbers of windows are from 0 to 1 -/
theorem rung_one {T d : Nat} (hd : d = 1022) (h0 : U ≤ T) (h1 : 4 * T ≤ 4 * U + 2 ^ d) : rung T = rg fone := by
  have hU : U = 2 ^ 52 * 2 ^ d := by
    obtain ⟨u, hu, e⟩ := U_spec
    have hud : u = 52 + d := by omega
    rw [e, hud, Nat.pow_add]
  have hp : 0 < 2 ^ d := Nat.two_pow_pos d
  have lo : 2 ^ (d + 52) = 2 ^ 52 * 2 ^ d := by rw [Nat.add_comm, Nat.pow_add]
  have hi : 2 ^ (d + 52 + 1) = 2 * (2 ^ 52 * 2 ^ d) := by rw [Nat.pow_succ, lo]; omega
  generalize hP : 2 ^ d = P at *
  rw [hU] at h0 h1
  have l2 : T.log2 = d + 52 := by
    have a := log2_lt (T := T) (k := d + 52) (by rw [hi]; omega)
    have b := (Nat.le_log2 (show T ≠ 0 by omega) (k := d + 52)).2 (by rw [lo]; omega)
    omega
  have hk : kd52 T = d := by unfold kd52; omega
  obtain ⟨t, ht, ht2⟩ : ∃ t, T = 2 ^ 52 * P + t ∧ 4 * t ≤ P := ⟨T - 2 ^ 52 * P, by omega, by omega⟩
  have q1 : T / P = 2 ^ 52 := by rw [ht, Nat.mul_comm, Nat.mul_add_div hp, Nat.div_eq_of_lt (show t < P by omega), Nat.add_zero]
  have q2 : T % P = t := by rw [ht, Nat.mul_comm, Nat.mul_add_mod, Nat.mod_eq_of_lt (show t < P by omega)]
  unfold rung rne
  rw [hk, hP, q1, q2, decide_eq_false (show ¬ P < 2 * t by omega), show (P == 2 * t) = false from beq_false_of_ne (by omega), hd]
  decide
theorem win_sub {a m : Nat} (fa : isFin a = true) (fm : isFin m = true) (h0 : fx m ≤ fx a) {d : Nat} (hd : d = 1022) (h1 : 4 * (fx a - fx m) ≤ 4 * (U : Int) + ((2 ^ d : Nat) : Int)) :
    isFin (fsub a m) = true ∧ 0 ≤ fx (fsub a m) ∧ fx (fsub a m) ≤ (U : Int) := by
  rw [fsub_fin fa fm]
  have hT : 0 ≤ fx a - fx m := by omega
  generalize fx a - fx m = T at *
  have hP : 0 < 2 ^ d := Nat.two_pow_pos d
  have hs : sg (rnd (sg a && !sg m) T) = false ∨ fx (rnd (sg a && !sg m) T) = 0 := by
    unfold rnd
    by_cases hz : T = 0
    · rw [if_pos hz, fx_wd (by decide), fxr_zero, sgn_zero]; exact .inr rfl
    · rw [if_neg hz, sg_wd (rung_lt _)]; exact .inl (decide_eq_false (by omega))
  have hn : 0 ≤ fx (rnd (sg a && !sg m) T) := by
    rcases hs with h | h
    · rw [fx_rg h]; omega
    · omega
  have hA := fx_abs (rnd (sg a && !sg m) T)
  by_cases hU : T ≤ (U : Int)
  · obtain ⟨r1, r2⟩ := rnd_le (z := sg a && !sg m) (T := T) (R := rg fone) rg_one_lt (by rw [fxr_one]; omega)
    rw [fxr_one] at r2
    exact ⟨r1, hn, by omega⟩
  · have hr := rung_one (T := T.natAbs) hd (by omega) (by omega)
    have e : rnd (sg a && !sg m) T = wd false (rg fone) := by
      unfold rnd
      rw [if_neg (by omega), hr, decide_eq_false (by omega)]
    rw [e]
    exact ⟨by decide, by rw [fx_wd (by decide), fxr_one]; show (0 : Int) ≤ (U : Int); omega, by rw [fx_wd (by decide), fxr_one]; exact Int.le_refl _⟩
/-- The three tests of a window's number. -/
def WinOk (w : Nat) : Prop := isFin w = true ∧ 0 ≤ fx w ∧ fx w ≤ (U : Int)
theorem WinOk.tests {w : Nat} (h : WinOk w) : fge w 0 = true ∧ fle w 4607182418800017408 = true ∧ feq w w = true := by
  obtain ⟨h1, h2, h3⟩ := h
  have e1 : fx 4607182418800017408 = (U : Int) := fx_one
  exact ⟨by rw [fge_fin h1 fin_zero, fx_0]; exact decide_eq_true h2, by rw [fle_fin h1 (by decide), e1]; exact decide_eq_true h3, by rw [feq_fin h1 h1]; exact decide_eq_true rfl⟩
theorem cos_mul {b k n : Nat} (hb : isFin b = true) (hk : k < n) (hn : n ≤ 16384) : isFin (fmul b (wUnit_0 (iN k) (iN n))) = true ∧ fxr (rg (fmul b (wUnit_0 (iN k) (iN n)))) ≤ fxr (rg b) := by
  obtain ⟨c1, c2⟩ := unit_cos hk hn
  exact fmul_le hb c1 (of_decide_eq_true hb) (Nat.mul_le_mul_left _ c2)
theorem fx_bd (m : Nat) : -((fxr (rg m) : Nat) : Int) ≤ fx m ∧ fx m ≤ ((fxr (rg m) : Nat) : Int) := by
  have := fx_abs m
  omega
theorem win1 {k n : Nat} (hk : k < n) (hn : n ≤ 16384) : WinOk (wiW 1 n k) := by
  obtain ⟨m1, m2⟩ := cos_mul (b := 4602678819172646912) (by decide) hk hn
  have b := fx_bd (fmul 4602678819172646912 (wUnit_0 (iN k) (iN n)))
  have e1 : fx 4602678819172646912 * 2 = (U : Int) := fx_half
  have e2 : ((fxr (rg 4602678819172646912) : Nat) : Int) = fx 4602678819172646912 := rfl
  show WinOk (fsub 4602678819172646912 (fmul 4602678819172646912 (wUnit_0 (iN k) (iN n))))
  generalize fmul 4602678819172646912 (wUnit_0 (iN k) (iN n)) = m at *
  generalize fxr (rg 4602678819172646912) = A at *
  have hm : ((fxr (rg m) : Nat) : Int) ≤ A := by omega
  exact win_sub (d := 1022) (by decide) m1 (by omega) rfl (by generalize (2 ^ 1022 : Nat) = P; omega)
theorem win2_const {d : Nat} (hd : d = 1022) : 4 * (fxr (rg 4603039107142836552) + fxr (rg 4601958243232267633)) ≤ 4 * U + 2 ^ d ∧ fxr (rg 4601958243232267633) ≤ fxr (rg 4603039107142836552) := by
  subst hd
  decide +kernel
theorem win2 {k n : Nat} (hk : k < n) (hn : n ≤ 16384) : WinOk (wiW 2 n k) := by
  obtain ⟨d, hd⟩ : ∃ d, d = 1022 := ⟨_, rfl⟩
  obtain ⟨c1, c2⟩ := win2_const hd
  obtain ⟨m1, m2⟩ := cos_mul (b := 4601958243232267633) (by decide) hk hn
  have b := fx_bd (fmul 4601958243232267633 (wUnit_0 (iN k) (iN n)))
  have e2 : ((fxr (rg 4603039107142836552) : Nat) : Int) = fx 4603039107142836552 := rfl
  show WinOk (fsub 4603039107142836552 (fmul 4601958243232267633 (wUnit_0 (iN k) (iN n))))
  generalize fmul 4601958243232267633 (wUnit_0 (iN k) (iN n)) = m at *
  generalize fxr (rg 4603039107142836552) = A at *
  generalize fxr (rg 4601958243232267633) = C at *
  generalize hP : (2 ^ d : Nat) = P at *
  exact win_sub (d := d) (by decide) m1 (by omega) hd (by rw [hP]; omega)
/-! ### The triangle -/
theorem tri_num {k n : Nat} (hk : k < n) (hn : n ≤ 16384) : IntKind.i64.wrap (iN (2 * k + 1) - iN n) = 2 * (k : Int) + 1 - n := by
  rw [iN_eq, iN_eq, i64_wrap (by omega)]; omega
theorem tri_abs {j : Int} (h : j.natAbs ≤ 32768) : IsW (fabs (FloatKind.f64.nearest j)) j.natAbs ∧ fabs (FloatKind.f64.nearest j) = rg (FloatKind.f64.nearest j) := by
  have w := isW_near (n := j) (by omega)
  exact ⟨w.fabs_of, fabs_rg w.1⟩
theorem win3 {k n : Nat} (hk : k < n) (hn : n ≤ 16384) : WinOk (wiW 3 n k) := by
  have hU := U_pos
  show WinOk (fsub 4607182418800017408 (fdiv (fabs (FloatKind.f64.nearest (IntKind.i64.wrap (iN (2 * k + 1) - iN n)))) (FloatKind.f64.nearest (iN n))))
  rw [tri_num hk hn]
  have hj : (2 * (k : Int) + 1 - n).natAbs ≤ n := by omega
  obtain ⟨w1, w2⟩ := tri_abs (j := 2 * (k : Int) + 1 - n) (by omega)
  obtain ⟨n1, n2, n3⟩ := near_n (n := n) (by omega) (by omega)
  have sa : sg (fabs (FloatKind.f64.nearest (2 * (k : Int) + 1 - n))) = false := by rw [w2]; exact rg_sg _
  have sn : sg (FloatKind.f64.nearest (iN n)) = false := by rw [(near_fx (n := iN n) (by rw [iN_eq]; omega)).2.2, iN_eq]; exact decide_eq_false (by omega)
  have wa := w1.abs
  rw [Int.natAbs_natCast] at wa
  generalize (2 * (k : Int) + 1 - n).natAbs = J at *
  generalize fabs (FloatKind.f64.nearest (2 * (k : Int) + 1 - n)) = a at *
  obtain ⟨r, e, hN⟩ := fdiv_near w1.1 n1 (by omega)
  rw [sa, sn] at e
  have hr := hN.le_of (R := rg fone) (by have := rg_one_lt; unfold infR; omega) (by rw [fxr_one, wa, n2, Nat.mul_comm U]; exact Nat.mul_le_mul_right _ (Nat.mul_le_mul_right _ hj))
  have hlt := rg_one_lt
  have fq : fx (fdiv a (FloatKind.f64.nearest (iN n))) = ((fxr r : Nat) : Int) := by rw [e, fx_wd (by have := hN.1; unfold infR at this; omega)]; rfl
  have fu := fxr_le.2 hr
  rw [fxr_one] at fu
  have e1 : fx 4607182418800017408 = (U : Int) := fx_one
  exact win_sub (d := 1022) (by decide) (by rw [e]; exact fin_wd (by omega)) (by rw [fq, e1]; omega) rfl (by rw [fq, e1]; generalize (2 ^ 1022 : Nat) = P; omega)
theorem win3_even {k n : Nat} (hk : k < n) (hn : n ≤ 16384) : wiW 3 n (n - 1 - k) = wiW 3 n k := by
  show fsub 4607182418800017408 (fdiv (fabs (FloatKind.f64.nearest (IntKind.i64.wrap (iN (2 * (n - 1 - k) + 1) - iN n)))) (FloatKind.f64.nearest (iN n))) = fsub 4607182418800017408 (fdiv (fabs (FloatKind.f64.nearest (IntKind.i64.wrap (iN (2 * k + 1) - iN n)))) (FloatKind.f64.nearest (iN n)))
  rw [tri_num hk hn, tri_num (by omega) hn]
  obtain ⟨w1, w2⟩ := tri_abs (j := 2 * (k : Int) + 1 - n) (by omega)
  obtain ⟨v1, v2⟩ := tri_abs (j := 2 * ((n - 1 - k : Nat) : Int) + 1 - n) (by omega)
  have a := isW_near (n := 2 * (k : Int) + 1 - n) (by omega)
  have b := isW_near (n := 2 * ((n - 1 - k : Nat) : Int) + 1 - n) (by omega)
  have e : fx (FloatKind.f64.nearest (2 * ((n - 1 - k : Nat) : Int) + 1 - n)) = -fx (FloatKind.f64.nearest (2 * (k : Int) + 1 - n)) := by
    rw [a.2, b.2, ← Int.neg_mul]
    congr 1
    omega
  rw [w2, v2, rg_of_fx (x := FloatKind.f64.nearest (2 * ((n - 1 - k : Nat) : Int) + 1 - n)) (y := FloatKind.f64.nearest (2 * (k : Int) + 1 - n)) (by omega)]
theorem win0 (k n : Nat) : WinOk (wiW 0 n k) := by
  show WinOk 4607182418800017408
  have e1 : fx 4607182418800017408 = (U : Int) := fx_one
  exact ⟨by decide, by rw [e1]; omega, by rw [e1]; exact Int.le_refl _⟩
theorem win_ok {K : Int} (h0 : 0 ≤ K) (h3 : K ≤ 3) {k n : Nat} (hk : k < n) (hn : n ≤ 16384) : WinOk (wiW K n k) := by
  have hK : K = 0 ∨ K = 1 ∨ K = 2 ∨ K = 3 := by omega
  rcases hK with rfl | rfl | rfl | rfl
  · exact win0 k n
  · exact win1 hk hn
  · exact win2 hk hn
  · exact win3 hk hn
theorem win_even {K : Int} (h0 : 0 ≤ K) (h3 : K < 3) {k n : Nat} (hk0 : 0 < k) (hk : k < n) (hn : n ≤ 16384) : wiW K n (n - k) = wiW K n k := by
  have hK : K = 0 ∨ K = 1 ∨ K = 2 := by omega
  have e := unit_even hk0 hk hn
  have e0 : ∀ i, wiW 0 n i = 4607182418800017408 := fun i => rfl
  have e1 : ∀ i, wiW 1 n i = fsub 4602678819172646912 (fmul 4602678819172646912 (wUnit_0 (iN i) (iN n))) := fun i => rfl
  have e2 : ∀ i, wiW 2 n i = fsub 4603039107142836552 (fmul 4601958243232267633 (wUnit_0 (iN i) (iN n))) := fun i => rfl
  rcases hK with rfl | rfl | rfl
  · rw [e0, e0]
  · rw [e1, e1, e]
  · rw [e2, e2, e]
end Go.Lk
end

section
/- Sum, of any row of complex numbers. -/
namespace Go.Lk
open Go.Proofs
set_option maxRecDepth 100000
set_option maxHeartbeats 0
set_option linter.unusedVariables false
set_option linter.unusedSimpArgs false
/-! ### Rows of complex numbers -/
def isCo : Value → Bool | .complex .f64 _ _ => true | _ => false
theorem isCo_eq {v : Value} (h : isCo v = true) : ∃ a b, v = .complex .f64 a b := by
  unfold isCo at h
  split at h
  · exact ⟨_, _, rfl⟩
  · cases h
theorem isCo_plain {vs : List Value} (h : vs.all isCo = true) : vs.all plain = true := by
  rw [List.all_eq_true] at h ⊢
  intro v hv
  obtain ⟨a, b, rfl⟩ := isCo_eq (h v hv)
  rfl
theorem isCo_row (x y : Nat → Nat) (M : Nat) : (rowOf (fun i => [Value.complex .f64 (x i) (y i)]) M).all isCo = true := rowOf_all (fun _ => rfl) M
end Go.Lk
end

section
/- near1: are all magnitudes near 1? -/
namespace Go.Lk
open Go.Proofs
set_option maxRecDepth 100000
set_option maxHeartbeats 0
set_option linter.unusedVariables false
set_option linter.unusedSimpArgs false
def sAbsN : PureFn
  | [.complex .f64 a b] => some (.float .f64 (bAbs_0 a b))
  | _ => none
theorem sAbsN_ok : IsPure Try.prog false 89 sAbsN := by
  intro args v σ h
  unfold sAbsN at h
  split at h
  · cases h; exact bAbs_ok _ _ σ
  · cases h
noncomputable def tnr : Tab := (t2.addP 89 sAbsN)
theorem tnr_ok : tnr.Ok Try.prog false := (Tab.Ok.addP t2_ok sAbsN_ok)
noncomputable def LNr : Lib := ⟨Try.prog, false, tnr, [], []⟩
theorem LNr_fp : ∀ e, e ∈ LNr.pures → Try.prog.funcs[e.1]? = some e.2 := fs_nil
theorem LNr_fh : ∀ e, e ∈ LNr.heaps → Try.prog.funcs[e.1]? = some e.2.2 := gs_nil
theorem LNr_p1 (gp : Nat → PureFn) (g : Nat → HeapFn) : (LNr.pures.all fun e => fnOk (LNr.mk' gp g) e.2) = true := by kernel_rfl
theorem LNr_h1 (gp : Nat → PureFn) (g : Nat → HeapFn) : (LNr.heaps.all fun e => fnOk (LNr.mk' gp g) e.2.2 && (!e.2.1 || fnRo (LNr.mk' gp g) e.2.2)) = true := by kernel_rfl
theorem LNr_ok : LNr.Ok := ⟨tnr_ok, mixed, LNr_fp, LNr_fh, LNr_p1, LNr_h1⟩
noncomputable def dLNr : Cfg := LNr.cfg 100 4
theorem dLNr_ok : dLNr.Ok := LNr_ok.cfg 100 4

def nearB (x y : Nat) : Bool := fle (fabs (fsub (bAbs_0 x y) 4607182418800017408)) 4386506037058863104
def nearF (m cap k : Nat) : List Value := [.slice (some ⟨0, 0, some 1⟩) m cap, undef, .bool false, .int .i64 (iN k)] ++ List.replicate 15 undef
theorem nearR_okX : codeOkX (dLNr) [] (loopOf Try.f78 0) = true := by kernel_rfl
theorem nearR_p0 (opn : Option Nat) (a : Nat → Nat) (b : Nat → Nat) (M : Nat) (m : Nat) (cap : Nat) (hm : m ≤ M) (hM : m ≤ 65536) (k : Nat) (hk : k < m) (h : fle (fabs (fsub (bAbs_0 (a k) (b k)) 4607182418800017408)) 4386506037058863104 = true) (hst : Stood false ([.row (rowOf (fun i => [.complex .f64 (a i) (b i)]) M) false opn])) : Sim (dLNr) 1 (loopOf Try.f78 0) ((nearF m cap k)) ([.row (rowOf (fun i => [.complex .f64 (a i) (b i)]) M) false opn]) .normal ([Value.slice (some ⟨0, 0, some 1⟩) m cap, undef, Value.bool false, Value.int .i64 (iN (k + 1)), undef, undef, undef, undef, undef, undef, undef, undef, undef, undef, undef, undef, undef, undef, undef]) ([AObj.row (rowOf (fun i => [Value.complex .f64 (a i) (b i)]) M) false opn]) := Sim.of_roundQ (C := dLNr) dLNr_ok (X := []) (n := 3) (orc := [(8, Item.br true), (14, Item.res (Value.pointer (some { block := 0, off := 0 + k * 1 }))), (16, Item.res (Value.complex .f64 (a k) (b k))), (27, Item.br false), (31, Item.res (Value.int .i64 (iN (k + 1))))]) (ks := [0]) (mask := [true, false, true, true, false, false, false, false, false, false, false, false, false, false, false, false, false, false, false]) (ps := [(some (decide (iN k < iN m)) = some true), (ixF (Value.pointer (some { block := 0, off := 0 + k * 1 })) ([AObj.row (rowOf (fun i => [Value.complex .f64 (a i) (b i)]) M) false opn]) (iN k) (m) = some (Value.pointer (some { block := 0, off := 0 + k * 1 }), [AObj.row (rowOf (fun i => [Value.complex .f64 (a i) (b i)]) M) false opn])), (ldF (aLoad Try.prog ([AObj.row (rowOf (fun i => [Value.complex .f64 (a i) (b i)]) M) false opn]) 27 (.pointer (some ⟨0, 0 + k * 1, none⟩))) ([AObj.row (rowOf (fun i => [Value.complex .f64 (a i) (b i)]) M) false opn]) = some (Value.complex .f64 (a k) (b k), [AObj.row (rowOf (fun i => [Value.complex .f64 (a i) (b i)]) M) false opn])), (bP (!fle (fabs (fsub (bAbs_0 (a k) (b k)) 4607182418800017408)) 4386506037058863104) false), (wF IntKind.i64 (iN k + 1) ([AObj.row (rowOf (fun i => [Value.complex .f64 (a i) (b i)]) M) false opn]) = some (.int IntKind.i64 (iN (k + 1)), [AObj.row (rowOf (fun i => [Value.complex .f64 (a i) (b i)]) M) false opn]))]) (L := 1) 1 nearR_okX (by kernel_rfl) ⟨bP_of (fun x => x) (show (decide (iN k < iN m)) = true from decide_eq_true (by (try simp only [decide_eq_true_eq, decide_eq_false_iff_not] at *); (try simp only [iN_eq, Int.ofNat_eq_natCast] at *); try omega)), ⟨ixF_ok _ _ (by (try simp only [decide_eq_true_eq, decide_eq_false_iff_not] at *); (try simp only [iN_eq, Int.ofNat_eq_natCast] at *); try omega), ⟨ldF_ok (load_one (k := k) (n := M) (g := fun i => ((fun i => [Value.complex .f64 (a i) (b i)]) i).getD 0 undef) rfl (by kernel_rfl) (by omega) (by (try simp only [decide_eq_true_eq, decide_eq_false_iff_not] at *); (try simp only [iN_eq, Int.ofNat_eq_natCast] at *); try omega)), ⟨bP_of (fun x => !x) h, ⟨wF_ok _ (by (try simp only [decide_eq_true_eq, decide_eq_false_iff_not] at *); (try simp only [iN_eq, Int.ofNat_eq_natCast] at *); try omega) (by (try simp only [decide_eq_true_eq, decide_eq_false_iff_not] at *); (try simp only [iN_eq, Int.ofNat_eq_natCast] at *); try omega), trivial⟩⟩⟩⟩⟩ hst (by kernel_rfl) (by kernel_rfl) (by kernel_rfl) (by decide) (by kernel_rfl) trivial
theorem nearE_okX : codeOkX (dLNr) [] (loopOf Try.f78 0) = true := by kernel_rfl
theorem nearE_p0 (opn : Option Nat) (a : Nat → Nat) (b : Nat → Nat) (M : Nat) (m : Nat) (cap : Nat) (hm : m ≤ M) (hM : m ≤ 65536) (hst : Stood false ([.row (rowOf (fun i => [.complex .f64 (a i) (b i)]) M) false opn])) : Sim (dLNr) 1 (loopOf Try.f78 0) ((nearF m cap m)) ([.row (rowOf (fun i => [.complex .f64 (a i) (b i)]) M) false opn]) (.exit 0) ([Value.slice (some ⟨0, 0, some 1⟩) m cap, undef, Value.bool false, Value.int .i64 (iN m), undef, undef, undef, undef, undef, undef, undef, undef, undef, undef, undef, undef, undef, undef, undef]) ([AObj.row (rowOf (fun i => [Value.complex .f64 (a i) (b i)]) M) false opn]) := Sim.of_roundQ (C := dLNr) dLNr_ok (X := []) (n := 3) (orc := [(8, Item.br false)]) (ks := [0]) (mask := [true, false, true, true, false, false, false, false, false, false, false, false, false, false, false, false, false, false, false]) (ps := [(some (decide (iN m < iN m)) = some false)]) (L := 1) 1 nearE_okX (by kernel_rfl) ⟨bP_of (fun x => x) (show (decide (iN m < iN m)) = false from decide_eq_false (by (try simp only [decide_eq_true_eq, decide_eq_false_iff_not] at *); (try simp only [iN_eq, Int.ofNat_eq_natCast] at *); try omega)), trivial⟩ hst (by kernel_rfl) (by kernel_rfl) (by kernel_rfl) (by decide) (by kernel_rfl) trivial
theorem nearP_fok : fnOkX (dLNr) [] Try.f78 = true := by kernel_rfl
theorem nearP_p0 (opn : Option Nat) (a : Nat → Nat) (b : Nat → Nat) (M : Nat) (m : Nat) (cap : Nat) (hm : m ≤ M) (hM : m ≤ 65536) (l0 : Stood false ([AObj.row (rowOf (fun i => [Value.complex .f64 (a i) (b i)]) M) false opn]) → Sim (dLNr) 1 (.loop (loopOf Try.f78 0)) ([Value.slice (some ⟨0, 0, some 1⟩) m cap, undef, Value.bool false, Value.int .i64 (Int.ofNat 0), undef, undef, undef, undef, undef, undef, undef, undef, undef, undef, undef, undef, undef, undef, undef]) ([AObj.row (rowOf (fun i => [Value.complex .f64 (a i) (b i)]) M) false opn]) (Exit.exit 0) ([Value.slice (some ⟨0, 0, some 1⟩) m cap, undef, Value.bool false, Value.int .i64 (iN m), undef, undef, undef, undef, undef, undef, undef, undef, undef, undef, undef, undef, undef, undef, undef]) ([AObj.row (rowOf (fun i => [Value.complex .f64 (a i) (b i)]) M) false opn])) : CallR Try.prog false 78 ([Value.slice (some ⟨0, 0, some 1⟩) m cap]) ([AObj.row (rowOf (fun i => [Value.complex .f64 (a i) (b i)]) M) false opn]) (Value.bool true) ([AObj.row (rowOf (fun i => [Value.complex .f64 (a i) (b i)]) M) false opn]) := CallR.of_DOXs (C := dLNr) dLNr_ok (X := []) Try.func78 nearP_fok (n := 3) (orc := [(4, Item.loop (Exit.exit 0) (nearF m cap m) [AObj.row (rowOf (fun i => [Value.complex .f64 (a i) (b i)]) M) false opn])]) (ps := [(Sim (dLNr) 1 (.loop (loopOf Try.f78 0)) ([Value.slice (some ⟨0, 0, some 1⟩) m cap, undef, Value.bool false, Value.int .i64 (Int.ofNat 0), undef, undef, undef, undef, undef, undef, undef, undef, undef, undef, undef, undef, undef, undef, undef]) ([AObj.row (rowOf (fun i => [Value.complex .f64 (a i) (b i)]) M) false opn]) (Exit.exit 0) ([Value.slice (some ⟨0, 0, some 1⟩) m cap, undef, Value.bool false, Value.int .i64 (iN m), undef, undef, undef, undef, undef, undef, undef, undef, undef, undef, undef, undef, undef, undef, undef]) ([AObj.row (rowOf (fun i => [Value.complex .f64 (a i) (b i)]) M) false opn])), (List.length (α := AObj) ([AObj.row (rowOf (fun i => [Value.complex .f64 (a i) (b i)]) M) false opn]) ≤ List.length ([AObj.row (rowOf (fun i => [Value.complex .f64 (a i) (b i)]) M) false opn])), (Lk.Exit.isG (Exit.exit 0) = false)]) (by kernel_rfl) (fun hst => ⟨l0 hst, Nat.le_of_ble_eq_true (by kernel_rfl), rfl, trivial⟩)
theorem nearZ_fok : fnOkX (dLNr) [] Try.f78 = true := by kernel_rfl
theorem nearZ_p0 : CallR Try.prog false 78 ([Value.slice none 0 0]) ([]) (Value.bool true) ([]) := CallR.of_DOXs (C := dLNr) dLNr_ok (X := []) Try.func78 nearZ_fok (n := 3) (orc := []) (ps := []) (by kernel_rfl) (fun hst => trivial)
end Go.Lk
end

section
/- Windows and near1: contracts. -/
namespace Go.Lk
open Go.Proofs
set_option maxRecDepth 100000
set_option maxHeartbeats 0
set_option linter.unusedVariables false
set_option linter.unusedSimpArgs false
/-! ### near1 -/
def NearP (args : List Value) (σ : AHeap) : Prop :=
  args = [.slice none 0 0] ∨ ∃ b m cap M opn rw', ∃ x y : Nat → Nat, args = [.slice (some ⟨b, 0, some 1⟩) m cap] ∧ σ[b]? = some (.row (rowOf (fun i => [.complex .f64 (x i) (y i)]) M) rw' opn) ∧ m ≤ M ∧ m ≤ 65536 ∧ ∀ i, i < m → nearB (x i) (y i) = true
open Classical in
noncomputable def sNear : HeapFn := fun args σ => if NearP args σ then some (.bool true, σ) else none
theorem sNear_nil (σ : AHeap) : sNear [.slice none 0 0] σ = some (.bool true, σ) := if_pos (.inl rfl)
theorem sNear_row {σ : AHeap} {b m cap M : Nat} {opn : Option Nat} {rw' : Bool} {x y : Nat → Nat} (h : σ[b]? = some (.row (rowOf (fun i => [.complex .f64 (x i) (y i)]) M) rw' opn)) (hm : m ≤ M) (hM : m ≤ 65536) (hn : ∀ i, i < m → nearB (x i) (y i) = true) :
    sNear [.slice (some ⟨b, 0, some 1⟩) m cap] σ = some (.bool true, σ) := if_pos (.inr ⟨b, m, cap, M, opn, rw', x, y, rfl, h, hm, hM, hn⟩)
theorem near_loop (opn : Option Nat) (a b : Nat → Nat) (M m cap : Nat) (hm : m ≤ M) (hM : m ≤ 65536) (h : ∀ i, i < m → nearB (a i) (b i) = true) (hst : Stood false [.row (rowOf (fun i => [.complex .f64 (a i) (b i)]) M) false opn]) :
    Sim dLNr 1 (.loop (loopOf Try.f78 0)) (nearF m cap 0) [.row (rowOf (fun i => [.complex .f64 (a i) (b i)]) M) false opn] (.exit 0) (nearF m cap m) [.row (rowOf (fun i => [.complex .f64 (a i) (b i)]) M) false opn] :=
  Sim.loop (fun k => (nearF m cap k, [.row (rowOf (fun i => [.complex .f64 (a i) (b i)]) M) false opn])) m
    (fun k hk => (nearR_p0 opn a b M m cap hm hM k hk (h k hk) hst).cast (by kernel_rfl) (by kernel_rfl) (by kernel_rfl) (by kernel_rfl))
    ((nearE_p0 opn a b M m cap hm hM hst).cast (by kernel_rfl) (by kernel_rfl) (by kernel_rfl) (by kernel_rfl)) rfl
theorem near_small (opn : Option Nat) (a b : Nat → Nat) (M m cap : Nat) (hm : m ≤ M) (hM : m ≤ 65536) (h : ∀ i, i < m → nearB (a i) (b i) = true) : CallR Try.prog false 78 [.slice (some ⟨0, 0, some 1⟩) m cap] [.row (rowOf (fun i => [.complex .f64 (a i) (b i)]) M) false opn] (.bool true) [.row (rowOf (fun i => [.complex .f64 (a i) (b i)]) M) false opn] :=
  nearP_p0 opn a b M m cap hm hM (fun hst => ((near_loop opn a b M m cap hm hM h hst).enter ([true, false, true, true] ++ List.replicate 15 false) (by kernel_rfl)).cast rfl rfl (by kernel_rfl) rfl)
theorem sNear_ok : IsHeap Try.prog false 78 true sNear := by
  have key : ∀ (args : List Value) (σ : AHeap) (v : Value) (σ' : AHeap), sNear args σ = some (v, σ') → σ' = σ := by
    intro args σ v σ' h
    unfold sNear at h
    split at h
    · cases h; rfl
    · cases h
  refine ⟨fun args σ v σ' h => ?_, fun _ args σ v σ' h => key args σ v σ' h, fun args σ v σ' h => by rw [key args σ v σ' h]; exact Nat.le_refl _⟩
  unfold sNear at h
  split at h
  · rename_i hx
    cases h
    rcases hx with rfl | ⟨b, m, cap, M, opn, rw', x, y, rfl, hb, hm, hM, hn⟩
    · exact CallR.frameQ (r := fun k => k + σ.length) (args0 := [.slice none 0 0]) (σ0 := []) ⟨fun k o hk => by simp at hk, fun k hk => by omega⟩ rfl nearZ_p0 rfl
    · refine CallR.frameQ (r := fun k => if k = 0 then b else k + σ.length) ⟨fun k o hk => ?_, fun k hk => ?_⟩ ?_ (near_small opn x y M m cap hm hM hn) rfl
      · have : k = 0 := by have := lt_of_some hk; simpa using this
        subst this
        simp only [List.getElem?_cons_zero, Option.some.injEq] at hk
        exact ⟨_, opn, rw', hk.symm, hb, isCo_plain (isCo_row x y M)⟩
      · have hk : 1 ≤ k := hk
        have : ¬ k = 0 := by omega
        simp only [this, if_false]; omega
      · rfl
  · cases h
/-! ### Windows -/
def wiRow (K : Int) (n : Nat) : List Value := rowOf (fun i => [.float .f64 (wiW K n i)]) n
def sWindow : HeapFn
  | [.int .i8 K, .int .i64 n], σ =>
    bif decide (n < 1) then some (.slice none 0 0, σ) else
      bif decide (0 ≤ K) && (decide (K ≤ 3) && decide (n ≤ 16384)) then some (.slice (some ⟨σ.length, 0, some 1⟩) n.toNat n.toNat, σ ++ [.row (wiRow K n.toNat) true none]) else none
  | _, _ => none
def wiH (K : Int) (n k : Nat) : AHeap := [.row (rowOf (half2 (fun i => [.float .f64 (wiW K n i)]) (fun _ => [.float .f64 0]) k) n) true none]
theorem wi_loop (K : Int) (h0 : 0 ≤ K) (h3 : K ≤ 3) (n : Nat) (hn : n ≤ 16384) (hst : Stood false []) :
    Sim dLWi 1 (.loop (loopOf Try.f79 0)) (wiF K n 0) (wiH K n 0) (.exit 0) (wiF K n n) (wiH K n n) := by
  refine Sim.loop (fun k => (wiF K n k, wiH K n k)) n (fun k hk => ?_) ((wiE_p0 K n hn hst).cast (by kernel_rfl) (by kernel_rfl) (by kernel_rfl) (by kernel_rfl)) rfl
  have hK : K = 0 ∨ K = 1 ∨ K = 2 ∨ K = 3 := by omega
  rcases hK with rfl | rfl | rfl | rfl
  · exact (wi0_p0 n k hk hn hst).cast (by kernel_rfl) (by kernel_rfl) (by kernel_rfl) (by kernel_rfl)
  · exact (wi1_p0 n k hk hn hst).cast (by kernel_rfl) (by kernel_rfl) (by kernel_rfl) (by kernel_rfl)
  · exact (wi2_p0 n k hk hn hst).cast (by kernel_rfl) (by kernel_rfl) (by kernel_rfl) (by kernel_rfl)
  · exact (wi3_p0 n k hk hn hst).cast (by kernel_rfl) (by kernel_rfl) (by kernel_rfl) (by kernel_rfl)
theorem wi_call (K : Int) (h0 : 0 ≤ K) (h3 : K ≤ 3) (n : Nat) (h1 : 0 < n) (h2 : n ≤ 16384) : CallR Try.prog false 79 [.int .i8 K, .int .i64 (iN n)] [] (.slice (some ⟨0, 0, some 1⟩) n n) [.row (wiRow K n) true none] :=
  wiP_p0 K n (decide_eq_false (by rw [iN_eq, Int.ofNat_eq_natCast]; omega)) (decide_eq_false (by rw [iN_eq, Int.ofNat_eq_natCast]; omega)) (fun hst => by
    have h := wi_loop K h0 h3 n h2 hst
    have e0 : wiH K n 0 = [.row (rowOf (fun _ => [.float .f64 0]) n) true none] := by unfold wiH; rw [half2_zero]
    have e1 : wiH K n n = [.row (rowOf (fun i => [.float .f64 (wiW K n i)]) n) true none] := by unfold wiH; rw [half2_full]
    rw [e0, e1] at h
    exact (h.enter ([true, true, false, false, true, true, false, false, false, false, false, false, false, false, false, false, false, true, true] ++ List.replicate 44 false) (by kernel_rfl)).cast rfl (by kernel_rfl) (by kernel_rfl) (by kernel_rfl))
theorem wiRow_plain (K : Int) (n : Nat) : (wiRow K n).all plain = true := rowOf_all (fun _ => rfl) n
theorem sWindow_ok : IsHeap Try.prog false 79 false sWindow := by
  refine ⟨fun args σ v σ' h => ?_, (by intro h; cases h), fun args σ v σ' h => ?_⟩
  · unfold sWindow at h
    split at h
    · rename_i K n
      cases h1 : decide (n < 1)
      · rw [h1, cond_false] at h
        cases h2 : (decide (0 ≤ K) && (decide (K ≤ 3) && decide (n ≤ 16384)))
        · rw [h2] at h; cases h
        · rw [h2, cond_true] at h
          cases h
          simp only [Bool.and_eq_true, decide_eq_true_eq] at h2
          have g1 := of_decide_eq_false h1
          have hc := wi_call K h2.1 h2.2.1 n.toNat (by omega) (by omega)
          have e : iN n.toNat = n := by rw [iN_eq]; omega
          rw [e] at hc
          exact CallR.frameN (r := fun k => k + σ.length) (q := fun k => if k = σ.length then 0 else k + 1) (args0 := [.int .i8 K, .int .i64 n]) (σ0 := []) ⟨fun k o hk => by simp at hk, fun k hk => by omega⟩ rfl hc (k := 0) rfl (wiRow_plain _ _) (fun _ => rfl) (by simp [renV])
      · rw [h1, cond_true] at h
        cases h
        exact CallR.frameQ (r := fun k => k + σ.length) (args0 := [.int .i8 K, .int .i64 n]) (σ0 := []) ⟨fun k o hk => by simp at hk, fun k hk => by omega⟩ rfl (wiN_p0 K n h1) rfl
    · cases h
  · unfold sWindow at h
    split at h
    · rename_i K n
      revert h
      cases decide (n < 1) <;> cases (decide (0 ≤ K) && (decide (K ≤ 3) && decide (n ≤ 16384))) <;> simp only [cond_false, cond_true, Option.some.injEq, Prod.mk.injEq] <;> first | (rintro ⟨_, rfl⟩; simp) | (intro h; cases h)
    · cases h
end Go.Lk
end

section
/- Of: numbers as two floats. -/
namespace Go.Lk
open Go.Proofs
set_option maxRecDepth 100000
set_option maxHeartbeats 0
set_option linter.unusedVariables false
set_option linter.unusedSimpArgs false
end Go.Lk
end

section
/- Of's contract; SameList. -/
namespace Go.Lk
open Go.Proofs
set_option maxRecDepth 100000
set_option maxHeartbeats 0
set_option linter.unusedVariables false
set_option linter.unusedSimpArgs false
theorem rowOf_gt {f : Nat → List Value} {s : Nat} (hf : ∀ i, (f i).length = s) {k n j : Nat} (hk : k < n) (hj : j < s) : (rowOf f n)[k * s + j]? = (f k)[j]? := by
  have h := rowOf_at hf hk
  have h2 := congrArg (fun l => l[j]?) h
  simp only [List.getElem?_take, List.getElem?_drop, hj, if_true] at h2
  exact h2
noncomputable def t9o : Tab := t8
theorem t9o_ok : t9o.Ok Try.prog false := t8_ok
end Go.Lk
end

section
/- SameList. -/
namespace Go.Lk
open Go.Proofs
set_option maxRecDepth 100000
set_option maxHeartbeats 0
set_option linter.unusedVariables false
set_option linter.unusedSimpArgs false
def fq (vs : List Value) (j : Nat) : Nat := match vs[j]? with | some (.float .f64 a) => a | _ => 0
noncomputable def t9p : Tab := t9o
theorem t9p_ok : t9p.Ok Try.prog false := t9o_ok
end Go.Lk
end

section
/- same. -/
namespace Go.Lk
open Go.Proofs
set_option maxRecDepth 100000
set_option maxHeartbeats 0
set_option linter.unusedVariables false
set_option linter.unusedSimpArgs false
noncomputable def LS : Lib := ⟨Try.prog, false, t9p, [], []⟩
noncomputable def t9q : Tab := t9p
theorem t9q_ok : t9q.Ok Try.prog false := t9p_ok
end Go.Lk
end

section
/- told: what its contract says, in any heap. -/
namespace Go.Lk
open Go.Proofs
set_option maxRecDepth 100000
set_option linter.unusedVariables false
set_option linter.unusedSimpArgs false
def xRow (a b : Nat → Nat) (n : Nat) : List Value := rowOf (fun i => [.complex .f64 (a i) (b i)]) n
end Go.Lk
end

section
/- Answers: a row of numbers, or an error. -/
namespace Go.Lk
open Go.Proofs
set_option maxRecDepth 100000
set_option linter.unusedVariables false
set_option linter.unusedSimpArgs false
/-- n numbers; none: an error. -/
structure An where
  n : Nat
  a : Nat → Nat
  b : Nat → Nat
  e : Int
def anErr (e : Int) : An := ⟨0, fun _ => 0, fun _ => 0, e⟩
def aSl (L n z : Nat) : Value := match n with | 0 => .slice none 0 0 | n + 1 => .slice (some ⟨L, 0, some z⟩) (n + 1) (n + 1)
def aVal (L z : Nat) (x : An) : Value := .tuple #[aSl L x.n z, .int .i64 x.e]
def aObj (z : Nat) (row : (Nat → Nat) → (Nat → Nat) → Nat → List Value) (x : An) : AObj := match x.n with | 0 => .dead | n + 1 => .row (row x.a x.b (n + 1)) true (some z)
def sAn (z : Nat) (row : (Nat → Nat) → (Nat → Nat) → Nat → List Value) (h : List Value → Option An) : HeapFn := fun args σ => match h args with | some x => some (aVal σ.length z x, σ ++ [aObj z row x]) | none => none

theorem CallR.addDead {P : Program} {ex : Bool} {f : FuncId} {args : List Value} {σ σ' : AHeap} {v : Value} (hv : plain v = true) (h : CallR P ex f args σ v σ') : CallR P ex f args σ v (σ' ++ [.dead]) := by
  intro B μ w cargs hr hargs
  refine (h B μ w cargs hr hargs).mono ?_
  rintro cv w' ⟨μ', q1, q2, q3, q4⟩
  have := q2.dead 1
  simp only [List.replicate_one] at this
  exact ⟨μ' ++ [none], q1.plain_ren hv, this, q3.trans (Ext.snoc _ _), q4⟩

theorem CallR.quiet0 {P : Program} {ex : Bool} {f : FuncId} {args : List Value} {σ σ0' : AHeap} {v : Value} (ha : args.all plain = true) (h : CallR P ex f args [] v σ0') (hv : plain v = true) : CallR P ex f args σ v σ := by
  refine CallR.frameQ (r := fun k => k + σ.length) (args0 := args) (σ0 := []) ⟨fun k o hk => by simp at hk, fun k hk => by omega⟩ ?_ h hv
  have : ∀ l : List Value, l.all plain = true → l.map (renV (fun k => k + σ.length) 3) = l := by
    intro l
    induction l with
    | nil => intro _; rfl
    | cons v l ih =>
      intro hl
      rw [List.all_cons, Bool.and_eq_true] at hl
      rw [List.map_cons, plain_inert hl.1, ih hl.2]
  exact this args ha

/-- What a walk over an empty heap shows: an error, or a row somewhere in the heap behind it. -/
def AnCall (f : FuncId) (args : List Value) (z : Nat) (row : (Nat → Nat) → (Nat → Nat) → Nat → List Value) (x : An) : Prop :=
  (x.n = 0 ∧ ∃ σ', CallR Try.prog false f args [] (aVal 0 z x) σ') ∨
  (0 < x.n ∧ ∃ σ' k o, CallR Try.prog false f args [] (aVal k z x) σ' ∧ σ'[k]? = some (.row (row x.a x.b x.n) true o) ∧ (o = none ∨ o = some z))

theorem sAn_is {f : FuncId} {z : Nat} {row : (Nat → Nat) → (Nat → Nat) → Nat → List Value} {h : List Value → Option An} (hp : ∀ a b n, (row a b n).all plain = true)
    (hc : ∀ args x, h args = some x → args.all plain = true ∧ AnCall f args z row x) : IsHeap Try.prog false f false (sAn z row h) := by
  refine ⟨fun args σ v σ' hs => ?_, (by intro h; cases h), fun args σ v σ' hs => ?_⟩
  · unfold sAn at hs
    split at hs
    · rename_i x hx
      cases hs
      obtain ⟨ha, hc⟩ := hc args x hx
      rcases hc with ⟨h0, σ1, hc⟩ | ⟨h0, σ1, k, o, hc, hk, ho⟩
      · have e1 : aVal σ.length z x = aVal 0 z x := by unfold aVal; rw [h0]; rfl
        have e2 : aObj z row x = .dead := by unfold aObj; rw [h0]
        rw [e1, e2]
        have hv : plain (aVal 0 z x) = true := by unfold aVal; rw [h0]; rfl
        exact (CallR.quiet0 ha hc hv).addDead hv
      · obtain ⟨n, hn⟩ : ∃ n, x.n = n + 1 := ⟨x.n - 1, by omega⟩
        have e2 : aObj z row x = .row (row x.a x.b x.n) true (some z) := by unfold aObj; rw [hn]
        rw [e2]
        have hN : CallR Try.prog false f args σ (aVal σ.length z x) (σ ++ [.row (row x.a x.b x.n) true o]) := by
          refine CallR.frameN (r := fun k => k + σ.length) (q := fun b => if b = σ.length then k else b + σ1.length) (args0 := args) (σ0 := []) ⟨fun k o hk => by simp at hk, fun k hk => by omega⟩ ?_ hc hk (hp _ _ _) (fun _ => rfl) ?_
          · have : ∀ l : List Value, l.all plain = true → l.map (renV (fun k => k + σ.length) 3) = l := by
              intro l
              induction l with
              | nil => intro _; rfl
              | cons v l ih =>
                intro hl
                rw [List.all_cons, Bool.and_eq_true] at hl
                rw [List.map_cons, plain_inert hl.1, ih hl.2]
            exact this args ha
          · unfold aVal
            rw [hn]
            simp [aSl, renV]
        rcases ho with rfl | rfl
        · exact hN.loosen z (hp _ _ _)
        · exact hN
    · cases hs
  · unfold sAn at hs
    split at hs
    · cases hs; simp
    · cases hs
def aAd (L n z : Nat) : Option Addr := match n with | 0 => none | _ + 1 => some ⟨L, 0, some z⟩
theorem aSl_eq (L n z : Nat) : aSl L n z = .slice (aAd L n z) n n := by cases n <;> rfl
theorem AnCall.inner {f : FuncId} {args : List Value} {z k : Nat} {row : (Nat → Nat) → (Nat → Nat) → Nat → List Value} {x : An} {σ' : AHeap} (h : CallR Try.prog false f args [] (aVal k z x) σ') (hk : σ'[k]? = some (aObj z row x)) : AnCall f args z row x := by
  obtain ⟨n, a, b, e⟩ := x
  cases n with
  | zero => exact .inl ⟨rfl, σ', h⟩
  | succ n => exact .inr ⟨Nat.succ_pos n, σ', k, some z, h, hk, .inr rfl⟩
theorem aVal_eq (k z : Nat) (x : An) : aVal k z x = .tuple #[.slice (aAd k x.n z) x.n x.n, .int .i64 x.e] := by unfold aVal; rw [aSl_eq]
theorem sAn_side {z : Nat} {row : (Nat → Nat) → (Nat → Nat) → Nat → List Value} {h : List Value → Option An} {args : List Value} {x : An} (hx : h args = some x) (σ : AHeap) :
    sAn z row h args σ = some (.tuple #[.slice (aAd σ.length x.n z) x.n x.n, .int .i64 x.e], σ ++ [aObj z row x]) := by
  unfold sAn
  rw [hx]
  simp only [aVal_eq]
theorem AnCall.in' {f : FuncId} {args : List Value} {z k : Nat} {row : (Nat → Nat) → (Nat → Nat) → Nat → List Value} {x : An} {σ' : AHeap} (h : CallR Try.prog false f args [] (.tuple #[.slice (aAd k x.n z) x.n x.n, .int .i64 x.e]) σ') (hk : σ'[k]? = some (aObj z row x)) : AnCall f args z row x :=
  AnCall.inner (by rw [aVal_eq]; exact h) hk
theorem xRow_plain (a b : Nat → Nat) (n : Nat) : (xRow a b n).all plain = true := rowOf_all (fun _ => rfl) _
end Go.Lk
end

section
/- Steps of frequency: rounds. -/
namespace Go.Lk
open Go.Proofs
set_option maxRecDepth 100000
set_option maxHeartbeats 0
set_option linter.unusedVariables false
set_option linter.unusedSimpArgs false
noncomputable def t9v : Tab := t9q
theorem t9v_ok : t9v.Ok Try.prog false := t9q_ok
noncomputable def LSp : Lib := ⟨Try.prog, false, t9v, [], []⟩
theorem LSp_fp : ∀ e, e ∈ LSp.pures → Try.prog.funcs[e.1]? = some e.2 := fs_nil
theorem LSp_fh : ∀ e, e ∈ LSp.heaps → Try.prog.funcs[e.1]? = some e.2.2 := gs_nil
theorem LSp_p1 (gp : Nat → PureFn) (g : Nat → HeapFn) : (LSp.pures.all fun e => fnOk (LSp.mk' gp g) e.2) = true := by kernel_rfl
theorem LSp_h1 (gp : Nat → PureFn) (g : Nat → HeapFn) : (LSp.heaps.all fun e => fnOk (LSp.mk' gp g) e.2.2 && (!e.2.1 || fnRo (LSp.mk' gp g) e.2.2)) = true := by kernel_rfl
theorem LSp_ok : LSp.Ok := ⟨t9v_ok, mixed, LSp_fp, LSp_fh, LSp_p1, LSp_h1⟩
noncomputable def dLSp : Cfg := LSp.cfg 100 6
theorem dLSp_ok : dLSp.Ok := LSp_ok.cfg 100 6

def swF (m cap n : Nat) (acc f i t37 k : Value) : List Value := [.slice (some ⟨0, 0, some 1⟩) m cap, .int .i64 (iN n), undef, undef, .slice none 0 0, .int .i64 0, acc, undef, f] ++ List.replicate 15 undef ++ [.slice (some ⟨0, 0, some 1⟩) m cap, .int .i64 (iN m), i] ++ List.replicate 10 undef ++ [t37, k] ++ List.replicate 15 undef
theorem swA0_okX : codeOkX (dLSp) [] (loopOf Try.f71 1) = true := by kernel_rfl
theorem swA0_p0 (opn : Option Nat) (z : Nat → Int) (M : Nat) (m : Nat) (cap : Nat) (n : Nat) (fs : Nat → Int) (i : Nat) (hn : n ≤ 16384) (hm : m ≤ 16384) (hM : m ≤ M) (hg : decide (0 < iN n) = true) (h0 : 0 < n) (hst : Stood false ([.row (rowOf (fun i => [.int .i64 (z i)]) M) false opn])) : Sim (dLSp) 1 (loopOf Try.f71 1) ((swF m cap n (.slice none 0 0) (.int .i64 (fs i)) (.int .i64 (iN i)) (.int .i64 (iN n)) (.int .i64 (iN 0)))) ([.row (rowOf (fun i => [.int .i64 (z i)]) M) false opn]) .normal ([Value.slice (some ⟨0, 0, some 1⟩) m cap, Value.int .i64 (iN n), undef, undef, Value.slice none 0 0, Value.int .i64 (Int.ofNat 0), Value.slice (some ⟨1, 0, some 1⟩) 1 1, undef, Value.int .i64 (fs i), undef, undef, undef, undef, undef, undef, undef, undef, undef, undef, undef, undef, undef, undef, undef, Value.slice (some ⟨0, 0, some 1⟩) m cap, Value.int .i64 (iN m), Value.int .i64 (iN i), undef, undef, undef, undef, undef, undef, undef, undef, undef, undef, Value.int .i64 (iN n), Value.int .i64 (Int.ofNat 1), undef, undef, undef, undef, undef, undef, undef, undef, undef, undef, undef, undef, undef, undef, undef]) ([AObj.row (rowOf (fun i => [Value.int .i64 (z i)]) M) false opn, AObj.row [Value.complex .f64 (wUnit_0 ((IntKind.i64.wrap (fs i * Int.ofNat 0)).tmod (iN n)) (iN n)) (wUnit_1 ((IntKind.i64.wrap (fs i * Int.ofNat 0)).tmod (iN n)) (iN n))] true (some 1)]) := Sim.of_roundQ (C := dLSp) dLSp_ok (X := []) (n := 3) (orc := [(2, Item.br true), (18, Item.res (Value.int .i64 ((IntKind.i64.wrap (fs i * Int.ofNat 0)).tmod (iN n))))]) (ks := [0, 2]) (mask := [true, true, false, false, true, true, true, false, true, false, false, false, false, false, false, false, false, false, false, false, false, false, false, false, true, true, true, false, false, false, false, false, false, false, false, false, false, true, true, false, false, false, false, false, false, false, false, false, false, false, false, false, false, false]) (ps := [(some (decide (Int.ofNat 0 < iN n)) = some true), (qF (Value.int .i64 ((IntKind.i64.wrap (fs i * Int.ofNat 0)).tmod (iN n))) ([AObj.row (rowOf (fun i => [Value.int .i64 (z i)]) M) false opn]) (iN n) = some (Value.int .i64 ((IntKind.i64.wrap (fs i * Int.ofNat 0)).tmod (iN n)), [AObj.row (rowOf (fun i => [Value.int .i64 (z i)]) M) false opn]))]) (L := 3) 1 swA0_okX (by kernel_rfl) ⟨bP_of (fun x => x) (show (decide (Int.ofNat 0 < iN n)) = true from decide_eq_true (by first | omega | ((try simp only [decide_eq_true_eq, decide_eq_false_iff_not] at *); (try simp only [iN_eq, Int.ofNat_eq_natCast] at *); try omega))), ⟨qF_ok _ _ (by first | omega | (try simp only [decide_eq_true_eq, decide_eq_false_iff_not, Int.not_lt, Int.not_le] at *; (try simp only [iN_eq, Int.ofNat_eq_natCast] at *); omega)), trivial⟩⟩ hst (by kernel_rfl) (by kernel_rfl) (by kernel_rfl) (by decide) (by kernel_rfl) ⟨(by kernel_rfl : List.all _ plain = true), trivial⟩
theorem swA_okX : codeOkX (dLSp) [] (loopOf Try.f71 1) = true := by kernel_rfl
theorem swA_p0 (opn : Option Nat) (z : Nat → Int) (M : Nat) (m : Nat) (cap : Nat) (n : Nat) (fs : Nat → Int) (i : Nat) (k : Nat) (hn : n ≤ 16384) (hm : m ≤ 16384) (hM : m ≤ M) (hg : decide (0 < iN n) = true) (hk : k < n) (h0 : 0 < n * i + k) (hs : n * i + k < 16384) (hst : Stood false ([.row (rowOf (fun i => [.int .i64 (z i)]) M) false opn])) : Sim (dLSp) 1 (loopOf Try.f71 1) ((swF m cap n (.slice (some ⟨1, 0, some 1⟩) (n * i + k) (n * i + k)) (.int .i64 (fs i)) (.int .i64 (iN i)) (.int .i64 (iN n)) (.int .i64 (iN k)))) ([.row (rowOf (fun i => [.int .i64 (z i)]) M) false opn, .row (rowOf (nestR n (fun i j => [.complex .f64 (wUnit_0 (Int.tmod (IntKind.i64.wrap (fs i * iN j)) (iN n)) (iN n)) (wUnit_1 (Int.tmod (IntKind.i64.wrap (fs i * iN j)) (iN n)) (iN n))])) (n * i + k)) true (some 1)]) .normal ([Value.slice (some ⟨0, 0, some 1⟩) m cap, Value.int .i64 (iN n), undef, undef, Value.slice none 0 0, Value.int .i64 (Int.ofNat 0), Value.slice (some ⟨1, 0, some 1⟩) (n * i + k + 1) (n * i + k + 1), undef, Value.int .i64 (fs i), undef, undef, undef, undef, undef, undef, undef, undef, undef, undef, undef, undef, undef, undef, undef, Value.slice (some ⟨0, 0, some 1⟩) m cap, Value.int .i64 (iN m), Value.int .i64 (iN i), undef, undef, undef, undef, undef, undef, undef, undef, undef, undef, Value.int .i64 (iN n), Value.int .i64 (iN (k + 1)), undef, undef, undef, undef, undef, undef, undef, undef, undef, undef, undef, undef, undef, undef, undef]) ([AObj.row (rowOf (fun i => [Value.int .i64 (z i)]) M) false opn, AObj.row (rowOf (nestR n fun i j => [Value.complex .f64 (wUnit_0 ((IntKind.i64.wrap (fs i * iN j)).tmod (iN n)) (iN n)) (wUnit_1 ((IntKind.i64.wrap (fs i * iN j)).tmod (iN n)) (iN n))]) (n * i + k + 1)) true (some 1)]) := Sim.of_roundQ (C := dLSp) dLSp_ok (X := []) (n := 3) (orc := [(2, Item.br true), (18, Item.res (Value.int .i64 ((IntKind.i64.wrap (fs i * iN k)).tmod (iN n)))), (26, Item.eff (Value.slice (some ⟨3, 0, some 1⟩) (n * i + k + 1) (n * i + k + 1)) [AObj.row (rowOf (fun i => [Value.int .i64 (z i)]) M) false opn, AObj.dead, AObj.row [Value.complex .f64 (wUnit_0 ((IntKind.i64.wrap (fs i * iN k)).tmod (iN n)) (iN n)) (wUnit_1 ((IntKind.i64.wrap (fs i * iN k)).tmod (iN n)) (iN n))] true none, AObj.row (rowOf (nestR n fun i j => [Value.complex .f64 (wUnit_0 ((IntKind.i64.wrap (fs i * iN j)).tmod (iN n)) (iN n)) (wUnit_1 ((IntKind.i64.wrap (fs i * iN j)).tmod (iN n)) (iN n))]) (n * i + k + 1)) true (some 1)]), (30, Item.res (Value.int .i64 (iN (k + 1))))]) (ks := [0, 3]) (mask := [true, true, false, false, true, true, true, false, true, false, false, false, false, false, false, false, false, false, false, false, false, false, false, false, true, true, true, false, false, false, false, false, false, false, false, false, false, true, true, false, false, false, false, false, false, false, false, false, false, false, false, false, false, false]) (ps := [(some (decide (iN k < iN n)) = some true), (qF (Value.int .i64 ((IntKind.i64.wrap (fs i * iN k)).tmod (iN n))) ([AObj.row (rowOf (fun i => [Value.int .i64 (z i)]) M) false opn, AObj.row (rowOf (nestR n fun i j => [Value.complex .f64 (wUnit_0 ((IntKind.i64.wrap (fs i * iN j)).tmod (iN n)) (iN n)) (wUnit_1 ((IntKind.i64.wrap (fs i * iN j)).tmod (iN n)) (iN n))]) (n * i + k)) true (some 1)]) (iN n) = some (Value.int .i64 ((IntKind.i64.wrap (fs i * iN k)).tmod (iN n)), [AObj.row (rowOf (fun i => [Value.int .i64 (z i)]) M) false opn, AObj.row (rowOf (nestR n fun i j => [Value.complex .f64 (wUnit_0 ((IntKind.i64.wrap (fs i * iN j)).tmod (iN n)) (iN n)) (wUnit_1 ((IntKind.i64.wrap (fs i * iN j)).tmod (iN n)) (iN n))]) (n * i + k)) true (some 1)])), (aAppend Try.prog ([AObj.row (rowOf (fun i => [Value.int .i64 (z i)]) M) false opn, AObj.row (rowOf (nestR n fun i j => [Value.complex .f64 (wUnit_0 ((IntKind.i64.wrap (fs i * iN j)).tmod (iN n)) (iN n)) (wUnit_1 ((IntKind.i64.wrap (fs i * iN j)).tmod (iN n)) (iN n))]) (n * i + k)) true (some 1), AObj.row [Value.complex .f64 (wUnit_0 ((IntKind.i64.wrap (fs i * iN k)).tmod (iN n)) (iN n)) (wUnit_1 ((IntKind.i64.wrap (fs i * iN k)).tmod (iN n)) (iN n))] true none]) [66, 66] [Value.slice (some ⟨1, 0, some 1⟩) (n * i + k) (n * i + k), Value.slice (some { block := [AObj.row (rowOf (fun i => [Value.int .i64 (z i)]) M) false opn, AObj.row (rowOf (nestR n fun i j => [Value.complex .f64 (wUnit_0 ((IntKind.i64.wrap (fs i * iN j)).tmod (iN n)) (iN n)) (wUnit_1 ((IntKind.i64.wrap (fs i * iN j)).tmod (iN n)) (iN n))]) (n * i + k)) true (some 1)].length, off := 0, spot := some 1 }) 1 1] = some (Value.slice (some ⟨3, 0, some 1⟩) (n * i + k + 1) (n * i + k + 1), [AObj.row (rowOf (fun i => [Value.int .i64 (z i)]) M) false opn, AObj.dead, AObj.row [Value.complex .f64 (wUnit_0 ((IntKind.i64.wrap (fs i * iN k)).tmod (iN n)) (iN n)) (wUnit_1 ((IntKind.i64.wrap (fs i * iN k)).tmod (iN n)) (iN n))] true none, AObj.row (rowOf (nestR n fun i j => [Value.complex .f64 (wUnit_0 ((IntKind.i64.wrap (fs i * iN j)).tmod (iN n)) (iN n)) (wUnit_1 ((IntKind.i64.wrap (fs i * iN j)).tmod (iN n)) (iN n))]) (n * i + k + 1)) true (some 1)])), (wF IntKind.i64 (iN k + 1) ([AObj.row (rowOf (fun i => [Value.int .i64 (z i)]) M) false opn, AObj.dead, AObj.row [Value.complex .f64 (wUnit_0 ((IntKind.i64.wrap (fs i * iN k)).tmod (iN n)) (iN n)) (wUnit_1 ((IntKind.i64.wrap (fs i * iN k)).tmod (iN n)) (iN n))] true none, AObj.row (rowOf (nestR n fun i j => [Value.complex .f64 (wUnit_0 ((IntKind.i64.wrap (fs i * iN j)).tmod (iN n)) (iN n)) (wUnit_1 ((IntKind.i64.wrap (fs i * iN j)).tmod (iN n)) (iN n))]) (n * i + k + 1)) true (some 1)]) = some (.int IntKind.i64 (iN (k + 1)), [AObj.row (rowOf (fun i => [Value.int .i64 (z i)]) M) false opn, AObj.dead, AObj.row [Value.complex .f64 (wUnit_0 ((IntKind.i64.wrap (fs i * iN k)).tmod (iN n)) (iN n)) (wUnit_1 ((IntKind.i64.wrap (fs i * iN k)).tmod (iN n)) (iN n))] true none, AObj.row (rowOf (nestR n fun i j => [Value.complex .f64 (wUnit_0 ((IntKind.i64.wrap (fs i * iN j)).tmod (iN n)) (iN n)) (wUnit_1 ((IntKind.i64.wrap (fs i * iN j)).tmod (iN n)) (iN n))]) (n * i + k + 1)) true (some 1)]))]) (L := 4) 1 swA_okX (by kernel_rfl) ⟨bP_of (fun x => x) (show (decide (iN k < iN n)) = true from decide_eq_true (by first | omega | ((try simp only [decide_eq_true_eq, decide_eq_false_iff_not] at *); (try simp only [iN_eq, Int.ofNat_eq_natCast] at *); try omega))), ⟨qF_ok _ _ (by first | omega | (try simp only [decide_eq_true_eq, decide_eq_false_iff_not, Int.not_lt, Int.not_le] at *; (try simp only [iN_eq, Int.ofNat_eq_natCast] at *); omega)), ⟨append_grow (F := nestR n fun i j => [Value.complex .f64 (wUnit_0 ((IntKind.i64.wrap (fs i * iN j)).tmod (iN n)) (iN n)) (wUnit_1 ((IntKind.i64.wrap (fs i * iN j)).tmod (iN n)) (iN n))]) (by kernel_rfl) rfl (.inl rfl) (nest_hx (by omega) (by kernel_rfl)) rfl (fun _ => rfl) (by kernel_rfl) (by first | omega | ((try simp only [decide_eq_true_eq, decide_eq_false_iff_not] at *); (try simp only [iN_eq, Int.ofNat_eq_natCast] at *); try omega)) rfl, ⟨wF_ok _ (by first | omega | ((try simp only [decide_eq_true_eq, decide_eq_false_iff_not] at *); (try simp only [iN_eq, Int.ofNat_eq_natCast] at *); try omega)) (by first | omega | (simp only [decide_eq_true_eq, decide_eq_false_iff_not, iN_eq, Int.ofNat_eq_natCast] at *; try omega)), trivial⟩⟩⟩⟩ hst (by kernel_rfl) (by kernel_rfl) (by kernel_rfl) (by decide) (by kernel_rfl) ⟨rowOf_all (fun _ => rfl) _, trivial⟩
theorem swAE_okX : codeOkX (dLSp) [] (loopOf Try.f71 1) = true := by kernel_rfl
theorem swAE_p0 (opn : Option Nat) (z : Nat → Int) (M : Nat) (m : Nat) (cap : Nat) (n : Nat) (fs : Nat → Int) (i : Nat) (s : Nat) (hn : n ≤ 16384) (hm : m ≤ 16384) (hM : m ≤ M) (hg : decide (0 < iN n) = true) (hst : Stood false ([.row (rowOf (fun i => [.int .i64 (z i)]) M) false opn])) : Sim (dLSp) 1 (loopOf Try.f71 1) ((swF m cap n (.slice (some ⟨1, 0, some 1⟩) (s) (s)) (.int .i64 (fs i)) (.int .i64 (iN i)) (.int .i64 (iN n)) (.int .i64 (iN n)))) ([.row (rowOf (fun i => [.int .i64 (z i)]) M) false opn, .row (rowOf (nestR n (fun i j => [.complex .f64 (wUnit_0 (Int.tmod (IntKind.i64.wrap (fs i * iN j)) (iN n)) (iN n)) (wUnit_1 (Int.tmod (IntKind.i64.wrap (fs i * iN j)) (iN n)) (iN n))])) (s)) true (some 1)]) (.exit 3) ([Value.slice (some ⟨0, 0, some 1⟩) m cap, Value.int .i64 (iN n), undef, undef, Value.slice none 0 0, Value.int .i64 (Int.ofNat 0), Value.slice (some ⟨1, 0, some 1⟩) s s, undef, Value.int .i64 (fs i), undef, undef, undef, undef, undef, undef, undef, undef, undef, undef, undef, undef, undef, undef, undef, Value.slice (some ⟨0, 0, some 1⟩) m cap, Value.int .i64 (iN m), Value.int .i64 (iN i), undef, undef, undef, undef, undef, undef, undef, undef, undef, undef, Value.int .i64 (iN n), Value.int .i64 (iN n), undef, undef, undef, undef, undef, undef, undef, undef, undef, undef, undef, undef, undef, undef, undef]) ([AObj.row (rowOf (fun i => [Value.int .i64 (z i)]) M) false opn, AObj.row (rowOf (nestR n fun i j => [Value.complex .f64 (wUnit_0 ((IntKind.i64.wrap (fs i * iN j)).tmod (iN n)) (iN n)) (wUnit_1 ((IntKind.i64.wrap (fs i * iN j)).tmod (iN n)) (iN n))]) s) true (some 1)]) := Sim.of_roundQ (C := dLSp) dLSp_ok (X := []) (n := 3) (orc := [(2, Item.br false)]) (ks := [0, 1]) (mask := [true, true, false, false, true, true, true, false, true, false, false, false, false, false, false, false, false, false, false, false, false, false, false, false, true, true, true, false, false, false, false, false, false, false, false, false, false, true, true, false, false, false, false, false, false, false, false, false, false, false, false, false, false, false]) (ps := [(some (decide (iN n < iN n)) = some false)]) (L := 2) 1 swAE_okX (by kernel_rfl) ⟨bP_of (fun x => x) (show (decide (iN n < iN n)) = false from decide_eq_false (by first | omega | ((try simp only [decide_eq_true_eq, decide_eq_false_iff_not] at *); (try simp only [iN_eq, Int.ofNat_eq_natCast] at *); try omega))), trivial⟩ hst (by kernel_rfl) (by kernel_rfl) (by kernel_rfl) (by decide) (by kernel_rfl) ⟨rowOf_all (fun _ => rfl) _, trivial⟩
theorem swB0_okX : codeOkX (dLSp) [] (loopOf Try.f71 1) = true := by kernel_rfl
theorem swB0_p0 (opn : Option Nat) (z : Nat → Int) (M : Nat) (m : Nat) (cap : Nat) (n : Nat) (fs : Nat → Int) (i : Nat) (hn : n ≤ 16384) (hm : m ≤ 16384) (hM : m ≤ M) (hg : decide (0 < iN n) = true) (h1 : 0 < n) (h0 : 0 < n * i) (hs : n * i < 16384) (hst : Stood false ([.row (rowOf (fun i => [.int .i64 (z i)]) M) false opn])) : Sim (dLSp) 2 (loopOf Try.f71 1) ((swF m cap n (.slice (some ⟨1, 0, some 1⟩) (n * i + 0) (n * i + 0)) (.int .i64 (fs i)) (.int .i64 (iN i)) (.int .i64 (iN n)) (.int .i64 (iN 0)))) ([.row (rowOf (fun i => [.int .i64 (z i)]) M) false opn, .row (rowOf (nestR n (fun i j => [.complex .f64 (wUnit_0 (Int.tmod (IntKind.i64.wrap (fs i * iN j)) (iN n)) (iN n)) (wUnit_1 (Int.tmod (IntKind.i64.wrap (fs i * iN j)) (iN n)) (iN n))])) (n * i + 0)) true (some 1)]) .normal ([Value.slice (some ⟨0, 0, some 1⟩) m cap, Value.int .i64 (iN n), undef, undef, Value.slice none 0 0, Value.int .i64 (Int.ofNat 0), Value.slice (some ⟨2, 0, some 1⟩) (n * i + 0 + 1) (n * i + 0 + 1), undef, Value.int .i64 (fs i), undef, undef, undef, undef, undef, undef, undef, undef, undef, undef, undef, undef, undef, undef, undef, Value.slice (some ⟨0, 0, some 1⟩) m cap, Value.int .i64 (iN m), Value.int .i64 (iN i), undef, undef, undef, undef, undef, undef, undef, undef, undef, undef, Value.int .i64 (iN n), Value.int .i64 (Int.ofNat 1), undef, undef, undef, undef, undef, undef, undef, undef, undef, undef, undef, undef, undef, undef, undef]) ([AObj.row (rowOf (fun i => [Value.int .i64 (z i)]) M) false opn, AObj.dead, AObj.row (rowOf (nestR n fun i j => [Value.complex .f64 (wUnit_0 ((IntKind.i64.wrap (fs i * iN j)).tmod (iN n)) (iN n)) (wUnit_1 ((IntKind.i64.wrap (fs i * iN j)).tmod (iN n)) (iN n))]) (n * i + 0 + 1)) true (some 1)]) := Sim.of_roundQ (C := dLSp) dLSp_ok (X := []) (n := 3) (orc := [(2, Item.br true), (18, Item.res (Value.int .i64 ((IntKind.i64.wrap (fs i * Int.ofNat 0)).tmod (iN n)))), (26, Item.eff (Value.slice (some ⟨3, 0, some 1⟩) (n * i + 0 + 1) (n * i + 0 + 1)) [AObj.row (rowOf (fun i => [Value.int .i64 (z i)]) M) false opn, AObj.dead, AObj.row [Value.complex .f64 (wUnit_0 ((IntKind.i64.wrap (fs i * Int.ofNat 0)).tmod (iN n)) (iN n)) (wUnit_1 ((IntKind.i64.wrap (fs i * Int.ofNat 0)).tmod (iN n)) (iN n))] true none, AObj.row (rowOf (nestR n fun i j => [Value.complex .f64 (wUnit_0 ((IntKind.i64.wrap (fs i * iN j)).tmod (iN n)) (iN n)) (wUnit_1 ((IntKind.i64.wrap (fs i * iN j)).tmod (iN n)) (iN n))]) (n * i + 0 + 1)) true (some 1)])]) (ks := [0, 1, 3]) (mask := [true, true, false, false, true, true, true, false, true, false, false, false, false, false, false, false, false, false, false, false, false, false, false, false, true, true, true, false, false, false, false, false, false, false, false, false, false, true, true, false, false, false, false, false, false, false, false, false, false, false, false, false, false, false]) (ps := [(some (decide (Int.ofNat 0 < iN n)) = some true), (qF (Value.int .i64 ((IntKind.i64.wrap (fs i * Int.ofNat 0)).tmod (iN n))) ([AObj.row (rowOf (fun i => [Value.int .i64 (z i)]) M) false opn, AObj.row (rowOf (nestR n fun i j => [Value.complex .f64 (wUnit_0 ((IntKind.i64.wrap (fs i * iN j)).tmod (iN n)) (iN n)) (wUnit_1 ((IntKind.i64.wrap (fs i * iN j)).tmod (iN n)) (iN n))]) (n * i + 0)) true (some 1)]) (iN n) = some (Value.int .i64 ((IntKind.i64.wrap (fs i * Int.ofNat 0)).tmod (iN n)), [AObj.row (rowOf (fun i => [Value.int .i64 (z i)]) M) false opn, AObj.row (rowOf (nestR n fun i j => [Value.complex .f64 (wUnit_0 ((IntKind.i64.wrap (fs i * iN j)).tmod (iN n)) (iN n)) (wUnit_1 ((IntKind.i64.wrap (fs i * iN j)).tmod (iN n)) (iN n))]) (n * i + 0)) true (some 1)])), (aAppend Try.prog ([AObj.row (rowOf (fun i => [Value.int .i64 (z i)]) M) false opn, AObj.row (rowOf (nestR n fun i j => [Value.complex .f64 (wUnit_0 ((IntKind.i64.wrap (fs i * iN j)).tmod (iN n)) (iN n)) (wUnit_1 ((IntKind.i64.wrap (fs i * iN j)).tmod (iN n)) (iN n))]) (n * i + 0)) true (some 1), AObj.row [Value.complex .f64 (wUnit_0 ((IntKind.i64.wrap (fs i * Int.ofNat 0)).tmod (iN n)) (iN n)) (wUnit_1 ((IntKind.i64.wrap (fs i * Int.ofNat 0)).tmod (iN n)) (iN n))] true none]) [66, 66] [Value.slice (some ⟨1, 0, some 1⟩) (n * i + 0) (n * i + 0), Value.slice (some { block := [AObj.row (rowOf (fun i => [Value.int .i64 (z i)]) M) false opn, AObj.row (rowOf (nestR n fun i j => [Value.complex .f64 (wUnit_0 ((IntKind.i64.wrap (fs i * iN j)).tmod (iN n)) (iN n)) (wUnit_1 ((IntKind.i64.wrap (fs i * iN j)).tmod (iN n)) (iN n))]) (n * i + 0)) true (some 1)].length, off := 0, spot := some 1 }) 1 1] = some (Value.slice (some ⟨3, 0, some 1⟩) (n * i + 0 + 1) (n * i + 0 + 1), [AObj.row (rowOf (fun i => [Value.int .i64 (z i)]) M) false opn, AObj.dead, AObj.row [Value.complex .f64 (wUnit_0 ((IntKind.i64.wrap (fs i * Int.ofNat 0)).tmod (iN n)) (iN n)) (wUnit_1 ((IntKind.i64.wrap (fs i * Int.ofNat 0)).tmod (iN n)) (iN n))] true none, AObj.row (rowOf (nestR n fun i j => [Value.complex .f64 (wUnit_0 ((IntKind.i64.wrap (fs i * iN j)).tmod (iN n)) (iN n)) (wUnit_1 ((IntKind.i64.wrap (fs i * iN j)).tmod (iN n)) (iN n))]) (n * i + 0 + 1)) true (some 1)]))]) (L := 4) 2 swB0_okX (by kernel_rfl) ⟨bP_of (fun x => x) (show (decide (Int.ofNat 0 < iN n)) = true from decide_eq_true (by first | omega | ((try simp only [decide_eq_true_eq, decide_eq_false_iff_not] at *); (try simp only [iN_eq, Int.ofNat_eq_natCast] at *); try omega))), ⟨qF_ok _ _ (by first | omega | (try simp only [decide_eq_true_eq, decide_eq_false_iff_not, Int.not_lt, Int.not_le] at *; (try simp only [iN_eq, Int.ofNat_eq_natCast] at *); omega)), ⟨append_grow (F := nestR n fun i j => [Value.complex .f64 (wUnit_0 ((IntKind.i64.wrap (fs i * iN j)).tmod (iN n)) (iN n)) (wUnit_1 ((IntKind.i64.wrap (fs i * iN j)).tmod (iN n)) (iN n))]) (by kernel_rfl) rfl (.inl rfl) (nest_hx (by omega) (by kernel_rfl)) rfl (fun _ => rfl) (by kernel_rfl) (by first | omega | ((try simp only [decide_eq_true_eq, decide_eq_false_iff_not] at *); (try simp only [iN_eq, Int.ofNat_eq_natCast] at *); try omega)) rfl, trivial⟩⟩⟩ hst (by kernel_rfl) (by kernel_rfl) (by kernel_rfl) (by decide) (by kernel_rfl) ⟨trivial, ⟨rowOf_all (fun _ => rfl) _, trivial⟩⟩
theorem swB_okX : codeOkX (dLSp) [] (loopOf Try.f71 1) = true := by kernel_rfl
theorem swB_p0 (opn : Option Nat) (z : Nat → Int) (M : Nat) (m : Nat) (cap : Nat) (n : Nat) (fs : Nat → Int) (i : Nat) (k : Nat) (hn : n ≤ 16384) (hm : m ≤ 16384) (hM : m ≤ M) (hg : decide (0 < iN n) = true) (hk : k < n) (h0 : 0 < n * i + k) (hs : n * i + k < 16384) (hst : Stood false ([.row (rowOf (fun i => [.int .i64 (z i)]) M) false opn])) : Sim (dLSp) 2 (loopOf Try.f71 1) ((swF m cap n (.slice (some ⟨2, 0, some 1⟩) (n * i + k) (n * i + k)) (.int .i64 (fs i)) (.int .i64 (iN i)) (.int .i64 (iN n)) (.int .i64 (iN k)))) ([.row (rowOf (fun i => [.int .i64 (z i)]) M) false opn, .dead, .row (rowOf (nestR n (fun i j => [.complex .f64 (wUnit_0 (Int.tmod (IntKind.i64.wrap (fs i * iN j)) (iN n)) (iN n)) (wUnit_1 (Int.tmod (IntKind.i64.wrap (fs i * iN j)) (iN n)) (iN n))])) (n * i + k)) true (some 1)]) .normal ([Value.slice (some ⟨0, 0, some 1⟩) m cap, Value.int .i64 (iN n), undef, undef, Value.slice none 0 0, Value.int .i64 (Int.ofNat 0), Value.slice (some ⟨2, 0, some 1⟩) (n * i + k + 1) (n * i + k + 1), undef, Value.int .i64 (fs i), undef, undef, undef, undef, undef, undef, undef, undef, undef, undef, undef, undef, undef, undef, undef, Value.slice (some ⟨0, 0, some 1⟩) m cap, Value.int .i64 (iN m), Value.int .i64 (iN i), undef, undef, undef, undef, undef, undef, undef, undef, undef, undef, Value.int .i64 (iN n), Value.int .i64 (iN (k + 1)), undef, undef, undef, undef, undef, undef, undef, undef, undef, undef, undef, undef, undef, undef, undef]) ([AObj.row (rowOf (fun i => [Value.int .i64 (z i)]) M) false opn, AObj.dead, AObj.row (rowOf (nestR n fun i j => [Value.complex .f64 (wUnit_0 ((IntKind.i64.wrap (fs i * iN j)).tmod (iN n)) (iN n)) (wUnit_1 ((IntKind.i64.wrap (fs i * iN j)).tmod (iN n)) (iN n))]) (n * i + k + 1)) true (some 1)]) := Sim.of_roundQ (C := dLSp) dLSp_ok (X := []) (n := 3) (orc := [(2, Item.br true), (18, Item.res (Value.int .i64 ((IntKind.i64.wrap (fs i * iN k)).tmod (iN n)))), (26, Item.eff (Value.slice (some ⟨4, 0, some 1⟩) (n * i + k + 1) (n * i + k + 1)) [AObj.row (rowOf (fun i => [Value.int .i64 (z i)]) M) false opn, AObj.dead, AObj.dead, AObj.row [Value.complex .f64 (wUnit_0 ((IntKind.i64.wrap (fs i * iN k)).tmod (iN n)) (iN n)) (wUnit_1 ((IntKind.i64.wrap (fs i * iN k)).tmod (iN n)) (iN n))] true none, AObj.row (rowOf (nestR n fun i j => [Value.complex .f64 (wUnit_0 ((IntKind.i64.wrap (fs i * iN j)).tmod (iN n)) (iN n)) (wUnit_1 ((IntKind.i64.wrap (fs i * iN j)).tmod (iN n)) (iN n))]) (n * i + k + 1)) true (some 1)]), (30, Item.res (Value.int .i64 (iN (k + 1))))]) (ks := [0, 1, 4]) (mask := [true, true, false, false, true, true, true, false, true, false, false, false, false, false, false, false, false, false, false, false, false, false, false, false, true, true, true, false, false, false, false, false, false, false, false, false, false, true, true, false, false, false, false, false, false, false, false, false, false, false, false, false, false, false]) (ps := [(some (decide (iN k < iN n)) = some true), (qF (Value.int .i64 ((IntKind.i64.wrap (fs i * iN k)).tmod (iN n))) ([AObj.row (rowOf (fun i => [Value.int .i64 (z i)]) M) false opn, AObj.dead, AObj.row (rowOf (nestR n fun i j => [Value.complex .f64 (wUnit_0 ((IntKind.i64.wrap (fs i * iN j)).tmod (iN n)) (iN n)) (wUnit_1 ((IntKind.i64.wrap (fs i * iN j)).tmod (iN n)) (iN n))]) (n * i + k)) true (some 1)]) (iN n) = some (Value.int .i64 ((IntKind.i64.wrap (fs i * iN k)).tmod (iN n)), [AObj.row (rowOf (fun i => [Value.int .i64 (z i)]) M) false opn, AObj.dead, AObj.row (rowOf (nestR n fun i j => [Value.complex .f64 (wUnit_0 ((IntKind.i64.wrap (fs i * iN j)).tmod (iN n)) (iN n)) (wUnit_1 ((IntKind.i64.wrap (fs i * iN j)).tmod (iN n)) (iN n))]) (n * i + k)) true (some 1)])), (aAppend Try.prog ([AObj.row (rowOf (fun i => [Value.int .i64 (z i)]) M) false opn, AObj.dead, AObj.row (rowOf (nestR n fun i j => [Value.complex .f64 (wUnit_0 ((IntKind.i64.wrap (fs i * iN j)).tmod (iN n)) (iN n)) (wUnit_1 ((IntKind.i64.wrap (fs i * iN j)).tmod (iN n)) (iN n))]) (n * i + k)) true (some 1), AObj.row [Value.complex .f64 (wUnit_0 ((IntKind.i64.wrap (fs i * iN k)).tmod (iN n)) (iN n)) (wUnit_1 ((IntKind.i64.wrap (fs i * iN k)).tmod (iN n)) (iN n))] true none]) [66, 66] [Value.slice (some ⟨2, 0, some 1⟩) (n * i + k) (n * i + k), Value.slice (some { block := [AObj.row (rowOf (fun i => [Value.int .i64 (z i)]) M) false opn, AObj.dead, AObj.row (rowOf (nestR n fun i j => [Value.complex .f64 (wUnit_0 ((IntKind.i64.wrap (fs i * iN j)).tmod (iN n)) (iN n)) (wUnit_1 ((IntKind.i64.wrap (fs i * iN j)).tmod (iN n)) (iN n))]) (n * i + k)) true (some 1)].length, off := 0, spot := some 1 }) 1 1] = some (Value.slice (some ⟨4, 0, some 1⟩) (n * i + k + 1) (n * i + k + 1), [AObj.row (rowOf (fun i => [Value.int .i64 (z i)]) M) false opn, AObj.dead, AObj.dead, AObj.row [Value.complex .f64 (wUnit_0 ((IntKind.i64.wrap (fs i * iN k)).tmod (iN n)) (iN n)) (wUnit_1 ((IntKind.i64.wrap (fs i * iN k)).tmod (iN n)) (iN n))] true none, AObj.row (rowOf (nestR n fun i j => [Value.complex .f64 (wUnit_0 ((IntKind.i64.wrap (fs i * iN j)).tmod (iN n)) (iN n)) (wUnit_1 ((IntKind.i64.wrap (fs i * iN j)).tmod (iN n)) (iN n))]) (n * i + k + 1)) true (some 1)])), (wF IntKind.i64 (iN k + 1) ([AObj.row (rowOf (fun i => [Value.int .i64 (z i)]) M) false opn, AObj.dead, AObj.dead, AObj.row [Value.complex .f64 (wUnit_0 ((IntKind.i64.wrap (fs i * iN k)).tmod (iN n)) (iN n)) (wUnit_1 ((IntKind.i64.wrap (fs i * iN k)).tmod (iN n)) (iN n))] true none, AObj.row (rowOf (nestR n fun i j => [Value.complex .f64 (wUnit_0 ((IntKind.i64.wrap (fs i * iN j)).tmod (iN n)) (iN n)) (wUnit_1 ((IntKind.i64.wrap (fs i * iN j)).tmod (iN n)) (iN n))]) (n * i + k + 1)) true (some 1)]) = some (.int IntKind.i64 (iN (k + 1)), [AObj.row (rowOf (fun i => [Value.int .i64 (z i)]) M) false opn, AObj.dead, AObj.dead, AObj.row [Value.complex .f64 (wUnit_0 ((IntKind.i64.wrap (fs i * iN k)).tmod (iN n)) (iN n)) (wUnit_1 ((IntKind.i64.wrap (fs i * iN k)).tmod (iN n)) (iN n))] true none, AObj.row (rowOf (nestR n fun i j => [Value.complex .f64 (wUnit_0 ((IntKind.i64.wrap (fs i * iN j)).tmod (iN n)) (iN n)) (wUnit_1 ((IntKind.i64.wrap (fs i * iN j)).tmod (iN n)) (iN n))]) (n * i + k + 1)) true (some 1)]))]) (L := 5) 2 swB_okX (by kernel_rfl) ⟨bP_of (fun x => x) (show (decide (iN k < iN n)) = true from decide_eq_true (by first | omega | ((try simp only [decide_eq_true_eq, decide_eq_false_iff_not] at *); (try simp only [iN_eq, Int.ofNat_eq_natCast] at *); try omega))), ⟨qF_ok _ _ (by first | omega | (try simp only [decide_eq_true_eq, decide_eq_false_iff_not, Int.not_lt, Int.not_le] at *; (try simp only [iN_eq, Int.ofNat_eq_natCast] at *); omega)), ⟨append_grow (F := nestR n fun i j => [Value.complex .f64 (wUnit_0 ((IntKind.i64.wrap (fs i * iN j)).tmod (iN n)) (iN n)) (wUnit_1 ((IntKind.i64.wrap (fs i * iN j)).tmod (iN n)) (iN n))]) (by kernel_rfl) rfl (.inl rfl) (nest_hx (by omega) (by kernel_rfl)) rfl (fun _ => rfl) (by kernel_rfl) (by first | omega | ((try simp only [decide_eq_true_eq, decide_eq_false_iff_not] at *); (try simp only [iN_eq, Int.ofNat_eq_natCast] at *); try omega)) rfl, ⟨wF_ok _ (by first | omega | ((try simp only [decide_eq_true_eq, decide_eq_false_iff_not] at *); (try simp only [iN_eq, Int.ofNat_eq_natCast] at *); try omega)) (by first | omega | (simp only [decide_eq_true_eq, decide_eq_false_iff_not, iN_eq, Int.ofNat_eq_natCast] at *; try omega)), trivial⟩⟩⟩⟩ hst (by kernel_rfl) (by kernel_rfl) (by kernel_rfl) (by decide) (by kernel_rfl) ⟨trivial, ⟨rowOf_all (fun _ => rfl) _, trivial⟩⟩
theorem swBE_okX : codeOkX (dLSp) [] (loopOf Try.f71 1) = true := by kernel_rfl
theorem swBE_p0 (opn : Option Nat) (z : Nat → Int) (M : Nat) (m : Nat) (cap : Nat) (n : Nat) (fs : Nat → Int) (i : Nat) (s : Nat) (hn : n ≤ 16384) (hm : m ≤ 16384) (hM : m ≤ M) (hg : decide (0 < iN n) = true) (hst : Stood false ([.row (rowOf (fun i => [.int .i64 (z i)]) M) false opn])) : Sim (dLSp) 2 (loopOf Try.f71 1) ((swF m cap n (.slice (some ⟨2, 0, some 1⟩) (s) (s)) (.int .i64 (fs i)) (.int .i64 (iN i)) (.int .i64 (iN n)) (.int .i64 (iN n)))) ([.row (rowOf (fun i => [.int .i64 (z i)]) M) false opn, .dead, .row (rowOf (nestR n (fun i j => [.complex .f64 (wUnit_0 (Int.tmod (IntKind.i64.wrap (fs i * iN j)) (iN n)) (iN n)) (wUnit_1 (Int.tmod (IntKind.i64.wrap (fs i * iN j)) (iN n)) (iN n))])) (s)) true (some 1)]) (.exit 3) ([Value.slice (some ⟨0, 0, some 1⟩) m cap, Value.int .i64 (iN n), undef, undef, Value.slice none 0 0, Value.int .i64 (Int.ofNat 0), Value.slice (some ⟨2, 0, some 1⟩) s s, undef, Value.int .i64 (fs i), undef, undef, undef, undef, undef, undef, undef, undef, undef, undef, undef, undef, undef, undef, undef, Value.slice (some ⟨0, 0, some 1⟩) m cap, Value.int .i64 (iN m), Value.int .i64 (iN i), undef, undef, undef, undef, undef, undef, undef, undef, undef, undef, Value.int .i64 (iN n), Value.int .i64 (iN n), undef, undef, undef, undef, undef, undef, undef, undef, undef, undef, undef, undef, undef, undef, undef]) ([AObj.row (rowOf (fun i => [Value.int .i64 (z i)]) M) false opn, AObj.dead, AObj.row (rowOf (nestR n fun i j => [Value.complex .f64 (wUnit_0 ((IntKind.i64.wrap (fs i * iN j)).tmod (iN n)) (iN n)) (wUnit_1 ((IntKind.i64.wrap (fs i * iN j)).tmod (iN n)) (iN n))]) s) true (some 1)]) := Sim.of_roundQ (C := dLSp) dLSp_ok (X := []) (n := 3) (orc := [(2, Item.br false)]) (ks := [0, 1, 2]) (mask := [true, true, false, false, true, true, true, false, true, false, false, false, false, false, false, false, false, false, false, false, false, false, false, false, true, true, true, false, false, false, false, false, false, false, false, false, false, true, true, false, false, false, false, false, false, false, false, false, false, false, false, false, false, false]) (ps := [(some (decide (iN n < iN n)) = some false)]) (L := 3) 2 swBE_okX (by kernel_rfl) ⟨bP_of (fun x => x) (show (decide (iN n < iN n)) = false from decide_eq_false (by first | omega | ((try simp only [decide_eq_true_eq, decide_eq_false_iff_not] at *); (try simp only [iN_eq, Int.ofNat_eq_natCast] at *); try omega))), trivial⟩ hst (by kernel_rfl) (by kernel_rfl) (by kernel_rfl) (by decide) (by kernel_rfl) ⟨trivial, ⟨rowOf_all (fun _ => rfl) _, trivial⟩⟩
end Go.Lk
end
