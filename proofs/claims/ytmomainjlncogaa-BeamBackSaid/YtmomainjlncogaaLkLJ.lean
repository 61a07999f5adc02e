import Derived.Test.YtmomainjlncogaaLkJN
import Derived.Test.YtmomainjlncogaaLkJD
import Derived.Test.YtmomainjlncogaaLkJB
section
/- Steer, by itself. -/
namespace Go.Lk
open Go.Proofs
set_option maxRecDepth 100000
set_option maxHeartbeats 0
set_option linter.unusedVariables false
set_option linter.unusedSimpArgs false
def stX (q i : Nat) : Nat := fmul (FloatKind.f64.nearest (iN i)) q
def stFr (n d s q : Nat) (a : Value) (k : Value) : List Value :=
  [.int .i64 (iN n), .float .f64 d, .float .f64 s, undef, undef, undef, .slice none 0 0, .int .i64 0, .float .f64 q, a] ++ List.replicate 19 undef ++ [.int .i64 (iN n), k] ++ List.replicate 12 undef
theorem st_okX : codeOkX (dLn4) [] (loopOf Try.f111 0) = true := by kernel_rfl
theorem st_p0 (n : Nat) (d : Nat) (s : Nat) (q : Nat) (k : Nat) (hk : k < n) (hn : n ≤ 64) (hst : Stood false ([])) : Sim (dLn4) 2 (loopOf Try.f111 0) ((stFr n d s q (.slice (some ⟨1, 0, some 1⟩) n n) (.int .i64 (iN k)))) ([.row [.float .f64 d, .float .f64 s] true none, .row (rowOf (half2 (fun i => [.complex .f64 (wTurn_0 (stX q i)) (wTurn_1 (stX q i))]) (fun _ => [.complex .f64 0 0]) k) n) true none]) .normal ([Value.int .i64 (iN n), Value.float .f64 d, Value.float .f64 s, undef, undef, undef, Value.slice none 0 0, Value.int .i64 (Int.ofNat 0), Value.float .f64 q, Value.slice (some ⟨1, 0, some 1⟩) n n, undef, undef, undef, undef, undef, undef, undef, undef, undef, undef, undef, undef, undef, undef, undef, undef, undef, undef, undef, Value.int .i64 (iN n), Value.int .i64 (iN (k + 1)), undef, undef, undef, undef, undef, undef, undef, undef, undef, undef, undef, undef]) ([AObj.row [Value.float .f64 d, Value.float .f64 s] true none, AObj.row (rowOf (half2 (fun i => [Value.complex .f64 (wTurn_0 (stX q i)) (wTurn_1 (stX q i))]) (fun x => [Value.complex .f64 0 0]) (k + 1)) n) true none]) := Sim.of_roundQ (C := dLn4) dLn4_ok (X := []) (n := 3) (orc := [(2, Item.br true), (22, Item.res (Value.pointer (some { block := 1, off := 0 + k * 1 }))), (24, Item.eff undef [AObj.row [Value.float .f64 d, Value.float .f64 s] true none, AObj.row (rowOf (half2 (fun i => [Value.complex .f64 (wTurn_0 (stX q i)) (wTurn_1 (stX q i))]) (fun x => [Value.complex .f64 0 0]) (k + 1)) n) true none]), (26, Item.res (Value.int .i64 (iN (k + 1))))]) (ks := [0, 1]) (mask := [true, true, true, false, false, false, true, true, true, true, false, false, false, false, false, false, false, false, false, false, false, false, false, false, false, false, false, false, false, true, true, false, false, false, false, false, false, false, false, false, false, false, false]) (ps := [(some (decide (iN k < iN n)) = some true), (ixF (Value.pointer (some { block := 1, off := 0 + k * 1 })) ([AObj.row [Value.float .f64 d, Value.float .f64 s] true none, AObj.row (rowOf (half2 (fun i => [Value.complex .f64 (wTurn_0 (stX q i)) (wTurn_1 (stX q i))]) (fun x => [Value.complex .f64 0 0]) k) n) true none]) (iN k) (n) = some (Value.pointer (some { block := 1, off := 0 + k * 1 }), [AObj.row [Value.float .f64 d, Value.float .f64 s] true none, AObj.row (rowOf (half2 (fun i => [Value.complex .f64 (wTurn_0 (stX q i)) (wTurn_1 (stX q i))]) (fun x => [Value.complex .f64 0 0]) k) n) true none])), (stF (aStore Try.prog ([AObj.row [Value.float .f64 d, Value.float .f64 s] true none, AObj.row (rowOf (half2 (fun i => [Value.complex .f64 (wTurn_0 (stX q i)) (wTurn_1 (stX q i))]) (fun x => [Value.complex .f64 0 0]) k) n) true none]) 27 (.pointer (some ⟨1, 0 + k * 1, none⟩)) (Value.complex .f64 (wTurn_0 (fmul (FloatKind.f64.nearest (iN k)) q)) (wTurn_1 (fmul (FloatKind.f64.nearest (iN k)) q)))) = some (undef, [AObj.row [Value.float .f64 d, Value.float .f64 s] true none, AObj.row (rowOf (half2 (fun i => [Value.complex .f64 (wTurn_0 (stX q i)) (wTurn_1 (stX q i))]) (fun x => [Value.complex .f64 0 0]) (k + 1)) n) true none])), (wF IntKind.i64 (iN k + 1) ([AObj.row [Value.float .f64 d, Value.float .f64 s] true none, AObj.row (rowOf (half2 (fun i => [Value.complex .f64 (wTurn_0 (stX q i)) (wTurn_1 (stX q i))]) (fun x => [Value.complex .f64 0 0]) (k + 1)) n) true none]) = some (.int IntKind.i64 (iN (k + 1)), [AObj.row [Value.float .f64 d, Value.float .f64 s] true none, AObj.row (rowOf (half2 (fun i => [Value.complex .f64 (wTurn_0 (stX q i)) (wTurn_1 (stX q i))]) (fun x => [Value.complex .f64 0 0]) (k + 1)) n) true none]))]) (L := 2) 2 st_okX (by kernel_rfl) ⟨bP_of (fun x => x) (show (decide (iN k < iN n)) = true from decide_eq_true (by (try simp only [decide_eq_true_eq, decide_eq_false_iff_not] at *); (try simp only [iN_eq, Int.ofNat_eq_natCast] at *); try omega)), ⟨ixF_ok _ _ (by (try simp only [decide_eq_true_eq, decide_eq_false_iff_not] at *); (try simp only [iN_eq, Int.ofNat_eq_natCast] at *); try omega), ⟨stF_ok (store_row (z := 1) (k := k) (f := half2 (fun i => [Value.complex .f64 (wTurn_0 (stX q i)) (wTurn_1 (stX q i))]) (fun x => [Value.complex .f64 0 0]) k) (g := half2 (fun i => [Value.complex .f64 (wTurn_0 (stX q i)) (wTurn_1 (stX q i))]) (fun x => [Value.complex .f64 0 0]) (k + 1)) rfl (by kernel_rfl) (half2_len (s := 1) (fun _ => rfl) (fun _ => rfl) _) (half2_len (s := 1) (fun _ => rfl) (fun _ => rfl) _) (by rw [half2_at]; try kernel_rfl) (by rw [half2_at]; try kernel_rfl) (by (try simp only [decide_eq_true_eq, decide_eq_false_iff_not] at *); (try simp only [iN_eq, Int.ofNat_eq_natCast] at *); try omega) (by (try simp only [decide_eq_true_eq, decide_eq_false_iff_not] at *); (try simp only [iN_eq, Int.ofNat_eq_natCast] at *); try omega) (fun i h => half2_ne _ _ _ i h)), ⟨wF_ok _ (by (try simp only [decide_eq_true_eq, decide_eq_false_iff_not] at *); (try simp only [iN_eq, Int.ofNat_eq_natCast] at *); try omega) (by (try simp only [decide_eq_true_eq, decide_eq_false_iff_not] at *); (try simp only [iN_eq, Int.ofNat_eq_natCast] at *); try omega), trivial⟩⟩⟩⟩ hst (by kernel_rfl) (by kernel_rfl) (by kernel_rfl) (by decide) (by kernel_rfl) ⟨(by kernel_rfl : List.all _ plain = true), ⟨rowOf_all (half2_all (fun _ => rfl) (fun _ => rfl) _) _, trivial⟩⟩
theorem stE_okX : codeOkX (dLn4) [] (loopOf Try.f111 0) = true := by kernel_rfl
theorem stE_p0 (n : Nat) (d : Nat) (s : Nat) (q : Nat) (hn : n ≤ 64) (hst : Stood false ([])) : Sim (dLn4) 2 (loopOf Try.f111 0) ((stFr n d s q (.slice (some ⟨1, 0, some 1⟩) n n) (.int .i64 (iN n)))) ([.row [.float .f64 d, .float .f64 s] true none, .row (rowOf (half2 (fun i => [.complex .f64 (wTurn_0 (stX q i)) (wTurn_1 (stX q i))]) (fun _ => [.complex .f64 0 0]) n) n) true none]) (.exit 1) ([Value.int .i64 (iN n), Value.float .f64 d, Value.float .f64 s, undef, undef, undef, Value.slice none 0 0, Value.int .i64 (Int.ofNat 0), Value.float .f64 q, Value.slice (some ⟨1, 0, some 1⟩) n n, undef, undef, undef, undef, undef, undef, undef, undef, undef, undef, undef, undef, undef, undef, undef, undef, undef, undef, undef, Value.int .i64 (iN n), Value.int .i64 (iN n), undef, undef, undef, undef, undef, undef, undef, undef, undef, undef, undef, undef]) ([AObj.row [Value.float .f64 d, Value.float .f64 s] true none, AObj.row (rowOf (half2 (fun i => [Value.complex .f64 (wTurn_0 (stX q i)) (wTurn_1 (stX q i))]) (fun x => [Value.complex .f64 0 0]) n) n) true none]) := Sim.of_roundQ (C := dLn4) dLn4_ok (X := []) (n := 3) (orc := [(2, Item.br false)]) (ks := [0, 1]) (mask := [true, true, true, false, false, false, true, true, true, true, false, false, false, false, false, false, false, false, false, false, false, false, false, false, false, false, false, false, false, true, true, false, false, false, false, false, false, false, false, false, false, false, false]) (ps := [(some (decide (iN n < iN n)) = some false)]) (L := 2) 2 stE_okX (by kernel_rfl) ⟨bP_of (fun x => x) (show (decide (iN n < iN n)) = false from decide_eq_false (by (try simp only [decide_eq_true_eq, decide_eq_false_iff_not] at *); (try simp only [iN_eq, Int.ofNat_eq_natCast] at *); try omega)), trivial⟩ hst (by kernel_rfl) (by kernel_rfl) (by kernel_rfl) (by decide) (by kernel_rfl) ⟨(by kernel_rfl : List.all _ plain = true), ⟨rowOf_all (half2_all (fun _ => rfl) (fun _ => rfl) _) _, trivial⟩⟩
def stHp (n d s q k : Nat) : AHeap := [.row [.float .f64 d, .float .f64 s] true none, .row (rowOf (half2 (fun i => [.complex .f64 (wTurn_0 (stX q i)) (wTurn_1 (stX q i))]) (fun _ => [.complex .f64 0 0]) k) n) true none]
theorem st_loop (n d s q : Nat) (hn : n ≤ 64) (hst : Stood false []) :
    Sim dLn4 2 (.loop (loopOf Try.f111 0)) (stFr n d s q (.slice (some ⟨1, 0, some 1⟩) n n) (.int .i64 (iN 0))) (stHp n d s q 0) (.exit 1) (stFr n d s q (.slice (some ⟨1, 0, some 1⟩) n n) (.int .i64 (iN n))) (stHp n d s q n) := by
  refine Sim.loop (fun k => (stFr n d s q (.slice (some ⟨1, 0, some 1⟩) n n) (.int .i64 (iN k)), stHp n d s q k)) n (fun k hk => ?_) ?_ rfl
  · exact (st_p0 n d s q k hk hn hst).cast (by kernel_rfl) (by kernel_rfl) (by kernel_rfl) (by kernel_rfl)
  · exact (stE_p0 n d s q hn hst).cast (by kernel_rfl) (by kernel_rfl) (by kernel_rfl) (by kernel_rfl)
theorem cSt_fok : fnOkX (dLn4) [] Try.f111 = true := by kernel_rfl
theorem cSt_p0 (n : Nat) (d : Nat) (s : Nat) (h1 : decide (iN n < Int.ofNat 1) = false) (h2 : decide (iN n > Int.ofNat 64) = false) (l0 : Stood false ([]) → Sim (dLn4) 2 (.loop (loopOf Try.f111 0)) ([Value.int .i64 (iN n), Value.float .f64 d, Value.float .f64 s, undef, undef, undef, Value.slice none 0 0, Value.int .i64 (Int.ofNat 0), Value.float .f64 (cStep_0 d s), Value.slice (some ⟨1, 0, some 1⟩) n n, undef, Value.bool (decide (iN n < 1)), Value.int .i64 (iN n), Value.bool (decide (iN n < 1)), Value.bool (decide (iN n > 64)), Value.int .i64 (iN n), Value.bool (decide (iN n > 64)), Value.bool false, Value.float .f64 d, Value.float .f64 s, Value.slice (some ⟨0, 0, some 1⟩) 2 2, Value.bool true, Value.bool false, Value.float .f64 d, Value.float .f64 s, Value.float .f64 (cStep_0 d s), Value.int .i64 (iN n), Value.slice (some ⟨1, 0, some 1⟩) n n, Value.slice (some ⟨1, 0, some 1⟩) n n, Value.int .i64 (iN n), Value.int .i64 (Int.ofNat 0), undef, undef, undef, undef, undef, undef, undef, undef, undef, undef, undef, undef]) ([AObj.row [Value.float .f64 d, Value.float .f64 s] true none, AObj.row (rowOf (fun i => [Value.complex .f64 0 0]) n) true none]) (Exit.exit 1) ([Value.int .i64 (iN n), Value.float .f64 d, Value.float .f64 s, undef, undef, undef, Value.slice none 0 0, Value.int .i64 (Int.ofNat 0), Value.float .f64 (cStep_0 d s), Value.slice (some ⟨1, 0, some 1⟩) n n, undef, undef, undef, undef, undef, undef, undef, undef, undef, undef, undef, undef, undef, undef, undef, undef, undef, undef, undef, Value.int .i64 (iN n), Value.int .i64 (iN n), undef, undef, undef, undef, undef, undef, undef, undef, undef, undef, undef, undef]) ([AObj.row [Value.float .f64 d, Value.float .f64 s] true none, AObj.row (rowOf (fun i => [Value.complex .f64 (wTurn_0 (stX (cStep_0 d s) i)) (wTurn_1 (stX (cStep_0 d s) i))]) n) true none])) (s0 : sFinN ([Value.slice (some ⟨0, 0, some 1⟩) 2 2]) ([AObj.row [Value.float .f64 d, Value.float .f64 s] true none]) = some (Value.bool true, [AObj.row [Value.float .f64 d, Value.float .f64 s] true none])) : CallR Try.prog false 111 ([Value.int .i64 (iN n), Value.float .f64 d, Value.float .f64 s]) ([]) (Value.tuple { toList := [Value.slice (some ⟨1, 0, some 1⟩) n n, Value.int .i64 (Int.ofNat 0)] }) ([AObj.row [Value.float .f64 d, Value.float .f64 s] true none, AObj.row (rowOf (fun i => [Value.complex .f64 (wTurn_0 (stX (cStep_0 d s) i)) (wTurn_1 (stX (cStep_0 d s) i))]) n) true none]) := CallR.of_DOXs (C := dLn4) dLn4_ok (X := []) Try.func111 cSt_fok (n := 3) (orc := [(10, Item.br false), (17, Item.br false), (25, Item.eff (Value.bool true) [AObj.row [Value.float .f64 d, Value.float .f64 s] true none]), (42, Item.eff (Value.slice (some ⟨1, 0, some 1⟩) n n) [AObj.row [Value.float .f64 d, Value.float .f64 s] true none, AObj.row (rowOf (fun i => [Value.complex .f64 0 0]) n) true none]), (51, Item.loop (Exit.exit 1) (stFr n d s (cStep_0 d s) (Value.slice (some ⟨1, 0, some 1⟩) n n) (Value.int .i64 (iN n))) [AObj.row [Value.float .f64 d, Value.float .f64 s] true none, AObj.row (rowOf (fun i => [Value.complex .f64 (wTurn_0 (stX (cStep_0 d s) i)) (wTurn_1 (stX (cStep_0 d s) i))]) n) true none])]) (ps := [(some (decide (iN n < 1)) = some false), (some (decide (iN n > 64)) = some false), (sFinN ([Value.slice (some ⟨0, 0, some 1⟩) 2 2]) ([AObj.row [Value.float .f64 d, Value.float .f64 s] true none]) = some (Value.bool true, [AObj.row [Value.float .f64 d, Value.float .f64 s] true none])), (aMake Try.prog ([AObj.row [Value.float .f64 d, Value.float .f64 s] true none]) 66 (.int IntKind.i64 (iN (n))) (.int IntKind.i64 (iN (n))) = some (Value.slice (some ⟨1, 0, some 1⟩) n n, [AObj.row [Value.float .f64 d, Value.float .f64 s] true none, AObj.row (rowOf (fun i => [Value.complex .f64 0 0]) n) true none])), (Sim (dLn4) 2 (.loop (loopOf Try.f111 0)) ([Value.int .i64 (iN n), Value.float .f64 d, Value.float .f64 s, undef, undef, undef, Value.slice none 0 0, Value.int .i64 (Int.ofNat 0), Value.float .f64 (cStep_0 d s), Value.slice (some ⟨1, 0, some 1⟩) n n, undef, Value.bool (decide (iN n < 1)), Value.int .i64 (iN n), Value.bool (decide (iN n < 1)), Value.bool (decide (iN n > 64)), Value.int .i64 (iN n), Value.bool (decide (iN n > 64)), Value.bool false, Value.float .f64 d, Value.float .f64 s, Value.slice (some ⟨0, 0, some 1⟩) 2 2, Value.bool true, Value.bool false, Value.float .f64 d, Value.float .f64 s, Value.float .f64 (cStep_0 d s), Value.int .i64 (iN n), Value.slice (some ⟨1, 0, some 1⟩) n n, Value.slice (some ⟨1, 0, some 1⟩) n n, Value.int .i64 (iN n), Value.int .i64 (Int.ofNat 0), undef, undef, undef, undef, undef, undef, undef, undef, undef, undef, undef, undef]) ([AObj.row [Value.float .f64 d, Value.float .f64 s] true none, AObj.row (rowOf (fun i => [Value.complex .f64 0 0]) n) true none]) (Exit.exit 1) ([Value.int .i64 (iN n), Value.float .f64 d, Value.float .f64 s, undef, undef, undef, Value.slice none 0 0, Value.int .i64 (Int.ofNat 0), Value.float .f64 (cStep_0 d s), Value.slice (some ⟨1, 0, some 1⟩) n n, undef, undef, undef, undef, undef, undef, undef, undef, undef, undef, undef, undef, undef, undef, undef, undef, undef, undef, undef, Value.int .i64 (iN n), Value.int .i64 (iN n), undef, undef, undef, undef, undef, undef, undef, undef, undef, undef, undef, undef]) ([AObj.row [Value.float .f64 d, Value.float .f64 s] true none, AObj.row (rowOf (fun i => [Value.complex .f64 (wTurn_0 (stX (cStep_0 d s) i)) (wTurn_1 (stX (cStep_0 d s) i))]) n) true none])), (List.length (α := AObj) ([AObj.row [Value.float .f64 d, Value.float .f64 s] true none, AObj.row (rowOf (fun i => [Value.complex .f64 0 0]) n) true none]) ≤ List.length ([AObj.row [Value.float .f64 d, Value.float .f64 s] true none, AObj.row (rowOf (fun i => [Value.complex .f64 (wTurn_0 (stX (cStep_0 d s) i)) (wTurn_1 (stX (cStep_0 d s) i))]) n) true none])), (Lk.Exit.isG (Exit.exit 1) = false)]) (by kernel_rfl) (fun hst => ⟨bP_of (fun x => x) (show (decide (iN n < 1)) = false from decide_eq_false (by (try simp only [decide_eq_true_eq, decide_eq_false_iff_not] at *); (try simp only [iN_eq, Int.ofNat_eq_natCast] at *); try omega)), ⟨bP_of (fun x => x) (show (decide (iN n > 64)) = false from decide_eq_false (by (try simp only [decide_eq_true_eq, decide_eq_false_iff_not] at *); (try simp only [iN_eq, Int.ofNat_eq_natCast] at *); try omega)), ⟨s0, ⟨make_row (zs := [Value.complex .f64 0 0]) (by kernel_rfl) (by kernel_rfl) (by kernel_rfl) (by (try simp only [decide_eq_true_eq, decide_eq_false_iff_not] at *); (try simp only [iN_eq, Int.ofNat_eq_natCast] at *); try omega) (by (try simp only [decide_eq_true_eq, decide_eq_false_iff_not] at *); (try simp only [iN_eq, Int.ofNat_eq_natCast] at *); try omega), ⟨l0 hst, Nat.le_of_ble_eq_true (by kernel_rfl), rfl, trivial⟩⟩⟩⟩⟩)
theorem cStE_fok : fnOkX (dLn4) [] Try.f111 = true := by kernel_rfl
theorem cStE_p0 (n : Int) (d : Nat) (s : Nat) (h1 : decide (n < Int.ofNat 1) = true) : CallR Try.prog false 111 ([Value.int .i64 n, Value.float .f64 d, Value.float .f64 s]) ([]) (Value.tuple { toList := [Value.slice none 0 0, Value.int .i64 (Int.ofNat 2)] }) ([]) := CallR.of_DOXs (C := dLn4) dLn4_ok (X := []) Try.func111 cStE_fok (n := 3) (orc := [(10, Item.br true)]) (ps := [(some (decide (n < 1)) = some true)]) (by kernel_rfl) (fun hst => ⟨bP_of (fun x => x) (show (decide (n < 1)) = true from decide_eq_true (by (try simp only [decide_eq_true_eq, decide_eq_false_iff_not] at *); (try simp only [iN_eq, Int.ofNat_eq_natCast] at *); try omega)), trivial⟩)
theorem cStF_fok : fnOkX (dLn4) [] Try.f111 = true := by kernel_rfl
theorem cStF_p0 (n : Int) (d : Nat) (s : Nat) (h1 : decide (n < Int.ofNat 1) = false) (h2 : decide (n > Int.ofNat 64) = true) : CallR Try.prog false 111 ([Value.int .i64 n, Value.float .f64 d, Value.float .f64 s]) ([]) (Value.tuple { toList := [Value.slice none 0 0, Value.int .i64 (Int.ofNat 3)] }) ([]) := CallR.of_DOXs (C := dLn4) dLn4_ok (X := []) Try.func111 cStF_fok (n := 3) (orc := [(10, Item.br false), (17, Item.br true)]) (ps := [(some (decide (n < 1)) = some false), (some (decide (n > 64)) = some true)]) (by kernel_rfl) (fun hst => ⟨bP_of (fun x => x) (show (decide (n < 1)) = false from decide_eq_false (by (try simp only [decide_eq_true_eq, decide_eq_false_iff_not] at *); (try simp only [iN_eq, Int.ofNat_eq_natCast] at *); try omega)), ⟨bP_of (fun x => x) (show (decide (n > 64)) = true from decide_eq_true (by (try simp only [decide_eq_true_eq, decide_eq_false_iff_not] at *); (try simp only [iN_eq, Int.ofNat_eq_natCast] at *); try omega)), trivial⟩⟩)
theorem cStG_fok : fnOkX (dLn4) [] Try.f111 = true := by kernel_rfl
theorem cStG_p0 (n : Int) (d : Nat) (s : Nat) (h1 : decide (n < Int.ofNat 1) = false) (h2 : decide (n > Int.ofNat 64) = false) (s0 : sFinN ([Value.slice (some ⟨0, 0, some 1⟩) 2 2]) ([AObj.row [Value.float .f64 d, Value.float .f64 s] true none]) = some (Value.bool false, [AObj.row [Value.float .f64 d, Value.float .f64 s] true none])) : CallR Try.prog false 111 ([Value.int .i64 n, Value.float .f64 d, Value.float .f64 s]) ([]) (Value.tuple { toList := [Value.slice none 0 0, Value.int .i64 (Int.ofNat 6)] }) ([AObj.row [Value.float .f64 d, Value.float .f64 s] true none]) := CallR.of_DOXs (C := dLn4) dLn4_ok (X := []) Try.func111 cStG_fok (n := 3) (orc := [(10, Item.br false), (17, Item.br false), (25, Item.eff (Value.bool false) [AObj.row [Value.float .f64 d, Value.float .f64 s] true none])]) (ps := [(some (decide (n < 1)) = some false), (some (decide (n > 64)) = some false), (sFinN ([Value.slice (some ⟨0, 0, some 1⟩) 2 2]) ([AObj.row [Value.float .f64 d, Value.float .f64 s] true none]) = some (Value.bool false, [AObj.row [Value.float .f64 d, Value.float .f64 s] true none]))]) (by kernel_rfl) (fun hst => ⟨bP_of (fun x => x) (show (decide (n < 1)) = false from decide_eq_false (by (try simp only [decide_eq_true_eq, decide_eq_false_iff_not] at *); (try simp only [iN_eq, Int.ofNat_eq_natCast] at *); try omega)), ⟨bP_of (fun x => x) (show (decide (n > 64)) = false from decide_eq_false (by (try simp only [decide_eq_true_eq, decide_eq_false_iff_not] at *); (try simp only [iN_eq, Int.ofNat_eq_natCast] at *); try omega)), ⟨s0, trivial⟩⟩⟩)
end Go.Lk
end

section
/- Wakes22: reckoned. -/
namespace Go.Lk
open Go.Proofs
set_option maxRecDepth 100000
noncomputable def LWakes22 : Lib := ⟨Try.prog, false, t1, [(55, Try.f55), (35, Try.f35), (51, Try.f51), (206, Try.f206), (181, Try.f181), (123, Try.f123), (32, Try.f32), (160, Try.f160), (207, Try.f207), (182, Try.f182), (125, Try.f125), (36, Try.f36), (201, Try.f201), (174, Try.f174), (122, Try.f122), (135, Try.f135), (184, Try.f184), (126, Try.f126), (38, Try.f38), (128, Try.f128), (159, Try.f159), (115, Try.f115), (193, Try.f193), (154, Try.f154), (194, Try.f194), (195, Try.f195), (155, Try.f155), (37, Try.f37), (212, Try.f212), (213, Try.f213), (202, Try.f202)], [(183, true, Try.f183), (211, false, Try.f211), (200, false, Try.f200), (173, false, Try.f173), (111, false, Try.f111), (146, true, Try.f146), (214, false, Try.f214), (203, false, Try.f203), (204, true, Try.f204), (176, false, Try.f176), (113, false, Try.f113), (119, false, Try.f119), (84, false, Try.f84), (192, true, Try.f192), (152, false, Try.f152), (153, false, Try.f153), (81, false, Try.f81), (175, false, Try.f175)]⟩
theorem LWakes22_fp : ∀ e, e ∈ LWakes22.pures → Try.prog.funcs[e.1]? = some e.2 := fs_cons Try.func55 (fs_cons Try.func35 (fs_cons Try.func51 (fs_cons Try.func206 (fs_cons Try.func181 (fs_cons Try.func123 (fs_cons Try.func32 (fs_cons Try.func160 (fs_cons Try.func207 (fs_cons Try.func182 (fs_cons Try.func125 (fs_cons Try.func36 (fs_cons Try.func201 (fs_cons Try.func174 (fs_cons Try.func122 (fs_cons Try.func135 (fs_cons Try.func184 (fs_cons Try.func126 (fs_cons Try.func38 (fs_cons Try.func128 (fs_cons Try.func159 (fs_cons Try.func115 (fs_cons Try.func193 (fs_cons Try.func154 (fs_cons Try.func194 (fs_cons Try.func195 (fs_cons Try.func155 (fs_cons Try.func37 (fs_cons Try.func212 (fs_cons Try.func213 (fs_cons Try.func202 (fs_nil)))))))))))))))))))))))))))))))
theorem LWakes22_fh : ∀ e, e ∈ LWakes22.heaps → Try.prog.funcs[e.1]? = some e.2.2 := gs_cons Try.func183 (gs_cons Try.func211 (gs_cons Try.func200 (gs_cons Try.func173 (gs_cons Try.func111 (gs_cons Try.func146 (gs_cons Try.func214 (gs_cons Try.func203 (gs_cons Try.func204 (gs_cons Try.func176 (gs_cons Try.func113 (gs_cons Try.func119 (gs_cons Try.func84 (gs_cons Try.func192 (gs_cons Try.func152 (gs_cons Try.func153 (gs_cons Try.func81 (gs_cons Try.func175 (gs_nil))))))))))))))))))
theorem LWakes22_p1 (gp : Nat → PureFn) (g : Nat → HeapFn) : (LWakes22.pures.all fun e => fnOk (LWakes22.mk' gp g) e.2) = true := by kernel_rfl
theorem LWakes22_h1 (gp : Nat → PureFn) (g : Nat → HeapFn) : (LWakes22.heaps.all fun e => fnOk (LWakes22.mk' gp g) e.2.2 && (!e.2.1 || fnRo (LWakes22.mk' gp g) e.2.2)) = true := by kernel_rfl
theorem LWakes22_ok : LWakes22.Ok := ⟨t1_ok, mixed, LWakes22_fp, LWakes22_fh, LWakes22_p1, LWakes22_h1⟩
theorem Wakes22_codeOk : (match Try.f112.body with | some b => codeOk (LWakes22.cfg 500 14) b | none => false) = true := by kernel_rfl
theorem Wakes22_run : ((DFn (LWakes22.cfg 500 14) 500 Try.f112 [] []).map fun x => x.1) = some (.bool true) := by kernel_rfl
theorem Wakes22_call : CallR Try.prog false 112 [] [] (.bool true) [] := by
  have h := Wakes22_run
  cases hd : DFn (LWakes22.cfg 500 14) 500 Try.f112 [] [] with
  | none => rw [hd] at h; cases h
  | some x =>
    obtain ⟨v, σ1⟩ := x
    rw [hd] at h
    simp only [Option.map_some, Option.some.injEq] at h
    subst h
    exact CallR.of_DFn_nil (LWakes22_ok.cfg 500 14) Try.func112 Wakes22_codeOk (by kernel_rfl) hd rfl
def sWakes22 : PureFn
  | [] => some (.bool true)
  | _ => none
theorem sWakes22_ok : IsPure Try.prog false 112 sWakes22 := by
  intro args v σ h
  unfold sWakes22 at h
  split at h
  · cases h
    exact CallR.frameQ (r := fun k => k + σ.length) (args0 := []) (σ0 := []) ⟨fun k o hk => by simp at hk, fun k hk => by omega⟩ rfl Wakes22_call rfl
  · cases h
end Go.Lk
end

section
/- Steer, by itself: its contract. -/
namespace Go.Lk
open Go.Proofs
set_option maxRecDepth 100000
set_option maxHeartbeats 0
set_option linter.unusedVariables false
set_option linter.unusedSimpArgs false
def chNil (c : Int) : Value := .tuple #[.slice none 0 0, .int .i64 c]
def chOk (L n z : Nat) : Value := .tuple #[.slice (some ⟨L, 0, some z⟩) n n, .int .i64 0]
def sCh3 (fin : Nat → Nat → Bool) (z : Nat) (opn : Option Nat) (row : Nat → Nat → Nat → List Value) : HeapFn
  | [.int .i64 n, .float .f64 d, .float .f64 s], σ =>
    bif decide (n < 1) then some (chNil 2, σ) else bif decide (n > 64) then some (chNil 3, σ) else
      bif fin d s then some (chOk σ.length n.toNat z, σ ++ [.row (row n.toNat d s) true opn]) else some (chNil 6, σ)
  | _, _ => none
theorem sCh3_is {f : Nat} {fin : Nat → Nat → Bool} {z : Nat} {opn : Option Nat} {row : Nat → Nat → Nat → List Value} (hp : ∀ n d s, (row n d s).all plain = true)
    (hE : ∀ (n : Int) (d s : Nat), decide (n < 1) = true → CallR Try.prog false f [.int .i64 n, .float .f64 d, .float .f64 s] [] (chNil 2) [])
    (hF : ∀ (n : Int) (d s : Nat), decide (n < 1) = false → decide (n > 64) = true → CallR Try.prog false f [.int .i64 n, .float .f64 d, .float .f64 s] [] (chNil 3) [])
    (hG : ∀ (n : Int) (d s : Nat), decide (n < 1) = false → decide (n > 64) = false → fin d s = false → ∃ σ', CallR Try.prog false f [.int .i64 n, .float .f64 d, .float .f64 s] [] (chNil 6) σ')
    (hC : ∀ (n d s : Nat), 0 < n → n ≤ 64 → fin d s = true → ∃ L σ1, σ1[L]? = some (.row (row n d s) true opn) ∧ CallR Try.prog false f [.int .i64 (iN n), .float .f64 d, .float .f64 s] [] (chOk L n z) σ1) : IsHeap Try.prog false f false (sCh3 fin z opn row) := by
  have hnil : ∀ {n : Int} {d s : Nat} {c : Int} {σ σ1 : AHeap}, CallR Try.prog false f [.int .i64 n, .float .f64 d, .float .f64 s] [] (chNil c) σ1 → CallR Try.prog false f [.int .i64 n, .float .f64 d, .float .f64 s] σ (chNil c) σ := by
    intro n d s c σ σ1 h
    exact CallR.frameQ (r := fun k => k + σ.length) (args0 := [.int .i64 n, .float .f64 d, .float .f64 s]) (σ0 := []) ⟨fun k o hk => by simp at hk, fun k hk => by omega⟩ rfl h rfl
  refine ⟨fun args σ v σ' h => ?_, (by intro h; cases h), fun args σ v σ' h => ?_⟩
  · unfold sCh3 at h
    split at h
    · rename_i n d s
      cases h1 : decide (n < 1)
      · rw [h1] at h
        cases h2 : decide (n > 64)
        · rw [h2] at h
          cases h3 : fin d s
          · rw [h3] at h
            simp only [cond_false, Option.some.injEq, Prod.mk.injEq] at h
            obtain ⟨rfl, rfl⟩ := h
            obtain ⟨σ1, hg⟩ := hG n d s h1 h2 h3
            exact hnil hg
          · rw [h3] at h
            simp only [cond_false, cond_true, Option.some.injEq, Prod.mk.injEq] at h
            obtain ⟨rfl, rfl⟩ := h
            have g1 := of_decide_eq_false h1
            have g2 := of_decide_eq_false h2
            obtain ⟨L, σ1, hL, hc⟩ := hC n.toNat d s (by omega) (by omega) h3
            have e : iN n.toNat = n := by rw [iN_eq]; omega
            rw [e] at hc
            exact CallR.frameN (r := fun k => k + σ.length) (q := fun k => if k = σ.length then L else k + σ1.length) (args0 := [.int .i64 n, .float .f64 d, .float .f64 s]) (σ0 := []) ⟨fun k o hk => by simp at hk, fun k hk => by omega⟩ rfl hc (k := L) hL (hp _ _ _) (fun _ => rfl) (by simp [chOk, renV])
        · rw [h2] at h
          simp only [cond_false, cond_true, Option.some.injEq, Prod.mk.injEq] at h
          obtain ⟨rfl, rfl⟩ := h
          exact hnil (hF n d s h1 h2)
      · rw [h1] at h
        simp only [cond_true, Option.some.injEq, Prod.mk.injEq] at h
        obtain ⟨rfl, rfl⟩ := h
        exact hnil (hE n d s h1)
    · cases h
  · unfold sCh3 at h
    split at h
    · rename_i n d s
      revert h
      cases decide (n < 1) <;> cases decide (n > 64) <;> cases fin d s <;> simp only [cond_false, cond_true, Option.some.injEq, Prod.mk.injEq] <;> rintro ⟨_, rfl⟩ <;> simp
    · cases h
def wSt (n d s : Nat) : List Value := (rowOf (fun i => [.complex .f64 (wTurn_0 (stX (cStep_0 d s) i)) (wTurn_1 (stX (cStep_0 d s) i))]) n)
def stFin (d s : Nat) : Bool := feq (fsub d d) 0 && feq (fsub s s) 0
theorem two_fin (d s : Nat) : sFinN [.slice (some ⟨0, 0, some 1⟩) 2 2] [.row [.float .f64 d, .float .f64 s] true none] = some (.bool (stFin d s), [.row [.float .f64 d, .float .f64 s] true none]) := by
  have h := sFinN_row (b := 0) (m := 2) (cap := 2) (M := 2) (x := fun i => if i = 0 then d else s) (rw' := true) (opn := none) (σ := [.row [.float .f64 d, .float .f64 s] true none]) rfl (Nat.le_refl 2) (by decide)
  rw [h]
  have e : (!nBad (fun i => if i = 0 then d else s) 2) = stFin d s := by
    unfold nBad nIdx nIdx nIdx stFin cNf_0
    rw [if_pos rfl, if_neg (by decide : ¬ (1 = 0))]
    cases feq (fsub d d) 0 <;> cases feq (fsub s s) 0 <;> rfl
  rw [e]
theorem st_call (n d s : Nat) (h1 : 0 < n) (h2 : n ≤ 64) (h3 : stFin d s = true) : ∃ L σ1, σ1[L]? = some (.row (wSt n d s) true none) ∧ CallR Try.prog false 111 [.int .i64 (iN n), .float .f64 d, .float .f64 s] [] (chOk L n 1) σ1 :=
  ⟨1, _, rfl, cSt_p0 n d s (decide_eq_false (by rw [iN_eq, Int.ofNat_eq_natCast]; omega)) (decide_eq_false (by rw [iN_eq, Int.ofNat_eq_natCast]; omega)) (fun hst => by
    have h := st_loop n d s (cStep_0 d s) h2 hst
    unfold stHp at h
    rw [half2_zero, half2_full] at h
    exact h.enter ([true, true, true, false, false, false, true, true, true, true] ++ List.replicate 19 false ++ [true, true] ++ List.replicate 12 false) (by kernel_rfl)) (by rw [two_fin, h3])⟩
def sSteer : HeapFn := sCh3 stFin 1 none wSt
theorem sSteer_ok : IsHeap Try.prog false 111 false sSteer := sCh3_is (fun n d s => rowOf_all (fun _ => rfl) _) cStE_p0 cStF_p0 (fun n d s h1 h2 h3 => ⟨_, cStG_p0 n d s h1 h2 (by rw [two_fin, h3])⟩) st_call
noncomputable def tsv : Tab := (n4.addH 111 false sSteer).addP 112 sWakes22
theorem tsv_ok : tsv.Ok Try.prog false := Tab.Ok.addP (Tab.Ok.addH n4_ok sSteer_ok) sWakes22_ok
end Go.Lk
end

section
/- A call that is shown by itself, as an entry of a table. -/
namespace Go.Lk
open Go.Proofs
noncomputable def oneF (f : Nat) (A : List Value) (H : AHeap) (V : Value) (H' : AHeap) : HeapFn := fun args σ =>
  open Classical in if args = A ∧ σ = H ∧ CallR Try.prog false f A H V H' ∧ H.length ≤ H'.length then some (V, H') else none
theorem oneF_ok (f : Nat) (A : List Value) (H : AHeap) (V : Value) (H' : AHeap) : IsHeap Try.prog false f false (oneF f A H V H') := by
  have key : ∀ args σ v σ', oneF f A H V H' args σ = some (v, σ') → CallR Try.prog false f args σ v σ' ∧ σ.length ≤ σ'.length := by
    intro args σ v σ' h
    unfold oneF at h
    split at h
    · rename_i hc
      obtain ⟨rfl, rfl, h1, h2⟩ := hc
      cases h; exact ⟨h1, h2⟩
    · cases h
  exact ⟨fun _ _ _ _ h => (key _ _ _ _ h).1, (by intro h; cases h), fun _ _ _ _ h => (key _ _ _ _ h).2⟩
theorem oneF_at {f : Nat} {A : List Value} {H : AHeap} {V : Value} {H' : AHeap} (h : CallR Try.prog false f A H V H') (hl : H.length ≤ H'.length) : oneF f A H V H' A H = some (V, H') := by
  unfold oneF
  rw [if_pos ⟨rfl, rfl, h, hl⟩]
end Go.Lk
end
