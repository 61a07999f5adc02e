import Derived.Test.YtmomainjlncogaaPe8
import Derived.Test.YtmomainjlncogaaPe4
import Derived.Test.YtmomainjlncogaaPe5
import Derived.Test.YtmomainjlncogaaPe7
section
/- Frank's squares. -/
namespace Go.Lk
open Go.Proofs
set_option maxRecDepth 100000
set_option maxHeartbeats 0
set_option linter.unusedVariables false
set_option linter.unusedSimpArgs false
def fwF (m : Nat) (acc i t23 t24 t27 j : Value) : List Value := [.int .i64 (iN m), undef, .slice none 0 0, .int .i64 0, acc, i, undef] ++ List.replicate 16 undef ++ [t23, t24, undef, undef, t27, j] ++ List.replicate 13 undef
theorem fwA_okX : codeOkX (dLCh) [] (loopOf Try.f76 1) = true := by kernel_rfl
theorem fwA_p0 (m : Nat) (i : Nat) (j : Nat) (hm : m ≤ 128) (hi : i < m) (hj : j < m) (hij : i * j ≤ 16384) (hs : m * i + j < m * m) (hN : m * m ≤ 16384) (hst : Stood false ([])) : Sim (dLCh) 1 (loopOf Try.f76 1) ((fwF m (.slice (some ⟨0, 0, some 1⟩) (m * i + j) (m * m)) (.int .i64 (iN i)) (.int .i64 (iN m)) (.int .i64 (iN i)) (.int .i64 (iN m)) (.int .i64 (iN j)))) ([.row (rowOf (half2 (nestR m (fun i j => [.complex .f64 (wUnit_0 (iN (i * j)) (iN m)) (wUnit_1 (iN (i * j)) (iN m))])) (fun _ => [.complex .f64 0 0]) (m * i + j)) (m * m)) true none]) .normal ([Value.int .i64 (iN m), undef, Value.slice none 0 0, Value.int .i64 (Int.ofNat 0), Value.slice (some ⟨0, 0, some 1⟩) (m * i + j + 1) (m * m), Value.int .i64 (iN i), undef, undef, undef, undef, undef, undef, undef, undef, undef, undef, undef, undef, undef, undef, undef, undef, undef, Value.int .i64 (iN m), Value.int .i64 (iN i), undef, undef, Value.int .i64 (iN m), Value.int .i64 (iN (j + 1)), undef, undef, undef, undef, undef, undef, undef, undef, undef, undef, undef, undef, undef]) ([AObj.row (rowOf (half2 (nestR m fun i j => [Value.complex .f64 (wUnit_0 (iN (i * j)) (iN m)) (wUnit_1 (iN (i * j)) (iN m))]) (fun x => [Value.complex .f64 0 0]) (m * i + j + 1)) (m * m)) true none]) := Sim.of_roundQ (C := dLCh) dLCh_ok (X := []) (n := 3) (orc := [(2, Item.br true), (14, Item.res (Value.int .i64 (iN (i * j)))), (22, Item.eff (Value.slice (some ⟨0, 0, some 1⟩) (m * i + j + 1) (m * m)) [AObj.row (rowOf (half2 (nestR m fun i j => [Value.complex .f64 (wUnit_0 (iN (i * j)) (iN m)) (wUnit_1 (iN (i * j)) (iN m))]) (fun x => [Value.complex .f64 0 0]) (m * i + j + 1)) (m * m)) true none, AObj.row [Value.complex .f64 (wUnit_0 (iN (i * j)) (iN m)) (wUnit_1 (iN (i * j)) (iN m))] true none]), (26, Item.res (Value.int .i64 (iN (j + 1))))]) (ks := [0]) (mask := [true, false, true, true, true, true, false, false, false, false, false, false, false, false, false, false, false, false, false, false, false, false, false, true, true, false, false, true, true, false, false, false, false, false, false, false, false, false, false, false, false, false]) (ps := [(some (decide (iN j < iN m)) = some true), (wF IntKind.i64 (iN i * iN j) ([AObj.row (rowOf (half2 (nestR m fun i j => [Value.complex .f64 (wUnit_0 (iN (i * j)) (iN m)) (wUnit_1 (iN (i * j)) (iN m))]) (fun x => [Value.complex .f64 0 0]) (m * i + j)) (m * m)) true none]) = some (.int IntKind.i64 (iN (i * j)), [AObj.row (rowOf (half2 (nestR m fun i j => [Value.complex .f64 (wUnit_0 (iN (i * j)) (iN m)) (wUnit_1 (iN (i * j)) (iN m))]) (fun x => [Value.complex .f64 0 0]) (m * i + j)) (m * m)) true none])), (aAppend Try.prog ([AObj.row (rowOf (half2 (nestR m fun i j => [Value.complex .f64 (wUnit_0 (iN (i * j)) (iN m)) (wUnit_1 (iN (i * j)) (iN m))]) (fun x => [Value.complex .f64 0 0]) (m * i + j)) (m * m)) true none, AObj.row [Value.complex .f64 (wUnit_0 (iN (i * j)) (iN m)) (wUnit_1 (iN (i * j)) (iN m))] true none]) [66, 66] [Value.slice (some ⟨0, 0, some 1⟩) (m * i + j) (m * m), Value.slice (some { block := [AObj.row (rowOf (half2 (nestR m fun i j => [Value.complex .f64 (wUnit_0 (iN (i * j)) (iN m)) (wUnit_1 (iN (i * j)) (iN m))]) (fun x => [Value.complex .f64 0 0]) (m * i + j)) (m * m)) true none].length, off := 0, spot := some 1 }) 1 1] = some (Value.slice (some ⟨0, 0, some 1⟩) (m * i + j + 1) (m * m), [AObj.row (rowOf (half2 (nestR m fun i j => [Value.complex .f64 (wUnit_0 (iN (i * j)) (iN m)) (wUnit_1 (iN (i * j)) (iN m))]) (fun x => [Value.complex .f64 0 0]) (m * i + j + 1)) (m * m)) true none, AObj.row [Value.complex .f64 (wUnit_0 (iN (i * j)) (iN m)) (wUnit_1 (iN (i * j)) (iN m))] true none])), (wF IntKind.i64 (iN j + 1) ([AObj.row (rowOf (half2 (nestR m fun i j => [Value.complex .f64 (wUnit_0 (iN (i * j)) (iN m)) (wUnit_1 (iN (i * j)) (iN m))]) (fun x => [Value.complex .f64 0 0]) (m * i + j + 1)) (m * m)) true none, AObj.row [Value.complex .f64 (wUnit_0 (iN (i * j)) (iN m)) (wUnit_1 (iN (i * j)) (iN m))] true none]) = some (.int IntKind.i64 (iN (j + 1)), [AObj.row (rowOf (half2 (nestR m fun i j => [Value.complex .f64 (wUnit_0 (iN (i * j)) (iN m)) (wUnit_1 (iN (i * j)) (iN m))]) (fun x => [Value.complex .f64 0 0]) (m * i + j + 1)) (m * m)) true none, AObj.row [Value.complex .f64 (wUnit_0 (iN (i * j)) (iN m)) (wUnit_1 (iN (i * j)) (iN m))] true none]))]) (L := 2) 1 fwA_okX (by kernel_rfl) ⟨bP_of (fun x => x) (show (decide (iN j < iN m)) = true from decide_eq_true (by (try simp only [decide_eq_true_eq, decide_eq_false_iff_not] at *); (try simp only [iN_eq, Int.ofNat_eq_natCast] at *); omega)), ⟨wF_ok _ (by (try simp only [decide_eq_true_eq, decide_eq_false_iff_not] at *); (try simp only [iN_eq, Int.ofNat_eq_natCast] at *); omega) (by (try simp only [decide_eq_true_eq, decide_eq_false_iff_not] at *); (try simp only [iN_eq, Int.ofNat_eq_natCast] at *); omega), ⟨append_room (F := nestR m fun i j => [Value.complex .f64 (wUnit_0 (iN (i * j)) (iN m)) (wUnit_1 (iN (i * j)) (iN m))]) (Z := fun x => [Value.complex .f64 0 0]) (k := m * i + j) (by kernel_rfl) rfl (nest_hx (by omega) (by kernel_rfl)) rfl (fun _ => rfl) (fun _ => rfl) (by kernel_rfl) (by (try simp only [decide_eq_true_eq, decide_eq_false_iff_not] at *); (try simp only [iN_eq, Int.ofNat_eq_natCast] at *); omega) (by decide), ⟨wF_ok _ (by (try simp only [decide_eq_true_eq, decide_eq_false_iff_not] at *); (try simp only [iN_eq, Int.ofNat_eq_natCast] at *); omega) (by (try simp only [decide_eq_true_eq, decide_eq_false_iff_not] at *); (try simp only [iN_eq, Int.ofNat_eq_natCast] at *); omega), trivial⟩⟩⟩⟩ hst (by kernel_rfl) (by kernel_rfl) (by kernel_rfl) (by decide) (by kernel_rfl) ⟨rowOf_all (half2_all (fun _ => rfl) (fun _ => rfl) _) _, trivial⟩
theorem fwAE_okX : codeOkX (dLCh) [] (loopOf Try.f76 1) = true := by kernel_rfl
theorem fwAE_p0 (m : Nat) (i : Nat) (s : Nat) (hm : m ≤ 128) (hst : Stood false ([])) : Sim (dLCh) 1 (loopOf Try.f76 1) ((fwF m (.slice (some ⟨0, 0, some 1⟩) s (m * m)) (.int .i64 (iN i)) (.int .i64 (iN m)) (.int .i64 (iN i)) (.int .i64 (iN m)) (.int .i64 (iN m)))) ([.row (rowOf (half2 (nestR m (fun i j => [.complex .f64 (wUnit_0 (iN (i * j)) (iN m)) (wUnit_1 (iN (i * j)) (iN m))])) (fun _ => [.complex .f64 0 0]) s) (m * m)) true none]) (.exit 3) ([Value.int .i64 (iN m), undef, Value.slice none 0 0, Value.int .i64 (Int.ofNat 0), Value.slice (some ⟨0, 0, some 1⟩) s (m * m), Value.int .i64 (iN i), undef, undef, undef, undef, undef, undef, undef, undef, undef, undef, undef, undef, undef, undef, undef, undef, undef, Value.int .i64 (iN m), Value.int .i64 (iN i), undef, undef, Value.int .i64 (iN m), Value.int .i64 (iN m), undef, undef, undef, undef, undef, undef, undef, undef, undef, undef, undef, undef, undef]) ([AObj.row (rowOf (half2 (nestR m fun i j => [Value.complex .f64 (wUnit_0 (iN (i * j)) (iN m)) (wUnit_1 (iN (i * j)) (iN m))]) (fun x => [Value.complex .f64 0 0]) s) (m * m)) true none]) := Sim.of_roundQ (C := dLCh) dLCh_ok (X := []) (n := 3) (orc := [(2, Item.br false)]) (ks := [0]) (mask := [true, false, true, true, true, true, false, false, false, false, false, false, false, false, false, false, false, false, false, false, false, false, false, true, true, false, false, true, true, false, false, false, false, false, false, false, false, false, false, false, false, false]) (ps := [(some (decide (iN m < iN m)) = some false)]) (L := 1) 1 fwAE_okX (by kernel_rfl) ⟨bP_of (fun x => x) (show (decide (iN m < iN m)) = false from decide_eq_false (by (try simp only [decide_eq_true_eq, decide_eq_false_iff_not] at *); (try simp only [iN_eq, Int.ofNat_eq_natCast] at *); omega)), trivial⟩ hst (by kernel_rfl) (by kernel_rfl) (by kernel_rfl) (by decide) (by kernel_rfl) ⟨rowOf_all (half2_all (fun _ => rfl) (fun _ => rfl) _) _, trivial⟩
theorem fwO_okX : codeOkX (dLCh) [] (loopOf Try.f76 0) = true := by kernel_rfl
theorem fwO_p0 (m : Nat) (i : Nat) (hm : m ≤ 128) (hi : i < m) (l1 : Stood false ([]) → Sim (dLCh) 1 (.loop (loopOf Try.f76 1)) ([Value.int .i64 (iN m), Value.tuple { toList := [] }, Value.slice none 0 0, Value.int .i64 (Int.ofNat 0), Value.slice (some ⟨0, 0, some 1⟩) (m * i) (m * m), Value.int .i64 (iN i), Value.tuple { toList := [] }, Value.tuple { toList := [] }, Value.tuple { toList := [] }, Value.tuple { toList := [] }, Value.tuple { toList := [] }, Value.tuple { toList := [] }, Value.tuple { toList := [] }, Value.tuple { toList := [] }, Value.tuple { toList := [] }, Value.tuple { toList := [] }, Value.tuple { toList := [] }, Value.tuple { toList := [] }, Value.tuple { toList := [] }, Value.tuple { toList := [] }, Value.tuple { toList := [] }, Value.tuple { toList := [] }, Value.tuple { toList := [] }, Value.int .i64 (iN m), Value.int .i64 (iN i), Value.bool (decide (iN i < iN m)), Value.int .i64 (iN i), Value.int .i64 (iN m), Value.int .i64 (Int.ofNat 0), Value.tuple { toList := [] }, Value.tuple { toList := [] }, Value.tuple { toList := [] }, Value.tuple { toList := [] }, Value.tuple { toList := [] }, Value.tuple { toList := [] }, Value.tuple { toList := [] }, Value.tuple { toList := [] }, Value.tuple { toList := [] }, Value.tuple { toList := [] }, Value.tuple { toList := [] }, Value.tuple { toList := [] }, Value.tuple { toList := [] }]) ([AObj.row (rowOf (half2 (nestR m fun i j => [Value.complex .f64 (wUnit_0 (iN (i * j)) (iN m)) (wUnit_1 (iN (i * j)) (iN m))]) (fun x => [Value.complex .f64 0 0]) (m * i)) (m * m)) true none]) (Exit.exit 3) ([Value.int .i64 (iN m), Value.tuple { toList := [] }, Value.slice none 0 0, Value.int .i64 (Int.ofNat 0), Value.slice (some ⟨0, 0, some 1⟩) (m * i + m) (m * m), Value.int .i64 (iN i), Value.tuple { toList := [] }, Value.tuple { toList := [] }, Value.tuple { toList := [] }, Value.tuple { toList := [] }, Value.tuple { toList := [] }, Value.tuple { toList := [] }, Value.tuple { toList := [] }, Value.tuple { toList := [] }, Value.tuple { toList := [] }, Value.tuple { toList := [] }, Value.tuple { toList := [] }, Value.tuple { toList := [] }, Value.tuple { toList := [] }, Value.tuple { toList := [] }, Value.tuple { toList := [] }, Value.tuple { toList := [] }, Value.tuple { toList := [] }, Value.int .i64 (iN m), Value.int .i64 (iN i), Value.tuple { toList := [] }, Value.tuple { toList := [] }, Value.int .i64 (iN m), Value.int .i64 (iN m), Value.tuple { toList := [] }, Value.tuple { toList := [] }, Value.tuple { toList := [] }, Value.tuple { toList := [] }, Value.tuple { toList := [] }, Value.tuple { toList := [] }, Value.tuple { toList := [] }, Value.tuple { toList := [] }, Value.tuple { toList := [] }, Value.tuple { toList := [] }, Value.tuple { toList := [] }, Value.tuple { toList := [] }, Value.tuple { toList := [] }]) ([AObj.row (rowOf (half2 (nestR m fun i j => [Value.complex .f64 (wUnit_0 (iN (i * j)) (iN m)) (wUnit_1 (iN (i * j)) (iN m))]) (fun x => [Value.complex .f64 0 0]) (m * i + m)) (m * m)) true none])) (hst : Stood false ([])) : Sim (dLCh) 1 (loopOf Try.f76 0) ((fwF m (.slice (some ⟨0, 0, some 1⟩) (m * i) (m * m)) undef (.int .i64 (iN m)) (.int .i64 (iN i)) undef undef)) ([.row (rowOf (half2 (nestR m (fun i j => [.complex .f64 (wUnit_0 (iN (i * j)) (iN m)) (wUnit_1 (iN (i * j)) (iN m))])) (fun _ => [.complex .f64 0 0]) (m * i)) (m * m)) true none]) .normal ([Value.int .i64 (iN m), undef, Value.slice none 0 0, Value.int .i64 (Int.ofNat 0), Value.slice (some ⟨0, 0, some 1⟩) (m * i + m) (m * m), undef, undef, undef, undef, undef, undef, undef, undef, undef, undef, undef, undef, undef, undef, undef, undef, undef, undef, Value.int .i64 (iN m), Value.int .i64 (iN (i + 1)), undef, undef, undef, undef, undef, undef, undef, undef, undef, undef, undef, undef, undef, undef, undef, undef, undef]) ([AObj.row (rowOf (half2 (nestR m fun i j => [Value.complex .f64 (wUnit_0 (iN (i * j)) (iN m)) (wUnit_1 (iN (i * j)) (iN m))]) (fun x => [Value.complex .f64 0 0]) (m * i + m)) (m * m)) true none]) := Sim.of_roundQ (C := dLCh) dLCh_ok (X := []) (n := 3) (orc := [(2, Item.br true), (11, Item.loop (Exit.exit 3) (fwF m (Value.slice (some ⟨0, 0, some 1⟩) (m * i + m) (m * m)) (Value.int .i64 (iN i)) (Value.int .i64 (iN m)) (Value.int .i64 (iN i)) (Value.int .i64 (iN m)) (Value.int .i64 (iN m))) [AObj.row (rowOf (half2 (nestR m fun i j => [Value.complex .f64 (wUnit_0 (iN (i * j)) (iN m)) (wUnit_1 (iN (i * j)) (iN m))]) (fun x => [Value.complex .f64 0 0]) (m * i + m)) (m * m)) true none]), (13, Item.res (Value.int .i64 (iN (i + 1))))]) (ks := [0]) (mask := [true, false, true, true, true, false, false, false, false, false, false, false, false, false, false, false, false, false, false, false, false, false, false, true, true, false, false, false, false, false, false, false, false, false, false, false, false, false, false, false, false, false]) (ps := [(some (decide (iN i < iN m)) = some true), (Sim (dLCh) 1 (.loop (loopOf Try.f76 1)) ([Value.int .i64 (iN m), Value.tuple { toList := [] }, Value.slice none 0 0, Value.int .i64 (Int.ofNat 0), Value.slice (some ⟨0, 0, some 1⟩) (m * i) (m * m), Value.int .i64 (iN i), Value.tuple { toList := [] }, Value.tuple { toList := [] }, Value.tuple { toList := [] }, Value.tuple { toList := [] }, Value.tuple { toList := [] }, Value.tuple { toList := [] }, Value.tuple { toList := [] }, Value.tuple { toList := [] }, Value.tuple { toList := [] }, Value.tuple { toList := [] }, Value.tuple { toList := [] }, Value.tuple { toList := [] }, Value.tuple { toList := [] }, Value.tuple { toList := [] }, Value.tuple { toList := [] }, Value.tuple { toList := [] }, Value.tuple { toList := [] }, Value.int .i64 (iN m), Value.int .i64 (iN i), Value.bool (decide (iN i < iN m)), Value.int .i64 (iN i), Value.int .i64 (iN m), Value.int .i64 (Int.ofNat 0), Value.tuple { toList := [] }, Value.tuple { toList := [] }, Value.tuple { toList := [] }, Value.tuple { toList := [] }, Value.tuple { toList := [] }, Value.tuple { toList := [] }, Value.tuple { toList := [] }, Value.tuple { toList := [] }, Value.tuple { toList := [] }, Value.tuple { toList := [] }, Value.tuple { toList := [] }, Value.tuple { toList := [] }, Value.tuple { toList := [] }]) ([AObj.row (rowOf (half2 (nestR m fun i j => [Value.complex .f64 (wUnit_0 (iN (i * j)) (iN m)) (wUnit_1 (iN (i * j)) (iN m))]) (fun x => [Value.complex .f64 0 0]) (m * i)) (m * m)) true none]) (Exit.exit 3) ([Value.int .i64 (iN m), Value.tuple { toList := [] }, Value.slice none 0 0, Value.int .i64 (Int.ofNat 0), Value.slice (some ⟨0, 0, some 1⟩) (m * i + m) (m * m), Value.int .i64 (iN i), Value.tuple { toList := [] }, Value.tuple { toList := [] }, Value.tuple { toList := [] }, Value.tuple { toList := [] }, Value.tuple { toList := [] }, Value.tuple { toList := [] }, Value.tuple { toList := [] }, Value.tuple { toList := [] }, Value.tuple { toList := [] }, Value.tuple { toList := [] }, Value.tuple { toList := [] }, Value.tuple { toList := [] }, Value.tuple { toList := [] }, Value.tuple { toList := [] }, Value.tuple { toList := [] }, Value.tuple { toList := [] }, Value.tuple { toList := [] }, Value.int .i64 (iN m), Value.int .i64 (iN i), Value.tuple { toList := [] }, Value.tuple { toList := [] }, Value.int .i64 (iN m), Value.int .i64 (iN m), Value.tuple { toList := [] }, Value.tuple { toList := [] }, Value.tuple { toList := [] }, Value.tuple { toList := [] }, Value.tuple { toList := [] }, Value.tuple { toList := [] }, Value.tuple { toList := [] }, Value.tuple { toList := [] }, Value.tuple { toList := [] }, Value.tuple { toList := [] }, Value.tuple { toList := [] }, Value.tuple { toList := [] }, Value.tuple { toList := [] }]) ([AObj.row (rowOf (half2 (nestR m fun i j => [Value.complex .f64 (wUnit_0 (iN (i * j)) (iN m)) (wUnit_1 (iN (i * j)) (iN m))]) (fun x => [Value.complex .f64 0 0]) (m * i + m)) (m * m)) true none])), (List.length (α := AObj) ([AObj.row (rowOf (half2 (nestR m fun i j => [Value.complex .f64 (wUnit_0 (iN (i * j)) (iN m)) (wUnit_1 (iN (i * j)) (iN m))]) (fun x => [Value.complex .f64 0 0]) (m * i)) (m * m)) true none]) ≤ List.length ([AObj.row (rowOf (half2 (nestR m fun i j => [Value.complex .f64 (wUnit_0 (iN (i * j)) (iN m)) (wUnit_1 (iN (i * j)) (iN m))]) (fun x => [Value.complex .f64 0 0]) (m * i + m)) (m * m)) true none])), (Lk.Exit.isG (Exit.exit 3) = false), (wF IntKind.i64 (iN i + 1) ([AObj.row (rowOf (half2 (nestR m fun i j => [Value.complex .f64 (wUnit_0 (iN (i * j)) (iN m)) (wUnit_1 (iN (i * j)) (iN m))]) (fun x => [Value.complex .f64 0 0]) (m * i + m)) (m * m)) true none]) = some (.int IntKind.i64 (iN (i + 1)), [AObj.row (rowOf (half2 (nestR m fun i j => [Value.complex .f64 (wUnit_0 (iN (i * j)) (iN m)) (wUnit_1 (iN (i * j)) (iN m))]) (fun x => [Value.complex .f64 0 0]) (m * i + m)) (m * m)) true none]))]) (L := 1) 1 fwO_okX (by kernel_rfl) ⟨bP_of (fun x => x) (show (decide (iN i < iN m)) = true from decide_eq_true (by (try simp only [decide_eq_true_eq, decide_eq_false_iff_not] at *); (try simp only [iN_eq, Int.ofNat_eq_natCast] at *); omega)), ⟨l1 hst, Nat.le_of_ble_eq_true (by kernel_rfl), rfl, ⟨wF_ok _ (by (try simp only [decide_eq_true_eq, decide_eq_false_iff_not] at *); (try simp only [iN_eq, Int.ofNat_eq_natCast] at *); omega) (by (try simp only [decide_eq_true_eq, decide_eq_false_iff_not] at *); (try simp only [iN_eq, Int.ofNat_eq_natCast] at *); omega), trivial⟩⟩⟩ hst (by kernel_rfl) (by kernel_rfl) (by kernel_rfl) (by decide) (by kernel_rfl) ⟨rowOf_all (half2_all (fun _ => rfl) (fun _ => rfl) _) _, trivial⟩
theorem fwOE_okX : codeOkX (dLCh) [] (loopOf Try.f76 0) = true := by kernel_rfl
theorem fwOE_p0 (m : Nat) (s : Nat) (hm : m ≤ 128) (hst : Stood false ([])) : Sim (dLCh) 1 (loopOf Try.f76 0) ((fwF m (.slice (some ⟨0, 0, some 1⟩) s (m * m)) undef (.int .i64 (iN m)) (.int .i64 (iN m)) undef undef)) ([.row (rowOf (half2 (nestR m (fun i j => [.complex .f64 (wUnit_0 (iN (i * j)) (iN m)) (wUnit_1 (iN (i * j)) (iN m))])) (fun _ => [.complex .f64 0 0]) s) (m * m)) true none]) (.exit 1) ([Value.int .i64 (iN m), undef, Value.slice none 0 0, Value.int .i64 (Int.ofNat 0), Value.slice (some ⟨0, 0, some 1⟩) s (m * m), undef, undef, undef, undef, undef, undef, undef, undef, undef, undef, undef, undef, undef, undef, undef, undef, undef, undef, Value.int .i64 (iN m), Value.int .i64 (iN m), undef, undef, undef, undef, undef, undef, undef, undef, undef, undef, undef, undef, undef, undef, undef, undef, undef]) ([AObj.row (rowOf (half2 (nestR m fun i j => [Value.complex .f64 (wUnit_0 (iN (i * j)) (iN m)) (wUnit_1 (iN (i * j)) (iN m))]) (fun x => [Value.complex .f64 0 0]) s) (m * m)) true none]) := Sim.of_roundQ (C := dLCh) dLCh_ok (X := []) (n := 3) (orc := [(2, Item.br false)]) (ks := [0]) (mask := [true, false, true, true, true, false, false, false, false, false, false, false, false, false, false, false, false, false, false, false, false, false, false, true, true, false, false, false, false, false, false, false, false, false, false, false, false, false, false, false, false, false]) (ps := [(some (decide (iN m < iN m)) = some false)]) (L := 1) 1 fwOE_okX (by kernel_rfl) ⟨bP_of (fun x => x) (show (decide (iN m < iN m)) = false from decide_eq_false (by (try simp only [decide_eq_true_eq, decide_eq_false_iff_not] at *); (try simp only [iN_eq, Int.ofNat_eq_natCast] at *); omega)), trivial⟩ hst (by kernel_rfl) (by kernel_rfl) (by kernel_rfl) (by decide) (by kernel_rfl) ⟨rowOf_all (half2_all (fun _ => rfl) (fun _ => rfl) _) _, trivial⟩
end Go.Lk
end

section
/- Frank's squares: loops, contracts. -/
namespace Go.Lk
open Go.Proofs
set_option maxRecDepth 100000
set_option maxHeartbeats 0
set_option linter.unusedVariables false
set_option linter.unusedSimpArgs false
theorem mul_bd {m i j : Nat} (hm : m ≤ 128) (hi : i < m) (hj : j < m) : i * j ≤ 16384 := Nat.le_trans (Nat.mul_le_mul (Nat.le_of_lt (Nat.lt_of_lt_of_le hi hm)) (Nat.le_of_lt (Nat.lt_of_lt_of_le hj hm))) (by decide)
theorem row_bd {m i j : Nat} (hi : i < m) (hj : j < m) : m * i + j < m * m := by
  have h : m * (i + 1) ≤ m * m := Nat.mul_le_mul_left m hi
  rw [Nat.mul_succ] at h
  omega
theorem sqm_bd {m : Nat} (hm : m ≤ 128) : m * m ≤ 16384 := Nat.mul_le_mul hm hm
def fwR (m s : Nat) : AHeap := [.row (rowOf (half2 (nestR m (fun i j => [.complex .f64 (wUnit_0 (iN (i * j)) (iN m)) (wUnit_1 (iN (i * j)) (iN m))])) (fun _ => [.complex .f64 0 0]) s) (m * m)) true none]
theorem fw_in (m i : Nat) (hm : m ≤ 128) (hi : i < m) (hst : Stood false []) :
    Sim dLCh 1 (.loop (loopOf Try.f76 1)) (fwF m (.slice (some ⟨0, 0, some 1⟩) (m * i + 0) (m * m)) (.int .i64 (iN i)) (.int .i64 (iN m)) (.int .i64 (iN i)) (.int .i64 (iN m)) (.int .i64 (iN 0))) (fwR m (m * i + 0)) (.exit 3)
      (fwF m (.slice (some ⟨0, 0, some 1⟩) (m * i + m) (m * m)) (.int .i64 (iN i)) (.int .i64 (iN m)) (.int .i64 (iN i)) (.int .i64 (iN m)) (.int .i64 (iN m))) (fwR m (m * i + m)) := by
  refine Sim.loop (fun k => (fwF m (.slice (some ⟨0, 0, some 1⟩) (m * i + k) (m * m)) (.int .i64 (iN i)) (.int .i64 (iN m)) (.int .i64 (iN i)) (.int .i64 (iN m)) (.int .i64 (iN k)), fwR m (m * i + k))) m (fun k hk => ?_) ?_ rfl
  · exact (fwA_p0 m i k hm hi hk (mul_bd hm hi hk) (row_bd hi hk) (sqm_bd hm) hst).cast (by kernel_rfl) (by kernel_rfl) (by kernel_rfl) (by kernel_rfl)
  · exact (fwAE_p0 m i (m * i + m) hm hst).cast (by kernel_rfl) (by kernel_rfl) (by kernel_rfl) (by kernel_rfl)
theorem fw_out (m : Nat) (hm : m ≤ 128) (hst : Stood false []) :
    Sim dLCh 1 (.loop (loopOf Try.f76 0)) (fwF m (.slice (some ⟨0, 0, some 1⟩) 0 (m * m)) undef (.int .i64 (iN m)) (.int .i64 (iN 0)) undef undef) (fwR m 0) (.exit 1)
      (fwF m (.slice (some ⟨0, 0, some 1⟩) (m * m) (m * m)) undef (.int .i64 (iN m)) (.int .i64 (iN m)) undef undef) (fwR m (m * m)) := by
  refine Sim.loop (fun i => (fwF m (.slice (some ⟨0, 0, some 1⟩) (m * i) (m * m)) undef (.int .i64 (iN m)) (.int .i64 (iN i)) undef undef, fwR m (m * i))) m (fun i hi => ?_) ?_ rfl
  · exact (fwO_p0 m i hm hi (fun hst => (fw_in m i hm hi hst).enter [true, false, true, true, true, true, false, false, false, false, false, false, false, false, false, false, false, false, false, false, false, false, false, true, true, false, false, true, true, false, false, false, false, false, false, false, false, false, false, false, false, false] (by kernel_rfl)) hst).cast (by kernel_rfl) (by kernel_rfl) (by kernel_rfl) (by kernel_rfl)
  · exact (fwOE_p0 m (m * m) hm hst).cast (by kernel_rfl) (by kernel_rfl) (by kernel_rfl) (by kernel_rfl)
theorem cFw_fok : fnOkX (dLCh) [] Try.f76 = true := by kernel_rfl
theorem cFw_p0 (m : Nat) (hm : m ≤ 128) (h0 : 0 < m) (hN : m * m ≤ 16384) (l0 : Stood false ([]) → Sim (dLCh) 1 (.loop (loopOf Try.f76 0)) ([Value.int .i64 (iN m), undef, Value.slice none 0 0, Value.int .i64 (Int.ofNat 0), Value.slice (some ⟨0, 0, some 1⟩) 0 (m * m), undef, undef, Value.bool (decide (iN m < 1)), Value.int .i64 (iN m), Value.bool (decide (iN m < 1)), Value.bool (decide (iN (m * m) > 16384)), Value.int .i64 (iN m), Value.bool (decide (iN m > 16384)), Value.bool (decide (iN m > 16384)), Value.int .i64 (iN m), Value.int .i64 (iN m), Value.int .i64 (iN (m * m)), Value.bool (decide (iN (m * m) > 16384)), Value.bool (decide (iN (m * m) > 16384)), Value.int .i64 (iN m), Value.int .i64 (iN m), Value.int .i64 (iN (m * m)), Value.slice (some ⟨0, 0, some 1⟩) 0 (m * m), Value.int .i64 (iN m), Value.int .i64 (Int.ofNat 0), undef, undef, undef, undef, undef, undef, undef, undef, undef, undef, undef, undef, undef, undef, undef, undef, undef]) ([AObj.row (rowOf (fun i => [Value.complex .f64 0 0]) (m * m)) true none]) (Exit.exit 1) ([Value.int .i64 (iN m), Value.tuple { toList := [] }, Value.slice none 0 0, Value.int .i64 (Int.ofNat 0), Value.slice (some ⟨0, 0, some 1⟩) (m * m) (m * m), Value.tuple { toList := [] }, Value.tuple { toList := [] }, Value.tuple { toList := [] }, Value.tuple { toList := [] }, Value.tuple { toList := [] }, Value.tuple { toList := [] }, Value.tuple { toList := [] }, Value.tuple { toList := [] }, Value.tuple { toList := [] }, Value.tuple { toList := [] }, Value.tuple { toList := [] }, Value.tuple { toList := [] }, Value.tuple { toList := [] }, Value.tuple { toList := [] }, Value.tuple { toList := [] }, Value.tuple { toList := [] }, Value.tuple { toList := [] }, Value.tuple { toList := [] }, Value.int .i64 (iN m), Value.int .i64 (iN m), Value.tuple { toList := [] }, Value.tuple { toList := [] }, Value.tuple { toList := [] }, Value.tuple { toList := [] }, Value.tuple { toList := [] }, Value.tuple { toList := [] }, Value.tuple { toList := [] }, Value.tuple { toList := [] }, Value.tuple { toList := [] }, Value.tuple { toList := [] }, Value.tuple { toList := [] }, Value.tuple { toList := [] }, Value.tuple { toList := [] }, Value.tuple { toList := [] }, Value.tuple { toList := [] }, Value.tuple { toList := [] }, Value.tuple { toList := [] }]) ([AObj.row (rowOf (nestR m fun i j => [Value.complex .f64 (wUnit_0 (iN (i * j)) (iN m)) (wUnit_1 (iN (i * j)) (iN m))]) (m * m)) true none])) : CallR Try.prog false 76 ([Value.int .i64 (iN m)]) ([]) (Value.tuple { toList := [Value.slice (some ⟨0, 0, some 1⟩) (m * m) (m * m), Value.int .i64 (Int.ofNat 0)] }) ([AObj.row (rowOf (nestR m fun i j => [Value.complex .f64 (wUnit_0 (iN (i * j)) (iN m)) (wUnit_1 (iN (i * j)) (iN m))]) (m * m)) true none]) := CallR.of_DOXs (C := dLCh) dLCh_ok (X := []) Try.func76 cFw_fok (n := 3) (orc := [(10, Item.br false), (17, Item.br true), (19, Item.br true), (21, Item.br true), (22, Item.res (Value.int .i64 (iN (m * m)))), (23, Item.br true), (26, Item.res (Value.bool (decide (iN (m * m) > 16384)))), (29, Item.br false), (35, Item.res (Value.int .i64 (iN (m * m)))), (37, Item.eff (Value.slice (some ⟨0, 0, some 1⟩) 0 (m * m)) [AObj.row (rowOf (fun i => [Value.complex .f64 0 0]) (m * m)) true none]), (44, Item.loop (Exit.exit 1) (fwF m (Value.slice (some ⟨0, 0, some 1⟩) (m * m) (m * m)) undef (Value.int .i64 (iN m)) (Value.int .i64 (iN m)) undef undef) [AObj.row (rowOf (nestR m fun i j => [Value.complex .f64 (wUnit_0 (iN (i * j)) (iN m)) (wUnit_1 (iN (i * j)) (iN m))]) (m * m)) true none])]) (ps := [(some (decide (iN m < 1)) = some false), (some (decide (iN m > 16384) == false) = some true), (some (decide (iN m > 16384) == false) = some true), (some (decide (iN m > 16384) == false) = some true), (wF IntKind.i64 (iN m * iN m) ([]) = some (.int IntKind.i64 (iN (m * m)), [])), (some (decide (iN m > 16384) == false) = some true), (pP (some (Value.bool true)) (some (Value.bool (decide (iN (m * m) > 16384)))) ([]) (decide (iN m > 16384)) (Value.bool (decide (iN (m * m) > 16384)))), (some (decide (iN (m * m) > 16384)) = some false), (wF IntKind.i64 (iN m * iN m) ([]) = some (.int IntKind.i64 (iN (m * m)), [])), (aMake Try.prog ([]) 66 (.int IntKind.i64 (iN 0)) (.int IntKind.i64 (iN m * m)) = some (Value.slice (some ⟨0, 0, some 1⟩) 0 (m * m), [AObj.row (rowOf (fun i => [Value.complex .f64 0 0]) (m * m)) true none])), (Sim (dLCh) 1 (.loop (loopOf Try.f76 0)) ([Value.int .i64 (iN m), undef, Value.slice none 0 0, Value.int .i64 (Int.ofNat 0), Value.slice (some ⟨0, 0, some 1⟩) 0 (m * m), undef, undef, Value.bool (decide (iN m < 1)), Value.int .i64 (iN m), Value.bool (decide (iN m < 1)), Value.bool (decide (iN (m * m) > 16384)), Value.int .i64 (iN m), Value.bool (decide (iN m > 16384)), Value.bool (decide (iN m > 16384)), Value.int .i64 (iN m), Value.int .i64 (iN m), Value.int .i64 (iN (m * m)), Value.bool (decide (iN (m * m) > 16384)), Value.bool (decide (iN (m * m) > 16384)), Value.int .i64 (iN m), Value.int .i64 (iN m), Value.int .i64 (iN (m * m)), Value.slice (some ⟨0, 0, some 1⟩) 0 (m * m), Value.int .i64 (iN m), Value.int .i64 (Int.ofNat 0), undef, undef, undef, undef, undef, undef, undef, undef, undef, undef, undef, undef, undef, undef, undef, undef, undef]) ([AObj.row (rowOf (fun i => [Value.complex .f64 0 0]) (m * m)) true none]) (Exit.exit 1) ([Value.int .i64 (iN m), Value.tuple { toList := [] }, Value.slice none 0 0, Value.int .i64 (Int.ofNat 0), Value.slice (some ⟨0, 0, some 1⟩) (m * m) (m * m), Value.tuple { toList := [] }, Value.tuple { toList := [] }, Value.tuple { toList := [] }, Value.tuple { toList := [] }, Value.tuple { toList := [] }, Value.tuple { toList := [] }, Value.tuple { toList := [] }, Value.tuple { toList := [] }, Value.tuple { toList := [] }, Value.tuple { toList := [] }, Value.tuple { toList := [] }, Value.tuple { toList := [] }, Value.tuple { toList := [] }, Value.tuple { toList := [] }, Value.tuple { toList := [] }, Value.tuple { toList := [] }, Value.tuple { toList := [] }, Value.tuple { toList := [] }, Value.int .i64 (iN m), Value.int .i64 (iN m), Value.tuple { toList := [] }, Value.tuple { toList := [] }, Value.tuple { toList := [] }, Value.tuple { toList := [] }, Value.tuple { toList := [] }, Value.tuple { toList := [] }, Value.tuple { toList := [] }, Value.tuple { toList := [] }, Value.tuple { toList := [] }, Value.tuple { toList := [] }, Value.tuple { toList := [] }, Value.tuple { toList := [] }, Value.tuple { toList := [] }, Value.tuple { toList := [] }, Value.tuple { toList := [] }, Value.tuple { toList := [] }, Value.tuple { toList := [] }]) ([AObj.row (rowOf (nestR m fun i j => [Value.complex .f64 (wUnit_0 (iN (i * j)) (iN m)) (wUnit_1 (iN (i * j)) (iN m))]) (m * m)) true none])), (List.length (α := AObj) ([AObj.row (rowOf (fun i => [Value.complex .f64 0 0]) (m * m)) true none]) ≤ List.length ([AObj.row (rowOf (nestR m fun i j => [Value.complex .f64 (wUnit_0 (iN (i * j)) (iN m)) (wUnit_1 (iN (i * j)) (iN m))]) (m * m)) true none])), (Lk.Exit.isG (Exit.exit 1) = false)]) (by kernel_rfl) (fun hst => ⟨bP_of (fun x => x) (show (decide (iN m < 1)) = false from decide_eq_false (by (try simp only [decide_eq_true_eq, decide_eq_false_iff_not] at *); (try simp only [iN_eq, Int.ofNat_eq_natCast] at *); omega)), ⟨bP_of (fun x => x == false) (show (decide (iN m > 16384)) = false from decide_eq_false (by (try simp only [decide_eq_true_eq, decide_eq_false_iff_not] at *); (try simp only [iN_eq, Int.ofNat_eq_natCast] at *); omega)), ⟨bP_of (fun x => x == false) (show (decide (iN m > 16384)) = false from decide_eq_false (by (try simp only [decide_eq_true_eq, decide_eq_false_iff_not] at *); (try simp only [iN_eq, Int.ofNat_eq_natCast] at *); omega)), ⟨bP_of (fun x => x == false) (show (decide (iN m > 16384)) = false from decide_eq_false (by (try simp only [decide_eq_true_eq, decide_eq_false_iff_not] at *); (try simp only [iN_eq, Int.ofNat_eq_natCast] at *); omega)), ⟨wF_ok _ (by (try simp only [decide_eq_true_eq, decide_eq_false_iff_not] at *); (try simp only [iN_eq, Int.ofNat_eq_natCast] at *); omega) (by (try simp only [decide_eq_true_eq, decide_eq_false_iff_not] at *); (try simp only [iN_eq, Int.ofNat_eq_natCast] at *); omega), ⟨bP_of (fun x => x == false) (show (decide (iN m > 16384)) = false from decide_eq_false (by (try simp only [decide_eq_true_eq, decide_eq_false_iff_not] at *); (try simp only [iN_eq, Int.ofNat_eq_natCast] at *); omega)), ⟨pP_f _ _ _ (congrArg (fun bb => (bb)) (show (decide (iN m > 16384)) = false from decide_eq_false (by (try simp only [decide_eq_true_eq, decide_eq_false_iff_not] at *); (try simp only [iN_eq, Int.ofNat_eq_natCast] at *); omega))), ⟨bP_of (fun x => x) (show (decide (iN (m * m) > 16384)) = false from decide_eq_false (by (try simp only [decide_eq_true_eq, decide_eq_false_iff_not] at *); (try simp only [iN_eq, Int.ofNat_eq_natCast] at *); omega)), ⟨wF_ok _ (by (try simp only [decide_eq_true_eq, decide_eq_false_iff_not] at *); (try simp only [iN_eq, Int.ofNat_eq_natCast] at *); omega) (by (try simp only [decide_eq_true_eq, decide_eq_false_iff_not] at *); (try simp only [iN_eq, Int.ofNat_eq_natCast] at *); omega), ⟨make_row (zs := [Value.complex .f64 0 0]) (by kernel_rfl) (by kernel_rfl) (by kernel_rfl) (by (try simp only [decide_eq_true_eq, decide_eq_false_iff_not] at *); (try simp only [iN_eq, Int.ofNat_eq_natCast] at *); omega) (by (try simp only [decide_eq_true_eq, decide_eq_false_iff_not] at *); (try simp only [iN_eq, Int.ofNat_eq_natCast] at *); omega), ⟨l0 hst, Nat.le_of_ble_eq_true (by kernel_rfl), rfl, trivial⟩⟩⟩⟩⟩⟩⟩⟩⟩⟩⟩)
theorem cFwE_fok : fnOkX (dLCh) [] Try.f76 = true := by kernel_rfl
theorem cFwE_p0 (n : Int) (h1 : decide (n < Int.ofNat 1) = true) : CallR Try.prog false 76 ([Value.int .i64 n]) ([]) (Value.tuple { toList := [Value.slice none 0 0, Value.int .i64 (Int.ofNat 2)] }) ([]) := CallR.of_DOXs (C := dLCh) dLCh_ok (X := []) Try.func76 cFwE_fok (n := 3) (orc := [(10, Item.br true)]) (ps := [(some (decide (n < 1)) = some true)]) (by kernel_rfl) (fun hst => ⟨bP_of (fun x => x) (show (decide (n < 1)) = true from decide_eq_true (by (try simp only [decide_eq_true_eq, decide_eq_false_iff_not] at *); (try simp only [iN_eq, Int.ofNat_eq_natCast] at *); omega)), trivial⟩)
theorem cFwF_fok : fnOkX (dLCh) [] Try.f76 = true := by kernel_rfl
theorem cFwF_p0 (n : Int) (h1 : decide (n < Int.ofNat 1) = false) (h2 : decide (n > Int.ofNat 16384) = true) : CallR Try.prog false 76 ([Value.int .i64 n]) ([]) (Value.tuple { toList := [Value.slice none 0 0, Value.int .i64 (Int.ofNat 3)] }) ([]) := CallR.of_DOXs (C := dLCh) dLCh_ok (X := []) Try.func76 cFwF_fok (n := 3) (orc := [(10, Item.br false), (17, Item.br false), (19, Item.br false), (21, Item.br false), (23, Item.br false), (26, Item.res (Value.bool true))]) (ps := [(some (decide (n < 1)) = some false), (some (decide (n > 16384) == false) = some false), (some (decide (n > 16384) == false) = some false), (some (decide (n > 16384) == false) = some false), (some (decide (n > 16384) == false) = some false), (pP (some (Value.bool true)) (none) ([]) (decide (n > 16384)) (Value.bool true))]) (by kernel_rfl) (fun hst => ⟨bP_of (fun x => x) (show (decide (n < 1)) = false from decide_eq_false (by (try simp only [decide_eq_true_eq, decide_eq_false_iff_not] at *); (try simp only [iN_eq, Int.ofNat_eq_natCast] at *); omega)), ⟨bP_of (fun x => x == false) (show (decide (n > 16384)) = true from decide_eq_true (by (try simp only [decide_eq_true_eq, decide_eq_false_iff_not] at *); (try simp only [iN_eq, Int.ofNat_eq_natCast] at *); omega)), ⟨bP_of (fun x => x == false) (show (decide (n > 16384)) = true from decide_eq_true (by (try simp only [decide_eq_true_eq, decide_eq_false_iff_not] at *); (try simp only [iN_eq, Int.ofNat_eq_natCast] at *); omega)), ⟨bP_of (fun x => x == false) (show (decide (n > 16384)) = true from decide_eq_true (by (try simp only [decide_eq_true_eq, decide_eq_false_iff_not] at *); (try simp only [iN_eq, Int.ofNat_eq_natCast] at *); omega)), ⟨bP_of (fun x => x == false) (show (decide (n > 16384)) = true from decide_eq_true (by (try simp only [decide_eq_true_eq, decide_eq_false_iff_not] at *); (try simp only [iN_eq, Int.ofNat_eq_natCast] at *); omega)), ⟨pP_t _ _ _ (congrArg (fun bb => (bb)) (show (decide (n > 16384)) = true from decide_eq_true (by (try simp only [decide_eq_true_eq, decide_eq_false_iff_not] at *); (try simp only [iN_eq, Int.ofNat_eq_natCast] at *); omega))), trivial⟩⟩⟩⟩⟩⟩)
theorem cFwG_fok : fnOkX (dLCh) [] Try.f76 = true := by kernel_rfl
theorem cFwG_p0 (m : Nat) (h0 : 0 < m) (hm : m ≤ 16384) (hN : 16384 < m * m) (hN2 : m * m ≤ 268435456) : CallR Try.prog false 76 ([Value.int .i64 (iN m)]) ([]) (Value.tuple { toList := [Value.slice none 0 0, Value.int .i64 (Int.ofNat 3)] }) ([]) := CallR.of_DOXs (C := dLCh) dLCh_ok (X := []) Try.func76 cFwG_fok (n := 3) (orc := [(10, Item.br false), (17, Item.br true), (19, Item.br true), (21, Item.br true), (22, Item.res (Value.int .i64 (iN (m * m)))), (23, Item.br true), (26, Item.res (Value.bool (decide (iN (m * m) > 16384)))), (29, Item.br true)]) (ps := [(some (decide (iN m < 1)) = some false), (some (decide (iN m > 16384) == false) = some true), (some (decide (iN m > 16384) == false) = some true), (some (decide (iN m > 16384) == false) = some true), (wF IntKind.i64 (iN m * iN m) ([]) = some (.int IntKind.i64 (iN (m * m)), [])), (some (decide (iN m > 16384) == false) = some true), (pP (some (Value.bool true)) (some (Value.bool (decide (iN (m * m) > 16384)))) ([]) (decide (iN m > 16384)) (Value.bool (decide (iN (m * m) > 16384)))), (some (decide (iN (m * m) > 16384)) = some true)]) (by kernel_rfl) (fun hst => ⟨bP_of (fun x => x) (show (decide (iN m < 1)) = false from decide_eq_false (by (try simp only [decide_eq_true_eq, decide_eq_false_iff_not] at *); (try simp only [iN_eq, Int.ofNat_eq_natCast] at *); omega)), ⟨bP_of (fun x => x == false) (show (decide (iN m > 16384)) = false from decide_eq_false (by (try simp only [decide_eq_true_eq, decide_eq_false_iff_not] at *); (try simp only [iN_eq, Int.ofNat_eq_natCast] at *); omega)), ⟨bP_of (fun x => x == false) (show (decide (iN m > 16384)) = false from decide_eq_false (by (try simp only [decide_eq_true_eq, decide_eq_false_iff_not] at *); (try simp only [iN_eq, Int.ofNat_eq_natCast] at *); omega)), ⟨bP_of (fun x => x == false) (show (decide (iN m > 16384)) = false from decide_eq_false (by (try simp only [decide_eq_true_eq, decide_eq_false_iff_not] at *); (try simp only [iN_eq, Int.ofNat_eq_natCast] at *); omega)), ⟨wF_ok _ (by (try simp only [decide_eq_true_eq, decide_eq_false_iff_not] at *); (try simp only [iN_eq, Int.ofNat_eq_natCast] at *); omega) (by (try simp only [decide_eq_true_eq, decide_eq_false_iff_not] at *); (try simp only [iN_eq, Int.ofNat_eq_natCast] at *); omega), ⟨bP_of (fun x => x == false) (show (decide (iN m > 16384)) = false from decide_eq_false (by (try simp only [decide_eq_true_eq, decide_eq_false_iff_not] at *); (try simp only [iN_eq, Int.ofNat_eq_natCast] at *); omega)), ⟨pP_f _ _ _ (congrArg (fun bb => (bb)) (show (decide (iN m > 16384)) = false from decide_eq_false (by (try simp only [decide_eq_true_eq, decide_eq_false_iff_not] at *); (try simp only [iN_eq, Int.ofNat_eq_natCast] at *); omega))), ⟨bP_of (fun x => x) (show (decide (iN (m * m) > 16384)) = true from decide_eq_true (by (try simp only [decide_eq_true_eq, decide_eq_false_iff_not] at *); (try simp only [iN_eq, Int.ofNat_eq_natCast] at *); omega)), trivial⟩⟩⟩⟩⟩⟩⟩⟩)
end Go.Lk
end

section
/- wakes: reckoned. -/
namespace Go.Lk
open Go.Proofs
set_option maxRecDepth 100000
noncomputable def LWakes : Lib := ⟨Try.prog, false, t1, [(55, Try.f55), (35, Try.f35), (51, Try.f51), (206, Try.f206), (181, Try.f181), (123, Try.f123), (32, Try.f32), (160, Try.f160), (125, Try.f125), (36, Try.f36), (127, Try.f127), (128, Try.f128), (144, Try.f144), (122, Try.f122), (135, Try.f135), (151, Try.f151), (37, Try.f37)], [(183, true, Try.f183), (66, false, Try.f66), (146, true, Try.f146), (68, false, Try.f68), (75, false, Try.f75), (79, false, Try.f79)]⟩
theorem LWakes_fp : ∀ e, e ∈ LWakes.pures → Try.prog.funcs[e.1]? = some e.2 := fs_cons Try.func55 (fs_cons Try.func35 (fs_cons Try.func51 (fs_cons Try.func206 (fs_cons Try.func181 (fs_cons Try.func123 (fs_cons Try.func32 (fs_cons Try.func160 (fs_cons Try.func125 (fs_cons Try.func36 (fs_cons Try.func127 (fs_cons Try.func128 (fs_cons Try.func144 (fs_cons Try.func122 (fs_cons Try.func135 (fs_cons Try.func151 (fs_cons Try.func37 (fs_nil)))))))))))))))))
theorem LWakes_fh : ∀ e, e ∈ LWakes.heaps → Try.prog.funcs[e.1]? = some e.2.2 := gs_cons Try.func183 (gs_cons Try.func66 (gs_cons Try.func146 (gs_cons Try.func68 (gs_cons Try.func75 (gs_cons Try.func79 (gs_nil))))))
theorem LWakes_p1 (gp : Nat → PureFn) (g : Nat → HeapFn) : (LWakes.pures.all fun e => fnOk (LWakes.mk' gp g) e.2) = true := by kernel_rfl
theorem LWakes_h1 (gp : Nat → PureFn) (g : Nat → HeapFn) : (LWakes.heaps.all fun e => fnOk (LWakes.mk' gp g) e.2.2 && (!e.2.1 || fnRo (LWakes.mk' gp g) e.2.2)) = true := by kernel_rfl
theorem LWakes_ok : LWakes.Ok := ⟨t1_ok, mixed, LWakes_fp, LWakes_fh, LWakes_p1, LWakes_h1⟩
theorem wakes_ok : (match Try.f64.body with | some b => codeOk (LWakes.cfg 500 12) b | none => false) = true := by kernel_rfl
theorem wakes_run : ((DFn (LWakes.cfg 500 12) 500 Try.f64 [] []).map fun x => x.1) = some (.bool true) := by kernel_rfl
theorem wakes_call : CallR Try.prog false 64 [] [] (.bool true) [] := by
  have h := wakes_run
  cases hd : DFn (LWakes.cfg 500 12) 500 Try.f64 [] [] with
  | none => rw [hd] at h; cases h
  | some x =>
    obtain ⟨v, σ1⟩ := x
    rw [hd] at h
    simp only [Option.map_some, Option.some.injEq] at h
    subst h
    exact CallR.of_DFn_nil (LWakes_ok.cfg 500 12) Try.func64 wakes_ok (by kernel_rfl) hd rfl
def sWakes : PureFn
  | [] => some (.bool true)
  | _ => none
theorem sWakes_ok : IsPure Try.prog false 64 sWakes := by
  intro args v σ h
  unfold sWakes at h
  split at h
  · cases h
    exact CallR.frameQ (r := fun k => k + σ.length) (args0 := []) (σ0 := []) ⟨fun k o hk => by simp at hk, fun k hk => by omega⟩ rfl wakes_call rfl
  · cases h
end Go.Lk
end

section
/- Chirp's contracts; told's. -/
namespace Go.Lk
open Go.Proofs
set_option maxRecDepth 100000
set_option maxHeartbeats 0
set_option linter.unusedVariables false
set_option linter.unusedSimpArgs false
theorem CallR.drop {P : Program} {ex : Bool} {f : FuncId} {args : List Value} {σ σ' : AHeap} {v : Value} (h : CallR P ex f args σ v σ') (hv : plain v = true) : CallR P ex f args σ v (σ.map fun _ => .dead) := by
  intro B μ w cargs hr hargs
  refine (h B μ w cargs hr hargs).mono ?_
  rintro cv w' ⟨μ', q1, q2, q3, q4⟩
  have hd : ∀ (b : Nat) (o : AObj), (σ.map fun _ => AObj.dead)[b]? = some o → o = .dead := by
    intro b o hb
    rw [List.getElem?_map] at hb
    cases hx : σ[b]? with
    | none => rw [hx] at hb; cases hb
    | some y => rw [hx] at hb; cases hb; rfl
  refine ⟨μ, q1.plain_ren hv, ⟨by rw [List.length_map]; exact hr.len, fun k hk => Nat.lt_of_lt_of_le (hr.hB k hk) q4.size, fun b o hb hl => ?_, fun b o e hb _ => ?_, fun b b' o o' e e' hb _ _ _ ho => ?_⟩, Ext.refl _, q4⟩
  · rw [hd b o hb] at hl; cases hl
  · rw [hd b o hb]; trivial
  · rw [hd b o hb] at ho; cases ho
def chOk (L n z : Nat) : Value := .tuple #[.slice (some ⟨L, 0, some z⟩) n n, .int .i64 0]
def wRow (n v : Nat) : List Value := rowOf (fun i => [.complex .f64 (wTurn_0 (chX n v i)) (wTurn_1 (chX n v i))]) n
theorem ch_call (n v : Nat) (h1 : 0 < n) (h2 : n ≤ 16384) (h3 : cFin_0 v = true) : CallR Try.prog false 66 [.int .i64 (iN n), .float .f64 v] [] (chOk 0 n 1) [.row (wRow n v) true none] :=
  cCh_p0 n v (decide_eq_false (by rw [iN_eq, Int.ofNat_eq_natCast]; omega)) (decide_eq_false (by rw [iN_eq, Int.ofNat_eq_natCast]; omega)) h3 (fun hst => by
    have h := ch_loop n v h2 hst
    unfold chHp at h
    rw [half2_zero, half2_full] at h
    exact h.enter [true, true, false, false, true, true, true, false, false, false, false, false, false, false, false, false, false, false, false, false, false, true, true, false, false, false, false, false, false, false, false, false, false, false, false, false, false, false, false, false, false] (by kernel_rfl))
end Go.Lk
end

section
/- told, of rows with room. -/
namespace Go.Lk
open Go.Proofs
set_option maxRecDepth 100000
set_option maxHeartbeats 0
set_option linter.unusedVariables false
set_option linter.unusedSimpArgs false
end Go.Lk
end

section
/- told's contract, in any heap. -/
namespace Go.Lk
open Go.Proofs
set_option maxRecDepth 100000
set_option linter.unusedVariables false
set_option linter.unusedSimpArgs false
end Go.Lk
end

section
/- Frank's squares, chirps: contracts. -/
namespace Go.Lk
open Go.Proofs
set_option maxRecDepth 100000
set_option linter.unusedVariables false
set_option linter.unusedSimpArgs false
theorem AnCall.err {f : FuncId} {args : List Value} {z : Nat} {row : (Nat → Nat) → (Nat → Nat) → Nat → List Value} {e : Int} {σ' : AHeap} (h : CallR Try.prog false f args [] (.tuple #[.slice none 0 0, .int .i64 e]) σ') : AnCall f args z row (anErr e) := .inl ⟨rfl, σ', h⟩
theorem AnCall.row {f : FuncId} {args : List Value} {z n k : Nat} {row : (Nat → Nat) → (Nat → Nat) → Nat → List Value} {a b : Nat → Nat} {σ' : AHeap} {o : Option Nat} (h : CallR Try.prog false f args [] (.tuple #[.slice (some ⟨k, 0, some z⟩) n n, .int .i64 0]) σ')
    (hn : 0 < n) (hk : σ'[k]? = some (.row (row a b n) true o)) (ho : o = none ∨ o = some z) : AnCall f args z row ⟨n, a, b, 0⟩ := by
  refine .inr ⟨hn, σ', k, o, ?_, hk, ho⟩
  cases n with
  | zero => omega
  | succ n => exact h
def frAn (A B : Nat → Nat → Nat) (m : Int) : An := bif decide (m < 1) then anErr 2 else bif decide (m > 128) then anErr 3 else ⟨m.toNat * m.toNat, A m.toNat, B m.toNat, 0⟩
def fwA (m s : Nat) : Nat := wUnit_0 (iN (s / m * (s % m))) (iN m)
def fwB (m s : Nat) : Nat := wUnit_1 (iN (s / m * (s % m))) (iN m)
def frH (A B : Nat → Nat → Nat) : List Value → Option An
  | [.int .i64 m] => some (frAn A B m)
  | _ => none
def sFrank : HeapFn := sAn 1 xRow (frH fwA fwB)
theorem sFrank_ok : IsHeap Try.prog false 76 false sFrank := sAn_is xRow_plain fun args x h => by
  unfold frH at h
  split at h
  · rename_i m
    cases h
    refine ⟨rfl, ?_⟩
    unfold frAn
    cases h1 : decide (m < 1)
    · cases h2 : decide (m > 128)
      · have g1 := of_decide_eq_false h1
        have g2 := of_decide_eq_false h2
        have em : iN m.toNat = m := by rw [iN_eq]; omega
        have hc := cFw_p0 m.toNat (by omega) (by omega) (sqm_bd (by omega)) (fun hst => by
          have h := fw_out m.toNat (by omega) hst
          unfold fwR at h
          rw [half2_zero, half2_full] at h
          exact h.enter [true, false, true, true, true, false, false, false, false, false, false, false, false, false, false, false, false, false, false, false, false, false, false, true, true, false, false, false, false, false, false, false, false, false, false, false, false, false, false, false, false, false] (by kernel_rfl))
        have h2 : AnCall 76 [.int .i64 (iN m.toNat)] 1 xRow ⟨m.toNat * m.toNat, fwA m.toNat, fwB m.toNat, 0⟩ := .row hc (Nat.mul_pos (by omega) (by omega)) (k := 0) rfl (.inl rfl)
        rw [em] at h2
        exact h2
      · have g1 := of_decide_eq_false h1
        have g2 := of_decide_eq_true h2
        cases h3 : decide (m > 16384)
        · have g3 := of_decide_eq_false h3
          have em : iN m.toNat = m := by rw [iN_eq]; omega
          have b1 : 129 * 129 ≤ m.toNat * m.toNat := Nat.mul_le_mul (by omega) (by omega)
          have b2 : m.toNat * m.toNat ≤ 16384 * 16384 := Nat.mul_le_mul (by omega) (by omega)
          have hc := cFwG_p0 m.toNat (by omega) (by omega) (by omega) (by omega)
          rw [em] at hc
          exact .err hc
        · exact .err (cFwF_p0 m h1 h3)
    · exact .err (cFwE_p0 m h1)
  · cases h
def chAn (fin : Nat → Bool) (A B : Nat → Nat → Nat → Nat) (n : Int) (v : Nat) : An :=
  bif decide (n < 1) then anErr 2 else bif decide (n > 16384) then anErr 3 else bif fin v then ⟨n.toNat, A n.toNat v, B n.toNat v, 0⟩ else anErr 6
def cwA (n v i : Nat) : Nat := wTurn_0 (chX n v i)
def cwB (n v i : Nat) : Nat := wTurn_1 (chX n v i)
def chH (fin : Nat → Bool) : List Value → Option An
  | [.int .i64 n, .float .f64 v] => some (chAn fin cwA cwB n v)
  | _ => none
def sChirpW : HeapFn := sAn 1 xRow (chH cFin_0)
theorem ch_all {f z : Nat} {row : (Nat → Nat) → (Nat → Nat) → Nat → List Value} {fin : Nat → Bool} {o : Option Nat} (ho : o = none ∨ o = some z)
    (hE : ∀ (n : Int) (v : Nat), decide (n < Int.ofNat 1) = true → ∃ σ', CallR Try.prog false f [.int .i64 n, .float .f64 v] [] (.tuple #[.slice none 0 0, .int .i64 2]) σ')
    (hF : ∀ (n : Int) (v : Nat), decide (n < Int.ofNat 1) = false → decide (n > Int.ofNat 16384) = true → ∃ σ', CallR Try.prog false f [.int .i64 n, .float .f64 v] [] (.tuple #[.slice none 0 0, .int .i64 3]) σ')
    (hG : ∀ (n : Int) (v : Nat), decide (n < Int.ofNat 1) = false → decide (n > Int.ofNat 16384) = false → fin v = false → ∃ σ', CallR Try.prog false f [.int .i64 n, .float .f64 v] [] (.tuple #[.slice none 0 0, .int .i64 6]) σ')
    (hC : ∀ (n v : Nat), 0 < n → n ≤ 16384 → fin v = true → CallR Try.prog false f [.int .i64 (iN n), .float .f64 v] [] (chOk 0 n z) [.row (row (cwA n v) (cwB n v) n) true o]) (n : Int) (v : Nat) : AnCall f [.int .i64 n, .float .f64 v] z row (chAn fin cwA cwB n v) := by
  unfold chAn
  cases h1 : decide (n < 1)
  · cases h2 : decide (n > 16384)
    · cases h3 : fin v
      · obtain ⟨σ', h⟩ := hG n v h1 h2 h3
        exact .err h
      · have g1 := of_decide_eq_false h1
        have g2 := of_decide_eq_false h2
        have en : iN n.toNat = n := by rw [iN_eq]; omega
        have hc := hC n.toNat v (by omega) (by omega) h3
        rw [en] at hc
        exact .row (a := cwA n.toNat v) (b := cwB n.toNat v) hc (by omega) (k := 0) rfl ho
    · obtain ⟨σ', h⟩ := hF n v h1 h2
      exact .err h
  · obtain ⟨σ', h⟩ := hE n v h1
    exact .err h
theorem sChirpW_ok : IsHeap Try.prog false 66 false sChirpW := sAn_is xRow_plain fun args x h => by
  unfold chH at h
  split at h
  · cases h; exact ⟨rfl, ch_all (.inl rfl) (fun n v h => ⟨_, cChE_p0 n v h⟩) (fun n v h h2 => ⟨_, cChF_p0 n v h h2⟩) (fun n v h h2 h3 => ⟨_, cChG_p0 n v h h2 h3⟩) ch_call _ _⟩
  · cases h
noncomputable def t9w : Tab := (((((t9v.addH 75 false sBk).addH 76 false sFrank).addH 71 false sSteps).addH 66 false sChirpW).addP 64 sWakes)
theorem t9w_ok : t9w.Ok Try.prog false := (Tab.Ok.addP (Tab.Ok.addH (Tab.Ok.addH (Tab.Ok.addH (Tab.Ok.addH t9v_ok sBk_ok) sFrank_ok) sSteps_ok) sChirpW_ok) sWakes_ok)
end Go.Lk
end

section
/- Codes by their numbers: contracts. -/
namespace Go.Lk
open Go.Proofs
set_option maxRecDepth 100000
set_option maxHeartbeats 0
set_option linter.unusedVariables false
set_option linter.unusedSimpArgs false
abbrev cAw : AObj := AObj.row [Value.int .i64 (Int.ofNat 0), Value.int .i64 (Int.ofNat 2), Value.int .i64 (Int.ofNat 3), Value.int .i64 (Int.ofNat 4), Value.int .i64 (Int.ofNat 5), Value.int .i64 (Int.ofNat 7), Value.int .i64 (Int.ofNat 11), Value.int .i64 (Int.ofNat 13)] true none
abbrev cAo : AObj := AObj.row [Value.int .i64 (Int.ofNat 1), Value.int .i64 (Int.ofNat 2), Value.int .i64 (Int.ofNat 4), Value.int .i64 (Int.ofNat 8), Value.int .i64 (Int.ofNat 5), Value.int .i64 (Int.ofNat 10), Value.int .i64 (Int.ofNat 9), Value.int .i64 (Int.ofNat 7), Value.int .i64 (Int.ofNat 3), Value.int .i64 (Int.ofNat 6)] true none
noncomputable def LCo : Lib := ⟨Try.prog, false, t9w, [], []⟩
theorem LCo_fp : ∀ e, e ∈ LCo.pures → Try.prog.funcs[e.1]? = some e.2 := fs_nil
theorem LCo_fh : ∀ e, e ∈ LCo.heaps → Try.prog.funcs[e.1]? = some e.2.2 := gs_nil
theorem LCo_p1 (gp : Nat → PureFn) (g : Nat → HeapFn) : (LCo.pures.all fun e => fnOk (LCo.mk' gp g) e.2) = true := by kernel_rfl
theorem LCo_h1 (gp : Nat → PureFn) (g : Nat → HeapFn) : (LCo.heaps.all fun e => fnOk (LCo.mk' gp g) e.2.2 && (!e.2.1 || fnRo (LCo.mk' gp g) e.2.2)) = true := by kernel_rfl
theorem LCo_ok : LCo.Ok := ⟨t9w_ok, mixed, LCo_fp, LCo_fh, LCo_p1, LCo_h1⟩
noncomputable def dLCo : Cfg := LCo.cfg 100 6
theorem dLCo_ok : dLCo.Ok := LCo_ok.cfg 100 6

theorem cw0_fok : fnOkX (dLCo) [] Try.f77 = true := by kernel_rfl
theorem cw0_p0 : CallR Try.prog false 77 ([Value.int .i64 (Int.ofNat 0)]) ([]) (Value.tuple { toList := [Value.slice (some ⟨1, 0, some 1⟩) 1 1, Value.int .i64 (Int.ofNat 0)] }) ([cAw, AObj.row [Value.complex .f64 4607182418800017408 0] true none]) := CallR.of_DOXs (C := dLCo) dLCo_ok (X := []) Try.func77 cw0_fok (n := 3) (orc := []) (ps := []) (by kernel_rfl) (fun hst => trivial)
theorem cw1_fok : fnOkX (dLCo) [] Try.f77 = true := by kernel_rfl
theorem cw1_p0 (a : Option Addr) (l : Nat) (e : Int) (o : AObj) (s0 : sBk ([Value.int .i64 (Int.ofNat 2)]) ([cAw]) = some (Value.tuple #[Value.slice a l l, Value.int .i64 e], [cAw, o])) : CallR Try.prog false 77 ([Value.int .i64 (Int.ofNat 1)]) ([]) (Value.tuple { toList := [Value.slice a l l, Value.int .i64 e] }) ([cAw, o]) := CallR.of_DOXs (C := dLCo) dLCo_ok (X := []) Try.func77 cw1_fok (n := 3) (orc := [(39, Item.eff (Value.tuple #[Value.slice a l l, Value.int .i64 e]) [cAw, o])]) (ps := [(sBk ([Value.int .i64 (Int.ofNat 2)]) ([cAw]) = some (Value.tuple #[Value.slice a l l, Value.int .i64 e], [cAw, o]))]) (by kernel_rfl) (fun hst => ⟨s0, trivial⟩)
theorem cw2_fok : fnOkX (dLCo) [] Try.f77 = true := by kernel_rfl
theorem cw2_p0 (a : Option Addr) (l : Nat) (e : Int) (o : AObj) (s0 : sBk ([Value.int .i64 (Int.ofNat 3)]) ([cAw]) = some (Value.tuple #[Value.slice a l l, Value.int .i64 e], [cAw, o])) : CallR Try.prog false 77 ([Value.int .i64 (Int.ofNat 2)]) ([]) (Value.tuple { toList := [Value.slice a l l, Value.int .i64 e] }) ([cAw, o]) := CallR.of_DOXs (C := dLCo) dLCo_ok (X := []) Try.func77 cw2_fok (n := 3) (orc := [(39, Item.eff (Value.tuple #[Value.slice a l l, Value.int .i64 e]) [cAw, o])]) (ps := [(sBk ([Value.int .i64 (Int.ofNat 3)]) ([cAw]) = some (Value.tuple #[Value.slice a l l, Value.int .i64 e], [cAw, o]))]) (by kernel_rfl) (fun hst => ⟨s0, trivial⟩)
theorem cw3_fok : fnOkX (dLCo) [] Try.f77 = true := by kernel_rfl
theorem cw3_p0 (a : Option Addr) (l : Nat) (e : Int) (o : AObj) (s0 : sBk ([Value.int .i64 (Int.ofNat 4)]) ([cAw]) = some (Value.tuple #[Value.slice a l l, Value.int .i64 e], [cAw, o])) : CallR Try.prog false 77 ([Value.int .i64 (Int.ofNat 3)]) ([]) (Value.tuple { toList := [Value.slice a l l, Value.int .i64 e] }) ([cAw, o]) := CallR.of_DOXs (C := dLCo) dLCo_ok (X := []) Try.func77 cw3_fok (n := 3) (orc := [(39, Item.eff (Value.tuple #[Value.slice a l l, Value.int .i64 e]) [cAw, o])]) (ps := [(sBk ([Value.int .i64 (Int.ofNat 4)]) ([cAw]) = some (Value.tuple #[Value.slice a l l, Value.int .i64 e], [cAw, o]))]) (by kernel_rfl) (fun hst => ⟨s0, trivial⟩)
theorem cw4_fok : fnOkX (dLCo) [] Try.f77 = true := by kernel_rfl
theorem cw4_p0 (a : Option Addr) (l : Nat) (e : Int) (o : AObj) (s0 : sBk ([Value.int .i64 (Int.ofNat 5)]) ([cAw]) = some (Value.tuple #[Value.slice a l l, Value.int .i64 e], [cAw, o])) : CallR Try.prog false 77 ([Value.int .i64 (Int.ofNat 4)]) ([]) (Value.tuple { toList := [Value.slice a l l, Value.int .i64 e] }) ([cAw, o]) := CallR.of_DOXs (C := dLCo) dLCo_ok (X := []) Try.func77 cw4_fok (n := 3) (orc := [(39, Item.eff (Value.tuple #[Value.slice a l l, Value.int .i64 e]) [cAw, o])]) (ps := [(sBk ([Value.int .i64 (Int.ofNat 5)]) ([cAw]) = some (Value.tuple #[Value.slice a l l, Value.int .i64 e], [cAw, o]))]) (by kernel_rfl) (fun hst => ⟨s0, trivial⟩)
theorem cw5_fok : fnOkX (dLCo) [] Try.f77 = true := by kernel_rfl
theorem cw5_p0 (a : Option Addr) (l : Nat) (e : Int) (o : AObj) (s0 : sBk ([Value.int .i64 (Int.ofNat 7)]) ([cAw]) = some (Value.tuple #[Value.slice a l l, Value.int .i64 e], [cAw, o])) : CallR Try.prog false 77 ([Value.int .i64 (Int.ofNat 5)]) ([]) (Value.tuple { toList := [Value.slice a l l, Value.int .i64 e] }) ([cAw, o]) := CallR.of_DOXs (C := dLCo) dLCo_ok (X := []) Try.func77 cw5_fok (n := 3) (orc := [(39, Item.eff (Value.tuple #[Value.slice a l l, Value.int .i64 e]) [cAw, o])]) (ps := [(sBk ([Value.int .i64 (Int.ofNat 7)]) ([cAw]) = some (Value.tuple #[Value.slice a l l, Value.int .i64 e], [cAw, o]))]) (by kernel_rfl) (fun hst => ⟨s0, trivial⟩)
theorem cw6_fok : fnOkX (dLCo) [] Try.f77 = true := by kernel_rfl
theorem cw6_p0 (a : Option Addr) (l : Nat) (e : Int) (o : AObj) (s0 : sBk ([Value.int .i64 (Int.ofNat 11)]) ([cAw]) = some (Value.tuple #[Value.slice a l l, Value.int .i64 e], [cAw, o])) : CallR Try.prog false 77 ([Value.int .i64 (Int.ofNat 6)]) ([]) (Value.tuple { toList := [Value.slice a l l, Value.int .i64 e] }) ([cAw, o]) := CallR.of_DOXs (C := dLCo) dLCo_ok (X := []) Try.func77 cw6_fok (n := 3) (orc := [(39, Item.eff (Value.tuple #[Value.slice a l l, Value.int .i64 e]) [cAw, o])]) (ps := [(sBk ([Value.int .i64 (Int.ofNat 11)]) ([cAw]) = some (Value.tuple #[Value.slice a l l, Value.int .i64 e], [cAw, o]))]) (by kernel_rfl) (fun hst => ⟨s0, trivial⟩)
theorem cw7_fok : fnOkX (dLCo) [] Try.f77 = true := by kernel_rfl
theorem cw7_p0 (a : Option Addr) (l : Nat) (e : Int) (o : AObj) (s0 : sBk ([Value.int .i64 (Int.ofNat 13)]) ([cAw]) = some (Value.tuple #[Value.slice a l l, Value.int .i64 e], [cAw, o])) : CallR Try.prog false 77 ([Value.int .i64 (Int.ofNat 7)]) ([]) (Value.tuple { toList := [Value.slice a l l, Value.int .i64 e] }) ([cAw, o]) := CallR.of_DOXs (C := dLCo) dLCo_ok (X := []) Try.func77 cw7_fok (n := 3) (orc := [(39, Item.eff (Value.tuple #[Value.slice a l l, Value.int .i64 e]) [cAw, o])]) (ps := [(sBk ([Value.int .i64 (Int.ofNat 13)]) ([cAw]) = some (Value.tuple #[Value.slice a l l, Value.int .i64 e], [cAw, o]))]) (by kernel_rfl) (fun hst => ⟨s0, trivial⟩)
theorem cw8_fok : fnOkX (dLCo) [] Try.f77 = true := by kernel_rfl
theorem cw8_p0 (a : Option Addr) (l : Nat) (e : Int) (o : AObj) (s0 : sFrank ([Value.int .i64 (Int.ofNat 4)]) ([cAw]) = some (Value.tuple #[Value.slice a l l, Value.int .i64 e], [cAw, o])) : CallR Try.prog false 77 ([Value.int .i64 (Int.ofNat 8)]) ([]) (Value.tuple { toList := [Value.slice a l l, Value.int .i64 e] }) ([cAw, o]) := CallR.of_DOXs (C := dLCo) dLCo_ok (X := []) Try.func77 cw8_fok (n := 3) (orc := [(40, Item.eff (Value.tuple #[Value.slice a l l, Value.int .i64 e]) [cAw, o])]) (ps := [(sFrank ([Value.int .i64 (Int.ofNat 4)]) ([cAw]) = some (Value.tuple #[Value.slice a l l, Value.int .i64 e], [cAw, o]))]) (by kernel_rfl) (fun hst => ⟨s0, trivial⟩)
theorem cw9_fok : fnOkX (dLCo) [] Try.f77 = true := by kernel_rfl
theorem cw9_p0 (a : Option Addr) (l : Nat) (e : Int) (o : AObj) (s0 : sFrank ([Value.int .i64 (Int.ofNat 8)]) ([cAw]) = some (Value.tuple #[Value.slice a l l, Value.int .i64 e], [cAw, o])) : CallR Try.prog false 77 ([Value.int .i64 (Int.ofNat 9)]) ([]) (Value.tuple { toList := [Value.slice a l l, Value.int .i64 e] }) ([cAw, o]) := CallR.of_DOXs (C := dLCo) dLCo_ok (X := []) Try.func77 cw9_fok (n := 3) (orc := [(47, Item.eff (Value.tuple #[Value.slice a l l, Value.int .i64 e]) [cAw, o])]) (ps := [(sFrank ([Value.int .i64 (Int.ofNat 8)]) ([cAw]) = some (Value.tuple #[Value.slice a l l, Value.int .i64 e], [cAw, o]))]) (by kernel_rfl) (fun hst => ⟨s0, trivial⟩)
theorem cw10_fok : fnOkX (dLCo) [] Try.f77 = true := by kernel_rfl
theorem cw10_p0 (a : Option Addr) (l : Nat) (e : Int) (o : AObj) (s0 : sChirpW ([Value.int .i64 (Int.ofNat 32), Value.float .f64 4620693217682128896]) ([cAw]) = some (Value.tuple #[Value.slice a l l, Value.int .i64 e], [cAw, o])) : CallR Try.prog false 77 ([Value.int .i64 (Int.ofNat 10)]) ([]) (Value.tuple { toList := [Value.slice a l l, Value.int .i64 e] }) ([cAw, o]) := CallR.of_DOXs (C := dLCo) dLCo_ok (X := []) Try.func77 cw10_fok (n := 3) (orc := [(54, Item.eff (Value.tuple #[Value.slice a l l, Value.int .i64 e]) [cAw, o])]) (ps := [(sChirpW ([Value.int .i64 (Int.ofNat 32), Value.float .f64 4620693217682128896]) ([cAw]) = some (Value.tuple #[Value.slice a l l, Value.int .i64 e], [cAw, o]))]) (by kernel_rfl) (fun hst => ⟨s0, trivial⟩)
theorem cw11_fok : fnOkX (dLCo) [] Try.f77 = true := by kernel_rfl
theorem cw11_p0 (a : Option Addr) (l : Nat) (e : Int) (o : AObj) (s0 : sChirpW ([Value.int .i64 (Int.ofNat 64), Value.float .f64 4625196817309499392]) ([cAw]) = some (Value.tuple #[Value.slice a l l, Value.int .i64 e], [cAw, o])) : CallR Try.prog false 77 ([Value.int .i64 (Int.ofNat 11)]) ([]) (Value.tuple { toList := [Value.slice a l l, Value.int .i64 e] }) ([cAw, o]) := CallR.of_DOXs (C := dLCo) dLCo_ok (X := []) Try.func77 cw11_fok (n := 3) (orc := [(61, Item.eff (Value.tuple #[Value.slice a l l, Value.int .i64 e]) [cAw, o])]) (ps := [(sChirpW ([Value.int .i64 (Int.ofNat 64), Value.float .f64 4625196817309499392]) ([cAw]) = some (Value.tuple #[Value.slice a l l, Value.int .i64 e], [cAw, o]))]) (by kernel_rfl) (fun hst => ⟨s0, trivial⟩)
theorem cw12_fok : fnOkX (dLCo) [] Try.f77 = true := by kernel_rfl
theorem cw12_p0 (a : Option Addr) (l : Nat) (e : Int) (o : AObj) (s0 : sSteps ([Value.slice (some ⟨1, 0, some 1⟩) 10 10, Value.int .i64 (Int.ofNat 16)]) ([cAw, cAo]) = some (Value.tuple #[Value.slice a l l, Value.int .i64 e], [cAw, cAo, o])) : CallR Try.prog false 77 ([Value.int .i64 (Int.ofNat 12)]) ([]) (Value.tuple { toList := [Value.slice a l l, Value.int .i64 e] }) ([cAw, cAo, o]) := CallR.of_DOXs (C := dLCo) dLCo_ok (X := []) Try.func77 cw12_fok (n := 3) (orc := [(70, Item.eff (Value.tuple #[Value.slice a l l, Value.int .i64 e]) [cAw, cAo, o])]) (ps := [(sSteps ([Value.slice (some ⟨1, 0, some 1⟩) 10 10, Value.int .i64 (Int.ofNat 16)]) ([cAw, cAo]) = some (Value.tuple #[Value.slice a l l, Value.int .i64 e], [cAw, cAo, o]))]) (by kernel_rfl) (fun hst => ⟨s0, trivial⟩)
theorem cwEa_fok : fnOkX (dLCo) [] Try.f77 = true := by kernel_rfl
theorem cwEa_p0 (n : Int) (h : n < 0) (h0 : (n == Int.ofNat 0) = false) (h8 : (n == Int.ofNat 8) = false) (h9 : (n == Int.ofNat 9) = false) (h10 : (n == Int.ofNat 10) = false) (h11 : (n == Int.ofNat 11) = false) (h12 : (n == Int.ofNat 12) = false) : CallR Try.prog false 77 ([Value.int .i64 n]) ([]) (Value.tuple { toList := [Value.slice none 0 0, Value.int .i64 (Int.ofNat 40)] }) ([cAw]) := CallR.of_DOXs (C := dLCo) dLCo_ok (X := []) Try.func77 cwEa_fok (n := 3) (orc := [(16, Item.br false), (23, Item.br false), (25, Item.br false), (28, Item.res (Value.bool false)), (38, Item.br false), (45, Item.br false), (52, Item.br false), (59, Item.br false), (66, Item.br false)]) (ps := [(bP (n == Int.ofNat 0) false), (some (decide (n > 0) == true) = some false), (some (decide (n > 0) == true) = some false), (pP (none) (some (Value.bool false)) ([cAw]) (decide (n > 0)) (Value.bool false)), (bP (n == Int.ofNat 8) false), (bP (n == Int.ofNat 9) false), (bP (n == Int.ofNat 10) false), (bP (n == Int.ofNat 11) false), (bP (n == Int.ofNat 12) false)]) (by kernel_rfl) (fun hst => ⟨bP_of (fun x => x) h0, ⟨bP_of (fun x => x == true) (show (decide (n > 0)) = false from decide_eq_false (by (try simp only [decide_eq_true_eq, decide_eq_false_iff_not] at *); (try simp only [iN_eq, Int.ofNat_eq_natCast] at *); omega)), ⟨bP_of (fun x => x == true) (show (decide (n > 0)) = false from decide_eq_false (by (try simp only [decide_eq_true_eq, decide_eq_false_iff_not] at *); (try simp only [iN_eq, Int.ofNat_eq_natCast] at *); omega)), ⟨pP_f _ _ _ (congrArg (fun bb => (bb)) (show (decide (n > 0)) = false from decide_eq_false (by (try simp only [decide_eq_true_eq, decide_eq_false_iff_not] at *); (try simp only [iN_eq, Int.ofNat_eq_natCast] at *); omega))), ⟨bP_of (fun x => x) h8, ⟨bP_of (fun x => x) h9, ⟨bP_of (fun x => x) h10, ⟨bP_of (fun x => x) h11, ⟨bP_of (fun x => x) h12, trivial⟩⟩⟩⟩⟩⟩⟩⟩⟩)
theorem cwEb_fok : fnOkX (dLCo) [] Try.f77 = true := by kernel_rfl
theorem cwEb_p0 (n : Int) (h : 12 < n) (h0 : (n == Int.ofNat 0) = false) (h8 : (n == Int.ofNat 8) = false) (h9 : (n == Int.ofNat 9) = false) (h10 : (n == Int.ofNat 10) = false) (h11 : (n == Int.ofNat 11) = false) (h12 : (n == Int.ofNat 12) = false) : CallR Try.prog false 77 ([Value.int .i64 n]) ([]) (Value.tuple { toList := [Value.slice none 0 0, Value.int .i64 (Int.ofNat 40)] }) ([cAw]) := CallR.of_DOXs (C := dLCo) dLCo_ok (X := []) Try.func77 cwEb_fok (n := 3) (orc := [(16, Item.br false), (23, Item.br true), (25, Item.br true), (28, Item.res (Value.bool (decide (n < 8)))), (31, Item.br false), (38, Item.br false), (45, Item.br false), (52, Item.br false), (59, Item.br false), (66, Item.br false)]) (ps := [(bP (n == Int.ofNat 0) false), (some (decide (n > 0) == true) = some true), (some (decide (n > 0) == true) = some true), (pP (some (Value.bool (decide (n < 8)))) (some (Value.bool false)) ([cAw]) (decide (n > 0)) (Value.bool (decide (n < 8)))), (some (decide (n < 8)) = some false), (bP (n == Int.ofNat 8) false), (bP (n == Int.ofNat 9) false), (bP (n == Int.ofNat 10) false), (bP (n == Int.ofNat 11) false), (bP (n == Int.ofNat 12) false)]) (by kernel_rfl) (fun hst => ⟨bP_of (fun x => x) h0, ⟨bP_of (fun x => x == true) (show (decide (n > 0)) = true from decide_eq_true (by (try simp only [decide_eq_true_eq, decide_eq_false_iff_not] at *); (try simp only [iN_eq, Int.ofNat_eq_natCast] at *); omega)), ⟨bP_of (fun x => x == true) (show (decide (n > 0)) = true from decide_eq_true (by (try simp only [decide_eq_true_eq, decide_eq_false_iff_not] at *); (try simp only [iN_eq, Int.ofNat_eq_natCast] at *); omega)), ⟨pP_t _ _ _ (congrArg (fun bb => (bb)) (show (decide (n > 0)) = true from decide_eq_true (by (try simp only [decide_eq_true_eq, decide_eq_false_iff_not] at *); (try simp only [iN_eq, Int.ofNat_eq_natCast] at *); omega))), ⟨bP_of (fun x => x) (show (decide (n < 8)) = false from decide_eq_false (by (try simp only [decide_eq_true_eq, decide_eq_false_iff_not] at *); (try simp only [iN_eq, Int.ofNat_eq_natCast] at *); omega)), ⟨bP_of (fun x => x) h8, ⟨bP_of (fun x => x) h9, ⟨bP_of (fun x => x) h10, ⟨bP_of (fun x => x) h11, ⟨bP_of (fun x => x) h12, trivial⟩⟩⟩⟩⟩⟩⟩⟩⟩⟩)
end Go.Lk
end

section
/- Codes by their numbers: contracts, joined. -/
namespace Go.Lk
open Go.Proofs
set_option maxRecDepth 100000
set_option linter.unusedVariables false
set_option linter.unusedSimpArgs false
/-- The order of the twelfth code. -/
def w12 : Nat → Int := intAt [.int .i64 1, .int .i64 2, .int .i64 4, .int .i64 8, .int .i64 5, .int .i64 10, .int .i64 9, .int .i64 7, .int .i64 3, .int .i64 6]
def coAn (fA fB : Nat → Nat → Nat) (fin : Nat → Bool) (A B : (Nat → Int) → Nat → Nat → Nat) (n : Int) : An :=
  bif n == Int.ofNat 0 then ⟨1, fun _ => 4607182418800017408, fun _ => 0, 0⟩ else bif n == Int.ofNat 1 then bkAn 2 else bif n == Int.ofNat 2 then bkAn 3 else bif n == Int.ofNat 3 then bkAn 4 else bif n == Int.ofNat 4 then bkAn 5 else
  bif n == Int.ofNat 5 then bkAn 7 else bif n == Int.ofNat 6 then bkAn 11 else bif n == Int.ofNat 7 then bkAn 13 else bif n == Int.ofNat 8 then frAn fA fB 4 else bif n == Int.ofNat 9 then frAn fA fB 8 else
  bif n == Int.ofNat 10 then chAn fin cwA cwB 32 4620693217682128896 else bif n == Int.ofNat 11 then chAn fin cwA cwB 64 4625196817309499392 else bif n == Int.ofNat 12 then stAn A B w12 10 16 else anErr 40
def coH (fA fB : Nat → Nat → Nat) (fin : Nat → Bool) (A B : (Nat → Int) → Nat → Nat → Nat) : List Value → Option An
  | [.int .i64 n] => some (coAn fA fB fin A B n)
  | _ => none
def sCode : HeapFn := sAn 1 xRow (coH fwA fwB cFin_0 swA swB)
theorem ne_beq {n : Int} {k : Nat} (h : ¬ n = (k : Int)) : (n == Int.ofNat k) = false := by simpa using h
theorem co_all {f z : Nat} {row : (Nat → Nat) → (Nat → Nat) → Nat → List Value} {fA fB : Nat → Nat → Nat} {fin : Nat → Bool} {A B : (Nat → Int) → Nat → Nat → Nat}
    (h0 : AnCall f [.int .i64 0] z row ⟨1, fun _ => 4607182418800017408, fun _ => 0, 0⟩) (h1 : AnCall f [.int .i64 1] z row (bkAn 2)) (h2 : AnCall f [.int .i64 2] z row (bkAn 3)) (h3 : AnCall f [.int .i64 3] z row (bkAn 4)) (h4 : AnCall f [.int .i64 4] z row (bkAn 5))
    (h5 : AnCall f [.int .i64 5] z row (bkAn 7)) (h6 : AnCall f [.int .i64 6] z row (bkAn 11)) (h7 : AnCall f [.int .i64 7] z row (bkAn 13)) (h8 : AnCall f [.int .i64 8] z row (frAn fA fB 4)) (h9 : AnCall f [.int .i64 9] z row (frAn fA fB 8))
    (h10 : AnCall f [.int .i64 10] z row (chAn fin cwA cwB 32 4620693217682128896)) (h11 : AnCall f [.int .i64 11] z row (chAn fin cwA cwB 64 4625196817309499392)) (h12 : AnCall f [.int .i64 12] z row (stAn A B w12 10 16))
    (hE : ∀ n : Int, (n < 0 ∨ 12 < n) → (n == Int.ofNat 0) = false → (n == Int.ofNat 8) = false → (n == Int.ofNat 9) = false → (n == Int.ofNat 10) = false → (n == Int.ofNat 11) = false → (n == Int.ofNat 12) = false → ∃ σ', CallR Try.prog false f [.int .i64 n] [] (.tuple #[.slice none 0 0, .int .i64 40]) σ')
    (n : Int) : AnCall f [.int .i64 n] z row (coAn fA fB fin A B n) := by
  by_cases e0 : n = 0; · subst e0; exact h0
  by_cases e1 : n = 1; · subst e1; exact h1
  by_cases e2 : n = 2; · subst e2; exact h2
  by_cases e3 : n = 3; · subst e3; exact h3
  by_cases e4 : n = 4; · subst e4; exact h4
  by_cases e5 : n = 5; · subst e5; exact h5
  by_cases e6 : n = 6; · subst e6; exact h6
  by_cases e7 : n = 7; · subst e7; exact h7
  by_cases e8 : n = 8; · subst e8; exact h8
  by_cases e9 : n = 9; · subst e9; exact h9
  by_cases e10 : n = 10; · subst e10; exact h10
  by_cases e11 : n = 11; · subst e11; exact h11
  by_cases e12 : n = 12; · subst e12; exact h12
  obtain ⟨σ', h⟩ := hE n (by omega) (ne_beq e0) (ne_beq e8) (ne_beq e9) (ne_beq e10) (ne_beq e11) (ne_beq e12)
  unfold coAn
  rw [ne_beq (k := 0) e0, ne_beq (k := 1) e1, ne_beq (k := 2) e2, ne_beq (k := 3) e3, ne_beq (k := 4) e4, ne_beq (k := 5) e5, ne_beq (k := 6) e6, ne_beq (k := 7) e7, ne_beq (k := 8) e8, ne_beq (k := 9) e9, ne_beq (k := 10) e10, ne_beq (k := 11) e11, ne_beq (k := 12) e12]
  exact .err h
theorem sCode_ok : IsHeap Try.prog false 77 false sCode := sAn_is xRow_plain fun args x h => by
  unfold coH at h
  split at h
  · cases h
    refine ⟨rfl, co_all ?_ ?_ ?_ ?_ ?_ ?_ ?_ ?_ ?_ ?_ ?_ ?_ ?_ ?_ _⟩
    · exact .inr ⟨Nat.succ_pos _, _, _, none, cw0_p0, rfl, .inl rfl⟩
    · exact .in' (cw1_p0 _ _ _ _ (sAn_side (x := bkAn 2) rfl _)) rfl
    · exact .in' (cw2_p0 _ _ _ _ (sAn_side (x := bkAn 3) rfl _)) rfl
    · exact .in' (cw3_p0 _ _ _ _ (sAn_side (x := bkAn 4) rfl _)) rfl
    · exact .in' (cw4_p0 _ _ _ _ (sAn_side (x := bkAn 5) rfl _)) rfl
    · exact .in' (cw5_p0 _ _ _ _ (sAn_side (x := bkAn 7) rfl _)) rfl
    · exact .in' (cw6_p0 _ _ _ _ (sAn_side (x := bkAn 11) rfl _)) rfl
    · exact .in' (cw7_p0 _ _ _ _ (sAn_side (x := bkAn 13) rfl _)) rfl
    · exact .in' (cw8_p0 _ _ _ _ (sAn_side (x := frAn fwA fwB 4) rfl _)) rfl
    · exact .in' (cw9_p0 _ _ _ _ (sAn_side (x := frAn fwA fwB 8) rfl _)) rfl
    · exact .in' (cw10_p0 _ _ _ _ (sAn_side (x := chAn cFin_0 cwA cwB 32 4620693217682128896) rfl _)) rfl
    · exact .in' (cw11_p0 _ _ _ _ (sAn_side (x := chAn cFin_0 cwA cwB 64 4625196817309499392) rfl _)) rfl
    · exact .in' (cw12_p0 _ _ _ _ (st_side (w := w12) (h := stAn swA swB) (m := 10) (n := 16) rfl rfl rfl rfl)) rfl
    · intro n h h0 h8 h9 h10 h11 h12
      rcases h with h | h
      · exact ⟨_, cwEa_p0 n h h0 h8 h9 h10 h11 h12⟩
      · exact ⟨_, cwEb_p0 n h h0 h8 h9 h10 h11 h12⟩
  · cases h
end Go.Lk
end

section
/- PulseCodes: its path. -/
namespace Go.Lk
open Go.Proofs
set_option maxRecDepth 100000
set_option maxHeartbeats 0
set_option linter.unusedVariables false
set_option linter.unusedSimpArgs false
noncomputable def t9x : Tab := (t9w.addH 77 false sCode)
theorem t9x_ok : t9x.Ok Try.prog false := (Tab.Ok.addH t9w_ok sCode_ok)
end Go.Lk
end
