import Derived.Test.YtmomainjlncogaaPe7
import Derived.Test.YtmomainjlncogaaPe6
section
/- Steps of frequency: loops, contracts. -/
namespace Go.Lk
open Go.Proofs
set_option maxRecDepth 100000
set_option maxHeartbeats 0
set_option linter.unusedVariables false
set_option linter.unusedSimpArgs false
def sfW (z : Nat → Int) (n i : Nat) : Int := Int.tmod (IntKind.i64.wrap (Int.tmod (z i) (iN n) + iN n)) (iN n)
theorem swO0_okX : codeOkX (dLSp) [] (loopOf Try.f71 0) = true := by kernel_rfl
theorem swO0_p0 (opn : Option Nat) (z : Nat → Int) (M : Nat) (m : Nat) (cap : Nat) (n : Nat) (hn : n ≤ 16384) (hm : m ≤ 16384) (hM : m ≤ M) (hg : decide (0 < iN n) = true) (h1 : 0 < n) (h0 : 0 < m) (l1 : Stood false ([.row (rowOf (fun i => [.int .i64 (z i)]) M) false opn]) → Sim (dLSp) 1 (.loop (loopOf Try.f71 1)) ([Value.slice (some ⟨0, 0, some 1⟩) m cap, Value.int .i64 (iN n), undef, undef, Value.slice none 0 0, Value.int .i64 (Int.ofNat 0), Value.slice none 0 0, undef, Value.int .i64 ((IntKind.i64.wrap ((z 0).tmod (iN n) + iN n)).tmod (iN n)), undef, undef, undef, undef, undef, undef, undef, undef, undef, undef, undef, undef, undef, undef, undef, Value.slice (some ⟨0, 0, some 1⟩) m cap, Value.int .i64 (iN m), Value.int .i64 (Int.ofNat 0), Value.bool (decide (Int.ofNat 0 < iN m)), Value.pointer (some { block := 0, off := 0 + (Int.ofNat 0).toNat * 1 }), Value.int .i64 (z 0), Value.int .i64 (z 0), Value.int .i64 (iN n), Value.int .i64 ((z 0).tmod (iN n)), Value.int .i64 (iN n), Value.int .i64 (IntKind.i64.wrap ((z 0).tmod (iN n) + iN n)), Value.int .i64 (iN n), Value.int .i64 ((IntKind.i64.wrap ((z 0).tmod (iN n) + iN n)).tmod (iN n)), Value.int .i64 (iN n), Value.int .i64 (Int.ofNat 0), undef, undef, undef, undef, undef, undef, undef, undef, undef, undef, undef, undef, undef, undef, undef]) ([AObj.row (rowOf (fun i => [Value.int .i64 (z i)]) M) false opn]) (Exit.exit 3) ([Value.slice (some ⟨0, 0, some 1⟩) m cap, Value.int .i64 (iN n), undef, undef, Value.slice none 0 0, Value.int .i64 (Int.ofNat 0), Value.slice (some ⟨1, 0, some 1⟩) n n, undef, Value.int .i64 (sfW z n 0), undef, undef, undef, undef, undef, undef, undef, undef, undef, undef, undef, undef, undef, undef, undef, Value.slice (some ⟨0, 0, some 1⟩) m cap, Value.int .i64 (iN m), Value.int .i64 (Int.ofNat 0), undef, undef, undef, undef, undef, undef, undef, undef, undef, undef, Value.int .i64 (iN n), Value.int .i64 (iN n), undef, undef, undef, undef, undef, undef, undef, undef, undef, undef, undef, undef, undef, undef, undef]) ([AObj.row (rowOf (fun i => [Value.int .i64 (z i)]) M) false opn, AObj.row (rowOf (nestR n fun i j => [Value.complex .f64 (wUnit_0 ((IntKind.i64.wrap (sfW z n i * iN j)).tmod (iN n)) (iN n)) (wUnit_1 ((IntKind.i64.wrap (sfW z n i * iN j)).tmod (iN n)) (iN n))]) n) true (some 1)])) (hst : Stood false ([.row (rowOf (fun i => [.int .i64 (z i)]) M) false opn])) : Sim (dLSp) 1 (loopOf Try.f71 0) ((swF m cap n (.slice none 0 0) undef (.int .i64 (iN 0)) undef undef)) ([.row (rowOf (fun i => [.int .i64 (z i)]) M) false opn]) .normal ([Value.slice (some ⟨0, 0, some 1⟩) m cap, Value.int .i64 (iN n), undef, undef, Value.slice none 0 0, Value.int .i64 (Int.ofNat 0), Value.slice (some ⟨1, 0, some 1⟩) n n, undef, undef, undef, undef, undef, undef, undef, undef, undef, undef, undef, undef, undef, undef, undef, undef, undef, Value.slice (some ⟨0, 0, some 1⟩) m cap, Value.int .i64 (iN m), Value.int .i64 (Int.ofNat 1), undef, undef, undef, undef, undef, undef, undef, undef, undef, undef, undef, undef, undef, undef, undef, undef, undef, undef, undef, undef, undef, undef, undef, undef, undef, undef, undef]) ([AObj.row (rowOf (fun i => [Value.int .i64 (z i)]) M) false opn, AObj.row (rowOf (nestR n fun i j => [Value.complex .f64 (wUnit_0 ((IntKind.i64.wrap (sfW z n i * iN j)).tmod (iN n)) (iN n)) (wUnit_1 ((IntKind.i64.wrap (sfW z n i * iN j)).tmod (iN n)) (iN n))]) n) true (some 1)]) := Sim.of_roundQ (C := dLSp) dLSp_ok (X := []) (n := 3) (orc := [(2, Item.br true), (4, Item.res (Value.pointer (some { block := 0, off := 0 + (Int.ofNat 0).toNat * 1 }))), (6, Item.res (Value.int .i64 (z 0))), (14, Item.res (Value.int .i64 ((z 0).tmod (iN n)))), (22, Item.res (Value.int .i64 ((IntKind.i64.wrap ((z 0).tmod (iN n) + iN n)).tmod (iN n)))), (29, Item.loop (Exit.exit 3) (swF m cap n (Value.slice (some ⟨1, 0, some 1⟩) n n) (Value.int .i64 (sfW z n 0)) (Value.int .i64 (iN 0)) (Value.int .i64 (iN n)) (Value.int .i64 (iN n))) [AObj.row (rowOf (fun i => [Value.int .i64 (z i)]) M) false opn, AObj.row (rowOf (nestR n fun i j => [Value.complex .f64 (wUnit_0 ((IntKind.i64.wrap (sfW z n i * iN j)).tmod (iN n)) (iN n)) (wUnit_1 ((IntKind.i64.wrap (sfW z n i * iN j)).tmod (iN n)) (iN n))]) n) true (some 1)])]) (ks := [0, 1]) (mask := [true, true, false, false, true, true, true, false, false, false, false, false, false, false, false, false, false, false, false, false, false, false, false, false, true, true, true, false, false, false, false, false, false, false, false, false, false, false, false, false, false, false, false, false, false, false, false, false, false, false, false, false, false, false]) (ps := [(some (decide (Int.ofNat 0 < iN m)) = some true), (ixF (Value.pointer (some { block := 0, off := 0 + (Int.ofNat 0).toNat * 1 })) ([AObj.row (rowOf (fun i => [Value.int .i64 (z i)]) M) false opn]) (Int.ofNat 0) (m) = some (Value.pointer (some { block := 0, off := 0 + (Int.ofNat 0).toNat * 1 }), [AObj.row (rowOf (fun i => [Value.int .i64 (z i)]) M) false opn])), (ldF (aLoad Try.prog ([AObj.row (rowOf (fun i => [Value.int .i64 (z i)]) M) false opn]) 3 (.pointer (some ⟨0, 0, none⟩))) ([AObj.row (rowOf (fun i => [Value.int .i64 (z i)]) M) false opn]) = some (Value.int .i64 (z 0), [AObj.row (rowOf (fun i => [Value.int .i64 (z i)]) M) false opn])), (qF (Value.int .i64 ((z 0).tmod (iN n))) ([AObj.row (rowOf (fun i => [Value.int .i64 (z i)]) M) false opn]) (iN n) = some (Value.int .i64 ((z 0).tmod (iN n)), [AObj.row (rowOf (fun i => [Value.int .i64 (z i)]) M) false opn])), (qF (Value.int .i64 ((IntKind.i64.wrap ((z 0).tmod (iN n) + iN n)).tmod (iN n))) ([AObj.row (rowOf (fun i => [Value.int .i64 (z i)]) M) false opn]) (iN n) = some (Value.int .i64 ((IntKind.i64.wrap ((z 0).tmod (iN n) + iN n)).tmod (iN n)), [AObj.row (rowOf (fun i => [Value.int .i64 (z i)]) M) false opn])), (Sim (dLSp) 1 (.loop (loopOf Try.f71 1)) ([Value.slice (some ⟨0, 0, some 1⟩) m cap, Value.int .i64 (iN n), undef, undef, Value.slice none 0 0, Value.int .i64 (Int.ofNat 0), Value.slice none 0 0, undef, Value.int .i64 ((IntKind.i64.wrap ((z 0).tmod (iN n) + iN n)).tmod (iN n)), undef, undef, undef, undef, undef, undef, undef, undef, undef, undef, undef, undef, undef, undef, undef, Value.slice (some ⟨0, 0, some 1⟩) m cap, Value.int .i64 (iN m), Value.int .i64 (Int.ofNat 0), Value.bool (decide (Int.ofNat 0 < iN m)), Value.pointer (some { block := 0, off := 0 + (Int.ofNat 0).toNat * 1 }), Value.int .i64 (z 0), Value.int .i64 (z 0), Value.int .i64 (iN n), Value.int .i64 ((z 0).tmod (iN n)), Value.int .i64 (iN n), Value.int .i64 (IntKind.i64.wrap ((z 0).tmod (iN n) + iN n)), Value.int .i64 (iN n), Value.int .i64 ((IntKind.i64.wrap ((z 0).tmod (iN n) + iN n)).tmod (iN n)), Value.int .i64 (iN n), Value.int .i64 (Int.ofNat 0), undef, undef, undef, undef, undef, undef, undef, undef, undef, undef, undef, undef, undef, undef, undef]) ([AObj.row (rowOf (fun i => [Value.int .i64 (z i)]) M) false opn]) (Exit.exit 3) ([Value.slice (some ⟨0, 0, some 1⟩) m cap, Value.int .i64 (iN n), undef, undef, Value.slice none 0 0, Value.int .i64 (Int.ofNat 0), Value.slice (some ⟨1, 0, some 1⟩) n n, undef, Value.int .i64 (sfW z n 0), undef, undef, undef, undef, undef, undef, undef, undef, undef, undef, undef, undef, undef, undef, undef, Value.slice (some ⟨0, 0, some 1⟩) m cap, Value.int .i64 (iN m), Value.int .i64 (Int.ofNat 0), undef, undef, undef, undef, undef, undef, undef, undef, undef, undef, Value.int .i64 (iN n), Value.int .i64 (iN n), undef, undef, undef, undef, undef, undef, undef, undef, undef, undef, undef, undef, undef, undef, undef]) ([AObj.row (rowOf (fun i => [Value.int .i64 (z i)]) M) false opn, AObj.row (rowOf (nestR n fun i j => [Value.complex .f64 (wUnit_0 ((IntKind.i64.wrap (sfW z n i * iN j)).tmod (iN n)) (iN n)) (wUnit_1 ((IntKind.i64.wrap (sfW z n i * iN j)).tmod (iN n)) (iN n))]) n) true (some 1)])), (List.length (α := AObj) ([AObj.row (rowOf (fun i => [Value.int .i64 (z i)]) M) false opn]) ≤ List.length ([AObj.row (rowOf (fun i => [Value.int .i64 (z i)]) M) false opn, AObj.row (rowOf (nestR n fun i j => [Value.complex .f64 (wUnit_0 ((IntKind.i64.wrap (sfW z n i * iN j)).tmod (iN n)) (iN n)) (wUnit_1 ((IntKind.i64.wrap (sfW z n i * iN j)).tmod (iN n)) (iN n))]) n) true (some 1)])), (Lk.Exit.isG (Exit.exit 3) = false)]) (L := 2) 1 swO0_okX (by kernel_rfl) ⟨bP_of (fun x => x) (show (decide (Int.ofNat 0 < iN m)) = true from decide_eq_true (by first | omega | ((try simp only [decide_eq_true_eq, decide_eq_false_iff_not] at *); (try simp only [iN_eq, Int.ofNat_eq_natCast] at *); try omega))), ⟨ixF_ok _ _ (by first | omega | ((try simp only [decide_eq_true_eq, decide_eq_false_iff_not] at *); (try simp only [iN_eq, Int.ofNat_eq_natCast] at *); try omega)), ⟨ldF_ok (load_one (k := 0) (n := M) (g := fun i => ((fun i => [Value.int .i64 (z i)]) i).getD 0 undef) rfl (by kernel_rfl) (by omega) (by first | omega | ((try simp only [decide_eq_true_eq, decide_eq_false_iff_not] at *); (try simp only [iN_eq, Int.ofNat_eq_natCast] at *); try omega))), ⟨qF_ok _ _ (by first | omega | (try simp only [decide_eq_true_eq, decide_eq_false_iff_not, Int.not_lt, Int.not_le] at *; (try simp only [iN_eq, Int.ofNat_eq_natCast] at *); omega)), ⟨qF_ok _ _ (by first | omega | (try simp only [decide_eq_true_eq, decide_eq_false_iff_not, Int.not_lt, Int.not_le] at *; (try simp only [iN_eq, Int.ofNat_eq_natCast] at *); omega)), ⟨l1 hst, Nat.le_of_ble_eq_true (by kernel_rfl), rfl, trivial⟩⟩⟩⟩⟩⟩ hst (by kernel_rfl) (by kernel_rfl) (by kernel_rfl) (by decide) (by kernel_rfl) ⟨rowOf_all (fun _ => rfl) _, trivial⟩
theorem swO_okX : codeOkX (dLSp) [] (loopOf Try.f71 0) = true := by kernel_rfl
theorem swO_p0 (opn : Option Nat) (z : Nat → Int) (M : Nat) (m : Nat) (cap : Nat) (n : Nat) (i : Nat) (hn : n ≤ 16384) (hm : m ≤ 16384) (hM : m ≤ M) (hg : decide (0 < iN n) = true) (h1 : 0 < n) (hi : i < m) (h0 : 0 < i) (l1 : Stood false ([.row (rowOf (fun i => [.int .i64 (z i)]) M) false opn]) → Sim (dLSp) 2 (.loop (loopOf Try.f71 1)) ([Value.slice (some ⟨0, 0, some 1⟩) m cap, Value.int .i64 (iN n), undef, undef, Value.slice none 0 0, Value.int .i64 (Int.ofNat 0), Value.slice (some ⟨1, 0, some 1⟩) (n * i) (n * i), undef, Value.int .i64 ((IntKind.i64.wrap ((z i).tmod (iN n) + iN n)).tmod (iN n)), undef, undef, undef, undef, undef, undef, undef, undef, undef, undef, undef, undef, undef, undef, undef, Value.slice (some ⟨0, 0, some 1⟩) m cap, Value.int .i64 (iN m), Value.int .i64 (iN i), Value.bool (decide (iN i < iN m)), Value.pointer (some { block := 0, off := 0 + i * 1 }), Value.int .i64 (z i), Value.int .i64 (z i), Value.int .i64 (iN n), Value.int .i64 ((z i).tmod (iN n)), Value.int .i64 (iN n), Value.int .i64 (IntKind.i64.wrap ((z i).tmod (iN n) + iN n)), Value.int .i64 (iN n), Value.int .i64 ((IntKind.i64.wrap ((z i).tmod (iN n) + iN n)).tmod (iN n)), Value.int .i64 (iN n), Value.int .i64 (Int.ofNat 0), undef, undef, undef, undef, undef, undef, undef, undef, undef, undef, undef, undef, undef, undef, undef]) ([AObj.row (rowOf (fun i => [Value.int .i64 (z i)]) M) false opn, AObj.row (rowOf (nestR n fun i j => [Value.complex .f64 (wUnit_0 ((IntKind.i64.wrap (sfW z n i * iN j)).tmod (iN n)) (iN n)) (wUnit_1 ((IntKind.i64.wrap (sfW z n i * iN j)).tmod (iN n)) (iN n))]) (n * i)) true (some 1)]) (Exit.exit 3) ([Value.slice (some ⟨0, 0, some 1⟩) m cap, Value.int .i64 (iN n), undef, undef, Value.slice none 0 0, Value.int .i64 (Int.ofNat 0), Value.slice (some ⟨2, 0, some 1⟩) (n * i + n) (n * i + n), undef, Value.int .i64 (sfW z n i), undef, undef, undef, undef, undef, undef, undef, undef, undef, undef, undef, undef, undef, undef, undef, Value.slice (some ⟨0, 0, some 1⟩) m cap, Value.int .i64 (iN m), Value.int .i64 (iN i), undef, undef, undef, undef, undef, undef, undef, undef, undef, undef, Value.int .i64 (iN n), Value.int .i64 (iN n), undef, undef, undef, undef, undef, undef, undef, undef, undef, undef, undef, undef, undef, undef, undef]) ([AObj.row (rowOf (fun i => [Value.int .i64 (z i)]) M) false opn, AObj.dead, AObj.row (rowOf (nestR n fun i j => [Value.complex .f64 (wUnit_0 ((IntKind.i64.wrap (sfW z n i * iN j)).tmod (iN n)) (iN n)) (wUnit_1 ((IntKind.i64.wrap (sfW z n i * iN j)).tmod (iN n)) (iN n))]) (n * i + n)) true (some 1)])) (hst : Stood false ([.row (rowOf (fun i => [.int .i64 (z i)]) M) false opn])) : Sim (dLSp) 1 (loopOf Try.f71 0) ((swF m cap n (.slice (some ⟨1, 0, some 1⟩) (n * i) (n * i)) undef (.int .i64 (iN i)) undef undef)) ([.row (rowOf (fun i => [.int .i64 (z i)]) M) false opn, .row (rowOf (nestR n (fun i j => [.complex .f64 (wUnit_0 (Int.tmod (IntKind.i64.wrap (sfW z n i * iN j)) (iN n)) (iN n)) (wUnit_1 (Int.tmod (IntKind.i64.wrap (sfW z n i * iN j)) (iN n)) (iN n))])) (n * i)) true (some 1)]) .normal ([Value.slice (some ⟨0, 0, some 1⟩) m cap, Value.int .i64 (iN n), undef, undef, Value.slice none 0 0, Value.int .i64 (Int.ofNat 0), Value.slice (some ⟨1, 0, some 1⟩) (n * i + n) (n * i + n), undef, undef, undef, undef, undef, undef, undef, undef, undef, undef, undef, undef, undef, undef, undef, undef, undef, Value.slice (some ⟨0, 0, some 1⟩) m cap, Value.int .i64 (iN m), Value.int .i64 (iN (i + 1)), undef, undef, undef, undef, undef, undef, undef, undef, undef, undef, undef, undef, undef, undef, undef, undef, undef, undef, undef, undef, undef, undef, undef, undef, undef, undef, undef]) ([AObj.row (rowOf (fun i => [Value.int .i64 (z i)]) M) false opn, AObj.row (rowOf (nestR n fun i j => [Value.complex .f64 (wUnit_0 ((IntKind.i64.wrap (sfW z n i * iN j)).tmod (iN n)) (iN n)) (wUnit_1 ((IntKind.i64.wrap (sfW z n i * iN j)).tmod (iN n)) (iN n))]) (n * i + n)) true (some 1)]) := Sim.of_roundQ (C := dLSp) dLSp_ok (X := []) (n := 3) (orc := [(2, Item.br true), (4, Item.res (Value.pointer (some { block := 0, off := 0 + i * 1 }))), (6, Item.res (Value.int .i64 (z i))), (14, Item.res (Value.int .i64 ((z i).tmod (iN n)))), (22, Item.res (Value.int .i64 ((IntKind.i64.wrap ((z i).tmod (iN n) + iN n)).tmod (iN n)))), (29, Item.loop (Exit.exit 3) (swF m cap n (Value.slice (some ⟨2, 0, some 1⟩) (n * i + n) (n * i + n)) (Value.int .i64 (sfW z n i)) (Value.int .i64 (iN i)) (Value.int .i64 (iN n)) (Value.int .i64 (iN n))) [AObj.row (rowOf (fun i => [Value.int .i64 (z i)]) M) false opn, AObj.dead, AObj.row (rowOf (nestR n fun i j => [Value.complex .f64 (wUnit_0 ((IntKind.i64.wrap (sfW z n i * iN j)).tmod (iN n)) (iN n)) (wUnit_1 ((IntKind.i64.wrap (sfW z n i * iN j)).tmod (iN n)) (iN n))]) (n * i + n)) true (some 1)]), (31, Item.res (Value.int .i64 (iN (i + 1))))]) (ks := [0, 2]) (mask := [true, true, false, false, true, true, true, false, false, false, false, false, false, false, false, false, false, false, false, false, false, false, false, false, true, true, true, false, false, false, false, false, false, false, false, false, false, false, false, false, false, false, false, false, false, false, false, false, false, false, false, false, false, false]) (ps := [(some (decide (iN i < iN m)) = some true), (ixF (Value.pointer (some { block := 0, off := 0 + i * 1 })) ([AObj.row (rowOf (fun i => [Value.int .i64 (z i)]) M) false opn, AObj.row (rowOf (nestR n fun i j => [Value.complex .f64 (wUnit_0 ((IntKind.i64.wrap (sfW z n i * iN j)).tmod (iN n)) (iN n)) (wUnit_1 ((IntKind.i64.wrap (sfW z n i * iN j)).tmod (iN n)) (iN n))]) (n * i)) true (some 1)]) (iN i) (m) = some (Value.pointer (some { block := 0, off := 0 + i * 1 }), [AObj.row (rowOf (fun i => [Value.int .i64 (z i)]) M) false opn, AObj.row (rowOf (nestR n fun i j => [Value.complex .f64 (wUnit_0 ((IntKind.i64.wrap (sfW z n i * iN j)).tmod (iN n)) (iN n)) (wUnit_1 ((IntKind.i64.wrap (sfW z n i * iN j)).tmod (iN n)) (iN n))]) (n * i)) true (some 1)])), (ldF (aLoad Try.prog ([AObj.row (rowOf (fun i => [Value.int .i64 (z i)]) M) false opn, AObj.row (rowOf (nestR n fun i j => [Value.complex .f64 (wUnit_0 ((IntKind.i64.wrap (sfW z n i * iN j)).tmod (iN n)) (iN n)) (wUnit_1 ((IntKind.i64.wrap (sfW z n i * iN j)).tmod (iN n)) (iN n))]) (n * i)) true (some 1)]) 3 (.pointer (some ⟨0, 0 + i * 1, none⟩))) ([AObj.row (rowOf (fun i => [Value.int .i64 (z i)]) M) false opn, AObj.row (rowOf (nestR n fun i j => [Value.complex .f64 (wUnit_0 ((IntKind.i64.wrap (sfW z n i * iN j)).tmod (iN n)) (iN n)) (wUnit_1 ((IntKind.i64.wrap (sfW z n i * iN j)).tmod (iN n)) (iN n))]) (n * i)) true (some 1)]) = some (Value.int .i64 (z i), [AObj.row (rowOf (fun i => [Value.int .i64 (z i)]) M) false opn, AObj.row (rowOf (nestR n fun i j => [Value.complex .f64 (wUnit_0 ((IntKind.i64.wrap (sfW z n i * iN j)).tmod (iN n)) (iN n)) (wUnit_1 ((IntKind.i64.wrap (sfW z n i * iN j)).tmod (iN n)) (iN n))]) (n * i)) true (some 1)])), (qF (Value.int .i64 ((z i).tmod (iN n))) ([AObj.row (rowOf (fun i => [Value.int .i64 (z i)]) M) false opn, AObj.row (rowOf (nestR n fun i j => [Value.complex .f64 (wUnit_0 ((IntKind.i64.wrap (sfW z n i * iN j)).tmod (iN n)) (iN n)) (wUnit_1 ((IntKind.i64.wrap (sfW z n i * iN j)).tmod (iN n)) (iN n))]) (n * i)) true (some 1)]) (iN n) = some (Value.int .i64 ((z i).tmod (iN n)), [AObj.row (rowOf (fun i => [Value.int .i64 (z i)]) M) false opn, AObj.row (rowOf (nestR n fun i j => [Value.complex .f64 (wUnit_0 ((IntKind.i64.wrap (sfW z n i * iN j)).tmod (iN n)) (iN n)) (wUnit_1 ((IntKind.i64.wrap (sfW z n i * iN j)).tmod (iN n)) (iN n))]) (n * i)) true (some 1)])), (qF (Value.int .i64 ((IntKind.i64.wrap ((z i).tmod (iN n) + iN n)).tmod (iN n))) ([AObj.row (rowOf (fun i => [Value.int .i64 (z i)]) M) false opn, AObj.row (rowOf (nestR n fun i j => [Value.complex .f64 (wUnit_0 ((IntKind.i64.wrap (sfW z n i * iN j)).tmod (iN n)) (iN n)) (wUnit_1 ((IntKind.i64.wrap (sfW z n i * iN j)).tmod (iN n)) (iN n))]) (n * i)) true (some 1)]) (iN n) = some (Value.int .i64 ((IntKind.i64.wrap ((z i).tmod (iN n) + iN n)).tmod (iN n)), [AObj.row (rowOf (fun i => [Value.int .i64 (z i)]) M) false opn, AObj.row (rowOf (nestR n fun i j => [Value.complex .f64 (wUnit_0 ((IntKind.i64.wrap (sfW z n i * iN j)).tmod (iN n)) (iN n)) (wUnit_1 ((IntKind.i64.wrap (sfW z n i * iN j)).tmod (iN n)) (iN n))]) (n * i)) true (some 1)])), (Sim (dLSp) 2 (.loop (loopOf Try.f71 1)) ([Value.slice (some ⟨0, 0, some 1⟩) m cap, Value.int .i64 (iN n), undef, undef, Value.slice none 0 0, Value.int .i64 (Int.ofNat 0), Value.slice (some ⟨1, 0, some 1⟩) (n * i) (n * i), undef, Value.int .i64 ((IntKind.i64.wrap ((z i).tmod (iN n) + iN n)).tmod (iN n)), undef, undef, undef, undef, undef, undef, undef, undef, undef, undef, undef, undef, undef, undef, undef, Value.slice (some ⟨0, 0, some 1⟩) m cap, Value.int .i64 (iN m), Value.int .i64 (iN i), Value.bool (decide (iN i < iN m)), Value.pointer (some { block := 0, off := 0 + i * 1 }), Value.int .i64 (z i), Value.int .i64 (z i), Value.int .i64 (iN n), Value.int .i64 ((z i).tmod (iN n)), Value.int .i64 (iN n), Value.int .i64 (IntKind.i64.wrap ((z i).tmod (iN n) + iN n)), Value.int .i64 (iN n), Value.int .i64 ((IntKind.i64.wrap ((z i).tmod (iN n) + iN n)).tmod (iN n)), Value.int .i64 (iN n), Value.int .i64 (Int.ofNat 0), undef, undef, undef, undef, undef, undef, undef, undef, undef, undef, undef, undef, undef, undef, undef]) ([AObj.row (rowOf (fun i => [Value.int .i64 (z i)]) M) false opn, AObj.row (rowOf (nestR n fun i j => [Value.complex .f64 (wUnit_0 ((IntKind.i64.wrap (sfW z n i * iN j)).tmod (iN n)) (iN n)) (wUnit_1 ((IntKind.i64.wrap (sfW z n i * iN j)).tmod (iN n)) (iN n))]) (n * i)) true (some 1)]) (Exit.exit 3) ([Value.slice (some ⟨0, 0, some 1⟩) m cap, Value.int .i64 (iN n), undef, undef, Value.slice none 0 0, Value.int .i64 (Int.ofNat 0), Value.slice (some ⟨2, 0, some 1⟩) (n * i + n) (n * i + n), undef, Value.int .i64 (sfW z n i), undef, undef, undef, undef, undef, undef, undef, undef, undef, undef, undef, undef, undef, undef, undef, Value.slice (some ⟨0, 0, some 1⟩) m cap, Value.int .i64 (iN m), Value.int .i64 (iN i), undef, undef, undef, undef, undef, undef, undef, undef, undef, undef, Value.int .i64 (iN n), Value.int .i64 (iN n), undef, undef, undef, undef, undef, undef, undef, undef, undef, undef, undef, undef, undef, undef, undef]) ([AObj.row (rowOf (fun i => [Value.int .i64 (z i)]) M) false opn, AObj.dead, AObj.row (rowOf (nestR n fun i j => [Value.complex .f64 (wUnit_0 ((IntKind.i64.wrap (sfW z n i * iN j)).tmod (iN n)) (iN n)) (wUnit_1 ((IntKind.i64.wrap (sfW z n i * iN j)).tmod (iN n)) (iN n))]) (n * i + n)) true (some 1)])), (List.length (α := AObj) ([AObj.row (rowOf (fun i => [Value.int .i64 (z i)]) M) false opn, AObj.row (rowOf (nestR n fun i j => [Value.complex .f64 (wUnit_0 ((IntKind.i64.wrap (sfW z n i * iN j)).tmod (iN n)) (iN n)) (wUnit_1 ((IntKind.i64.wrap (sfW z n i * iN j)).tmod (iN n)) (iN n))]) (n * i)) true (some 1)]) ≤ List.length ([AObj.row (rowOf (fun i => [Value.int .i64 (z i)]) M) false opn, AObj.dead, AObj.row (rowOf (nestR n fun i j => [Value.complex .f64 (wUnit_0 ((IntKind.i64.wrap (sfW z n i * iN j)).tmod (iN n)) (iN n)) (wUnit_1 ((IntKind.i64.wrap (sfW z n i * iN j)).tmod (iN n)) (iN n))]) (n * i + n)) true (some 1)])), (Lk.Exit.isG (Exit.exit 3) = false), (wF IntKind.i64 (iN i + 1) ([AObj.row (rowOf (fun i => [Value.int .i64 (z i)]) M) false opn, AObj.dead, AObj.row (rowOf (nestR n fun i j => [Value.complex .f64 (wUnit_0 ((IntKind.i64.wrap (sfW z n i * iN j)).tmod (iN n)) (iN n)) (wUnit_1 ((IntKind.i64.wrap (sfW z n i * iN j)).tmod (iN n)) (iN n))]) (n * i + n)) true (some 1)]) = some (.int IntKind.i64 (iN (i + 1)), [AObj.row (rowOf (fun i => [Value.int .i64 (z i)]) M) false opn, AObj.dead, AObj.row (rowOf (nestR n fun i j => [Value.complex .f64 (wUnit_0 ((IntKind.i64.wrap (sfW z n i * iN j)).tmod (iN n)) (iN n)) (wUnit_1 ((IntKind.i64.wrap (sfW z n i * iN j)).tmod (iN n)) (iN n))]) (n * i + n)) true (some 1)]))]) (L := 3) 1 swO_okX (by kernel_rfl) ⟨bP_of (fun x => x) (show (decide (iN i < iN m)) = true from decide_eq_true (by first | omega | ((try simp only [decide_eq_true_eq, decide_eq_false_iff_not] at *); (try simp only [iN_eq, Int.ofNat_eq_natCast] at *); try omega))), ⟨ixF_ok _ _ (by first | omega | ((try simp only [decide_eq_true_eq, decide_eq_false_iff_not] at *); (try simp only [iN_eq, Int.ofNat_eq_natCast] at *); try omega)), ⟨ldF_ok (load_one (k := i) (n := M) (g := fun i => ((fun i => [Value.int .i64 (z i)]) i).getD 0 undef) rfl (by kernel_rfl) (by omega) (by first | omega | ((try simp only [decide_eq_true_eq, decide_eq_false_iff_not] at *); (try simp only [iN_eq, Int.ofNat_eq_natCast] at *); try omega))), ⟨qF_ok _ _ (by first | omega | (try simp only [decide_eq_true_eq, decide_eq_false_iff_not, Int.not_lt, Int.not_le] at *; (try simp only [iN_eq, Int.ofNat_eq_natCast] at *); omega)), ⟨qF_ok _ _ (by first | omega | (try simp only [decide_eq_true_eq, decide_eq_false_iff_not, Int.not_lt, Int.not_le] at *; (try simp only [iN_eq, Int.ofNat_eq_natCast] at *); omega)), ⟨l1 hst, Nat.le_of_ble_eq_true (by kernel_rfl), rfl, ⟨wF_ok _ (by first | omega | ((try simp only [decide_eq_true_eq, decide_eq_false_iff_not] at *); (try simp only [iN_eq, Int.ofNat_eq_natCast] at *); try omega)) (by first | omega | (simp only [decide_eq_true_eq, decide_eq_false_iff_not, iN_eq, Int.ofNat_eq_natCast] at *; try omega)), trivial⟩⟩⟩⟩⟩⟩⟩ hst (by kernel_rfl) (by kernel_rfl) (by kernel_rfl) (by decide) (by kernel_rfl) ⟨rowOf_all (fun _ => rfl) _, trivial⟩
theorem swOE_okX : codeOkX (dLSp) [] (loopOf Try.f71 0) = true := by kernel_rfl
theorem swOE_p0 (opn : Option Nat) (z : Nat → Int) (M : Nat) (m : Nat) (cap : Nat) (n : Nat) (s : Nat) (hn : n ≤ 16384) (hm : m ≤ 16384) (hM : m ≤ M) (hg : decide (0 < iN n) = true) (hst : Stood false ([.row (rowOf (fun i => [.int .i64 (z i)]) M) false opn])) : Sim (dLSp) 1 (loopOf Try.f71 0) ((swF m cap n (.slice (some ⟨1, 0, some 1⟩) (s) (s)) undef (.int .i64 (iN m)) undef undef)) ([.row (rowOf (fun i => [.int .i64 (z i)]) M) false opn, .row (rowOf (nestR n (fun i j => [.complex .f64 (wUnit_0 (Int.tmod (IntKind.i64.wrap (sfW z n i * iN j)) (iN n)) (iN n)) (wUnit_1 (Int.tmod (IntKind.i64.wrap (sfW z n i * iN j)) (iN n)) (iN n))])) (s)) true (some 1)]) (.exit 1) ([Value.slice (some ⟨0, 0, some 1⟩) m cap, Value.int .i64 (iN n), undef, undef, Value.slice none 0 0, Value.int .i64 (Int.ofNat 0), Value.slice (some ⟨1, 0, some 1⟩) s s, undef, undef, undef, undef, undef, undef, undef, undef, undef, undef, undef, undef, undef, undef, undef, undef, undef, Value.slice (some ⟨0, 0, some 1⟩) m cap, Value.int .i64 (iN m), Value.int .i64 (iN m), undef, undef, undef, undef, undef, undef, undef, undef, undef, undef, undef, undef, undef, undef, undef, undef, undef, undef, undef, undef, undef, undef, undef, undef, undef, undef, undef]) ([AObj.row (rowOf (fun i => [Value.int .i64 (z i)]) M) false opn, AObj.row (rowOf (nestR n fun i j => [Value.complex .f64 (wUnit_0 ((IntKind.i64.wrap (sfW z n i * iN j)).tmod (iN n)) (iN n)) (wUnit_1 ((IntKind.i64.wrap (sfW z n i * iN j)).tmod (iN n)) (iN n))]) s) true (some 1)]) := Sim.of_roundQ (C := dLSp) dLSp_ok (X := []) (n := 3) (orc := [(2, Item.br false)]) (ks := [0, 1]) (mask := [true, true, false, false, true, true, true, false, false, false, false, false, false, false, false, false, false, false, false, false, false, false, false, false, true, true, true, false, false, false, false, false, false, false, false, false, false, false, false, false, false, false, false, false, false, false, false, false, false, false, false, false, false, false]) (ps := [(some (decide (iN m < iN m)) = some false)]) (L := 2) 1 swOE_okX (by kernel_rfl) ⟨bP_of (fun x => x) (show (decide (iN m < iN m)) = false from decide_eq_false (by first | omega | ((try simp only [decide_eq_true_eq, decide_eq_false_iff_not] at *); (try simp only [iN_eq, Int.ofNat_eq_natCast] at *); try omega))), trivial⟩ hst (by kernel_rfl) (by kernel_rfl) (by kernel_rfl) (by decide) (by kernel_rfl) ⟨rowOf_all (fun _ => rfl) _, trivial⟩
def swO (opn : Option Nat) (z : Nat → Int) (M : Nat) : AObj := .row (rowOf (fun i => [.int .i64 (z i)]) M) false opn
def swH0 (opn : Option Nat) (z : Nat → Int) (M n s : Nat) : AHeap := match s with | 0 => [swO opn z M] | s + 1 => [swO opn z M, .row (rowOf (nestR n (fun i j => [.complex .f64 (wUnit_0 (Int.tmod (IntKind.i64.wrap (sfW z n i * iN j)) (iN n)) (iN n)) (wUnit_1 (Int.tmod (IntKind.i64.wrap (sfW z n i * iN j)) (iN n)) (iN n))])) (s + 1)) true (some 1)]
def swH1 (opn : Option Nat) (z : Nat → Int) (M n i s : Nat) : AHeap := match s with | 0 => [swO opn z M, .row (rowOf (nestR n (fun i j => [.complex .f64 (wUnit_0 (Int.tmod (IntKind.i64.wrap (sfW z n i * iN j)) (iN n)) (iN n)) (wUnit_1 (Int.tmod (IntKind.i64.wrap (sfW z n i * iN j)) (iN n)) (iN n))])) (n * i + 0)) true (some 1)] | s + 1 => [swO opn z M, .dead, .row (rowOf (nestR n (fun i j => [.complex .f64 (wUnit_0 (Int.tmod (IntKind.i64.wrap (sfW z n i * iN j)) (iN n)) (iN n)) (wUnit_1 (Int.tmod (IntKind.i64.wrap (sfW z n i * iN j)) (iN n)) (iN n))])) (n * i + (s + 1))) true (some 1)]
def swS1 (n i s : Nat) : Value := match s with | 0 => .slice (some ⟨1, 0, some 1⟩) (n * i + 0) (n * i + 0) | s + 1 => .slice (some ⟨2, 0, some 1⟩) (n * i + (s + 1)) (n * i + (s + 1))
theorem sw_in0 (opn : Option Nat) (z : Nat → Int) (M m cap n : Nat) (hn : n + 1 ≤ 16384) (hm : m ≤ 16384) (hM : m ≤ M) (hg : decide (0 < iN (n + 1)) = true) (hst : Stood false [swO opn z M]) :
    Sim dLSp 1 (.loop (loopOf Try.f71 1)) ((swF m cap (n + 1) (aSl 1 0 1) (.int .i64 (sfW z (n + 1) 0)) (.int .i64 (iN 0)) (.int .i64 (iN (n + 1))) (.int .i64 (iN 0)))) (swH0 opn z M (n + 1) 0) (.exit 3) ((swF m cap (n + 1) (aSl 1 (n + 1) 1) (.int .i64 (sfW z (n + 1) 0)) (.int .i64 (iN 0)) (.int .i64 (iN (n + 1))) (.int .i64 (iN (n + 1))))) (swH0 opn z M (n + 1) (n + 1)) := by
  refine Sim.loop (fun k => ((swF m cap (n + 1) (aSl 1 k 1) (.int .i64 (sfW z (n + 1) 0)) (.int .i64 (iN 0)) (.int .i64 (iN (n + 1))) (.int .i64 (iN k))), swH0 opn z M (n + 1) k)) (n + 1) (fun k hk => ?_) ?_ rfl
  · cases k with
    | zero => exact (swA0_p0 opn z M m cap (n + 1) (sfW z (n + 1)) 0 hn hm hM hg (by omega) hst).cast (by kernel_rfl) (by kernel_rfl) (by kernel_rfl) (by
        show [AObj.row _ _ _, AObj.row _ true _] = [AObj.row _ _ _, AObj.row (rowOf (nestR (n + 1) _) 1) true _]
        rw [nest_one _ (by omega)]; kernel_rfl)
    | succ k =>
      have h := swA_p0 opn z M m cap (n + 1) (sfW z (n + 1)) 0 (k + 1) hn hm hM hg hk (by omega) (by omega) hst
      simp only [Nat.mul_zero, Nat.zero_add] at h
      exact h.cast (by kernel_rfl) (by kernel_rfl) (by kernel_rfl) (by kernel_rfl)
  · exact (swAE_p0 opn z M m cap (n + 1) (sfW z (n + 1)) 0 (n + 1) hn hm hM hg hst).cast (by kernel_rfl) (by kernel_rfl) (by kernel_rfl) (by kernel_rfl)
theorem sw_in1 (opn : Option Nat) (z : Nat → Int) (M m cap n : Nat) (i : Nat) (hn : n ≤ 16384) (hm : m ≤ 16384) (hM : m ≤ M) (hg : decide (0 < iN n) = true) (h1 : 0 < n) (hi : i < m) (h0 : 0 < n * i) (hs : n * m ≤ 16384) (hst : Stood false [swO opn z M]) :
    Sim dLSp 2 (.loop (loopOf Try.f71 1)) ((swF m cap n (swS1 n i 0) (.int .i64 (sfW z n i)) (.int .i64 (iN i)) (.int .i64 (iN n)) (.int .i64 (iN 0)))) (swH1 opn z M n i 0) (.exit 3) ((swF m cap n (swS1 n i n) (.int .i64 (sfW z n i)) (.int .i64 (iN i)) (.int .i64 (iN n)) (.int .i64 (iN n)))) (swH1 opn z M n i n) := by
  have hb : n * i + n ≤ 16384 := by
    have := Nat.mul_le_mul_left n (show i + 1 ≤ m from hi)
    rw [Nat.mul_succ] at this
    omega
  refine Sim.loop (fun k => ((swF m cap n (swS1 n i k) (.int .i64 (sfW z n i)) (.int .i64 (iN i)) (.int .i64 (iN n)) (.int .i64 (iN k))), swH1 opn z M n i k)) n (fun k hk => ?_) ?_ rfl
  · cases k with
    | zero => exact (swB0_p0 opn z M m cap n (sfW z n) i hn hm hM hg h1 h0 (by omega) hst).cast (by kernel_rfl) (by kernel_rfl) (by kernel_rfl) (by kernel_rfl)
    | succ k => exact (swB_p0 opn z M m cap n (sfW z n) i (k + 1) hn hm hM hg hk (by omega) (by omega) hst).cast (by kernel_rfl) (by kernel_rfl) (by kernel_rfl) (by kernel_rfl)
  · cases n with
    | zero => omega
    | succ n => exact (swBE_p0 opn z M m cap (n + 1) (sfW z (n + 1)) i ((n + 1) * i + (n + 1)) hn hm hM hg hst).cast (by kernel_rfl) (by kernel_rfl) (by kernel_rfl) (by kernel_rfl)
theorem sw_out (opn : Option Nat) (z : Nat → Int) (M m cap n : Nat) (hn : n + 1 ≤ 16384) (hm : m ≤ 16384) (hM : m ≤ M) (hg : decide (0 < iN (n + 1)) = true) (h0 : 0 < m) (hs : (n + 1) * m ≤ 16384) (hst : Stood false [swO opn z M]) :
    Sim dLSp 1 (.loop (loopOf Try.f71 0)) ((swF m cap (n + 1) (.slice none 0 0) undef (.int .i64 (iN 0)) undef undef)) (swH0 opn z M (n + 1) 0) (.exit 1) ((swF m cap (n + 1) (aSl 1 ((n + 1) * m) 1) undef (.int .i64 (iN m)) undef undef)) (swH0 opn z M (n + 1) ((n + 1) * m)) := by
  refine Sim.loop (fun i => ((swF m cap (n + 1) (aSl 1 ((n + 1) * i) 1) undef (.int .i64 (iN i)) undef undef), swH0 opn z M (n + 1) ((n + 1) * i))) m (fun i hi => ?_) ?_ rfl
  · cases i with
    | zero =>
      have h := swO0_p0 opn z M m cap (n + 1) hn hm hM hg (by omega) h0 (fun hst => (sw_in0 opn z M m cap n hn hm hM hg hst).enter [true, true, false, false, true, true, true, false, true, false, false, false, false, false, false, false, false, false, false, false, false, false, false, false, true, true, true, false, false, false, false, false, false, false, false, false, false, true, true, false, false, false, false, false, false, false, false, false, false, false, false, false, false, false] (by kernel_rfl)) hst
      refine h.cast (by kernel_rfl) (by kernel_rfl) ?_ ?_
      · show _ = (swF m cap (n + 1) (aSl 1 ((n + 1) * 0 + (n + 1)) 1) undef (.int .i64 (iN 1)) undef undef)
        rw [Nat.mul_zero, Nat.zero_add]; kernel_rfl
      · show _ = swH0 opn z M (n + 1) ((n + 1) * 0 + (n + 1))
        rw [Nat.mul_zero, Nat.zero_add]; kernel_rfl
    | succ i => exact (swO_p0 opn z M m cap (n + 1) (i + 1) hn hm hM hg (by omega) hi (by omega) (fun hst => (sw_in1 opn z M m cap (n + 1) (i + 1) hn hm hM hg (by omega) hi (Nat.mul_pos (by omega) (by omega)) hs hst).enter [true, true, false, false, true, true, true, false, true, false, false, false, false, false, false, false, false, false, false, false, false, false, false, false, true, true, true, false, false, false, false, false, false, false, false, false, false, true, true, false, false, false, false, false, false, false, false, false, false, false, false, false, false, false] (by kernel_rfl)) hst).cast (by kernel_rfl) (by kernel_rfl) (by kernel_rfl) (by kernel_rfl)
  · cases m with
    | zero => omega
    | succ m => exact (swOE_p0 opn z M (m + 1) cap (n + 1) ((n + 1) * (m + 1)) hn hm hM hg hst).cast (by kernel_rfl) (by kernel_rfl) (by kernel_rfl) (by kernel_rfl)
theorem swC_fok : fnOkX (dLSp) [] Try.f71 = true := by kernel_rfl
theorem swC_p0 (opn : Option Nat) (z : Nat → Int) (M : Nat) (m : Nat) (cap : Nat) (n : Nat) (hn : n ≤ 16384) (hm : m ≤ 16384) (hM : m ≤ M) (hg : decide (0 < iN n) = true) (h0 : 0 < m) (h1 : 0 < n) (hq : decide (iN n > IntKind.i64.wrap ((Int.ofNat 16384).tdiv (iN m))) = false) (l0 : Stood false ([AObj.row (rowOf (fun i => [Value.int .i64 (z i)]) M) false opn]) → Sim (dLSp) 1 (.loop (loopOf Try.f71 0)) ([Value.slice (some ⟨0, 0, some 1⟩) m cap, Value.int .i64 (iN n), undef, undef, Value.slice none 0 0, Value.int .i64 (Int.ofNat 0), Value.slice none 0 0, undef, undef, undef, Value.bool (decide (iN n < 1)), Value.int .i64 (iN n), Value.bool (decide (iN n < 1)), Value.bool (decide (iN n > IntKind.i64.wrap ((Int.ofNat 16384).tdiv (iN m)))), Value.slice (some ⟨0, 0, some 1⟩) m cap, Value.int .i64 (iN m), Value.bool (decide (iN m > 0)), Value.bool (decide (iN m > 0)), Value.int .i64 (iN n), Value.slice (some ⟨0, 0, some 1⟩) m cap, Value.int .i64 (iN m), Value.int .i64 (IntKind.i64.wrap ((Int.ofNat 16384).tdiv (iN m))), Value.bool (decide (iN n > IntKind.i64.wrap ((Int.ofNat 16384).tdiv (iN m)))), Value.bool (decide (iN n > IntKind.i64.wrap ((Int.ofNat 16384).tdiv (iN m)))), Value.slice (some ⟨0, 0, some 1⟩) m cap, Value.int .i64 (iN m), Value.int .i64 (Int.ofNat 0), undef, undef, undef, undef, undef, undef, undef, undef, undef, undef, undef, undef, undef, undef, undef, undef, undef, undef, undef, undef, undef, undef, undef, undef, undef, undef, undef]) ([AObj.row (rowOf (fun i => [Value.int .i64 (z i)]) M) false opn]) (Exit.exit 1) ([Value.slice (some ⟨0, 0, some 1⟩) m cap, Value.int .i64 (iN n), undef, undef, Value.slice none 0 0, Value.int .i64 (Int.ofNat 0), Value.slice (some ⟨1, 0, some 1⟩) (n * m) (n * m), undef, undef, undef, undef, undef, undef, undef, undef, undef, undef, undef, undef, undef, undef, undef, undef, undef, Value.slice (some ⟨0, 0, some 1⟩) m cap, Value.int .i64 (iN m), Value.int .i64 (iN m), undef, undef, undef, undef, undef, undef, undef, undef, undef, undef, undef, undef, undef, undef, undef, undef, undef, undef, undef, undef, undef, undef, undef, undef, undef, undef, undef]) ([AObj.row (rowOf (fun i => [Value.int .i64 (z i)]) M) false opn, AObj.row (rowOf (nestR n fun i j => [Value.complex .f64 (wUnit_0 ((IntKind.i64.wrap (sfW z n i * iN j)).tmod (iN n)) (iN n)) (wUnit_1 ((IntKind.i64.wrap (sfW z n i * iN j)).tmod (iN n)) (iN n))]) (n * m)) true (some 1)])) : CallR Try.prog false 71 ([Value.slice (some ⟨0, 0, some 1⟩) m cap, Value.int .i64 (iN n)]) ([AObj.row (rowOf (fun i => [Value.int .i64 (z i)]) M) false opn]) (Value.tuple { toList := [Value.slice (some ⟨1, 0, some 1⟩) (n * m) (n * m), Value.int .i64 (Int.ofNat 0)] }) ([AObj.row (rowOf (fun i => [Value.int .i64 (z i)]) M) false opn, AObj.row (rowOf (nestR n fun i j => [Value.complex .f64 (wUnit_0 ((IntKind.i64.wrap (sfW z n i * iN j)).tmod (iN n)) (iN n)) (wUnit_1 ((IntKind.i64.wrap (sfW z n i * iN j)).tmod (iN n)) (iN n))]) (n * m)) true (some 1)]) := CallR.of_DOXs (C := dLSp) dLSp_ok (X := []) Try.func71 swC_fok (n := 3) (orc := [(10, Item.br false), (19, Item.br true), (21, Item.br true), (23, Item.br true), (25, Item.br true), (26, Item.res (Value.int .i64 (IntKind.i64.wrap ((Int.ofNat 16384).tdiv (iN m))))), (27, Item.br true), (30, Item.res (Value.bool (decide (iN n > IntKind.i64.wrap ((Int.ofNat 16384).tdiv (iN m)))))), (33, Item.br false), (42, Item.loop (Exit.exit 1) (swF m cap n (Value.slice (some ⟨1, 0, some 1⟩) (n * m) (n * m)) undef (Value.int .i64 (iN m)) undef undef) [AObj.row (rowOf (fun i => [Value.int .i64 (z i)]) M) false opn, AObj.row (rowOf (nestR n fun i j => [Value.complex .f64 (wUnit_0 ((IntKind.i64.wrap (sfW z n i * iN j)).tmod (iN n)) (iN n)) (wUnit_1 ((IntKind.i64.wrap (sfW z n i * iN j)).tmod (iN n)) (iN n))]) (n * m)) true (some 1)])]) (ps := [(some (decide (iN n < 1)) = some false), (some (decide (iN m > 0) == true) = some true), (some (decide (iN m > 0) == true) = some true), (some (decide (iN m > 0) == true) = some true), (some (decide (iN m > 0) == true) = some true), (qF (Value.int .i64 (IntKind.i64.wrap ((Int.ofNat 16384).tdiv (iN m)))) ([AObj.row (rowOf (fun i => [Value.int .i64 (z i)]) M) false opn]) (iN m) = some (Value.int .i64 (IntKind.i64.wrap ((Int.ofNat 16384).tdiv (iN m))), [AObj.row (rowOf (fun i => [Value.int .i64 (z i)]) M) false opn])), (some (decide (iN m > 0) == true) = some true), (pP (some (Value.bool (decide (iN n > IntKind.i64.wrap ((Int.ofNat 16384).tdiv (iN m)))))) (some (Value.bool false)) ([AObj.row (rowOf (fun i => [Value.int .i64 (z i)]) M) false opn]) (decide (iN m > 0)) (Value.bool (decide (iN n > IntKind.i64.wrap ((Int.ofNat 16384).tdiv (iN m)))))), (some (decide (iN n > IntKind.i64.wrap ((Int.ofNat 16384).tdiv (iN m)))) = some false), (Sim (dLSp) 1 (.loop (loopOf Try.f71 0)) ([Value.slice (some ⟨0, 0, some 1⟩) m cap, Value.int .i64 (iN n), undef, undef, Value.slice none 0 0, Value.int .i64 (Int.ofNat 0), Value.slice none 0 0, undef, undef, undef, Value.bool (decide (iN n < 1)), Value.int .i64 (iN n), Value.bool (decide (iN n < 1)), Value.bool (decide (iN n > IntKind.i64.wrap ((Int.ofNat 16384).tdiv (iN m)))), Value.slice (some ⟨0, 0, some 1⟩) m cap, Value.int .i64 (iN m), Value.bool (decide (iN m > 0)), Value.bool (decide (iN m > 0)), Value.int .i64 (iN n), Value.slice (some ⟨0, 0, some 1⟩) m cap, Value.int .i64 (iN m), Value.int .i64 (IntKind.i64.wrap ((Int.ofNat 16384).tdiv (iN m))), Value.bool (decide (iN n > IntKind.i64.wrap ((Int.ofNat 16384).tdiv (iN m)))), Value.bool (decide (iN n > IntKind.i64.wrap ((Int.ofNat 16384).tdiv (iN m)))), Value.slice (some ⟨0, 0, some 1⟩) m cap, Value.int .i64 (iN m), Value.int .i64 (Int.ofNat 0), undef, undef, undef, undef, undef, undef, undef, undef, undef, undef, undef, undef, undef, undef, undef, undef, undef, undef, undef, undef, undef, undef, undef, undef, undef, undef, undef]) ([AObj.row (rowOf (fun i => [Value.int .i64 (z i)]) M) false opn]) (Exit.exit 1) ([Value.slice (some ⟨0, 0, some 1⟩) m cap, Value.int .i64 (iN n), undef, undef, Value.slice none 0 0, Value.int .i64 (Int.ofNat 0), Value.slice (some ⟨1, 0, some 1⟩) (n * m) (n * m), undef, undef, undef, undef, undef, undef, undef, undef, undef, undef, undef, undef, undef, undef, undef, undef, undef, Value.slice (some ⟨0, 0, some 1⟩) m cap, Value.int .i64 (iN m), Value.int .i64 (iN m), undef, undef, undef, undef, undef, undef, undef, undef, undef, undef, undef, undef, undef, undef, undef, undef, undef, undef, undef, undef, undef, undef, undef, undef, undef, undef, undef]) ([AObj.row (rowOf (fun i => [Value.int .i64 (z i)]) M) false opn, AObj.row (rowOf (nestR n fun i j => [Value.complex .f64 (wUnit_0 ((IntKind.i64.wrap (sfW z n i * iN j)).tmod (iN n)) (iN n)) (wUnit_1 ((IntKind.i64.wrap (sfW z n i * iN j)).tmod (iN n)) (iN n))]) (n * m)) true (some 1)])), (List.length (α := AObj) ([AObj.row (rowOf (fun i => [Value.int .i64 (z i)]) M) false opn]) ≤ List.length ([AObj.row (rowOf (fun i => [Value.int .i64 (z i)]) M) false opn, AObj.row (rowOf (nestR n fun i j => [Value.complex .f64 (wUnit_0 ((IntKind.i64.wrap (sfW z n i * iN j)).tmod (iN n)) (iN n)) (wUnit_1 ((IntKind.i64.wrap (sfW z n i * iN j)).tmod (iN n)) (iN n))]) (n * m)) true (some 1)])), (Lk.Exit.isG (Exit.exit 1) = false)]) (by kernel_rfl) (fun hst => ⟨bP_of (fun x => x) (show (decide (iN n < 1)) = false from decide_eq_false (by first | omega | ((try simp only [decide_eq_true_eq, decide_eq_false_iff_not] at *); (try simp only [iN_eq, Int.ofNat_eq_natCast] at *); try omega))), ⟨bP_of (fun x => x == true) (show (decide (iN m > 0)) = true from decide_eq_true (by first | omega | ((try simp only [decide_eq_true_eq, decide_eq_false_iff_not] at *); (try simp only [iN_eq, Int.ofNat_eq_natCast] at *); try omega))), ⟨bP_of (fun x => x == true) (show (decide (iN m > 0)) = true from decide_eq_true (by first | omega | ((try simp only [decide_eq_true_eq, decide_eq_false_iff_not] at *); (try simp only [iN_eq, Int.ofNat_eq_natCast] at *); try omega))), ⟨bP_of (fun x => x == true) (show (decide (iN m > 0)) = true from decide_eq_true (by first | omega | ((try simp only [decide_eq_true_eq, decide_eq_false_iff_not] at *); (try simp only [iN_eq, Int.ofNat_eq_natCast] at *); try omega))), ⟨bP_of (fun x => x == true) (show (decide (iN m > 0)) = true from decide_eq_true (by first | omega | ((try simp only [decide_eq_true_eq, decide_eq_false_iff_not] at *); (try simp only [iN_eq, Int.ofNat_eq_natCast] at *); try omega))), ⟨qF_ok _ _ (by first | omega | (try simp only [decide_eq_true_eq, decide_eq_false_iff_not, Int.not_lt, Int.not_le] at *; (try simp only [iN_eq, Int.ofNat_eq_natCast] at *); omega)), ⟨bP_of (fun x => x == true) (show (decide (iN m > 0)) = true from decide_eq_true (by first | omega | ((try simp only [decide_eq_true_eq, decide_eq_false_iff_not] at *); (try simp only [iN_eq, Int.ofNat_eq_natCast] at *); try omega))), ⟨pP_t _ _ _ (congrArg (fun bb => (bb)) (show (decide (iN m > 0)) = true from decide_eq_true (by first | omega | ((try simp only [decide_eq_true_eq, decide_eq_false_iff_not] at *); (try simp only [iN_eq, Int.ofNat_eq_natCast] at *); try omega)))), ⟨bP_of (fun x => x) (show (decide (iN n > IntKind.i64.wrap ((Int.ofNat 16384).tdiv (iN m)))) = false from decide_eq_false (by first | omega | ((try simp only [decide_eq_true_eq, decide_eq_false_iff_not] at *); (try simp only [iN_eq, Int.ofNat_eq_natCast] at *); try omega))), ⟨l0 hst, Nat.le_of_ble_eq_true (by kernel_rfl), rfl, trivial⟩⟩⟩⟩⟩⟩⟩⟩⟩⟩)
theorem swE2_fok : fnOkX (dLSp) [] Try.f71 = true := by kernel_rfl
theorem swE2_p0 (opn : Option Nat) (z : Nat → Int) (M : Nat) (m : Nat) (cap : Nat) (n : Int) (h1 : decide (n < Int.ofNat 1) = true) : CallR Try.prog false 71 ([Value.slice (some ⟨0, 0, some 1⟩) m cap, Value.int .i64 n]) ([AObj.row (rowOf (fun i => [Value.int .i64 (z i)]) M) false opn]) (Value.tuple { toList := [Value.slice none 0 0, Value.int .i64 (Int.ofNat 2)] }) ([AObj.row (rowOf (fun i => [Value.int .i64 (z i)]) M) false opn]) := CallR.of_DOXs (C := dLSp) dLSp_ok (X := []) Try.func71 swE2_fok (n := 3) (orc := [(10, Item.br true)]) (ps := [(some (decide (n < 1)) = some true)]) (by kernel_rfl) (fun hst => ⟨bP_of (fun x => x) (show (decide (n < 1)) = true from decide_eq_true (by first | omega | ((try simp only [decide_eq_true_eq, decide_eq_false_iff_not] at *); (try simp only [iN_eq, Int.ofNat_eq_natCast] at *); try omega))), trivial⟩)
theorem swE3_fok : fnOkX (dLSp) [] Try.f71 = true := by kernel_rfl
theorem swE3_p0 (opn : Option Nat) (z : Nat → Int) (M : Nat) (m : Nat) (cap : Nat) (n : Int) (h1 : decide (n < Int.ofNat 1) = false) (h0 : 0 < m) (hq : decide (n > IntKind.i64.wrap ((Int.ofNat 16384).tdiv (iN m))) = true) : CallR Try.prog false 71 ([Value.slice (some ⟨0, 0, some 1⟩) m cap, Value.int .i64 n]) ([AObj.row (rowOf (fun i => [Value.int .i64 (z i)]) M) false opn]) (Value.tuple { toList := [Value.slice none 0 0, Value.int .i64 (Int.ofNat 3)] }) ([AObj.row (rowOf (fun i => [Value.int .i64 (z i)]) M) false opn]) := CallR.of_DOXs (C := dLSp) dLSp_ok (X := []) Try.func71 swE3_fok (n := 3) (orc := [(10, Item.br false), (19, Item.br true), (21, Item.br true), (23, Item.br true), (25, Item.br true), (26, Item.res (Value.int .i64 (IntKind.i64.wrap ((Int.ofNat 16384).tdiv (iN m))))), (27, Item.br true), (30, Item.res (Value.bool (decide (n > IntKind.i64.wrap ((Int.ofNat 16384).tdiv (iN m)))))), (33, Item.br true)]) (ps := [(some (decide (n < 1)) = some false), (some (decide (iN m > 0) == true) = some true), (some (decide (iN m > 0) == true) = some true), (some (decide (iN m > 0) == true) = some true), (some (decide (iN m > 0) == true) = some true), (qF (Value.int .i64 (IntKind.i64.wrap ((Int.ofNat 16384).tdiv (iN m)))) ([AObj.row (rowOf (fun i => [Value.int .i64 (z i)]) M) false opn]) (iN m) = some (Value.int .i64 (IntKind.i64.wrap ((Int.ofNat 16384).tdiv (iN m))), [AObj.row (rowOf (fun i => [Value.int .i64 (z i)]) M) false opn])), (some (decide (iN m > 0) == true) = some true), (pP (some (Value.bool (decide (n > IntKind.i64.wrap ((Int.ofNat 16384).tdiv (iN m)))))) (some (Value.bool false)) ([AObj.row (rowOf (fun i => [Value.int .i64 (z i)]) M) false opn]) (decide (iN m > 0)) (Value.bool (decide (n > IntKind.i64.wrap ((Int.ofNat 16384).tdiv (iN m)))))), (some (decide (n > IntKind.i64.wrap ((Int.ofNat 16384).tdiv (iN m)))) = some true)]) (by kernel_rfl) (fun hst => ⟨bP_of (fun x => x) (show (decide (n < 1)) = false from decide_eq_false (by first | omega | ((try simp only [decide_eq_true_eq, decide_eq_false_iff_not] at *); (try simp only [iN_eq, Int.ofNat_eq_natCast] at *); try omega))), ⟨bP_of (fun x => x == true) (show (decide (iN m > 0)) = true from decide_eq_true (by first | omega | ((try simp only [decide_eq_true_eq, decide_eq_false_iff_not] at *); (try simp only [iN_eq, Int.ofNat_eq_natCast] at *); try omega))), ⟨bP_of (fun x => x == true) (show (decide (iN m > 0)) = true from decide_eq_true (by first | omega | ((try simp only [decide_eq_true_eq, decide_eq_false_iff_not] at *); (try simp only [iN_eq, Int.ofNat_eq_natCast] at *); try omega))), ⟨bP_of (fun x => x == true) (show (decide (iN m > 0)) = true from decide_eq_true (by first | omega | ((try simp only [decide_eq_true_eq, decide_eq_false_iff_not] at *); (try simp only [iN_eq, Int.ofNat_eq_natCast] at *); try omega))), ⟨bP_of (fun x => x == true) (show (decide (iN m > 0)) = true from decide_eq_true (by first | omega | ((try simp only [decide_eq_true_eq, decide_eq_false_iff_not] at *); (try simp only [iN_eq, Int.ofNat_eq_natCast] at *); try omega))), ⟨qF_ok _ _ (by first | omega | (try simp only [decide_eq_true_eq, decide_eq_false_iff_not, Int.not_lt, Int.not_le] at *; (try simp only [iN_eq, Int.ofNat_eq_natCast] at *); omega)), ⟨bP_of (fun x => x == true) (show (decide (iN m > 0)) = true from decide_eq_true (by first | omega | ((try simp only [decide_eq_true_eq, decide_eq_false_iff_not] at *); (try simp only [iN_eq, Int.ofNat_eq_natCast] at *); try omega))), ⟨pP_t _ _ _ (congrArg (fun bb => (bb)) (show (decide (iN m > 0)) = true from decide_eq_true (by first | omega | ((try simp only [decide_eq_true_eq, decide_eq_false_iff_not] at *); (try simp only [iN_eq, Int.ofNat_eq_natCast] at *); try omega)))), ⟨bP_of (fun x => x) (show (decide (n > IntKind.i64.wrap ((Int.ofNat 16384).tdiv (iN m)))) = true from decide_eq_true (by first | omega | ((try simp only [decide_eq_true_eq, decide_eq_false_iff_not] at *); (try simp only [iN_eq, Int.ofNat_eq_natCast] at *); try omega))), trivial⟩⟩⟩⟩⟩⟩⟩⟩⟩)
theorem swE0_fok : fnOkX (dLSp) [] Try.f71 = true := by kernel_rfl
theorem swE0_p0 (opn : Option Nat) (z : Nat → Int) (M : Nat) (cap : Nat) (n : Int) (h1 : decide (n < Int.ofNat 1) = false) : CallR Try.prog false 71 ([Value.slice (some ⟨0, 0, some 1⟩) 0 cap, Value.int .i64 n]) ([AObj.row (rowOf (fun i => [Value.int .i64 (z i)]) M) false opn]) (Value.tuple { toList := [Value.slice none 0 0, Value.int .i64 (Int.ofNat 0)] }) ([AObj.row (rowOf (fun i => [Value.int .i64 (z i)]) M) false opn]) := CallR.of_DOXs (C := dLSp) dLSp_ok (X := []) Try.func71 swE0_fok (n := 3) (orc := [(10, Item.br false)]) (ps := [(some (decide (n < 1)) = some false)]) (by kernel_rfl) (fun hst => ⟨bP_of (fun x => x) (show (decide (n < 1)) = false from decide_eq_false (by first | omega | ((try simp only [decide_eq_true_eq, decide_eq_false_iff_not] at *); (try simp only [iN_eq, Int.ofNat_eq_natCast] at *); try omega))), trivial⟩)
theorem swN2_fok : fnOkX (dLSp) [] Try.f71 = true := by kernel_rfl
theorem swN2_p0 (n : Int) (h1 : decide (n < Int.ofNat 1) = true) : CallR Try.prog false 71 ([Value.slice none 0 0, Value.int .i64 n]) ([]) (Value.tuple { toList := [Value.slice none 0 0, Value.int .i64 (Int.ofNat 2)] }) ([]) := CallR.of_DOXs (C := dLSp) dLSp_ok (X := []) Try.func71 swN2_fok (n := 3) (orc := [(10, Item.br true)]) (ps := [(some (decide (n < 1)) = some true)]) (by kernel_rfl) (fun hst => ⟨bP_of (fun x => x) (show (decide (n < 1)) = true from decide_eq_true (by first | omega | ((try simp only [decide_eq_true_eq, decide_eq_false_iff_not] at *); (try simp only [iN_eq, Int.ofNat_eq_natCast] at *); try omega))), trivial⟩)
theorem swN0_fok : fnOkX (dLSp) [] Try.f71 = true := by kernel_rfl
theorem swN0_p0 (n : Int) (h1 : decide (n < Int.ofNat 1) = false) : CallR Try.prog false 71 ([Value.slice none 0 0, Value.int .i64 n]) ([]) (Value.tuple { toList := [Value.slice none 0 0, Value.int .i64 (Int.ofNat 0)] }) ([]) := CallR.of_DOXs (C := dLSp) dLSp_ok (X := []) Try.func71 swN0_fok (n := 3) (orc := [(10, Item.br false)]) (ps := [(some (decide (n < 1)) = some false)]) (by kernel_rfl) (fun hst => ⟨bP_of (fun x => x) (show (decide (n < 1)) = false from decide_eq_false (by first | omega | ((try simp only [decide_eq_true_eq, decide_eq_false_iff_not] at *); (try simp only [iN_eq, Int.ofNat_eq_natCast] at *); try omega))), trivial⟩)
end Go.Lk
end

section
/- Steps of frequency: contracts. -/
namespace Go.Lk
open Go.Proofs
set_option maxRecDepth 100000
set_option linter.unusedVariables false
set_option linter.unusedSimpArgs false
/-! ### Answers of functions that read a row of whole numbers -/
def isI64 : Value → Bool | .int .i64 _ => true | _ => false
def intAt (vs : List Value) (i : Nat) : Int := match vs[i]? with | some (.int .i64 n) => n | _ => 0
theorem isI64_eq {v : Value} (h : isI64 v = true) : ∃ n, v = .int .i64 n := by
  unfold isI64 at h
  split at h
  · exact ⟨_, rfl⟩
  · cases h
theorem int_row {vs : List Value} (h : vs.all isI64 = true) : rowOf (fun i => [.int .i64 (intAt vs i)]) vs.length = vs := by
  have hl := rowOf_len (f := fun i => [Value.int .i64 (intAt vs i)]) (s := 1) (fun _ => rfl) vs.length
  apply List.ext_getElem?
  intro j
  rcases Nat.lt_or_ge j vs.length with hj | hj
  · have h3 := rowOf_gt (f := fun i => [Value.int .i64 (intAt vs i)]) (s := 1) (fun _ => rfl) (k := j) (n := vs.length) (j := 0) hj (by omega)
    rw [show j * 1 + 0 = j by omega] at h3
    rw [h3]
    have hm : vs[j]? = some vs[j] := List.getElem?_eq_getElem hj
    obtain ⟨a, e⟩ := isI64_eq (List.all_eq_true.1 h vs[j] (List.getElem_mem hj))
    rw [e] at hm
    simp only [List.getElem?_cons_zero, intAt, hm]
  · rw [List.getElem?_eq_none hj, List.getElem?_eq_none (by rw [hl]; omega)]
theorem plain_int {vs : List Value} (h : vs.all isI64 = true) : vs.all plain = true := by
  rw [List.all_eq_true] at h ⊢
  intro v hv
  obtain ⟨a, rfl⟩ := isI64_eq (h v hv)
  rfl
def sAnS (z : Nat) (row : (Nat → Nat) → (Nat → Nat) → Nat → List Value) (h : (Nat → Int) → Nat → Int → An) : HeapFn
  | [.slice none 0 0, .int .i64 n], σ => some (aVal σ.length z (h (fun _ => 0) 0 n), σ ++ [aObj z row (h (fun _ => 0) 0 n)])
  | [.slice (some ⟨b, 0, some 1⟩) m cap, .int .i64 n], σ =>
    match σ[b]? with
    | some (.row vs _ _) => bif vs.all isI64 && Nat.ble m vs.length then some (aVal σ.length z (h (intAt vs) m n), σ ++ [aObj z row (h (intAt vs) m n)]) else none
    | _ => none
  | _, _ => none
/-- What a walk over a small heap shows. -/
def AnCallS (f : FuncId) (args : List Value) (σ0 : AHeap) (z : Nat) (row : (Nat → Nat) → (Nat → Nat) → Nat → List Value) (x : An) : Prop :=
  (x.n = 0 ∧ ∃ σ', CallR Try.prog false f args σ0 (aVal 0 z x) σ') ∨
  (0 < x.n ∧ ∃ σ' k o, CallR Try.prog false f args σ0 (aVal k z x) σ' ∧ σ'[k]? = some (.row (row x.a x.b x.n) true o) ∧ (o = none ∨ o = some z))
theorem AnCallS.lift {f : FuncId} {args0 args : List Value} {σ0 σ : AHeap} {z : Nat} {row : (Nat → Nat) → (Nat → Nat) → Nat → List Value} {x : An} {r : Nat → Nat} (hp : ∀ a b n, (row a b n).all plain = true)
    (hs : Reads σ0 r σ) (ha : args0.map (renV r 3) = args) (hc : AnCallS f args0 σ0 z row x) : CallR Try.prog false f args σ (aVal σ.length z x) (σ ++ [aObj z row x]) := by
  rcases hc with ⟨h0, σ1, hc⟩ | ⟨h0, σ1, k, o, hc, hk, ho⟩
  · have e1 : aVal σ.length z x = aVal 0 z x := by unfold aVal; rw [h0]; rfl
    have e2 : aObj z row x = .dead := by unfold aObj; rw [h0]
    rw [e1, e2]
    have hv : plain (aVal 0 z x) = true := by unfold aVal; rw [h0]; rfl
    exact (CallR.frameQ hs ha hc hv).addDead hv
  · obtain ⟨n, hn⟩ : ∃ n, x.n = n + 1 := ⟨x.n - 1, by omega⟩
    have e2 : aObj z row x = .row (row x.a x.b x.n) true (some z) := by unfold aObj; rw [hn]
    rw [e2]
    have hN : CallR Try.prog false f args σ (aVal σ.length z x) (σ ++ [.row (row x.a x.b x.n) true o]) := by
      refine CallR.frameN (q := fun b => if b = σ.length then k else b + σ1.length) hs ha hc hk (hp _ _ _) (fun _ => rfl) ?_
      unfold aVal
      rw [hn]
      simp [aSl, renV]
    rcases ho with rfl | rfl
    · exact hN.loosen z (hp _ _ _)
    · exact hN
theorem sAnS_is {f : FuncId} {z : Nat} {row : (Nat → Nat) → (Nat → Nat) → Nat → List Value} {h : (Nat → Int) → Nat → Int → An} (hp : ∀ a b n, (row a b n).all plain = true)
    (hN : ∀ n, AnCallS f [.slice none 0 0, .int .i64 n] [] z row (h (fun _ => 0) 0 n))
    (hS : ∀ opn (w : Nat → Int) M m cap n, m ≤ M → AnCallS f [.slice (some ⟨0, 0, some 1⟩) m cap, .int .i64 n] [.row (rowOf (fun i => [.int .i64 (w i)]) M) false opn] z row (h w m n)) : IsHeap Try.prog false f false (sAnS z row h) := by
  refine ⟨fun args σ v σ' hs => ?_, (by intro h; cases h), fun args σ v σ' hs => ?_⟩
  · unfold sAnS at hs
    split at hs
    · rename_i n
      cases hs
      exact (hN n).lift (r := fun k => k + σ.length) hp ⟨fun k o hk => by simp at hk, fun k hk => by omega⟩ rfl
    · rename_i b m cap n
      split at hs
      · rename_i vs rw' opn hb
        cases hc : (vs.all isI64 && Nat.ble m vs.length)
        · rw [hc] at hs; cases hs
        · rw [hc] at hs
          cases hs
          simp only [Bool.and_eq_true] at hc
          have hS' := hS opn (intAt vs) vs.length m cap n (Nat.le_of_ble_eq_true hc.2)
          rw [int_row hc.1] at hS'
          refine hS'.lift (r := fun k => if k = 0 then b else k + σ.length) hp ⟨fun k o hk => ?_, fun k hk => ?_⟩ rfl
          · have : k = 0 := by have := lt_of_some hk; simpa using this
            subst this
            simp only [List.getElem?_cons_zero, Option.some.injEq] at hk
            exact ⟨vs, opn, rw', hk.symm, hb, plain_int hc.1⟩
          · have hk : 1 ≤ k := hk
            have : ¬ k = 0 := by omega
            simp only [this, if_false]; omega
      · cases hs
    · cases hs
  · unfold sAnS at hs
    split at hs
    · cases hs; simp
    · split at hs
      · rename_i vs _ _ _
        generalize (vs.all isI64 && _) = c at hs
        cases c
        · cases hs
        · cases hs; simp
      · cases hs
    · cases hs
theorem st_side {z m cap b : Nat} {n : Int} {row : (Nat → Nat) → (Nat → Nat) → Nat → List Value} {h : (Nat → Int) → Nat → Int → An} {w : Nat → Int} {vs : List Value} {rw' : Bool} {opn : Option Nat} {σ : AHeap}
    (hσ : σ[b]? = some (.row vs rw' opn)) (hv : vs.all isI64 = true) (hm : Nat.ble m vs.length = true) (he : h (intAt vs) m n = h w m n) :
    sAnS z row h [.slice (some ⟨b, 0, some 1⟩) m cap, .int .i64 n] σ = some (.tuple #[.slice (aAd σ.length (h w m n).n z) (h w m n).n (h w m n).n, .int .i64 (h w m n).e], σ ++ [aObj z row (h w m n)]) := by
  unfold sAnS
  simp only [hσ, hv, hm, Bool.and_self, cond_true, he, aVal_eq]
/-! ### Steps -/
def stAn (A B : (Nat → Int) → Nat → Nat → Nat) (w : Nat → Int) (m : Nat) (n : Int) : An :=
  bif decide (n < 1) then ⟨0, fun _ => 0, fun _ => 0, 2⟩ else
  match m with
  | 0 => ⟨0, fun _ => 0, fun _ => 0, 0⟩
  | m + 1 => bif decide (n > 16384 / ((m : Int) + 1)) then ⟨0, fun _ => 0, fun _ => 0, 3⟩ else ⟨n.toNat * (m + 1), A w n.toNat, B w n.toNat, 0⟩
def swA (w : Nat → Int) (n s : Nat) : Nat := wUnit_0 (Int.tmod (IntKind.i64.wrap (sfW w n (s / n) * iN (s % n))) (iN n)) (iN n)
def swB (w : Nat → Int) (n s : Nat) : Nat := wUnit_1 (Int.tmod (IntKind.i64.wrap (sfW w n (s / n) * iN (s % n))) (iN n)) (iN n)
theorem quo_wrap (m : Nat) (hm : 0 < m) : IntKind.i64.wrap ((Int.ofNat 16384).tdiv (iN m)) = 16384 / (m : Int) := by
  have h1 : (Int.ofNat 16384).tdiv (iN m) = 16384 / (m : Int) := by
    rw [iN_eq, Int.tdiv_eq_ediv_of_nonneg (by decide)]; rfl
  rw [h1]
  have h2 : 0 ≤ 16384 / (m : Int) := Int.ediv_nonneg (by decide) (by omega)
  have h3 : 16384 / (m : Int) ≤ 16384 := Int.ediv_le_self _ (by decide)
  exact i64_wrap ⟨by omega, by omega⟩
theorem st_all {f z : Nat} {row : (Nat → Nat) → (Nat → Nat) → Nat → List Value} {A B : (Nat → Int) → Nat → Nat → Nat}
    (h2 : ∀ opn (w : Nat → Int) M m cap (n : Int), decide (n < Int.ofNat 1) = true → ∃ σ', CallR Try.prog false f [.slice (some ⟨0, 0, some 1⟩) m cap, .int .i64 n] [.row (rowOf (fun i => [.int .i64 (w i)]) M) false opn] (.tuple #[.slice none 0 0, .int .i64 2]) σ')
    (h3 : ∀ opn (w : Nat → Int) M m cap (n : Int), decide (n < Int.ofNat 1) = false → 0 < m → decide (n > IntKind.i64.wrap ((Int.ofNat 16384).tdiv (iN m))) = true → ∃ σ', CallR Try.prog false f [.slice (some ⟨0, 0, some 1⟩) m cap, .int .i64 n] [.row (rowOf (fun i => [.int .i64 (w i)]) M) false opn] (.tuple #[.slice none 0 0, .int .i64 3]) σ')
    (h0 : ∀ opn (w : Nat → Int) M cap (n : Int), decide (n < Int.ofNat 1) = false → ∃ σ', CallR Try.prog false f [.slice (some ⟨0, 0, some 1⟩) 0 cap, .int .i64 n] [.row (rowOf (fun i => [.int .i64 (w i)]) M) false opn] (.tuple #[.slice none 0 0, .int .i64 0]) σ')
    (hC : ∀ opn (w : Nat → Int) M m cap (n : Nat), n ≤ 16384 → m ≤ 16384 → m ≤ M → decide (0 < iN n) = true → 0 < m → 0 < n → n * m ≤ 16384 → decide (iN n > IntKind.i64.wrap ((Int.ofNat 16384).tdiv (iN m))) = false →
      ∃ σ' o, CallR Try.prog false f [.slice (some ⟨0, 0, some 1⟩) m cap, .int .i64 (iN n)] [.row (rowOf (fun i => [.int .i64 (w i)]) M) false opn] (.tuple #[.slice (some ⟨1, 0, some z⟩) (n * m) (n * m), .int .i64 0]) σ' ∧ σ'[1]? = some (.row (row (A w n) (B w n) (n * m)) true o) ∧ (o = none ∨ o = some z))
    (opn : Option Nat) (w : Nat → Int) (M m cap : Nat) (n : Int) (hM : m ≤ M) : AnCallS f [.slice (some ⟨0, 0, some 1⟩) m cap, .int .i64 n] [.row (rowOf (fun i => [.int .i64 (w i)]) M) false opn] z row (stAn A B w m n) := by
  unfold stAn
  cases e1 : decide (n < 1)
  · cases m with
    | zero => exact .inl ⟨rfl, h0 opn w M cap n e1⟩
    | succ m =>
      have hq := quo_wrap (m + 1) (by omega)
      have ee : ((m + 1 : Nat) : Int) = (m : Int) + 1 := by omega
      cases e2 : decide (n > 16384 / ((m : Int) + 1))
      · simp only [cond_false, e2]
        have g1 := of_decide_eq_false e1
        have g2 := of_decide_eq_false e2
        have en : iN n.toNat = n := by rw [iN_eq]; omega
        have hle : n * ((m : Int) + 1) ≤ 16384 := by
          have := Int.mul_le_mul_of_nonneg_right (show n ≤ 16384 / ((m : Int) + 1) by omega) (show 0 ≤ (m : Int) + 1 by omega)
          have h5 := Int.ediv_mul_le 16384 (show (m : Int) + 1 ≠ 0 by omega)
          omega
        have hle2 : n.toNat * (m + 1) ≤ 16384 := by
          have : ((n.toNat * (m + 1) : Nat) : Int) ≤ 16384 := by
            rw [Int.natCast_mul, ee, show ((n.toNat : Nat) : Int) = n by omega]; exact hle
          omega
        have b1 : n.toNat ≤ 16384 := by
          have := Nat.le_mul_of_pos_right n.toNat (show 0 < m + 1 by omega)
          omega
        have b2 : m + 1 ≤ 16384 := by
          have := Nat.le_mul_of_pos_left (m + 1) (show 0 < n.toNat by omega)
          omega
        obtain ⟨σ', o, k1, k2, k3⟩ := hC opn w M (m + 1) cap n.toNat b1 b2 hM (by rw [en]; exact decide_eq_true (by omega)) (by omega) (by omega) hle2 (by rw [en, hq, ee]; exact e2)
        rw [en] at k1
        have hpos : 0 < n.toNat * (m + 1) := Nat.mul_pos (by omega) (by omega)
        refine .inr ⟨hpos, σ', 1, o, ?_, k2, k3⟩
        have : aVal 1 z ⟨n.toNat * (m + 1), A w n.toNat, B w n.toNat, 0⟩ = .tuple #[.slice (some ⟨1, 0, some z⟩) (n.toNat * (m + 1)) (n.toNat * (m + 1)), .int .i64 0] := by
          obtain ⟨k, hk⟩ : ∃ k, n.toNat * (m + 1) = k + 1 := ⟨n.toNat * (m + 1) - 1, by omega⟩
          unfold aVal
          simp only [hk, aSl]
        rw [this]
        exact k1
      · simp only [cond_false, cond_true, e2]
        exact .inl ⟨rfl, h3 opn w M (m + 1) cap n e1 (by omega) (by rw [hq, ee]; exact e2)⟩
  · exact .inl ⟨rfl, h2 opn w M m cap n e1⟩
theorem st_nil {f z : Nat} {row : (Nat → Nat) → (Nat → Nat) → Nat → List Value} {A B : (Nat → Int) → Nat → Nat → Nat}
    (h2 : ∀ (n : Int), decide (n < Int.ofNat 1) = true → ∃ σ', CallR Try.prog false f [.slice none 0 0, .int .i64 n] [] (.tuple #[.slice none 0 0, .int .i64 2]) σ')
    (h0 : ∀ (n : Int), decide (n < Int.ofNat 1) = false → ∃ σ', CallR Try.prog false f [.slice none 0 0, .int .i64 n] [] (.tuple #[.slice none 0 0, .int .i64 0]) σ') (n : Int) : AnCallS f [.slice none 0 0, .int .i64 n] [] z row (stAn A B (fun _ => 0) 0 n) := by
  unfold stAn
  cases e1 : decide (n < 1)
  · exact .inl ⟨rfl, h0 n e1⟩
  · exact .inl ⟨rfl, h2 n e1⟩
def sSteps : HeapFn := sAnS 1 xRow (stAn swA swB)
theorem sSteps_ok : IsHeap Try.prog false 71 false sSteps :=
  sAnS_is xRow_plain (st_nil (fun n h => ⟨_, swN2_p0 n h⟩) (fun n h => ⟨_, swN0_p0 n h⟩))
    (fun opn w M m cap n hM => st_all (fun opn w M m cap n h => ⟨_, swE2_p0 opn w M m cap n h⟩) (fun opn w M m cap n h1 h0 hq => ⟨_, swE3_p0 opn w M m cap n h1 h0 hq⟩) (fun opn w M cap n h => ⟨_, swE0_p0 opn w M cap n h⟩)
      (fun opn w M m cap n hn hm hM hg h0 h1 hs hq => ⟨_, _, swC_p0 opn w M m cap n hn hm hM hg h0 h1 hq (fun hst => by
        cases n with
        | zero => omega
        | succ n =>
          cases m with
          | zero => omega
          | succ m => exact (sw_out opn w M (m + 1) cap n hn hm hM hg h0 hs hst).enter [true, true, false, false, true, true, true, false, false, false, false, false, false, false, false, false, false, false, false, false, false, false, false, false, true, true, true, false, false, false, false, false, false, false, false, false, false, false, false, false, false, false, false, false, false, false, false, false, false, false, false, false, false, false] (by kernel_rfl)), rfl, .inr rfl⟩) opn w M m cap n hM)
end Go.Lk
end

section
/- Chirp; the document's. -/
namespace Go.Lk
open Go.Proofs
set_option maxRecDepth 100000
set_option maxHeartbeats 0
set_option linter.unusedVariables false
set_option linter.unusedSimpArgs false
noncomputable def LFi : Lib := ⟨Try.prog, false, t9q, [(127, Try.f127), (51, Try.f51), (128, Try.f128)], []⟩
theorem LFi_fp : ∀ e, e ∈ LFi.pures → Try.prog.funcs[e.1]? = some e.2 := fs_cons Try.func127 (fs_cons Try.func51 (fs_cons Try.func128 (fs_nil)))
theorem LFi_fh : ∀ e, e ∈ LFi.heaps → Try.prog.funcs[e.1]? = some e.2.2 := gs_nil
theorem LFi_p1 (gp : Nat → PureFn) (g : Nat → HeapFn) : (LFi.pures.all fun e => fnOk (LFi.mk' gp g) e.2) = true := by kernel_rfl
theorem LFi_h1 (gp : Nat → PureFn) (g : Nat → HeapFn) : (LFi.heaps.all fun e => fnOk (LFi.mk' gp g) e.2.2 && (!e.2.1 || fnRo (LFi.mk' gp g) e.2.2)) = true := by kernel_rfl
theorem LFi_ok : LFi.Ok := ⟨t9q_ok, mixed, LFi_fp, LFi_fh, LFi_p1, LFi_h1⟩
noncomputable def dLFi : Cfg := LFi.cfg 100 4
theorem dLFi_ok : dLFi.Ok := LFi_ok.cfg 100 4

theorem cFin_fok : fnOk (dLFi) Try.f144 = true := by kernel_rfl
theorem cFin_p0 (x : Nat) (σ : AHeap) (h0 : (feq x x) = true) : CallR Try.prog false 144 [Value.float .f64 x] σ (Value.bool !fgt (fabs x) 9218868437227405311) σ := CallR.of_DO_pure (C := dLFi) dLFi_ok Try.func144 cFin_fok (n := 100) (orc := [(10, Item.br true), (12, Item.br true), (14, Item.br true), (17, Item.res (Value.bool !fgt (fabs x) 9218868437227405311))]) (ps := [(bP ((!!feq x x) == true) true), (bP ((!!feq x x) == true) true), (bP ((!!feq x x) == true) true), (pP (some (Value.bool !fgt (fabs x) 9218868437227405311)) (some (Value.bool false)) ([]) (!!feq x x) (Value.bool !fgt (fabs x) 9218868437227405311))]) (σ1 := []) (by kernel_rfl) ⟨bP_of (fun x => (!!x) == true) h0, ⟨bP_of (fun x => (!!x) == true) h0, ⟨bP_of (fun x => (!!x) == true) h0, ⟨pP_t _ _ _ (congrArg (fun bb => (!!bb)) h0), trivial⟩⟩⟩⟩ rfl rfl
theorem cFin_p1 (x : Nat) (σ : AHeap) (h0 : (feq x x) = false) : CallR Try.prog false 144 [Value.float .f64 x] σ (Value.bool false) σ := CallR.of_DO_pure (C := dLFi) dLFi_ok Try.func144 cFin_fok (n := 100) (orc := [(10, Item.br false), (12, Item.br false), (14, Item.br false), (17, Item.res (Value.bool false))]) (ps := [(bP ((!!feq x x) == true) false), (bP ((!!feq x x) == true) false), (bP ((!!feq x x) == true) false), (pP (none) (some (Value.bool false)) ([]) (!!feq x x) (Value.bool false))]) (σ1 := []) (by kernel_rfl) ⟨bP_of (fun x => (!!x) == true) h0, ⟨bP_of (fun x => (!!x) == true) h0, ⟨bP_of (fun x => (!!x) == true) h0, ⟨pP_f _ _ _ (congrArg (fun bb => (!!bb)) h0), trivial⟩⟩⟩⟩ rfl rfl
def cFin_t (x : Nat) : Value := (bif feq x x then (Value.bool !fgt (fabs x) 9218868437227405311) else (Value.bool false))
theorem cFin_c (x : Nat) (σ : AHeap) : CallR Try.prog false 144 [Value.float .f64 x] σ (cFin_t x) σ := by
  unfold cFin_t
  exact (CallR.bif (fun h0 => (cFin_p0 x σ h0)) (fun h0 => (cFin_p1 x σ h0)))
def cFin_0 (x : Nat) : Bool := (bif feq x x then !fgt (fabs x) 9218868437227405311 else false)
theorem cFin_v (x : Nat) : cFin_t x = Go.Value.bool (cFin_0 x) := by
  unfold cFin_t cFin_0
  cases (feq x x) with
  | true =>
    kernel_rfl
  | false =>
    kernel_rfl
theorem cFin_ok (x : Nat) (σ : AHeap) : CallR Try.prog false 144 [Value.float .f64
    x] σ (Go.Value.bool (cFin_0 x)) σ := by
  have h := cFin_c x σ
  rw [cFin_v] at h
  exact h
def sCFin : PureFn
  | [.float .f64 x] => some (.bool (cFin_0 x))
  | _ => none
theorem sCFin_ok : IsPure Try.prog false 144 sCFin := by
  intro args v σ h
  unfold sCFin at h
  split at h
  · cases h; exact cFin_ok _ σ
  · cases h
noncomputable def t9r : Tab := (t9q.addP 144 sCFin)
theorem t9r_ok : t9r.Ok Try.prog false := (Tab.Ok.addP t9q_ok sCFin_ok)
noncomputable def LCh : Lib := ⟨Try.prog, false, t9r, [], []⟩
theorem LCh_fp : ∀ e, e ∈ LCh.pures → Try.prog.funcs[e.1]? = some e.2 := fs_nil
theorem LCh_fh : ∀ e, e ∈ LCh.heaps → Try.prog.funcs[e.1]? = some e.2.2 := gs_nil
theorem LCh_p1 (gp : Nat → PureFn) (g : Nat → HeapFn) : (LCh.pures.all fun e => fnOk (LCh.mk' gp g) e.2) = true := by kernel_rfl
theorem LCh_h1 (gp : Nat → PureFn) (g : Nat → HeapFn) : (LCh.heaps.all fun e => fnOk (LCh.mk' gp g) e.2.2 && (!e.2.1 || fnRo (LCh.mk' gp g) e.2.2)) = true := by kernel_rfl
theorem LCh_ok : LCh.Ok := ⟨t9r_ok, mixed, LCh_fp, LCh_fh, LCh_p1, LCh_h1⟩
noncomputable def dLCh : Cfg := LCh.cfg 100 4
theorem dLCh_ok : dLCh.Ok := LCh_ok.cfg 100 4

def chFr (n v : Nat) (s : Value) (k : Value) : List Value :=
  [.int .i64 (iN n), .float .f64 v, undef, undef, .slice none 0 0, .int .i64 0, s] ++ List.replicate 14 undef ++ [.int .i64 (iN n), k] ++ List.replicate 18 undef
def chX (n v i : Nat) : Nat := fmul v (fdiv (FloatKind.f64.nearest (IntKind.i64.wrap (iN i * iN i))) (FloatKind.f64.nearest (iN (2 * n))))
theorem ch_okX : codeOkX (dLCh) [] (loopOf Try.f66 0) = true := by kernel_rfl
theorem ch_p0 (n : Nat) (v : Nat) (k : Nat) (hk : k < n) (hn : n ≤ 16384) (hst : Stood false ([])) : Sim (dLCh) 1 (loopOf Try.f66 0) ((chFr n v (.slice (some ⟨0, 0, some 1⟩) n n) (.int .i64 (iN k)))) ([.row (rowOf (half2 (fun i => [.complex .f64 (wTurn_0 (chX n v i)) (wTurn_1 (chX n v i))]) (fun _ => [.complex .f64 0 0]) k) n) true none]) .normal ([Value.int .i64 (iN n), Value.float .f64 v, undef, undef, Value.slice none 0 0, Value.int .i64 (Int.ofNat 0), Value.slice (some ⟨0, 0, some 1⟩) n n, undef, undef, undef, undef, undef, undef, undef, undef, undef, undef, undef, undef, undef, undef, Value.int .i64 (iN n), Value.int .i64 (iN (k + 1)), undef, undef, undef, undef, undef, undef, undef, undef, undef, undef, undef, undef, undef, undef, undef, undef, undef, undef]) ([AObj.row (rowOf (half2 (fun i => [Value.complex .f64 (wTurn_0 (chX n v i)) (wTurn_1 (chX n v i))]) (fun x => [Value.complex .f64 0 0]) (k + 1)) n) true none]) := Sim.of_roundQ (C := dLCh) dLCh_ok (X := []) (n := 3) (orc := [(2, Item.br true), (24, Item.res (Value.int .i64 (iN (2 * n)))), (34, Item.res (Value.pointer (some { block := 0, off := 0 + k * 1 }))), (36, Item.eff undef [AObj.row (rowOf (half2 (fun i => [Value.complex .f64 (wTurn_0 (chX n v i)) (wTurn_1 (chX n v i))]) (fun x => [Value.complex .f64 0 0]) (k + 1)) n) true none]), (38, Item.res (Value.int .i64 (iN (k + 1))))]) (ks := [0]) (mask := [true, true, false, false, true, true, true, false, false, false, false, false, false, false, false, false, false, false, false, false, false, true, true, false, false, false, false, false, false, false, false, false, false, false, false, false, false, false, false, false, false]) (ps := [(some (decide (iN k < iN n)) = some true), (wF IntKind.i64 (2 * iN n) ([AObj.row (rowOf (half2 (fun i => [Value.complex .f64 (wTurn_0 (chX n v i)) (wTurn_1 (chX n v i))]) (fun x => [Value.complex .f64 0 0]) k) n) true none]) = some (.int IntKind.i64 (iN (2 * n)), [AObj.row (rowOf (half2 (fun i => [Value.complex .f64 (wTurn_0 (chX n v i)) (wTurn_1 (chX n v i))]) (fun x => [Value.complex .f64 0 0]) k) n) true none])), (ixF (Value.pointer (some { block := 0, off := 0 + k * 1 })) ([AObj.row (rowOf (half2 (fun i => [Value.complex .f64 (wTurn_0 (chX n v i)) (wTurn_1 (chX n v i))]) (fun x => [Value.complex .f64 0 0]) k) n) true none]) (iN k) (n) = some (Value.pointer (some { block := 0, off := 0 + k * 1 }), [AObj.row (rowOf (half2 (fun i => [Value.complex .f64 (wTurn_0 (chX n v i)) (wTurn_1 (chX n v i))]) (fun x => [Value.complex .f64 0 0]) k) n) true none])), (stF (aStore Try.prog ([AObj.row (rowOf (half2 (fun i => [Value.complex .f64 (wTurn_0 (chX n v i)) (wTurn_1 (chX n v i))]) (fun x => [Value.complex .f64 0 0]) k) n) true none]) 27 (.pointer (some ⟨0, 0 + k * 1, none⟩)) (Value.complex .f64 (wTurn_0 (fmul v (fdiv (FloatKind.f64.nearest (IntKind.i64.wrap (iN k * iN k))) (FloatKind.f64.nearest (iN (2 * n)))))) (wTurn_1 (fmul v (fdiv (FloatKind.f64.nearest (IntKind.i64.wrap (iN k * iN k))) (FloatKind.f64.nearest (iN (2 * n)))))))) = some (undef, [AObj.row (rowOf (half2 (fun i => [Value.complex .f64 (wTurn_0 (chX n v i)) (wTurn_1 (chX n v i))]) (fun x => [Value.complex .f64 0 0]) (k + 1)) n) true none])), (wF IntKind.i64 (iN k + 1) ([AObj.row (rowOf (half2 (fun i => [Value.complex .f64 (wTurn_0 (chX n v i)) (wTurn_1 (chX n v i))]) (fun x => [Value.complex .f64 0 0]) (k + 1)) n) true none]) = some (.int IntKind.i64 (iN (k + 1)), [AObj.row (rowOf (half2 (fun i => [Value.complex .f64 (wTurn_0 (chX n v i)) (wTurn_1 (chX n v i))]) (fun x => [Value.complex .f64 0 0]) (k + 1)) n) true none]))]) (L := 1) 1 ch_okX (by kernel_rfl) ⟨bP_of (fun x => x) (show (decide (iN k < iN n)) = true from decide_eq_true (by (try simp only [decide_eq_true_eq, decide_eq_false_iff_not] at *); (try simp only [iN_eq, Int.ofNat_eq_natCast] at *); omega)), ⟨wF_ok _ (by (try simp only [decide_eq_true_eq, decide_eq_false_iff_not] at *); (try simp only [iN_eq, Int.ofNat_eq_natCast] at *); omega) (by (try simp only [decide_eq_true_eq, decide_eq_false_iff_not] at *); (try simp only [iN_eq, Int.ofNat_eq_natCast] at *); omega), ⟨ixF_ok _ _ (by (try simp only [decide_eq_true_eq, decide_eq_false_iff_not] at *); (try simp only [iN_eq, Int.ofNat_eq_natCast] at *); omega), ⟨stF_ok (store_row (z := 1) (k := k) (f := half2 (fun i => [Value.complex .f64 (wTurn_0 (chX n v i)) (wTurn_1 (chX n v i))]) (fun x => [Value.complex .f64 0 0]) k) (g := half2 (fun i => [Value.complex .f64 (wTurn_0 (chX n v i)) (wTurn_1 (chX n v i))]) (fun x => [Value.complex .f64 0 0]) (k + 1)) rfl (by kernel_rfl) (half2_len (s := 1) (fun _ => rfl) (fun _ => rfl) _) (half2_len (s := 1) (fun _ => rfl) (fun _ => rfl) _) (by rw [half2_at]; try kernel_rfl) (by rw [half2_at]; try kernel_rfl) (by omega) (by (try simp only [decide_eq_true_eq, decide_eq_false_iff_not] at *); (try simp only [iN_eq, Int.ofNat_eq_natCast] at *); omega) (fun i h => half2_ne _ _ _ i h)), ⟨wF_ok _ (by (try simp only [decide_eq_true_eq, decide_eq_false_iff_not] at *); (try simp only [iN_eq, Int.ofNat_eq_natCast] at *); omega) (by (try simp only [decide_eq_true_eq, decide_eq_false_iff_not] at *); (try simp only [iN_eq, Int.ofNat_eq_natCast] at *); omega), trivial⟩⟩⟩⟩⟩ hst (by kernel_rfl) (by kernel_rfl) (by kernel_rfl) (by decide) (by kernel_rfl) ⟨rowOf_all (half2_all (fun _ => rfl) (fun _ => rfl) _) _, trivial⟩
theorem chE_okX : codeOkX (dLCh) [] (loopOf Try.f66 0) = true := by kernel_rfl
theorem chE_p0 (n : Nat) (v : Nat) (hn : n ≤ 16384) (hst : Stood false ([])) : Sim (dLCh) 1 (loopOf Try.f66 0) ((chFr n v (.slice (some ⟨0, 0, some 1⟩) n n) (.int .i64 (iN n)))) ([.row (rowOf (half2 (fun i => [.complex .f64 (wTurn_0 (chX n v i)) (wTurn_1 (chX n v i))]) (fun _ => [.complex .f64 0 0]) n) n) true none]) (.exit 1) ([Value.int .i64 (iN n), Value.float .f64 v, undef, undef, Value.slice none 0 0, Value.int .i64 (Int.ofNat 0), Value.slice (some ⟨0, 0, some 1⟩) n n, undef, undef, undef, undef, undef, undef, undef, undef, undef, undef, undef, undef, undef, undef, Value.int .i64 (iN n), Value.int .i64 (iN n), undef, undef, undef, undef, undef, undef, undef, undef, undef, undef, undef, undef, undef, undef, undef, undef, undef, undef]) ([AObj.row (rowOf (half2 (fun i => [Value.complex .f64 (wTurn_0 (chX n v i)) (wTurn_1 (chX n v i))]) (fun x => [Value.complex .f64 0 0]) n) n) true none]) := Sim.of_roundQ (C := dLCh) dLCh_ok (X := []) (n := 3) (orc := [(2, Item.br false)]) (ks := [0]) (mask := [true, true, false, false, true, true, true, false, false, false, false, false, false, false, false, false, false, false, false, false, false, true, true, false, false, false, false, false, false, false, false, false, false, false, false, false, false, false, false, false, false]) (ps := [(some (decide (iN n < iN n)) = some false)]) (L := 1) 1 chE_okX (by kernel_rfl) ⟨bP_of (fun x => x) (show (decide (iN n < iN n)) = false from decide_eq_false (by (try simp only [decide_eq_true_eq, decide_eq_false_iff_not] at *); (try simp only [iN_eq, Int.ofNat_eq_natCast] at *); omega)), trivial⟩ hst (by kernel_rfl) (by kernel_rfl) (by kernel_rfl) (by decide) (by kernel_rfl) ⟨rowOf_all (half2_all (fun _ => rfl) (fun _ => rfl) _) _, trivial⟩
def chHp (n v k : Nat) : AHeap := [.row (rowOf (half2 (fun i => [.complex .f64 (wTurn_0 (chX n v i)) (wTurn_1 (chX n v i))]) (fun _ => [.complex .f64 0 0]) k) n) true none]
theorem ch_loop (n v : Nat) (hn : n ≤ 16384) (hst : Stood false []) :
    Sim dLCh 1 (.loop (loopOf Try.f66 0)) (chFr n v (.slice (some ⟨0, 0, some 1⟩) n n) (.int .i64 (iN 0))) (chHp n v 0) (.exit 1) (chFr n v (.slice (some ⟨0, 0, some 1⟩) n n) (.int .i64 (iN n))) (chHp n v n) := by
  refine Sim.loop (fun k => (chFr n v (.slice (some ⟨0, 0, some 1⟩) n n) (.int .i64 (iN k)), chHp n v k)) n (fun k hk => ?_) ?_ rfl
  · exact (ch_p0 n v k hk hn hst).cast (by kernel_rfl) (by kernel_rfl) (by kernel_rfl) (by kernel_rfl)
  · exact (chE_p0 n v hn hst).cast (by kernel_rfl) (by kernel_rfl) (by kernel_rfl) (by kernel_rfl)
theorem cCh_fok : fnOkX (dLCh) [] Try.f66 = true := by kernel_rfl
theorem cCh_p0 (n : Nat) (v : Nat) (h1 : decide (iN n < Int.ofNat 1) = false) (h2 : decide (iN n > Int.ofNat 16384) = false) (h3 : cFin_0 v = true) (l0 : Stood false ([]) → Sim (dLCh) 1 (.loop (loopOf Try.f66 0)) ([Value.int .i64 (iN n), Value.float .f64 v, undef, undef, Value.slice none 0 0, Value.int .i64 (Int.ofNat 0), Value.slice (some ⟨0, 0, some 1⟩) n n, undef, Value.bool (decide (iN n < 1)), Value.int .i64 (iN n), Value.bool (decide (iN n < 1)), Value.bool (decide (iN n > 16384)), Value.int .i64 (iN n), Value.bool (decide (iN n > 16384)), Value.bool !cFin_0 v, Value.float .f64 v, Value.bool (cFin_0 v), Value.bool !cFin_0 v, Value.int .i64 (iN n), Value.slice (some ⟨0, 0, some 1⟩) n n, Value.slice (some ⟨0, 0, some 1⟩) n n, Value.int .i64 (iN n), Value.int .i64 (Int.ofNat 0), undef, undef, undef, undef, undef, undef, undef, undef, undef, undef, undef, undef, undef, undef, undef, undef, undef, undef]) ([AObj.row (rowOf (fun i => [Value.complex .f64 0 0]) n) true none]) (Exit.exit 1) ([Value.int .i64 (iN n), Value.float .f64 v, undef, undef, Value.slice none 0 0, Value.int .i64 (Int.ofNat 0), Value.slice (some ⟨0, 0, some 1⟩) n n, undef, undef, undef, undef, undef, undef, undef, undef, undef, undef, undef, undef, undef, undef, Value.int .i64 (iN n), Value.int .i64 (iN n), undef, undef, undef, undef, undef, undef, undef, undef, undef, undef, undef, undef, undef, undef, undef, undef, undef, undef]) ([AObj.row (rowOf (fun i => [Value.complex .f64 (wTurn_0 (chX n v i)) (wTurn_1 (chX n v i))]) n) true none])) : CallR Try.prog false 66 ([Value.int .i64 (iN n), Value.float .f64 v]) ([]) (Value.tuple { toList := [Value.slice (some ⟨0, 0, some 1⟩) n n, Value.int .i64 (Int.ofNat 0)] }) ([AObj.row (rowOf (fun i => [Value.complex .f64 (wTurn_0 (chX n v i)) (wTurn_1 (chX n v i))]) n) true none]) := CallR.of_DOXs (C := dLCh) dLCh_ok (X := []) Try.func66 cCh_fok (n := 3) (orc := [(10, Item.br false), (17, Item.br false), (26, Item.br false), (30, Item.eff (Value.slice (some ⟨0, 0, some 1⟩) n n) [AObj.row (rowOf (fun i => [Value.complex .f64 0 0]) n) true none]), (39, Item.loop (Exit.exit 1) (chFr n v (Value.slice (some ⟨0, 0, some 1⟩) n n) (Value.int .i64 (iN n))) [AObj.row (rowOf (fun i => [Value.complex .f64 (wTurn_0 (chX n v i)) (wTurn_1 (chX n v i))]) n) true none])]) (ps := [(some (decide (iN n < 1)) = some false), (some (decide (iN n > 16384)) = some false), (bP (!cFin_0 v) false), (aMake Try.prog ([]) 66 (.int IntKind.i64 (iN n)) (.int IntKind.i64 (iN n)) = some (Value.slice (some ⟨0, 0, some 1⟩) n n, [AObj.row (rowOf (fun i => [Value.complex .f64 0 0]) n) true none])), (Sim (dLCh) 1 (.loop (loopOf Try.f66 0)) ([Value.int .i64 (iN n), Value.float .f64 v, undef, undef, Value.slice none 0 0, Value.int .i64 (Int.ofNat 0), Value.slice (some ⟨0, 0, some 1⟩) n n, undef, Value.bool (decide (iN n < 1)), Value.int .i64 (iN n), Value.bool (decide (iN n < 1)), Value.bool (decide (iN n > 16384)), Value.int .i64 (iN n), Value.bool (decide (iN n > 16384)), Value.bool !cFin_0 v, Value.float .f64 v, Value.bool (cFin_0 v), Value.bool !cFin_0 v, Value.int .i64 (iN n), Value.slice (some ⟨0, 0, some 1⟩) n n, Value.slice (some ⟨0, 0, some 1⟩) n n, Value.int .i64 (iN n), Value.int .i64 (Int.ofNat 0), undef, undef, undef, undef, undef, undef, undef, undef, undef, undef, undef, undef, undef, undef, undef, undef, undef, undef]) ([AObj.row (rowOf (fun i => [Value.complex .f64 0 0]) n) true none]) (Exit.exit 1) ([Value.int .i64 (iN n), Value.float .f64 v, undef, undef, Value.slice none 0 0, Value.int .i64 (Int.ofNat 0), Value.slice (some ⟨0, 0, some 1⟩) n n, undef, undef, undef, undef, undef, undef, undef, undef, undef, undef, undef, undef, undef, undef, Value.int .i64 (iN n), Value.int .i64 (iN n), undef, undef, undef, undef, undef, undef, undef, undef, undef, undef, undef, undef, undef, undef, undef, undef, undef, undef]) ([AObj.row (rowOf (fun i => [Value.complex .f64 (wTurn_0 (chX n v i)) (wTurn_1 (chX n v i))]) n) true none])), (List.length (α := AObj) ([AObj.row (rowOf (fun i => [Value.complex .f64 0 0]) n) true none]) ≤ List.length ([AObj.row (rowOf (fun i => [Value.complex .f64 (wTurn_0 (chX n v i)) (wTurn_1 (chX n v i))]) n) true none])), (Lk.Exit.isG (Exit.exit 1) = false)]) (by kernel_rfl) (fun hst => ⟨bP_of (fun x => x) (show (decide (iN n < 1)) = false from decide_eq_false (by (try simp only [decide_eq_true_eq, decide_eq_false_iff_not] at *); (try simp only [iN_eq, Int.ofNat_eq_natCast] at *); omega)), ⟨bP_of (fun x => x) (show (decide (iN n > 16384)) = false from decide_eq_false (by (try simp only [decide_eq_true_eq, decide_eq_false_iff_not] at *); (try simp only [iN_eq, Int.ofNat_eq_natCast] at *); omega)), ⟨bP_of (fun x => !x) h3, ⟨make_row (zs := [Value.complex .f64 0 0]) (by kernel_rfl) (by kernel_rfl) (by kernel_rfl) (by (try simp only [decide_eq_true_eq, decide_eq_false_iff_not] at *); (try simp only [iN_eq, Int.ofNat_eq_natCast] at *); omega) (by (try simp only [decide_eq_true_eq, decide_eq_false_iff_not] at *); (try simp only [iN_eq, Int.ofNat_eq_natCast] at *); omega), ⟨l0 hst, Nat.le_of_ble_eq_true (by kernel_rfl), rfl, trivial⟩⟩⟩⟩⟩)
theorem cChE_fok : fnOkX (dLCh) [] Try.f66 = true := by kernel_rfl
theorem cChE_p0 (n : Int) (v : Nat) (h1 : decide (n < Int.ofNat 1) = true) : CallR Try.prog false 66 ([Value.int .i64 n, Value.float .f64 v]) ([]) (Value.tuple { toList := [Value.slice none 0 0, Value.int .i64 (Int.ofNat 2)] }) ([]) := CallR.of_DOXs (C := dLCh) dLCh_ok (X := []) Try.func66 cChE_fok (n := 3) (orc := [(10, Item.br true)]) (ps := [(some (decide (n < 1)) = some true)]) (by kernel_rfl) (fun hst => ⟨bP_of (fun x => x) (show (decide (n < 1)) = true from decide_eq_true (by (try simp only [decide_eq_true_eq, decide_eq_false_iff_not] at *); (try simp only [iN_eq, Int.ofNat_eq_natCast] at *); omega)), trivial⟩)
theorem cChF_fok : fnOkX (dLCh) [] Try.f66 = true := by kernel_rfl
theorem cChF_p0 (n : Int) (v : Nat) (h1 : decide (n < Int.ofNat 1) = false) (h2 : decide (n > Int.ofNat 16384) = true) : CallR Try.prog false 66 ([Value.int .i64 n, Value.float .f64 v]) ([]) (Value.tuple { toList := [Value.slice none 0 0, Value.int .i64 (Int.ofNat 3)] }) ([]) := CallR.of_DOXs (C := dLCh) dLCh_ok (X := []) Try.func66 cChF_fok (n := 3) (orc := [(10, Item.br false), (17, Item.br true)]) (ps := [(some (decide (n < 1)) = some false), (some (decide (n > 16384)) = some true)]) (by kernel_rfl) (fun hst => ⟨bP_of (fun x => x) (show (decide (n < 1)) = false from decide_eq_false (by (try simp only [decide_eq_true_eq, decide_eq_false_iff_not] at *); (try simp only [iN_eq, Int.ofNat_eq_natCast] at *); omega)), ⟨bP_of (fun x => x) (show (decide (n > 16384)) = true from decide_eq_true (by (try simp only [decide_eq_true_eq, decide_eq_false_iff_not] at *); (try simp only [iN_eq, Int.ofNat_eq_natCast] at *); omega)), trivial⟩⟩)
theorem cChG_fok : fnOkX (dLCh) [] Try.f66 = true := by kernel_rfl
theorem cChG_p0 (n : Int) (v : Nat) (h1 : decide (n < Int.ofNat 1) = false) (h2 : decide (n > Int.ofNat 16384) = false) (h3 : cFin_0 v = false) : CallR Try.prog false 66 ([Value.int .i64 n, Value.float .f64 v]) ([]) (Value.tuple { toList := [Value.slice none 0 0, Value.int .i64 (Int.ofNat 6)] }) ([]) := CallR.of_DOXs (C := dLCh) dLCh_ok (X := []) Try.func66 cChG_fok (n := 3) (orc := [(10, Item.br false), (17, Item.br false), (26, Item.br true)]) (ps := [(some (decide (n < 1)) = some false), (some (decide (n > 16384)) = some false), (bP (!cFin_0 v) true)]) (by kernel_rfl) (fun hst => ⟨bP_of (fun x => x) (show (decide (n < 1)) = false from decide_eq_false (by (try simp only [decide_eq_true_eq, decide_eq_false_iff_not] at *); (try simp only [iN_eq, Int.ofNat_eq_natCast] at *); omega)), ⟨bP_of (fun x => x) (show (decide (n > 16384)) = false from decide_eq_false (by (try simp only [decide_eq_true_eq, decide_eq_false_iff_not] at *); (try simp only [iN_eq, Int.ofNat_eq_natCast] at *); omega)), ⟨bP_of (fun x => !x) h3, trivial⟩⟩⟩)
end Go.Lk
end

section
/- Barker's rows. -/
namespace Go.Lk
open Go.Proofs
set_option maxRecDepth 100000
set_option maxHeartbeats 0
set_option linter.unusedVariables false
set_option linter.unusedSimpArgs false
theorem CallR.of_DFn_raw {C : Cfg} (hC : C.Ok) {f : FuncId} {fn : Func} {args : List Value} {σ1 : AHeap} {v : Value} {n : Nat}
    (hf : C.P.funcs[f]? = some fn) (hok : (match fn.body with | some b => codeOk C b | none => false) = true) (hnm : (fn.name == "runtime.NumGoroutine") = false)
    (h : DFn C n fn args [] = some (v, σ1)) : CallR C.P C.ex f args [] v σ1 := by
  obtain ⟨body, e, fr1, hb, h1, h2, h3⟩ := DFn_some h
  rw [hb] at hok
  exact CallR.of_sim_raw hC hf hb hnm (DC_sound hC n _ _ _ _ _ _ hok h1) h2 h3
/-- A call without a heap, reckoned: its answer. -/
theorem AnCall.of_run {C : Cfg} (hC : C.Ok) (hP : C.P = Try.prog) (hex : C.ex = false) {f : FuncId} {fn : Func} {args : List Value} {n k z : Nat} {o : Option Nat} {row : (Nat → Nat) → (Nat → Nat) → Nat → List Value} {x : An}
    (hf : C.P.funcs[f]? = some fn) (hok : (match fn.body with | some b => codeOk C b | none => false) = true) (hnm : (fn.name == "runtime.NumGoroutine") = false)
    (h : ((DFn C n fn args []).map fun y => (y.1, y.2[k]?)) = some (aVal k z x, some (.row (row x.a x.b x.n) true o))) (h0 : 0 < x.n) (ho : o = none ∨ o = some z) : AnCall f args z row x := by
  cases hd : DFn C n fn args [] with
  | none => rw [hd] at h; cases h
  | some y =>
    obtain ⟨v, σ1⟩ := y
    rw [hd] at h
    simp only [Option.map_some, Option.some.injEq, Prod.mk.injEq] at h
    obtain ⟨rfl, h2⟩ := h
    have := CallR.of_DFn_raw hC hf hok hnm hd
    rw [hP, hex] at this
    exact .inr ⟨h0, σ1, k, o, this, h2, ho⟩
def bkW (n : Int) : List Nat := bif n == Int.ofNat 2 then [4607182418800017408, 13830554455654793216] else bif n == Int.ofNat 3 then [4607182418800017408, 4607182418800017408, 13830554455654793216] else bif n == Int.ofNat 4 then [4607182418800017408, 4607182418800017408, 13830554455654793216, 4607182418800017408] else bif n == Int.ofNat 5 then [4607182418800017408, 4607182418800017408, 4607182418800017408, 13830554455654793216, 4607182418800017408] else bif n == Int.ofNat 7 then [4607182418800017408, 4607182418800017408, 4607182418800017408, 13830554455654793216, 13830554455654793216, 4607182418800017408, 13830554455654793216] else bif n == Int.ofNat 11 then [4607182418800017408, 4607182418800017408, 4607182418800017408, 13830554455654793216, 13830554455654793216, 13830554455654793216, 4607182418800017408, 13830554455654793216, 13830554455654793216, 4607182418800017408, 13830554455654793216] else bif n == Int.ofNat 13 then [4607182418800017408, 4607182418800017408, 4607182418800017408, 4607182418800017408, 4607182418800017408, 13830554455654793216, 13830554455654793216, 4607182418800017408, 4607182418800017408, 13830554455654793216, 4607182418800017408, 13830554455654793216, 4607182418800017408] else []
def bkAn (n : Int) : An := ⟨(bkW n).length, fun i => (bkW n).getD i 0, fun _ => 0, bif (bkW n).isEmpty then 40 else 0⟩
/-- No row of this length. -/
def noRow (n : Int) : Bool := (bkW n).isEmpty
def sNoRow : HeapFn
  | [.int .i64 n], σ => bif noRow n then some (.string ⟨#[]⟩, σ) else none
  | _, _ => none
noncomputable def LBk : Lib := ⟨Try.prog, false, t9r, [(151, Try.f151)], []⟩
theorem LBk_fp : ∀ e, e ∈ LBk.pures → Try.prog.funcs[e.1]? = some e.2 := fs_cons Try.func151 (fs_nil)
theorem LBk_fh : ∀ e, e ∈ LBk.heaps → Try.prog.funcs[e.1]? = some e.2.2 := gs_nil
theorem LBk_p1 (gp : Nat → PureFn) (g : Nat → HeapFn) : (LBk.pures.all fun e => fnOk (LBk.mk' gp g) e.2) = true := by kernel_rfl
theorem LBk_h1 (gp : Nat → PureFn) (g : Nat → HeapFn) : (LBk.heaps.all fun e => fnOk (LBk.mk' gp g) e.2.2 && (!e.2.1 || fnRo (LBk.mk' gp g) e.2.2)) = true := by kernel_rfl
theorem LBk_ok : LBk.Ok := ⟨t9r_ok, mixed, LBk_fp, LBk_fh, LBk_p1, LBk_h1⟩
noncomputable def dLBk : Cfg := LBk.cfg 100 6
theorem dLBk_ok : dLBk.Ok := LBk_ok.cfg 100 6

theorem nrW_fok : fnOkX (dLBk) [] Try.f151 = true := by kernel_rfl
theorem nrW_p0 (n : Int) (h2 : (n == Int.ofNat 2) = false) (h3 : (n == Int.ofNat 3) = false) (h4 : (n == Int.ofNat 4) = false) (h5 : (n == Int.ofNat 5) = false) (h7 : (n == Int.ofNat 7) = false) (h11 : (n == Int.ofNat 11) = false) (h13 : (n == Int.ofNat 13) = false) : CallR Try.prog false 151 ([Value.int .i64 n]) ([]) (Value.string { data := { toList := [] } }) ([]) := CallR.of_DOXs (C := dLBk) dLBk_ok (X := []) Try.func151 nrW_fok (n := 100) (orc := [(8, Item.br false), (13, Item.br false), (18, Item.br false), (23, Item.br false), (28, Item.br false), (33, Item.br false), (38, Item.br false)]) (ps := [(bP (n == Int.ofNat 2) false), (bP (n == Int.ofNat 3) false), (bP (n == Int.ofNat 4) false), (bP (n == Int.ofNat 5) false), (bP (n == Int.ofNat 7) false), (bP (n == Int.ofNat 11) false), (bP (n == Int.ofNat 13) false)]) (by kernel_rfl) (fun hst => ⟨bP_of (fun x => x) h2, ⟨bP_of (fun x => x) h3, ⟨bP_of (fun x => x) h4, ⟨bP_of (fun x => x) h5, ⟨bP_of (fun x => x) h7, ⟨bP_of (fun x => x) h11, ⟨bP_of (fun x => x) h13, trivial⟩⟩⟩⟩⟩⟩⟩)
theorem noRow_all {n : Int} (h : noRow n = true) : (n == Int.ofNat 2) = false ∧ (n == Int.ofNat 3) = false ∧ (n == Int.ofNat 4) = false ∧ (n == Int.ofNat 5) = false ∧ (n == Int.ofNat 7) = false ∧ (n == Int.ofNat 11) = false ∧ (n == Int.ofNat 13) = false := by
  unfold noRow bkW at h
  refine ⟨?_, ?_, ?_, ?_, ?_, ?_, ?_⟩
  all_goals
    revert h
    cases n == Int.ofNat 2 <;> cases n == Int.ofNat 3 <;> cases n == Int.ofNat 4 <;> cases n == Int.ofNat 5 <;> cases n == Int.ofNat 7 <;> cases n == Int.ofNat 11 <;> cases n == Int.ofNat 13 <;> decide
theorem sNoRow_is {f : FuncId} (hc : ∀ n : Int, noRow n = true → ∃ σ', CallR Try.prog false f [.int .i64 n] [] (.string ⟨#[]⟩) σ') : IsHeap Try.prog false f true sNoRow := by
  refine ⟨fun args σ v σ' h => ?_, fun _ args σ v σ' h => ?_, fun args σ v σ' h => ?_⟩
  all_goals
    unfold sNoRow at h
    split at h
    · rename_i n
      cases hn : noRow n
      · rw [hn] at h; cases h
      · rw [hn] at h
        cases h
        first
          | (obtain ⟨σ', hc⟩ := hc n hn; exact CallR.quiet0 rfl hc rfl)
          | rfl
          | exact Nat.le_refl _
    · cases h
theorem nrW_ok : IsHeap Try.prog false 151 true sNoRow := sNoRow_is fun n h => by obtain ⟨h2, h3, h4, h5, h7, h11, h13⟩ := noRow_all h; exact ⟨_, nrW_p0 n h2 h3 h4 h5 h7 h11 h13⟩
noncomputable def t9t : Tab := (t9r.addH 151 true sNoRow)
theorem t9t_ok : t9t.Ok Try.prog false := (Tab.Ok.addH t9r_ok nrW_ok)
noncomputable def LBe : Lib := ⟨Try.prog, false, t9t, [], []⟩
theorem LBe_fp : ∀ e, e ∈ LBe.pures → Try.prog.funcs[e.1]? = some e.2 := fs_nil
theorem LBe_fh : ∀ e, e ∈ LBe.heaps → Try.prog.funcs[e.1]? = some e.2.2 := gs_nil
theorem LBe_p1 (gp : Nat → PureFn) (g : Nat → HeapFn) : (LBe.pures.all fun e => fnOk (LBe.mk' gp g) e.2) = true := by kernel_rfl
theorem LBe_h1 (gp : Nat → PureFn) (g : Nat → HeapFn) : (LBe.heaps.all fun e => fnOk (LBe.mk' gp g) e.2.2 && (!e.2.1 || fnRo (LBe.mk' gp g) e.2.2)) = true := by kernel_rfl
theorem LBe_ok : LBe.Ok := ⟨t9t_ok, mixed, LBe_fp, LBe_fh, LBe_p1, LBe_h1⟩
noncomputable def dLBe : Cfg := LBe.cfg 100 6
theorem dLBe_ok : dLBe.Ok := LBe_ok.cfg 100 6

theorem bkwE_fok : fnOkX (dLBe) [] Try.f75 = true := by kernel_rfl
theorem bkwE_p0 (n : Int) (s0 : sNoRow ([Value.int .i64 n]) ([]) = some (Value.string { data := #[] }, [])) : CallR Try.prog false 75 ([Value.int .i64 n]) ([]) (Value.tuple { toList := [Value.slice none 0 0, Value.int .i64 (Int.ofNat 40)] }) ([AObj.iter { data := { toList := [] } } 0]) := CallR.of_DOXs (C := dLBe) dLBe_ok (X := []) Try.func75 bkwE_fok (n := 100) (orc := [(9, Item.eff (Value.string { data := #[] }) [])]) (ps := [(sNoRow ([Value.int .i64 n]) ([]) = some (Value.string { data := #[] }, []))]) (by kernel_rfl) (fun hst => ⟨s0, trivial⟩)
theorem bkw2 : AnCall 75 [.int .i64 2] 1 xRow (bkAn 2) :=
  AnCall.of_run (C := dLBk) dLBk_ok rfl rfl (n := 100) (k := 4) (o := some 1) Try.func75 (by kernel_rfl) (by kernel_rfl) (by kernel_rfl) (by decide) (.inr rfl)
theorem bkw3 : AnCall 75 [.int .i64 3] 1 xRow (bkAn 3) :=
  AnCall.of_run (C := dLBk) dLBk_ok rfl rfl (n := 100) (k := 6) (o := some 1) Try.func75 (by kernel_rfl) (by kernel_rfl) (by kernel_rfl) (by decide) (.inr rfl)
theorem bkw4 : AnCall 75 [.int .i64 4] 1 xRow (bkAn 4) :=
  AnCall.of_run (C := dLBk) dLBk_ok rfl rfl (n := 100) (k := 8) (o := some 1) Try.func75 (by kernel_rfl) (by kernel_rfl) (by kernel_rfl) (by decide) (.inr rfl)
theorem bkw5 : AnCall 75 [.int .i64 5] 1 xRow (bkAn 5) :=
  AnCall.of_run (C := dLBk) dLBk_ok rfl rfl (n := 100) (k := 10) (o := some 1) Try.func75 (by kernel_rfl) (by kernel_rfl) (by kernel_rfl) (by decide) (.inr rfl)
theorem bkw7 : AnCall 75 [.int .i64 7] 1 xRow (bkAn 7) :=
  AnCall.of_run (C := dLBk) dLBk_ok rfl rfl (n := 100) (k := 14) (o := some 1) Try.func75 (by kernel_rfl) (by kernel_rfl) (by kernel_rfl) (by decide) (.inr rfl)
theorem bkw11 : AnCall 75 [.int .i64 11] 1 xRow (bkAn 11) :=
  AnCall.of_run (C := dLBk) dLBk_ok rfl rfl (n := 100) (k := 22) (o := some 1) Try.func75 (by kernel_rfl) (by kernel_rfl) (by kernel_rfl) (by decide) (.inr rfl)
theorem bkw13 : AnCall 75 [.int .i64 13] 1 xRow (bkAn 13) :=
  AnCall.of_run (C := dLBk) dLBk_ok rfl rfl (n := 100) (k := 26) (o := some 1) Try.func75 (by kernel_rfl) (by kernel_rfl) (by kernel_rfl) (by decide) (.inr rfl)
def bkH : List Value → Option An
  | [.int .i64 n] => some (bkAn n)
  | _ => none
theorem bk_none {n : Int} (h : noRow n = true) (z : Nat) : aVal 0 z (bkAn n) = .tuple #[.slice none 0 0, .int .i64 40] := by
  have h1 : (bkW n).length = 0 := by unfold noRow at h; rw [List.isEmpty_iff] at h; rw [h]; rfl
  unfold aVal bkAn
  rw [show (bkW n).isEmpty = true from h, h1]
  rfl
theorem bk_all {f z : Nat} {row : (Nat → Nat) → (Nat → Nat) → Nat → List Value} (h2 : AnCall f [.int .i64 2] z row (bkAn 2)) (h3 : AnCall f [.int .i64 3] z row (bkAn 3)) (h4 : AnCall f [.int .i64 4] z row (bkAn 4)) (h5 : AnCall f [.int .i64 5] z row (bkAn 5)) (h7 : AnCall f [.int .i64 7] z row (bkAn 7)) (h11 : AnCall f [.int .i64 11] z row (bkAn 11)) (h13 : AnCall f [.int .i64 13] z row (bkAn 13))
    (hE : ∀ n : Int, noRow n = true → ∃ σ', CallR Try.prog false f [.int .i64 n] [] (.tuple #[.slice none 0 0, .int .i64 40]) σ') (n : Int) : AnCall f [.int .i64 n] z row (bkAn n) := by
  cases hn : noRow n
  · have key : ∀ (k : Nat), (n == Int.ofNat k) = true → n = (k : Int) := fun k h => by simpa using h
    by_cases e2 : n = 2; · subst e2; exact h2
    by_cases e3 : n = 3; · subst e3; exact h3
    by_cases e4 : n = 4; · subst e4; exact h4
    by_cases e5 : n = 5; · subst e5; exact h5
    by_cases e7 : n = 7; · subst e7; exact h7
    by_cases e11 : n = 11; · subst e11; exact h11
    by_cases e13 : n = 13; · subst e13; exact h13
    exfalso
    have f : ∀ (k : Nat), n ≠ (k : Int) → (n == Int.ofNat k) = false := fun k h => by simpa using h
    unfold noRow bkW at hn
    rw [f 2 e2, f 3 e3, f 4 e4, f 5 e5, f 7 e7, f 11 e11, f 13 e13] at hn
    cases hn
  · left
    have h1 : (bkW n).length = 0 := by unfold noRow at hn; rw [List.isEmpty_iff] at hn; rw [hn]; rfl
    refine ⟨h1, ?_⟩
    rw [bk_none hn]
    exact hE n hn
def sBk : HeapFn := sAn 1 xRow bkH
theorem sNo_at {n : Int} (h : noRow n = true) (σ : AHeap) : sNoRow [.int .i64 n] σ = some (.string ⟨#[]⟩, σ) := by
  show (bif noRow n then some (Value.string ⟨#[]⟩, σ) else none) = _
  rw [h]; rfl
theorem sBk_ok : IsHeap Try.prog false 75 false sBk := sAn_is xRow_plain fun args x h => by
  unfold bkH at h
  split at h
  · rename_i n; cases h; exact ⟨rfl, bk_all bkw2 bkw3 bkw4 bkw5 bkw7 bkw11 bkw13 (fun n h => ⟨_, bkwE_p0 n (sNo_at h _)⟩) n⟩
  · cases h
end Go.Lk
end
