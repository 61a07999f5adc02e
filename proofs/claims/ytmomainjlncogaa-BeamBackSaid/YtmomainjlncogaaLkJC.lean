import Derived.Test.YtmomainjlncogaaLkGC
import Derived.Test.YtmomainjlncogaaLkJB
section
/- Of: numbers as two floats. -/
namespace Go.Lk
open Go.Proofs
set_option maxRecDepth 100000
set_option maxHeartbeats 0
set_option linter.unusedVariables false
set_option linter.unusedSimpArgs false
def ofFr (n cap k : Nat) (acc : Value) : List Value :=
  [.slice (some ⟨0, 0, some 1⟩) n cap, undef, .slice none 0 0, acc, .int .i64 (iN k)] ++ List.replicate 21 undef
theorem of0_okX : codeOkX (dL8) [] (loopOf Try.f191 0) = true := by kernel_rfl
theorem of0_p0 (opn : Option Nat) (re : Nat → Nat) (im : Nat → Nat) (m : Nat) (n : Nat) (cap : Nat) (hk : 0 < n) (hn : n ≤ 1048576) (hm : n ≤ m) (hst : Stood false ([.row (rowOf (fun i => [.complex .f64 (re i) (im i)]) m) false opn])) : Sim (dL8) 1 (loopOf Try.f191 0) ((ofFr n cap 0 (.slice none 0 0))) ([.row (rowOf (fun i => [.complex .f64 (re i) (im i)]) m) false opn]) .normal (([Value.slice (some ⟨0, 0, some 1⟩) n cap, undef, Value.slice none 0 0, Value.slice (some ⟨1, 0, some 2⟩) 1 1, Value.int .i64 (Int.ofNat 1)] ++ List.replicate 21 undef)) ([AObj.row (rowOf (fun i => [Value.complex .f64 (re i) (im i)]) m) false opn, AObj.row [Value.float .f64 (re 0), Value.float .f64 (im 0)] true (some 2)]) := Sim.of_roundQ (C := dL8) dL8_ok (X := []) (n := 100) (orc := [(8, Item.br true), (16, Item.res (Value.pointer (some { block := 0, off := 0 + (Int.ofNat 0).toNat * 1 }))), (18, Item.res (Value.complex .f64 (re 0) (im 0))), (26, Item.res (Value.pointer (some { block := 0, off := 0 + (Int.ofNat 0).toNat * 1 }))), (28, Item.res (Value.complex .f64 (re 0) (im 0)))]) (ks := [0, 2]) (mask := ([true, false, true, true, true] ++ List.replicate 21 false)) (ps := [(some (decide (Int.ofNat 0 < iN n)) = some true), (ixF (Value.pointer (some { block := 0, off := 0 + (Int.ofNat 0).toNat * 1 })) ([AObj.row (rowOf (fun i => [Value.complex .f64 (re i) (im i)]) m) false opn]) (Int.ofNat 0) (n) = some (Value.pointer (some { block := 0, off := 0 + (Int.ofNat 0).toNat * 1 }), [AObj.row (rowOf (fun i => [Value.complex .f64 (re i) (im i)]) m) false opn])), (ldF (aLoad Try.prog ([AObj.row (rowOf (fun i => [Value.complex .f64 (re i) (im i)]) m) false opn]) 27 (.pointer (some ⟨0, 0, none⟩))) ([AObj.row (rowOf (fun i => [Value.complex .f64 (re i) (im i)]) m) false opn]) = some (Value.complex .f64 (re 0) (im 0), [AObj.row (rowOf (fun i => [Value.complex .f64 (re i) (im i)]) m) false opn])), (ixF (Value.pointer (some { block := 0, off := 0 + (Int.ofNat 0).toNat * 1 })) ([AObj.row (rowOf (fun i => [Value.complex .f64 (re i) (im i)]) m) false opn]) (Int.ofNat 0) (n) = some (Value.pointer (some { block := 0, off := 0 + (Int.ofNat 0).toNat * 1 }), [AObj.row (rowOf (fun i => [Value.complex .f64 (re i) (im i)]) m) false opn])), (ldF (aLoad Try.prog ([AObj.row (rowOf (fun i => [Value.complex .f64 (re i) (im i)]) m) false opn]) 27 (.pointer (some ⟨0, 0, none⟩))) ([AObj.row (rowOf (fun i => [Value.complex .f64 (re i) (im i)]) m) false opn]) = some (Value.complex .f64 (re 0) (im 0), [AObj.row (rowOf (fun i => [Value.complex .f64 (re i) (im i)]) m) false opn]))]) (L := 3) 1 of0_okX (by kernel_rfl) ⟨bP_of (fun x => x) (show (decide (Int.ofNat 0 < iN n)) = true from decide_eq_true (by (try simp only [decide_eq_true_eq, decide_eq_false_iff_not] at *); (try simp only [iN_eq, Int.ofNat_eq_natCast] at *); omega)), ⟨ixF_ok _ _ (by (try simp only [decide_eq_true_eq, decide_eq_false_iff_not] at *); (try simp only [iN_eq, Int.ofNat_eq_natCast] at *); omega), ⟨ldF_ok (load_one (k := 0) (n := m) (g := fun i => ((fun i => [Value.complex .f64 (re i) (im i)]) i).getD 0 undef) rfl (by kernel_rfl) (by omega) (by (try simp only [decide_eq_true_eq, decide_eq_false_iff_not] at *); (try simp only [iN_eq, Int.ofNat_eq_natCast] at *); omega)), ⟨ixF_ok _ _ (by (try simp only [decide_eq_true_eq, decide_eq_false_iff_not] at *); (try simp only [iN_eq, Int.ofNat_eq_natCast] at *); omega), ⟨ldF_ok (load_one (k := 0) (n := m) (g := fun i => ((fun i => [Value.complex .f64 (re i) (im i)]) i).getD 0 undef) rfl (by kernel_rfl) (by omega) (by (try simp only [decide_eq_true_eq, decide_eq_false_iff_not] at *); (try simp only [iN_eq, Int.ofNat_eq_natCast] at *); omega)), trivial⟩⟩⟩⟩⟩ hst (by kernel_rfl) (by kernel_rfl) (by kernel_rfl) (by decide) (by kernel_rfl) ⟨(by kernel_rfl : List.all _ plain = true), trivial⟩
theorem of1_okX : codeOkX (dL8) [] (loopOf Try.f191 0) = true := by kernel_rfl
theorem of1_p0 (opn : Option Nat) (re : Nat → Nat) (im : Nat → Nat) (m : Nat) (n : Nat) (cap : Nat) (k : Nat) (hk : k < n) (hn : n ≤ 1048576) (hm : n ≤ m) (hst : Stood false ([.row (rowOf (fun i => [.complex .f64 (re i) (im i)]) m) false opn])) : Sim (dL8) 1 (loopOf Try.f191 0) ((ofFr n cap k (.slice (some ⟨1, 0, some 2⟩) k k))) ([.row (rowOf (fun i => [.complex .f64 (re i) (im i)]) m) false opn, .row (rowOf (fun i => [.float .f64 (re i), .float .f64 (im i)]) k) true (some 2)]) .normal (([Value.slice (some ⟨0, 0, some 1⟩) n cap, undef, Value.slice none 0 0, Value.slice (some ⟨1, 0, some 2⟩) (k + 1) (k + 1), Value.int .i64 (iN (k + 1))] ++ List.replicate 21 undef)) ([AObj.row (rowOf (fun i => [Value.complex .f64 (re i) (im i)]) m) false opn, AObj.row (rowOf (fun i => [Value.float .f64 (re i), Value.float .f64 (im i)]) (k + 1)) true (some 2)]) := Sim.of_roundQ (C := dL8) dL8_ok (X := []) (n := 100) (orc := [(8, Item.br true), (16, Item.res (Value.pointer (some { block := 0, off := 0 + k * 1 }))), (18, Item.res (Value.complex .f64 (re k) (im k))), (26, Item.res (Value.pointer (some { block := 0, off := 0 + k * 1 }))), (28, Item.res (Value.complex .f64 (re k) (im k))), (36, Item.eff (Value.slice (some ⟨3, 0, some 2⟩) (k + 1) (k + 1)) [AObj.row (rowOf (fun i => [Value.complex .f64 (re i) (im i)]) m) false opn, AObj.dead, AObj.row [Value.float .f64 (re k), Value.float .f64 (im k)] true none, AObj.row (rowOf (fun i => [Value.float .f64 (re i), Value.float .f64 (im i)]) (k + 1)) true (some 2)]), (42, Item.res (Value.int .i64 (iN (k + 1))))]) (ks := [0, 3]) (mask := ([true, false, true, true, true] ++ List.replicate 21 false)) (ps := [(some (decide (iN k < iN n)) = some true), (ixF (Value.pointer (some { block := 0, off := 0 + k * 1 })) ([AObj.row (rowOf (fun i => [Value.complex .f64 (re i) (im i)]) m) false opn, AObj.row (rowOf (fun i => [Value.float .f64 (re i), Value.float .f64 (im i)]) k) true (some 2)]) (iN k) (n) = some (Value.pointer (some { block := 0, off := 0 + k * 1 }), [AObj.row (rowOf (fun i => [Value.complex .f64 (re i) (im i)]) m) false opn, AObj.row (rowOf (fun i => [Value.float .f64 (re i), Value.float .f64 (im i)]) k) true (some 2)])), (ldF (aLoad Try.prog ([AObj.row (rowOf (fun i => [Value.complex .f64 (re i) (im i)]) m) false opn, AObj.row (rowOf (fun i => [Value.float .f64 (re i), Value.float .f64 (im i)]) k) true (some 2)]) 27 (.pointer (some ⟨0, 0 + k * 1, none⟩))) ([AObj.row (rowOf (fun i => [Value.complex .f64 (re i) (im i)]) m) false opn, AObj.row (rowOf (fun i => [Value.float .f64 (re i), Value.float .f64 (im i)]) k) true (some 2)]) = some (Value.complex .f64 (re k) (im k), [AObj.row (rowOf (fun i => [Value.complex .f64 (re i) (im i)]) m) false opn, AObj.row (rowOf (fun i => [Value.float .f64 (re i), Value.float .f64 (im i)]) k) true (some 2)])), (ixF (Value.pointer (some { block := 0, off := 0 + k * 1 })) ([AObj.row (rowOf (fun i => [Value.complex .f64 (re i) (im i)]) m) false opn, AObj.row (rowOf (fun i => [Value.float .f64 (re i), Value.float .f64 (im i)]) k) true (some 2)]) (iN k) (n) = some (Value.pointer (some { block := 0, off := 0 + k * 1 }), [AObj.row (rowOf (fun i => [Value.complex .f64 (re i) (im i)]) m) false opn, AObj.row (rowOf (fun i => [Value.float .f64 (re i), Value.float .f64 (im i)]) k) true (some 2)])), (ldF (aLoad Try.prog ([AObj.row (rowOf (fun i => [Value.complex .f64 (re i) (im i)]) m) false opn, AObj.row (rowOf (fun i => [Value.float .f64 (re i), Value.float .f64 (im i)]) k) true (some 2)]) 27 (.pointer (some ⟨0, 0 + k * 1, none⟩))) ([AObj.row (rowOf (fun i => [Value.complex .f64 (re i) (im i)]) m) false opn, AObj.row (rowOf (fun i => [Value.float .f64 (re i), Value.float .f64 (im i)]) k) true (some 2)]) = some (Value.complex .f64 (re k) (im k), [AObj.row (rowOf (fun i => [Value.complex .f64 (re i) (im i)]) m) false opn, AObj.row (rowOf (fun i => [Value.float .f64 (re i), Value.float .f64 (im i)]) k) true (some 2)])), (aAppend Try.prog ([AObj.row (rowOf (fun i => [Value.complex .f64 (re i) (im i)]) m) false opn, AObj.row (rowOf (fun i => [Value.float .f64 (re i), Value.float .f64 (im i)]) k) true (some 2), AObj.row [Value.float .f64 (re k), Value.float .f64 (im k)] true none]) [63, 63] [Value.slice (some ⟨1, 0, some 2⟩) k k, Value.slice (some { block := [AObj.row (rowOf (fun i => [Value.complex .f64 (re i) (im i)]) m) false opn, AObj.row (rowOf (fun i => [Value.float .f64 (re i), Value.float .f64 (im i)]) k) true (some 2)].length, off := 0, spot := some 2 }) 1 1] = some (Value.slice (some ⟨3, 0, some 2⟩) (k + 1) (k + 1), [AObj.row (rowOf (fun i => [Value.complex .f64 (re i) (im i)]) m) false opn, AObj.dead, AObj.row [Value.float .f64 (re k), Value.float .f64 (im k)] true none, AObj.row (rowOf (fun i => [Value.float .f64 (re i), Value.float .f64 (im i)]) (k + 1)) true (some 2)])), (wF IntKind.i64 (iN k + 1) ([AObj.row (rowOf (fun i => [Value.complex .f64 (re i) (im i)]) m) false opn, AObj.dead, AObj.row [Value.float .f64 (re k), Value.float .f64 (im k)] true none, AObj.row (rowOf (fun i => [Value.float .f64 (re i), Value.float .f64 (im i)]) (k + 1)) true (some 2)]) = some (.int IntKind.i64 (iN (k + 1)), [AObj.row (rowOf (fun i => [Value.complex .f64 (re i) (im i)]) m) false opn, AObj.dead, AObj.row [Value.float .f64 (re k), Value.float .f64 (im k)] true none, AObj.row (rowOf (fun i => [Value.float .f64 (re i), Value.float .f64 (im i)]) (k + 1)) true (some 2)]))]) (L := 4) 1 of1_okX (by kernel_rfl) ⟨bP_of (fun x => x) (show (decide (iN k < iN n)) = true from decide_eq_true (by (try simp only [decide_eq_true_eq, decide_eq_false_iff_not] at *); (try simp only [iN_eq, Int.ofNat_eq_natCast] at *); omega)), ⟨ixF_ok _ _ (by (try simp only [decide_eq_true_eq, decide_eq_false_iff_not] at *); (try simp only [iN_eq, Int.ofNat_eq_natCast] at *); omega), ⟨ldF_ok (load_one (k := k) (n := m) (g := fun i => ((fun i => [Value.complex .f64 (re i) (im i)]) i).getD 0 undef) rfl (by kernel_rfl) (by omega) (by (try simp only [decide_eq_true_eq, decide_eq_false_iff_not] at *); (try simp only [iN_eq, Int.ofNat_eq_natCast] at *); omega)), ⟨ixF_ok _ _ (by (try simp only [decide_eq_true_eq, decide_eq_false_iff_not] at *); (try simp only [iN_eq, Int.ofNat_eq_natCast] at *); omega), ⟨ldF_ok (load_one (k := k) (n := m) (g := fun i => ((fun i => [Value.complex .f64 (re i) (im i)]) i).getD 0 undef) rfl (by kernel_rfl) (by omega) (by (try simp only [decide_eq_true_eq, decide_eq_false_iff_not] at *); (try simp only [iN_eq, Int.ofNat_eq_natCast] at *); omega)), ⟨append_grow (F := fun i => [Value.float .f64 (re i), Value.float .f64 (im i)]) (by kernel_rfl) rfl (.inl rfl) (by kernel_rfl) rfl (fun _ => rfl) (by kernel_rfl) (by (try simp only [decide_eq_true_eq, decide_eq_false_iff_not] at *); (try simp only [iN_eq, Int.ofNat_eq_natCast] at *); omega) rfl, ⟨wF_ok _ (by (try simp only [decide_eq_true_eq, decide_eq_false_iff_not] at *); (try simp only [iN_eq, Int.ofNat_eq_natCast] at *); omega) (by (try simp only [decide_eq_true_eq, decide_eq_false_iff_not] at *); (try simp only [iN_eq, Int.ofNat_eq_natCast] at *); omega), trivial⟩⟩⟩⟩⟩⟩⟩ hst (by kernel_rfl) (by kernel_rfl) (by kernel_rfl) (by decide) (by kernel_rfl) ⟨rowOf_all (fun _ => rfl) _, trivial⟩
theorem ofE0_okX : codeOkX (dL8) [] (loopOf Try.f191 0) = true := by kernel_rfl
theorem ofE0_p0 (opn : Option Nat) (re : Nat → Nat) (im : Nat → Nat) (m : Nat) (n : Nat) (cap : Nat) (hn : n = 0) (hst : Stood false ([.row (rowOf (fun i => [.complex .f64 (re i) (im i)]) m) false opn])) : Sim (dL8) 1 (loopOf Try.f191 0) ((ofFr n cap 0 (.slice none 0 0))) ([.row (rowOf (fun i => [.complex .f64 (re i) (im i)]) m) false opn]) (.exit 0) (([Value.slice (some ⟨0, 0, some 1⟩) n cap, undef, Value.slice none 0 0, Value.slice none 0 0, Value.int .i64 (Int.ofNat 0)] ++ List.replicate 21 undef)) ([AObj.row (rowOf (fun i => [Value.complex .f64 (re i) (im i)]) m) false opn]) := Sim.of_roundQ (C := dL8) dL8_ok (X := []) (n := 100) (orc := [(8, Item.br false)]) (ks := [0]) (mask := ([true, false, true, true, true] ++ List.replicate 21 false)) (ps := [(some (decide (Int.ofNat 0 < iN n)) = some false)]) (L := 1) 1 ofE0_okX (by kernel_rfl) ⟨bP_of (fun x => x) (show (decide (Int.ofNat 0 < iN n)) = false from decide_eq_false (by (try simp only [decide_eq_true_eq, decide_eq_false_iff_not] at *); (try simp only [iN_eq, Int.ofNat_eq_natCast] at *); omega)), trivial⟩ hst (by kernel_rfl) (by kernel_rfl) (by kernel_rfl) (by decide) (by kernel_rfl) trivial
theorem ofE1_okX : codeOkX (dL8) [] (loopOf Try.f191 0) = true := by kernel_rfl
theorem ofE1_p0 (opn : Option Nat) (re : Nat → Nat) (im : Nat → Nat) (m : Nat) (n : Nat) (cap : Nat) (hst : Stood false ([.row (rowOf (fun i => [.complex .f64 (re i) (im i)]) m) false opn])) : Sim (dL8) 1 (loopOf Try.f191 0) ((ofFr n cap n (.slice (some ⟨1, 0, some 2⟩) n n))) ([.row (rowOf (fun i => [.complex .f64 (re i) (im i)]) m) false opn, .row (rowOf (fun i => [.float .f64 (re i), .float .f64 (im i)]) n) true (some 2)]) (.exit 0) (([Value.slice (some ⟨0, 0, some 1⟩) n cap, undef, Value.slice none 0 0, Value.slice (some ⟨1, 0, some 2⟩) n n, Value.int .i64 (iN n)] ++ List.replicate 21 undef)) ([AObj.row (rowOf (fun i => [Value.complex .f64 (re i) (im i)]) m) false opn, AObj.row (rowOf (fun i => [Value.float .f64 (re i), Value.float .f64 (im i)]) n) true (some 2)]) := Sim.of_roundQ (C := dL8) dL8_ok (X := []) (n := 100) (orc := [(8, Item.br false)]) (ks := [0, 1]) (mask := ([true, false, true, true, true] ++ List.replicate 21 false)) (ps := [(some (decide (iN n < iN n)) = some false)]) (L := 2) 1 ofE1_okX (by kernel_rfl) ⟨bP_of (fun x => x) (show (decide (iN n < iN n)) = false from decide_eq_false (by (try simp only [decide_eq_true_eq, decide_eq_false_iff_not] at *); (try simp only [iN_eq, Int.ofNat_eq_natCast] at *); omega)), trivial⟩ hst (by kernel_rfl) (by kernel_rfl) (by kernel_rfl) (by decide) (by kernel_rfl) ⟨rowOf_all (fun _ => rfl) _, trivial⟩
def ofAcc (k : Nat) : Value := match k with | 0 => .slice none 0 0 | k + 1 => .slice (some ⟨1, 0, some 2⟩) (k + 1) (k + 1)
def ofHp (opn : Option Nat) (re im : Nat → Nat) (m k : Nat) : AHeap :=
  match k with
  | 0 => [.row (rowOf (fun i => [.complex .f64 (re i) (im i)]) m) false opn]
  | k + 1 => [.row (rowOf (fun i => [.complex .f64 (re i) (im i)]) m) false opn, .row (rowOf (fun i => [.float .f64 (re i), .float .f64 (im i)]) (k + 1)) true (some 2)]
theorem of_loop (opn : Option Nat) (re im : Nat → Nat) (m n cap : Nat) (hn : n ≤ 1048576) (hm : n ≤ m) (hst : Stood false [.row (rowOf (fun i => [.complex .f64 (re i) (im i)]) m) false opn]) :
    Sim dL8 1 (.loop (loopOf Try.f191 0)) (ofFr n cap 0 (.slice none 0 0)) [.row (rowOf (fun i => [.complex .f64 (re i) (im i)]) m) false opn] (.exit 0) (ofFr n cap n (ofAcc n)) (ofHp opn re im m n) := by
  refine Sim.loop (fun k => (ofFr n cap k (ofAcc k), ofHp opn re im m k)) n (fun k hk => ?_) ?_ rfl
  · cases k with
    | zero => exact (of0_p0 opn re im m n cap hk hn hm hst).cast (by kernel_rfl) (by kernel_rfl) (by kernel_rfl) (by kernel_rfl)
    | succ k => exact (of1_p0 opn re im m n cap (k + 1) hk hn hm hst).cast (by kernel_rfl) (by kernel_rfl) (by kernel_rfl) (by kernel_rfl)
  · cases n with
    | zero => exact (ofE0_p0 opn re im m 0 cap rfl hst).cast (by kernel_rfl) (by kernel_rfl) (by kernel_rfl) (by kernel_rfl)
    | succ n => exact (ofE1_p0 opn re im m (n + 1) cap hst).cast (by kernel_rfl) (by kernel_rfl) (by kernel_rfl) (by kernel_rfl)
theorem gOf_fok : fnOkX (dL8) [] Try.f191 = true := by kernel_rfl
theorem gOf_p0 (opn : Option Nat) (re : Nat → Nat) (im : Nat → Nat) (m : Nat) (n : Nat) (cap : Nat) (l0 : Stood false ([AObj.row (rowOf (fun i => [Value.complex .f64 (re i) (im i)]) m) false opn]) → Sim (dL8) 1 (.loop (loopOf Try.f191 0)) (([Value.slice (some ⟨0, 0, some 1⟩) n cap, undef, Value.slice none 0 0, Value.slice none 0 0, Value.int .i64 (Int.ofNat 0)] ++ List.replicate 21 undef)) ([AObj.row (rowOf (fun i => [Value.complex .f64 (re i) (im i)]) m) false opn]) (Exit.exit 0) (([Value.slice (some ⟨0, 0, some 1⟩) n cap, undef, Value.slice none 0 0, Value.slice (some ⟨1, 0, some 2⟩) n n, Value.int .i64 (iN n)] ++ List.replicate 21 undef)) ([AObj.row (rowOf (fun i => [Value.complex .f64 (re i) (im i)]) m) false opn, AObj.row (rowOf (fun i => [Value.float .f64 (re i), Value.float .f64 (im i)]) n) true (some 2)])) : CallR Try.prog false 191 ([Value.slice (some ⟨0, 0, some 1⟩) n cap]) ([AObj.row (rowOf (fun i => [Value.complex .f64 (re i) (im i)]) m) false opn]) (Value.slice (some ⟨1, 0, some 2⟩) n n) ([AObj.row (rowOf (fun i => [Value.complex .f64 (re i) (im i)]) m) false opn, AObj.row (rowOf (fun i => [Value.float .f64 (re i), Value.float .f64 (im i)]) n) true (some 2)]) := CallR.of_DOXs (C := dL8) dL8_ok (X := []) Try.func191 gOf_fok (n := 100) (orc := [(6, Item.loop (Exit.exit 0) (ofFr n cap n (Value.slice (some ⟨1, 0, some 2⟩) n n)) [AObj.row (rowOf (fun i => [Value.complex .f64 (re i) (im i)]) m) false opn, AObj.row (rowOf (fun i => [Value.float .f64 (re i), Value.float .f64 (im i)]) n) true (some 2)])]) (ps := [(Sim (dL8) 1 (.loop (loopOf Try.f191 0)) (([Value.slice (some ⟨0, 0, some 1⟩) n cap, undef, Value.slice none 0 0, Value.slice none 0 0, Value.int .i64 (Int.ofNat 0)] ++ List.replicate 21 undef)) ([AObj.row (rowOf (fun i => [Value.complex .f64 (re i) (im i)]) m) false opn]) (Exit.exit 0) (([Value.slice (some ⟨0, 0, some 1⟩) n cap, undef, Value.slice none 0 0, Value.slice (some ⟨1, 0, some 2⟩) n n, Value.int .i64 (iN n)] ++ List.replicate 21 undef)) ([AObj.row (rowOf (fun i => [Value.complex .f64 (re i) (im i)]) m) false opn, AObj.row (rowOf (fun i => [Value.float .f64 (re i), Value.float .f64 (im i)]) n) true (some 2)])), (List.length (α := AObj) ([AObj.row (rowOf (fun i => [Value.complex .f64 (re i) (im i)]) m) false opn]) ≤ List.length ([AObj.row (rowOf (fun i => [Value.complex .f64 (re i) (im i)]) m) false opn, AObj.row (rowOf (fun i => [Value.float .f64 (re i), Value.float .f64 (im i)]) n) true (some 2)])), (Lk.Exit.isG (Exit.exit 0) = false)]) (by kernel_rfl) (fun hst => ⟨l0 hst, Nat.le_of_ble_eq_true (by kernel_rfl), rfl, trivial⟩)
end Go.Lk
end

section
/- Of's contract; SameList. -/
namespace Go.Lk
open Go.Proofs
set_option maxRecDepth 100000
set_option maxHeartbeats 0
set_option linter.unusedVariables false
set_option linter.unusedSimpArgs false
theorem gOfN_fok : fnOkX (dL8) [] Try.f191 = true := by kernel_rfl
theorem gOfN_p0 : CallR Try.prog false 191 ([Value.slice none 0 0]) ([]) (Value.slice none 0 0) ([]) := CallR.of_DOXs (C := dL8) dL8_ok (X := []) Try.func191 gOfN_fok (n := 100) (orc := []) (ps := []) (by kernel_rfl) (fun hst => trivial)
theorem gOfE_fok : fnOkX (dL8) [] Try.f191 = true := by kernel_rfl
theorem gOfE_p0 (opn : Option Nat) (re : Nat → Nat) (im : Nat → Nat) (m : Nat) (cap : Nat) : CallR Try.prog false 191 ([Value.slice (some ⟨0, 0, some 1⟩) 0 cap]) ([AObj.row (rowOf (fun i => [Value.complex .f64 (re i) (im i)]) m) false opn]) (Value.slice none 0 0) ([AObj.row (rowOf (fun i => [Value.complex .f64 (re i) (im i)]) m) false opn]) := CallR.of_DOXs (C := dL8) dL8_ok (X := []) Try.func191 gOfE_fok (n := 100) (orc := []) (ps := []) (by kernel_rfl) (fun hst => trivial)
theorem rowOf_gt {f : Nat → List Value} {s : Nat} (hf : ∀ i, (f i).length = s) {k n j : Nat} (hk : k < n) (hj : j < s) : (rowOf f n)[k * s + j]? = (f k)[j]? := by
  have h := rowOf_at hf hk
  have h2 := congrArg (fun l => l[j]?) h
  simp only [List.getElem?_take, List.getElem?_drop, hj, if_true] at h2
  exact h2
def isCx : Value → Bool | .complex .f64 _ _ => true | _ => false
def cre (vs : List Value) (i : Nat) : Nat := match vs[i]? with | some (.complex .f64 a _) => a | _ => 0
def cim (vs : List Value) (i : Nat) : Nat := match vs[i]? with | some (.complex .f64 _ a) => a | _ => 0
theorem isCx_eq {v : Value} (h : isCx v = true) : ∃ a b, v = .complex .f64 a b := by
  unfold isCx at h
  split at h
  · exact ⟨_, _, rfl⟩
  · cases h
theorem cx_row {vs : List Value} (h : vs.all isCx = true) : rowOf (fun i => [.complex .f64 (cre vs i) (cim vs i)]) vs.length = vs := by
  have hl := rowOf_len (f := fun i => [Value.complex .f64 (cre vs i) (cim vs i)]) (s := 1) (fun _ => rfl) vs.length
  apply List.ext_getElem?
  intro j
  rcases Nat.lt_or_ge j vs.length with hj | hj
  · have h3 := rowOf_gt (f := fun i => [Value.complex .f64 (cre vs i) (cim vs i)]) (s := 1) (fun _ => rfl) (k := j) (n := vs.length) (j := 0) hj (by omega)
    rw [show j * 1 + 0 = j by omega] at h3
    rw [h3]
    have hm : vs[j]? = some vs[j] := List.getElem?_eq_getElem hj
    obtain ⟨a, b, e⟩ := isCx_eq (List.all_eq_true.1 h vs[j] (List.getElem_mem hj))
    rw [e] at hm
    simp only [List.getElem?_cons_zero, cre, cim, hm]
  · rw [List.getElem?_eq_none hj, List.getElem?_eq_none (by rw [hl]; omega)]
theorem plain_cx {vs : List Value} (h : vs.all isCx = true) : vs.all plain = true := by
  rw [List.all_eq_true] at h ⊢
  intro v hv
  obtain ⟨a, b, rfl⟩ := isCx_eq (h v hv)
  rfl
theorem cx_all (re im : Nat → Nat) (m : Nat) : (rowOf (fun i => [Value.complex .f64 (re i) (im i)]) m).all isCx = true := rowOf_all (fun _ => rfl) m
theorem cre_row (re im : Nat → Nat) {m i : Nat} (hi : i < m) : (rowOf (fun i => [Value.complex .f64 (re i) (im i)]) m)[i]? = some (.complex .f64 (re i) (im i)) := by
  have h3 := rowOf_gt (f := fun i => [Value.complex .f64 (re i) (im i)]) (s := 1) (fun _ => rfl) (k := i) (n := m) (j := 0) hi (by omega)
  rw [show i * 1 + 0 = i by omega] at h3
  rw [h3]; rfl
def pairsOf (vs : List Value) (n : Nat) : List Value := rowOf (fun i => [.float .f64 (cre vs i), .float .f64 (cim vs i)]) n
def sOf : HeapFn
  | [.slice none 0 0], σ => some (.slice none 0 0, σ)
  | [.slice (some ⟨b, 0, some 1⟩) n _], σ =>
    match σ[b]? with
    | some (.row vs _ _) =>
      bif vs.all isCx && (Nat.ble n vs.length && Nat.ble n 1048576) then
        (match n with
        | 0 => some (.slice none 0 0, σ)
        | n + 1 => some (.slice (some ⟨σ.length, 0, some 2⟩) (n + 1) (n + 1), σ ++ [.row (pairsOf vs (n + 1)) true (some 2)]))
      else none
    | _ => none
  | _, _ => none
theorem of_grow (opn : Option Nat) (re im : Nat → Nat) (m n cap : Nat) (hn : n + 1 ≤ 1048576) (hm : n + 1 ≤ m) : CallR Try.prog false 191 [.slice (some ⟨0, 0, some 1⟩) (n + 1) cap] [.row (rowOf (fun i => [.complex .f64 (re i) (im i)]) m) false opn] (.slice (some ⟨1, 0, some 2⟩) (n + 1) (n + 1)) [.row (rowOf (fun i => [.complex .f64 (re i) (im i)]) m) false opn, .row (rowOf (fun i => [.float .f64 (re i), .float .f64 (im i)]) (n + 1)) true (some 2)] :=
  gOf_p0 opn re im m (n + 1) cap (fun hst => of_loop opn re im m (n + 1) cap hn hm hst)
theorem sOf_ok : IsHeap Try.prog false 191 false sOf := by
  refine ⟨fun args σ v σ' h => ?_, (by intro h; cases h), fun args σ v σ' h => ?_⟩
  · unfold sOf at h
    split at h
    · cases h
      exact CallR.frameQ (r := fun k => k + σ.length) (args0 := [.slice none 0 0]) (σ0 := []) ⟨fun k o hk => by simp at hk, fun k hk => by omega⟩ rfl gOfN_p0 rfl
    · rename_i b n cap
      split at h
      · rename_i vs rw' opn hb
        cases hc : (vs.all isCx && (Nat.ble n vs.length && Nat.ble n 1048576))
        · rw [hc] at h; cases h
        · rw [hc] at h
          simp only [cond_true] at h
          simp only [Bool.and_eq_true] at hc
          obtain ⟨c1, c2, c3⟩ := hc
          have c2 := Nat.le_of_ble_eq_true c2
          have c3 := Nat.le_of_ble_eq_true c3
          have hrd : Reads [.row vs false opn] (fun k => if k = 0 then b else k + σ.length) σ := by
            refine ⟨fun k o hk => ?_, fun k hk => ?_⟩
            · have : k = 0 := by have := lt_of_some hk; simpa using this
              subst this
              simp only [List.getElem?_cons_zero, Option.some.injEq] at hk
              exact ⟨vs, opn, rw', hk.symm, hb, plain_cx c1⟩
            · have hk : 1 ≤ k := hk
              have : ¬ k = 0 := by omega
              simp only [this, if_false]; omega
          cases n with
          | zero =>
            simp only [Option.some.injEq, Prod.mk.injEq] at h
            obtain ⟨rfl, rfl⟩ := h
            have hs := gOfE_p0 opn (cre vs) (cim vs) vs.length cap
            rw [cx_row c1] at hs
            exact CallR.frameQ hrd rfl hs rfl
          | succ n =>
            simp only [Option.some.injEq, Prod.mk.injEq] at h
            obtain ⟨rfl, rfl⟩ := h
            have hs := of_grow opn (cre vs) (cim vs) vs.length n cap c3 c2
            rw [cx_row c1] at hs
            exact CallR.frameN (q := fun k => if k = σ.length then 1 else k + 2) hrd rfl hs (k := 1) rfl (rowOf_all (fun _ => rfl) _) (fun _ => rfl) (by simp [renV])
      · cases h
    · cases h
  · unfold sOf at h
    split at h
    · cases h; exact Nat.le_refl _
    · split at h
      · rename_i n _ _ vs _ _ _
        generalize (vs.all isCx && _) = c at h
        cases c
        · cases h
        · cases n <;> simp only [cond_true, Option.some.injEq, Prod.mk.injEq] at h <;> obtain ⟨rfl, rfl⟩ := h <;> simp
      · cases h
    · cases h
theorem sOf_row {re im : Nat → Nat} {b n m cap : Nat} {rw' : Bool} {opn : Option Nat} {σ : AHeap} (hσ : σ[b]? = some (.row (rowOf (fun i => [.complex .f64 (re i) (im i)]) m) rw' opn)) (h0 : 0 < n) (hm : n ≤ m) (hn : n ≤ 1048576) :
    sOf [.slice (some ⟨b, 0, some 1⟩) n cap] σ = some (.slice (some ⟨σ.length, 0, some 2⟩) n n, σ ++ [.row (rowOf (fun i => [.float .f64 (re i), .float .f64 (im i)]) n) true (some 2)]) := by
  cases n with
  | zero => omega
  | succ n =>
    unfold sOf
    have hl := rowOf_len (f := fun i => [Value.complex .f64 (re i) (im i)]) (s := 1) (fun _ => rfl) m
    have h1 : Nat.ble (n + 1) (rowOf (fun i => [Value.complex .f64 (re i) (im i)]) m).length = true := Nat.ble_eq_true_of_le (by omega)
    have h2 : Nat.ble (n + 1) 1048576 = true := Nat.ble_eq_true_of_le hn
    simp only [hσ, cx_all, h1, h2, Bool.and_self, cond_true, pairsOf]
    rw [rowOf_congr (g := fun i => [.float .f64 (re i), .float .f64 (im i)])]
    intro i hi
    simp only [cre, cim, cre_row re im (show i < m by omega)]
noncomputable def t9o : Tab := (t8.addH 191 false sOf)
theorem t9o_ok : t9o.Ok Try.prog false := (Tab.Ok.addH t8_ok sOf_ok)
end Go.Lk
end

section
/- SameList. -/
namespace Go.Lk
open Go.Proofs
set_option maxRecDepth 100000
set_option maxHeartbeats 0
set_option linter.unusedVariables false
set_option linter.unusedSimpArgs false
def slFr (n cap cap2 k : Nat) : List Value :=
  [.slice (some ⟨0, 0, some 2⟩) n cap, .slice (some ⟨1, 0, some 2⟩) n cap2, undef, undef, .bool false, .int .i64 (iN k)] ++ List.replicate 23 undef
def slHp (o1 o2 : Option Nat) (a b c d : Nat → Nat) (m m2 : Nat) : AHeap := [.row (rowOf (fun i => [.float .f64 (a i), .float .f64 (b i)]) m) false o1, .row (rowOf (fun i => [.float .f64 (c i), .float .f64 (d i)]) m2) false o2]
theorem sl_okX : codeOkX (dL8) [] (loopOf Try.f190 0) = true := by kernel_rfl
theorem sl_p0 (o1 : Option Nat) (o2 : Option Nat) (a : Nat → Nat) (b : Nat → Nat) (c : Nat → Nat) (d : Nat → Nat) (m : Nat) (m2 : Nat) (n : Nat) (cap : Nat) (cap2 : Nat) (k : Nat) (hk : k < n) (hn : n ≤ 1048576) (hm : n ≤ m) (hm2 : n ≤ m2) (hs : gSame_0 (a k) (b k) (c k) (d k) = true) (hst : Stood false ([.row (rowOf (fun i => [.float .f64 (a i), .float .f64 (b i)]) m) false o1, .row (rowOf (fun i => [.float .f64 (c i), .float .f64 (d i)]) m2) false o2])) : Sim (dL8) 2 (loopOf Try.f190 0) ((slFr n cap cap2 k)) ([.row (rowOf (fun i => [.float .f64 (a i), .float .f64 (b i)]) m) false o1, .row (rowOf (fun i => [.float .f64 (c i), .float .f64 (d i)]) m2) false o2]) .normal (([Value.slice (some ⟨0, 0, some 2⟩) n cap, Value.slice (some ⟨1, 0, some 2⟩) n cap2, undef, undef, Value.bool false, Value.int .i64 (iN (k + 1))] ++ List.replicate 23 undef)) ([AObj.row (rowOf (fun i => [Value.float .f64 (a i), Value.float .f64 (b i)]) m) false o1, AObj.row (rowOf (fun i => [Value.float .f64 (c i), Value.float .f64 (d i)]) m2) false o2]) := Sim.of_roundQ (C := dL8) dL8_ok (X := []) (n := 100) (orc := [(8, Item.br true), (14, Item.res (Value.pointer (some { block := 0, off := 0 + k * 2 }))), (16, Item.res (Value.agg { toList := [Value.float .f64 (a k), Value.float .f64 (b k)] })), (22, Item.res (Value.pointer (some { block := 1, off := 0 + k * 2 }))), (24, Item.res (Value.agg { toList := [Value.float .f64 (c k), Value.float .f64 (d k)] })), (33, Item.br false), (37, Item.res (Value.int .i64 (iN (k + 1))))]) (ks := [0, 1]) (mask := ([true, true, false, false, true, true] ++ List.replicate 23 false)) (ps := [(some (decide (iN k < iN n)) = some true), (ixF (Value.pointer (some { block := 0, off := 0 + k * 2 })) ([AObj.row (rowOf (fun i => [Value.float .f64 (a i), Value.float .f64 (b i)]) m) false o1, AObj.row (rowOf (fun i => [Value.float .f64 (c i), Value.float .f64 (d i)]) m2) false o2]) (iN k) (n) = some (Value.pointer (some { block := 0, off := 0 + k * 2 }), [AObj.row (rowOf (fun i => [Value.float .f64 (a i), Value.float .f64 (b i)]) m) false o1, AObj.row (rowOf (fun i => [Value.float .f64 (c i), Value.float .f64 (d i)]) m2) false o2])), (ldF (aLoad Try.prog ([AObj.row (rowOf (fun i => [Value.float .f64 (a i), Value.float .f64 (b i)]) m) false o1, AObj.row (rowOf (fun i => [Value.float .f64 (c i), Value.float .f64 (d i)]) m2) false o2]) 35 (.pointer (some ⟨0, 0 + k * 2, none⟩))) ([AObj.row (rowOf (fun i => [Value.float .f64 (a i), Value.float .f64 (b i)]) m) false o1, AObj.row (rowOf (fun i => [Value.float .f64 (c i), Value.float .f64 (d i)]) m2) false o2]) = some (Value.agg { toList := [Value.float .f64 (a k), Value.float .f64 (b k)] }, [AObj.row (rowOf (fun i => [Value.float .f64 (a i), Value.float .f64 (b i)]) m) false o1, AObj.row (rowOf (fun i => [Value.float .f64 (c i), Value.float .f64 (d i)]) m2) false o2])), (ixF (Value.pointer (some { block := 1, off := 0 + k * 2 })) ([AObj.row (rowOf (fun i => [Value.float .f64 (a i), Value.float .f64 (b i)]) m) false o1, AObj.row (rowOf (fun i => [Value.float .f64 (c i), Value.float .f64 (d i)]) m2) false o2]) (iN k) (n) = some (Value.pointer (some { block := 1, off := 0 + k * 2 }), [AObj.row (rowOf (fun i => [Value.float .f64 (a i), Value.float .f64 (b i)]) m) false o1, AObj.row (rowOf (fun i => [Value.float .f64 (c i), Value.float .f64 (d i)]) m2) false o2])), (ldF (aLoad Try.prog ([AObj.row (rowOf (fun i => [Value.float .f64 (a i), Value.float .f64 (b i)]) m) false o1, AObj.row (rowOf (fun i => [Value.float .f64 (c i), Value.float .f64 (d i)]) m2) false o2]) 35 (.pointer (some ⟨1, 0 + k * 2, none⟩))) ([AObj.row (rowOf (fun i => [Value.float .f64 (a i), Value.float .f64 (b i)]) m) false o1, AObj.row (rowOf (fun i => [Value.float .f64 (c i), Value.float .f64 (d i)]) m2) false o2]) = some (Value.agg { toList := [Value.float .f64 (c k), Value.float .f64 (d k)] }, [AObj.row (rowOf (fun i => [Value.float .f64 (a i), Value.float .f64 (b i)]) m) false o1, AObj.row (rowOf (fun i => [Value.float .f64 (c i), Value.float .f64 (d i)]) m2) false o2])), (bP (!gSame_0 (a k) (b k) (c k) (d k)) false), (wF IntKind.i64 (iN k + 1) ([AObj.row (rowOf (fun i => [Value.float .f64 (a i), Value.float .f64 (b i)]) m) false o1, AObj.row (rowOf (fun i => [Value.float .f64 (c i), Value.float .f64 (d i)]) m2) false o2]) = some (.int IntKind.i64 (iN (k + 1)), [AObj.row (rowOf (fun i => [Value.float .f64 (a i), Value.float .f64 (b i)]) m) false o1, AObj.row (rowOf (fun i => [Value.float .f64 (c i), Value.float .f64 (d i)]) m2) false o2]))]) (L := 2) 2 sl_okX (by kernel_rfl) ⟨bP_of (fun x => x) (show (decide (iN k < iN n)) = true from decide_eq_true (by (try simp only [decide_eq_true_eq, decide_eq_false_iff_not] at *); (try simp only [iN_eq, Int.ofNat_eq_natCast] at *); omega)), ⟨ixF_ok _ _ (by (try simp only [decide_eq_true_eq, decide_eq_false_iff_not] at *); (try simp only [iN_eq, Int.ofNat_eq_natCast] at *); omega), ⟨ldF_ok (load_agg (s := 2) (k := k) (n := m) (f := fun i => [Value.float .f64 (a i), Value.float .f64 (b i)]) rfl (by kernel_rfl) (by kernel_rfl) (fun _ => rfl) (by omega) (by (try simp only [decide_eq_true_eq, decide_eq_false_iff_not] at *); (try simp only [iN_eq, Int.ofNat_eq_natCast] at *); omega)), ⟨ixF_ok _ _ (by (try simp only [decide_eq_true_eq, decide_eq_false_iff_not] at *); (try simp only [iN_eq, Int.ofNat_eq_natCast] at *); omega), ⟨ldF_ok (load_agg (s := 2) (k := k) (n := m2) (f := fun i => [Value.float .f64 (c i), Value.float .f64 (d i)]) rfl (by kernel_rfl) (by kernel_rfl) (fun _ => rfl) (by omega) (by (try simp only [decide_eq_true_eq, decide_eq_false_iff_not] at *); (try simp only [iN_eq, Int.ofNat_eq_natCast] at *); omega)), ⟨bP_of (fun x => !x) hs, ⟨wF_ok _ (by (try simp only [decide_eq_true_eq, decide_eq_false_iff_not] at *); (try simp only [iN_eq, Int.ofNat_eq_natCast] at *); omega) (by (try simp only [decide_eq_true_eq, decide_eq_false_iff_not] at *); (try simp only [iN_eq, Int.ofNat_eq_natCast] at *); omega), trivial⟩⟩⟩⟩⟩⟩⟩ hst (by kernel_rfl) (by kernel_rfl) (by kernel_rfl) (by decide) (by kernel_rfl) trivial
theorem slE_okX : codeOkX (dL8) [] (loopOf Try.f190 0) = true := by kernel_rfl
theorem slE_p0 (o1 : Option Nat) (o2 : Option Nat) (a : Nat → Nat) (b : Nat → Nat) (c : Nat → Nat) (d : Nat → Nat) (m : Nat) (m2 : Nat) (n : Nat) (cap : Nat) (cap2 : Nat) (hst : Stood false ([.row (rowOf (fun i => [.float .f64 (a i), .float .f64 (b i)]) m) false o1, .row (rowOf (fun i => [.float .f64 (c i), .float .f64 (d i)]) m2) false o2])) : Sim (dL8) 2 (loopOf Try.f190 0) ((slFr n cap cap2 n)) ([.row (rowOf (fun i => [.float .f64 (a i), .float .f64 (b i)]) m) false o1, .row (rowOf (fun i => [.float .f64 (c i), .float .f64 (d i)]) m2) false o2]) (.exit 0) (([Value.slice (some ⟨0, 0, some 2⟩) n cap, Value.slice (some ⟨1, 0, some 2⟩) n cap2, undef, undef, Value.bool false, Value.int .i64 (iN n)] ++ List.replicate 23 undef)) ([AObj.row (rowOf (fun i => [Value.float .f64 (a i), Value.float .f64 (b i)]) m) false o1, AObj.row (rowOf (fun i => [Value.float .f64 (c i), Value.float .f64 (d i)]) m2) false o2]) := Sim.of_roundQ (C := dL8) dL8_ok (X := []) (n := 100) (orc := [(8, Item.br false)]) (ks := [0, 1]) (mask := ([true, true, false, false, true, true] ++ List.replicate 23 false)) (ps := [(some (decide (iN n < iN n)) = some false)]) (L := 2) 2 slE_okX (by kernel_rfl) ⟨bP_of (fun x => x) (show (decide (iN n < iN n)) = false from decide_eq_false (by (try simp only [decide_eq_true_eq, decide_eq_false_iff_not] at *); (try simp only [iN_eq, Int.ofNat_eq_natCast] at *); omega)), trivial⟩ hst (by kernel_rfl) (by kernel_rfl) (by kernel_rfl) (by decide) (by kernel_rfl) trivial
theorem sl_loop (o1 o2 : Option Nat) (a b c d : Nat → Nat) (m m2 n cap cap2 : Nat) (hn : n ≤ 1048576) (hm : n ≤ m) (hm2 : n ≤ m2) (hs : ∀ i, i < n → gSame_0 (a i) (b i) (c i) (d i) = true) (hst : Stood false [.row (rowOf (fun i => [.float .f64 (a i), .float .f64 (b i)]) m) false o1, .row (rowOf (fun i => [.float .f64 (c i), .float .f64 (d i)]) m2) false o2]) :
    Sim dL8 2 (.loop (loopOf Try.f190 0)) (slFr n cap cap2 0) (slHp o1 o2 a b c d m m2) (.exit 0) (slFr n cap cap2 n) (slHp o1 o2 a b c d m m2) := by
  refine Sim.loop (fun k => (slFr n cap cap2 k, slHp o1 o2 a b c d m m2)) n (fun k hk => ?_) ?_ rfl
  · exact (sl_p0 o1 o2 a b c d m m2 n cap cap2 k hk hn hm hm2 (hs k hk) hst).cast (by kernel_rfl) (by kernel_rfl) (by kernel_rfl) (by kernel_rfl)
  · exact (slE_p0 o1 o2 a b c d m m2 n cap cap2 hst).cast (by kernel_rfl) (by kernel_rfl) (by kernel_rfl) (by kernel_rfl)
theorem gSL_fok : fnOkX (dL8) [] Try.f190 = true := by kernel_rfl
theorem gSL_p0 (o1 : Option Nat) (o2 : Option Nat) (a : Nat → Nat) (b : Nat → Nat) (c : Nat → Nat) (d : Nat → Nat) (m : Nat) (m2 : Nat) (n : Nat) (cap : Nat) (cap2 : Nat) (hn : (iN n != iN n) = false) (l0 : Stood false ([AObj.row (rowOf (fun i => [Value.float .f64 (a i), Value.float .f64 (b i)]) m) false o1, AObj.row (rowOf (fun i => [Value.float .f64 (c i), Value.float .f64 (d i)]) m2) false o2]) → Sim (dL8) 2 (.loop (loopOf Try.f190 0)) (([Value.slice (some ⟨0, 0, some 2⟩) n cap, Value.slice (some ⟨1, 0, some 2⟩) n cap2, undef, undef, Value.bool false, Value.int .i64 (Int.ofNat 0), undef, Value.slice (some ⟨0, 0, some 2⟩) n cap, Value.int .i64 (iN n), Value.slice (some ⟨1, 0, some 2⟩) n cap2, Value.int .i64 (iN n), Value.bool (iN n != iN n)] ++ List.replicate 17 undef)) ([AObj.row (rowOf (fun i => [Value.float .f64 (a i), Value.float .f64 (b i)]) m) false o1, AObj.row (rowOf (fun i => [Value.float .f64 (c i), Value.float .f64 (d i)]) m2) false o2]) (Exit.exit 0) (([Value.slice (some ⟨0, 0, some 2⟩) n cap, Value.slice (some ⟨1, 0, some 2⟩) n cap2, undef, undef, Value.bool false, Value.int .i64 (iN n)] ++ List.replicate 23 undef)) ([AObj.row (rowOf (fun i => [Value.float .f64 (a i), Value.float .f64 (b i)]) m) false o1, AObj.row (rowOf (fun i => [Value.float .f64 (c i), Value.float .f64 (d i)]) m2) false o2])) : CallR Try.prog false 190 ([Value.slice (some ⟨0, 0, some 2⟩) n cap, Value.slice (some ⟨1, 0, some 2⟩) n cap2]) ([AObj.row (rowOf (fun i => [Value.float .f64 (a i), Value.float .f64 (b i)]) m) false o1, AObj.row (rowOf (fun i => [Value.float .f64 (c i), Value.float .f64 (d i)]) m2) false o2]) (Value.bool true) ([AObj.row (rowOf (fun i => [Value.float .f64 (a i), Value.float .f64 (b i)]) m) false o1, AObj.row (rowOf (fun i => [Value.float .f64 (c i), Value.float .f64 (d i)]) m2) false o2]) := CallR.of_DOXs (C := dL8) dL8_ok (X := []) Try.func190 gSL_fok (n := 100) (orc := [(12, Item.br false), (15, Item.loop (Exit.exit 0) (slFr n cap cap2 n) [AObj.row (rowOf (fun i => [Value.float .f64 (a i), Value.float .f64 (b i)]) m) false o1, AObj.row (rowOf (fun i => [Value.float .f64 (c i), Value.float .f64 (d i)]) m2) false o2])]) (ps := [(bP (iN n != iN n) false), (Sim (dL8) 2 (.loop (loopOf Try.f190 0)) (([Value.slice (some ⟨0, 0, some 2⟩) n cap, Value.slice (some ⟨1, 0, some 2⟩) n cap2, undef, undef, Value.bool false, Value.int .i64 (Int.ofNat 0), undef, Value.slice (some ⟨0, 0, some 2⟩) n cap, Value.int .i64 (iN n), Value.slice (some ⟨1, 0, some 2⟩) n cap2, Value.int .i64 (iN n), Value.bool (iN n != iN n)] ++ List.replicate 17 undef)) ([AObj.row (rowOf (fun i => [Value.float .f64 (a i), Value.float .f64 (b i)]) m) false o1, AObj.row (rowOf (fun i => [Value.float .f64 (c i), Value.float .f64 (d i)]) m2) false o2]) (Exit.exit 0) (([Value.slice (some ⟨0, 0, some 2⟩) n cap, Value.slice (some ⟨1, 0, some 2⟩) n cap2, undef, undef, Value.bool false, Value.int .i64 (iN n)] ++ List.replicate 23 undef)) ([AObj.row (rowOf (fun i => [Value.float .f64 (a i), Value.float .f64 (b i)]) m) false o1, AObj.row (rowOf (fun i => [Value.float .f64 (c i), Value.float .f64 (d i)]) m2) false o2])), (List.length (α := AObj) ([AObj.row (rowOf (fun i => [Value.float .f64 (a i), Value.float .f64 (b i)]) m) false o1, AObj.row (rowOf (fun i => [Value.float .f64 (c i), Value.float .f64 (d i)]) m2) false o2]) ≤ List.length ([AObj.row (rowOf (fun i => [Value.float .f64 (a i), Value.float .f64 (b i)]) m) false o1, AObj.row (rowOf (fun i => [Value.float .f64 (c i), Value.float .f64 (d i)]) m2) false o2])), (Lk.Exit.isG (Exit.exit 0) = false)]) (by kernel_rfl) (fun hst => ⟨bP_of (fun x => x) hn, ⟨l0 hst, Nat.le_of_ble_eq_true (by kernel_rfl), rfl, trivial⟩⟩)
theorem gSLN_fok : fnOkX (dL8) [] Try.f190 = true := by kernel_rfl
theorem gSLN_p0 : CallR Try.prog false 190 ([Value.slice none 0 0, Value.slice none 0 0]) ([]) (Value.bool true) ([]) := CallR.of_DOXs (C := dL8) dL8_ok (X := []) Try.func190 gSLN_fok (n := 100) (orc := []) (ps := []) (by kernel_rfl) (fun hst => trivial)
def isFq : Value → Bool | .float .f64 _ => true | _ => false
def fq (vs : List Value) (j : Nat) : Nat := match vs[j]? with | some (.float .f64 a) => a | _ => 0
def allFq (vs : List Value) : Bool := vs.all isFq && vs.length % 2 == 0
theorem isFq_eq {v : Value} (h : isFq v = true) : ∃ a, v = .float .f64 a := by
  unfold isFq at h
  split at h
  · exact ⟨_, rfl⟩
  · cases h
theorem fq_row {vs : List Value} (h : allFq vs = true) : rowOf (fun i => [.float .f64 (fq vs (2 * i)), .float .f64 (fq vs (2 * i + 1))]) (vs.length / 2) = vs := by
  unfold allFq at h
  rw [Bool.and_eq_true] at h
  obtain ⟨h1, h2⟩ := h
  have h2 : vs.length % 2 = 0 := by simpa using h2
  have hl := rowOf_len (f := fun i => [Value.float .f64 (fq vs (2 * i)), Value.float .f64 (fq vs (2 * i + 1))]) (s := 2) (fun _ => rfl) (vs.length / 2)
  have hg : ∀ j, j < vs.length → vs[j]? = some (.float .f64 (fq vs j)) := by
    intro j hj
    have hm : vs[j]? = some vs[j] := List.getElem?_eq_getElem hj
    obtain ⟨a, e⟩ := isFq_eq (List.all_eq_true.1 h1 vs[j] (List.getElem_mem hj))
    rw [e] at hm
    unfold fq
    rw [hm]
  apply List.ext_getElem?
  intro j
  rcases Nat.lt_or_ge j vs.length with hj | hj
  · have h3 := rowOf_gt (f := fun i => [Value.float .f64 (fq vs (2 * i)), Value.float .f64 (fq vs (2 * i + 1))]) (s := 2) (fun _ => rfl) (k := j / 2) (n := vs.length / 2) (j := j % 2) (by omega) (by omega)
    rw [show j / 2 * 2 + j % 2 = j by omega] at h3
    rw [h3, hg j hj]
    rcases Nat.mod_two_eq_zero_or_one j with h0 | h0
    · rw [h0]
      simp only [List.getElem?_cons_zero]
      rw [show 2 * (j / 2) = j by omega]
    · rw [h0]
      simp only [List.getElem?_cons_succ, List.getElem?_cons_zero]
      rw [show 2 * (j / 2) + 1 = j by omega]
  · rw [List.getElem?_eq_none hj, List.getElem?_eq_none (by rw [hl]; omega)]
theorem plain_fq {vs : List Value} (h : allFq vs = true) : vs.all plain = true := by
  unfold allFq at h
  rw [Bool.and_eq_true] at h
  have h := h.1
  rw [List.all_eq_true] at h ⊢
  intro v hv
  obtain ⟨a, rfl⟩ := isFq_eq (h v hv)
  rfl
theorem fq_all (re im : Nat → Nat) (m : Nat) : allFq (rowOf (fun i => [Value.float .f64 (re i), Value.float .f64 (im i)]) m) = true := by
  unfold allFq
  rw [rowOf_all (fun _ => rfl) m, rowOf_len (s := 2) (fun _ => rfl) m, Bool.true_and]
  simp
theorem fq_at (re im : Nat → Nat) {m i : Nat} (hi : i < m) : fq (rowOf (fun i => [Value.float .f64 (re i), Value.float .f64 (im i)]) m) (2 * i) = re i ∧ fq (rowOf (fun i => [Value.float .f64 (re i), Value.float .f64 (im i)]) m) (2 * i + 1) = im i := by
  have h0 := rowOf_gt (f := fun i => [Value.float .f64 (re i), Value.float .f64 (im i)]) (s := 2) (fun _ => rfl) (k := i) (n := m) (j := 0) hi (by omega)
  have h1 := rowOf_gt (f := fun i => [Value.float .f64 (re i), Value.float .f64 (im i)]) (s := 2) (fun _ => rfl) (k := i) (n := m) (j := 1) hi (by omega)
  rw [show i * 2 + 0 = 2 * i by omega] at h0
  rw [show i * 2 + 1 = 2 * i + 1 by omega] at h1
  unfold fq
  rw [h0, h1]
  exact ⟨rfl, rfl⟩
def sSameList : HeapFn
  | [.slice none 0 0, .slice none 0 0], σ => some (.bool true, σ)
  | [.slice (some ⟨b, 0, some 2⟩) n _, .slice (some ⟨b2, 0, some 2⟩) n2 _], σ =>
    match σ[b]?, σ[b2]? with
    | some (.row vs _ _), some (.row vs2 _ _) =>
      bif (allFq vs && allFq vs2) && (Nat.beq n n2 && (Nat.ble n (vs.length / 2) && (Nat.ble n (vs2.length / 2) && (Nat.ble n 1048576 && (List.range n).all (fun i => gSame_0 (fq vs (2 * i)) (fq vs (2 * i + 1)) (fq vs2 (2 * i)) (fq vs2 (2 * i + 1))))))) then some (.bool true, σ) else none
    | _, _ => none
  | _, _ => none
theorem sl_call (o1 o2 : Option Nat) (a b c d : Nat → Nat) (m m2 n cap cap2 : Nat) (hn : n ≤ 1048576) (hm : n ≤ m) (hm2 : n ≤ m2) (hs : ∀ i, i < n → gSame_0 (a i) (b i) (c i) (d i) = true) :
    ∃ σ', CallR Try.prog false 190 [.slice (some ⟨0, 0, some 2⟩) n cap, .slice (some ⟨1, 0, some 2⟩) n cap2] (slHp o1 o2 a b c d m m2) (.bool true) σ' :=
  ⟨_, gSL_p0 o1 o2 a b c d m m2 n cap cap2 (by simp) (fun hst => (sl_loop o1 o2 a b c d m m2 n cap cap2 hn hm hm2 hs hst).enter ([true, true, false, false, true, true] ++ List.replicate 23 false) (by kernel_rfl))⟩
theorem sSameList_ok : IsHeap Try.prog false 190 true sSameList := by
  have hq : ∀ args σ v σ', sSameList args σ = some (v, σ') → σ' = σ := by
    intro args σ v σ' h
    unfold sSameList at h
    split at h
    · cases h; rfl
    · split at h
      · generalize ((allFq _ && _) && _) = c at h
        cases c <;> cases h; rfl
      · cases h
    · cases h
  refine ⟨fun args σ v σ' h => ?_, fun _ => hq, fun args σ v σ' h => by rw [hq args σ v σ' h]; exact Nat.le_refl _⟩
  unfold sSameList at h
  split at h
  · cases h
    exact CallR.frameQ (r := fun k => k + σ.length) (args0 := [.slice none 0 0, .slice none 0 0]) (σ0 := []) ⟨fun k o hk => by simp at hk, fun k hk => by omega⟩ rfl gSLN_p0 rfl
  · rename_i b n cap b2 n2 cap2
    split at h
    · rename_i vs rw1 o1 vs2 rw2 o2 hb hb2
      cases hc : ((allFq vs && allFq vs2) && (Nat.beq n n2 && (Nat.ble n (vs.length / 2) && (Nat.ble n (vs2.length / 2) && (Nat.ble n 1048576 && (List.range n).all (fun i => gSame_0 (fq vs (2 * i)) (fq vs (2 * i + 1)) (fq vs2 (2 * i)) (fq vs2 (2 * i + 1))))))))
      · rw [hc] at h; cases h
      · rw [hc] at h
        cases h
        simp only [Bool.and_eq_true] at hc
        obtain ⟨⟨c1, c2⟩, c3, c4, c5, c6, c7⟩ := hc
        have c3 := Nat.eq_of_beq_eq_true c3
        subst c3
        obtain ⟨σ1, hs⟩ := sl_call o1 o2 (fun i => fq vs (2 * i)) (fun i => fq vs (2 * i + 1)) (fun i => fq vs2 (2 * i)) (fun i => fq vs2 (2 * i + 1)) (vs.length / 2) (vs2.length / 2) n cap cap2 (Nat.le_of_ble_eq_true c6) (Nat.le_of_ble_eq_true c4) (Nat.le_of_ble_eq_true c5) (fun i hi => List.all_eq_true.1 c7 i (List.mem_range.2 hi))
        unfold slHp at hs
        rw [fq_row c1, fq_row c2] at hs
        refine CallR.frameQ (r := fun k => if k = 0 then b else if k = 1 then b2 else k + σ.length) ⟨fun k o hk => ?_, fun k hk => ?_⟩ ?_ hs rfl
        · have hlt := lt_of_some hk
          have hlt : k < 2 := hlt
          rcases (show k = 0 ∨ k = 1 by omega) with rfl | rfl
          · simp only [List.getElem?_cons_zero, Option.some.injEq] at hk
            exact ⟨vs, o1, rw1, hk.symm, hb, plain_fq c1⟩
          · simp only [List.getElem?_cons_succ, List.getElem?_cons_zero, Option.some.injEq] at hk
            exact ⟨vs2, o2, rw2, hk.symm, hb2, plain_fq c2⟩
        · have hk : 2 ≤ k := hk
          have h0 : ¬ k = 0 := by omega
          have h1 : ¬ k = 1 := by omega
          simp only [h0, h1, if_false]; omega
        · rfl
    · cases h
  · cases h
theorem sSameList_row {re im re2 im2 : Nat → Nat} {b b2 n m m2 cap cap2 : Nat} {rw1 rw2 : Bool} {o1 o2 : Option Nat} {σ : AHeap} (hσ : σ[b]? = some (.row (rowOf (fun i => [.float .f64 (re i), .float .f64 (im i)]) m) rw1 o1)) (hσ2 : σ[b2]? = some (.row (rowOf (fun i => [.float .f64 (re2 i), .float .f64 (im2 i)]) m2) rw2 o2)) (hm : n ≤ m) (hm2 : n ≤ m2) (hn : n ≤ 1048576)
    (hs : ∀ i, i < n → gSame_0 (re i) (im i) (re2 i) (im2 i) = true) : sSameList [.slice (some ⟨b, 0, some 2⟩) n cap, .slice (some ⟨b2, 0, some 2⟩) n cap2] σ = some (.bool true, σ) := by
  unfold sSameList
  have l1 := rowOf_len (f := fun i => [Value.float .f64 (re i), Value.float .f64 (im i)]) (s := 2) (fun _ => rfl) m
  have l2 := rowOf_len (f := fun i => [Value.float .f64 (re2 i), Value.float .f64 (im2 i)]) (s := 2) (fun _ => rfl) m2
  have b1 : Nat.ble n ((rowOf (fun i => [Value.float .f64 (re i), Value.float .f64 (im i)]) m).length / 2) = true := Nat.ble_eq_true_of_le (by omega)
  have b2' : Nat.ble n ((rowOf (fun i => [Value.float .f64 (re2 i), Value.float .f64 (im2 i)]) m2).length / 2) = true := Nat.ble_eq_true_of_le (by omega)
  have b3 : Nat.ble n 1048576 = true := Nat.ble_eq_true_of_le hn
  have b4 : (List.range n).all (fun i => gSame_0 (fq (rowOf (fun i => [Value.float .f64 (re i), Value.float .f64 (im i)]) m) (2 * i)) (fq (rowOf (fun i => [Value.float .f64 (re i), Value.float .f64 (im i)]) m) (2 * i + 1)) (fq (rowOf (fun i => [Value.float .f64 (re2 i), Value.float .f64 (im2 i)]) m2) (2 * i)) (fq (rowOf (fun i => [Value.float .f64 (re2 i), Value.float .f64 (im2 i)]) m2) (2 * i + 1))) = true := by
    rw [List.all_eq_true]
    intro i hi
    have hi := List.mem_range.1 hi
    have e1 := fq_at re im (m := m) (i := i) (by omega)
    have e2 := fq_at re2 im2 (m := m2) (i := i) (by omega)
    rw [e1.1, e1.2, e2.1, e2.2]
    exact hs i hi
  simp only [hσ, hσ2, fq_all, b1, b2', b3, b4, Nat.beq_refl, Bool.and_self, cond_true]
noncomputable def t9p : Tab := (t9o.addH 190 true sSameList)
theorem t9p_ok : t9p.Ok Try.prog false := (Tab.Ok.addH t9o_ok sSameList_ok)
end Go.Lk
end

section
/- same. -/
namespace Go.Lk
open Go.Proofs
set_option maxRecDepth 100000
set_option maxHeartbeats 0
set_option linter.unusedVariables false
set_option linter.unusedSimpArgs false
noncomputable def LS : Lib := ⟨Try.prog, false, t9p, [], []⟩
theorem LS_fp : ∀ e, e ∈ LS.pures → Try.prog.funcs[e.1]? = some e.2 := fs_nil
theorem LS_fh : ∀ e, e ∈ LS.heaps → Try.prog.funcs[e.1]? = some e.2.2 := gs_nil
theorem LS_p1 (gp : Nat → PureFn) (g : Nat → HeapFn) : (LS.pures.all fun e => fnOk (LS.mk' gp g) e.2) = true := by kernel_rfl
theorem LS_h1 (gp : Nat → PureFn) (g : Nat → HeapFn) : (LS.heaps.all fun e => fnOk (LS.mk' gp g) e.2.2 && (!e.2.1 || fnRo (LS.mk' gp g) e.2.2)) = true := by kernel_rfl
theorem LS_ok : LS.Ok := ⟨t9p_ok, mixed, LS_fp, LS_fh, LS_p1, LS_h1⟩
noncomputable def dLS : Cfg := LS.cfg 100 4
theorem dLS_ok : dLS.Ok := LS_ok.cfg 100 4

theorem gS4_fok : fnOkX (dLS) [] Try.f145 = true := by kernel_rfl
theorem gS4_p0 (o1 : Option Nat) (o2 : Option Nat) (a : Nat → Nat) (b : Nat → Nat) (c : Nat → Nat) (d : Nat → Nat) (m : Nat) (m2 : Nat) (n : Nat) (cap : Nat) (cap2 : Nat) (h0 : 0 < n) (hn : n ≤ 1048576) (hm : n ≤ m) (hm2 : n ≤ m2) (hs : ∀ (i : Nat), i < n → gSame_0 (a i) (b i) (c i) (d i) = true) : CallR Try.prog false 145 ([Value.slice (some ⟨0, 0, some 1⟩) n cap, Value.slice (some ⟨1, 0, some 2⟩) n cap2]) ([AObj.row (rowOf (fun i => [Value.complex .f64 (a i) (b i)]) m) false o1, AObj.row (rowOf (fun i => [Value.float .f64 (c i), Value.float .f64 (d i)]) m2) false o2]) (Value.bool true) ([AObj.row (rowOf (fun i => [Value.complex .f64 (a i) (b i)]) m) false o1, AObj.row (rowOf (fun i => [Value.float .f64 (c i), Value.float .f64 (d i)]) m2) false o2, AObj.row (rowOf (fun i => [Value.float .f64 (a i), Value.float .f64 (b i)]) n) true (some 2)]) := CallR.of_DOXs (C := dLS) dLS_ok (X := []) Try.func145 gS4_fok (n := 100) (orc := [(5, Item.eff (Value.slice (some ⟨2, 0, some 2⟩) n n) [AObj.row (rowOf (fun i => [Value.complex .f64 (a i) (b i)]) m) false o1, AObj.row (rowOf (fun i => [Value.float .f64 (c i), Value.float .f64 (d i)]) m2) false o2, AObj.row (rowOf (fun i => [Value.float .f64 (a i), Value.float .f64 (b i)]) n) true (some 2)]), (9, Item.eff (Value.bool true) [AObj.row (rowOf (fun i => [Value.complex .f64 (a i) (b i)]) m) false o1, AObj.row (rowOf (fun i => [Value.float .f64 (c i), Value.float .f64 (d i)]) m2) false o2, AObj.row (rowOf (fun i => [Value.float .f64 (a i), Value.float .f64 (b i)]) n) true (some 2)])]) (ps := [(sOf [Value.slice (some ⟨0, 0, some 1⟩) n cap] ([AObj.row (rowOf (fun i => [Value.complex .f64 (a i) (b i)]) m) false o1, AObj.row (rowOf (fun i => [Value.float .f64 (c i), Value.float .f64 (d i)]) m2) false o2]) = some (Value.slice (some ⟨2, 0, some 2⟩) n n, [AObj.row (rowOf (fun i => [Value.complex .f64 (a i) (b i)]) m) false o1, AObj.row (rowOf (fun i => [Value.float .f64 (c i), Value.float .f64 (d i)]) m2) false o2, AObj.row (rowOf (fun i => [Value.float .f64 (a i), Value.float .f64 (b i)]) n) true (some 2)])), (sSameList [Value.slice (some ⟨2, 0, some 2⟩) n n, Value.slice (some ⟨1, 0, some 2⟩) n cap2] ([AObj.row (rowOf (fun i => [Value.complex .f64 (a i) (b i)]) m) false o1, AObj.row (rowOf (fun i => [Value.float .f64 (c i), Value.float .f64 (d i)]) m2) false o2, AObj.row (rowOf (fun i => [Value.float .f64 (a i), Value.float .f64 (b i)]) n) true (some 2)]) = some (Value.bool true, [AObj.row (rowOf (fun i => [Value.complex .f64 (a i) (b i)]) m) false o1, AObj.row (rowOf (fun i => [Value.float .f64 (c i), Value.float .f64 (d i)]) m2) false o2, AObj.row (rowOf (fun i => [Value.float .f64 (a i), Value.float .f64 (b i)]) n) true (some 2)]))]) (by kernel_rfl) (fun hst => ⟨sOf_row (re := fun i => a i) (im := fun i => b i) rfl (by (try simp only [decide_eq_true_eq, decide_eq_false_iff_not] at *); (try simp only [iN_eq, Int.ofNat_eq_natCast] at *); omega) (by (try simp only [decide_eq_true_eq, decide_eq_false_iff_not] at *); (try simp only [iN_eq, Int.ofNat_eq_natCast] at *); omega) (by (try simp only [decide_eq_true_eq, decide_eq_false_iff_not] at *); (try simp only [iN_eq, Int.ofNat_eq_natCast] at *); omega), ⟨sSameList_row (re := fun i => a i) (im := fun i => b i) (re2 := fun i => c i) (im2 := fun i => d i) rfl rfl (by (try simp only [decide_eq_true_eq, decide_eq_false_iff_not] at *); (try simp only [iN_eq, Int.ofNat_eq_natCast] at *); omega) (by (try simp only [decide_eq_true_eq, decide_eq_false_iff_not] at *); (try simp only [iN_eq, Int.ofNat_eq_natCast] at *); omega) (by (try simp only [decide_eq_true_eq, decide_eq_false_iff_not] at *); (try simp only [iN_eq, Int.ofNat_eq_natCast] at *); omega) (by intro i hi; first | exact hs i hi | exact same_refl _ _), trivial⟩⟩)
theorem gS4N_fok : fnOkX (dLS) [] Try.f145 = true := by kernel_rfl
theorem gS4N_p0 : CallR Try.prog false 145 ([Value.slice none 0 0, Value.slice none 0 0]) ([]) (Value.bool true) ([]) := CallR.of_DOXs (C := dLS) dLS_ok (X := []) Try.func145 gS4N_fok (n := 100) (orc := []) (ps := []) (by kernel_rfl) (fun hst => trivial)
theorem gS22_fok : fnOkX (dLS) [] Try.f178 = true := by kernel_rfl
theorem gS22_p0 (o1 : Option Nat) (o2 : Option Nat) (a : Nat → Nat) (b : Nat → Nat) (c : Nat → Nat) (d : Nat → Nat) (m : Nat) (m2 : Nat) (n : Nat) (cap : Nat) (cap2 : Nat) (h0 : 0 < n) (hn : n ≤ 1048576) (hm : n ≤ m) (hm2 : n ≤ m2) (hs : ∀ (i : Nat), i < n → gSame_0 (a i) (b i) (c i) (d i) = true) : CallR Try.prog false 178 ([Value.slice (some ⟨0, 0, some 1⟩) n cap, Value.slice (some ⟨1, 0, some 2⟩) n cap2]) ([AObj.row (rowOf (fun i => [Value.complex .f64 (a i) (b i)]) m) false o1, AObj.row (rowOf (fun i => [Value.float .f64 (c i), Value.float .f64 (d i)]) m2) false o2]) (Value.bool true) ([AObj.row (rowOf (fun i => [Value.complex .f64 (a i) (b i)]) m) false o1, AObj.row (rowOf (fun i => [Value.float .f64 (c i), Value.float .f64 (d i)]) m2) false o2, AObj.row (rowOf (fun i => [Value.float .f64 (a i), Value.float .f64 (b i)]) n) true (some 2)]) := CallR.of_DOXs (C := dLS) dLS_ok (X := []) Try.func178 gS22_fok (n := 100) (orc := [(5, Item.eff (Value.slice (some ⟨2, 0, some 2⟩) n n) [AObj.row (rowOf (fun i => [Value.complex .f64 (a i) (b i)]) m) false o1, AObj.row (rowOf (fun i => [Value.float .f64 (c i), Value.float .f64 (d i)]) m2) false o2, AObj.row (rowOf (fun i => [Value.float .f64 (a i), Value.float .f64 (b i)]) n) true (some 2)]), (9, Item.eff (Value.bool true) [AObj.row (rowOf (fun i => [Value.complex .f64 (a i) (b i)]) m) false o1, AObj.row (rowOf (fun i => [Value.float .f64 (c i), Value.float .f64 (d i)]) m2) false o2, AObj.row (rowOf (fun i => [Value.float .f64 (a i), Value.float .f64 (b i)]) n) true (some 2)])]) (ps := [(sOf [Value.slice (some ⟨0, 0, some 1⟩) n cap] ([AObj.row (rowOf (fun i => [Value.complex .f64 (a i) (b i)]) m) false o1, AObj.row (rowOf (fun i => [Value.float .f64 (c i), Value.float .f64 (d i)]) m2) false o2]) = some (Value.slice (some ⟨2, 0, some 2⟩) n n, [AObj.row (rowOf (fun i => [Value.complex .f64 (a i) (b i)]) m) false o1, AObj.row (rowOf (fun i => [Value.float .f64 (c i), Value.float .f64 (d i)]) m2) false o2, AObj.row (rowOf (fun i => [Value.float .f64 (a i), Value.float .f64 (b i)]) n) true (some 2)])), (sSameList [Value.slice (some ⟨2, 0, some 2⟩) n n, Value.slice (some ⟨1, 0, some 2⟩) n cap2] ([AObj.row (rowOf (fun i => [Value.complex .f64 (a i) (b i)]) m) false o1, AObj.row (rowOf (fun i => [Value.float .f64 (c i), Value.float .f64 (d i)]) m2) false o2, AObj.row (rowOf (fun i => [Value.float .f64 (a i), Value.float .f64 (b i)]) n) true (some 2)]) = some (Value.bool true, [AObj.row (rowOf (fun i => [Value.complex .f64 (a i) (b i)]) m) false o1, AObj.row (rowOf (fun i => [Value.float .f64 (c i), Value.float .f64 (d i)]) m2) false o2, AObj.row (rowOf (fun i => [Value.float .f64 (a i), Value.float .f64 (b i)]) n) true (some 2)]))]) (by kernel_rfl) (fun hst => ⟨sOf_row (re := fun i => a i) (im := fun i => b i) rfl (by (try simp only [decide_eq_true_eq, decide_eq_false_iff_not] at *); (try simp only [iN_eq, Int.ofNat_eq_natCast] at *); omega) (by (try simp only [decide_eq_true_eq, decide_eq_false_iff_not] at *); (try simp only [iN_eq, Int.ofNat_eq_natCast] at *); omega) (by (try simp only [decide_eq_true_eq, decide_eq_false_iff_not] at *); (try simp only [iN_eq, Int.ofNat_eq_natCast] at *); omega), ⟨sSameList_row (re := fun i => a i) (im := fun i => b i) (re2 := fun i => c i) (im2 := fun i => d i) rfl rfl (by (try simp only [decide_eq_true_eq, decide_eq_false_iff_not] at *); (try simp only [iN_eq, Int.ofNat_eq_natCast] at *); omega) (by (try simp only [decide_eq_true_eq, decide_eq_false_iff_not] at *); (try simp only [iN_eq, Int.ofNat_eq_natCast] at *); omega) (by (try simp only [decide_eq_true_eq, decide_eq_false_iff_not] at *); (try simp only [iN_eq, Int.ofNat_eq_natCast] at *); omega) (by intro i hi; first | exact hs i hi | exact same_refl _ _), trivial⟩⟩)
theorem gS22N_fok : fnOkX (dLS) [] Try.f178 = true := by kernel_rfl
theorem gS22N_p0 : CallR Try.prog false 178 ([Value.slice none 0 0, Value.slice none 0 0]) ([]) (Value.bool true) ([]) := CallR.of_DOXs (C := dLS) dLS_ok (X := []) Try.func178 gS22N_fok (n := 100) (orc := []) (ps := []) (by kernel_rfl) (fun hst => trivial)
def sSameL : HeapFn
  | [.slice none 0 0, .slice none 0 0], σ => some (.bool true, σ)
  | [.slice (some ⟨b, 0, some 1⟩) n _, .slice (some ⟨b2, 0, some 2⟩) n2 _], σ =>
    match σ[b]?, σ[b2]? with
    | some (.row vs _ _), some (.row vs2 _ _) =>
      bif (vs.all isCx && allFq vs2) && (Nat.beq n n2 && (Nat.ble n vs.length && (Nat.ble n (vs2.length / 2) && (Nat.ble n 1048576 && (Nat.blt 0 n && (List.range n).all (fun i => gSame_0 (cre vs i) (cim vs i) (fq vs2 (2 * i)) (fq vs2 (2 * i + 1)))))))) then some (.bool true, σ) else none
    | _, _ => none
  | _, _ => none
theorem sSameL_is {f : Nat} (hN : CallR Try.prog false f [.slice none 0 0, .slice none 0 0] [] (.bool true) [])
    (hS : ∀ (o1 o2 : Option Nat) (a b c d : Nat → Nat) (m m2 n cap cap2 : Nat), 0 < n → n ≤ 1048576 → n ≤ m → n ≤ m2 → (∀ i, i < n → gSame_0 (a i) (b i) (c i) (d i) = true) → ∃ σ', CallR Try.prog false f [.slice (some ⟨0, 0, some 1⟩) n cap, .slice (some ⟨1, 0, some 2⟩) n cap2] [.row (rowOf (fun i => [.complex .f64 (a i) (b i)]) m) false o1, .row (rowOf (fun i => [.float .f64 (c i), .float .f64 (d i)]) m2) false o2] (.bool true) σ') :
    IsHeap Try.prog false f true sSameL := by
  have hq : ∀ args σ v σ', sSameL args σ = some (v, σ') → σ' = σ := by
    intro args σ v σ' h
    unfold sSameL at h
    split at h
    · cases h; rfl
    · split at h
      · generalize ((List.all _ isCx && _) && _) = c at h
        cases c <;> cases h; rfl
      · cases h
    · cases h
  refine ⟨fun args σ v σ' h => ?_, fun _ => hq, fun args σ v σ' h => by rw [hq args σ v σ' h]; exact Nat.le_refl _⟩
  unfold sSameL at h
  split at h
  · cases h
    exact CallR.frameQ (r := fun k => k + σ.length) (args0 := [.slice none 0 0, .slice none 0 0]) (σ0 := []) ⟨fun k o hk => by simp at hk, fun k hk => by omega⟩ rfl hN rfl
  · rename_i b n cap b2 n2 cap2
    split at h
    · rename_i vs rw1 o1 vs2 rw2 o2 hb hb2
      cases hc : ((vs.all isCx && allFq vs2) && (Nat.beq n n2 && (Nat.ble n vs.length && (Nat.ble n (vs2.length / 2) && (Nat.ble n 1048576 && (Nat.blt 0 n && (List.range n).all (fun i => gSame_0 (cre vs i) (cim vs i) (fq vs2 (2 * i)) (fq vs2 (2 * i + 1)))))))))
      · rw [hc] at h; cases h
      · rw [hc] at h
        cases h
        simp only [Bool.and_eq_true] at hc
        obtain ⟨⟨c1, c2⟩, c3, c4, c5, c6, c8, c7⟩ := hc
        have c3 := Nat.eq_of_beq_eq_true c3
        subst c3
        obtain ⟨σ1, hs⟩ := hS o1 o2 (cre vs) (cim vs) (fun i => fq vs2 (2 * i)) (fun i => fq vs2 (2 * i + 1)) vs.length (vs2.length / 2) n cap cap2 (by rwa [Nat.blt_eq] at c8) (Nat.le_of_ble_eq_true c6) (Nat.le_of_ble_eq_true c4) (Nat.le_of_ble_eq_true c5) (fun i hi => List.all_eq_true.1 c7 i (List.mem_range.2 hi))
        rw [cx_row c1, fq_row c2] at hs
        refine CallR.frameQ (r := fun k => if k = 0 then b else if k = 1 then b2 else k + σ.length) ⟨fun k o hk => ?_, fun k hk => ?_⟩ ?_ hs rfl
        · have hlt := lt_of_some hk
          have hlt : k < 2 := hlt
          rcases (show k = 0 ∨ k = 1 by omega) with rfl | rfl
          · simp only [List.getElem?_cons_zero, Option.some.injEq] at hk
            exact ⟨vs, o1, rw1, hk.symm, hb, plain_cx c1⟩
          · simp only [List.getElem?_cons_succ, List.getElem?_cons_zero, Option.some.injEq] at hk
            exact ⟨vs2, o2, rw2, hk.symm, hb2, plain_fq c2⟩
        · have hk : 2 ≤ k := hk
          have h0 : ¬ k = 0 := by omega
          have h1 : ¬ k = 1 := by omega
          simp only [h0, h1, if_false]; omega
        · rfl
    · cases h
  · cases h
theorem sSame4_ok : IsHeap Try.prog false 145 true sSameL := sSameL_is gS4N_p0 (fun o1 o2 a b c d m m2 n cap cap2 h0 hn hm hm2 hs => ⟨_, gS4_p0 o1 o2 a b c d m m2 n cap cap2 h0 hn hm hm2 hs⟩)
theorem sSame22_ok : IsHeap Try.prog false 178 true sSameL := sSameL_is gS22N_p0 (fun o1 o2 a b c d m m2 n cap cap2 h0 hn hm hm2 hs => ⟨_, gS22_p0 o1 o2 a b c d m m2 n cap cap2 h0 hn hm hm2 hs⟩)
theorem sSameL_row {re im re2 im2 : Nat → Nat} {b b2 n m m2 cap cap2 : Nat} {rw1 rw2 : Bool} {o1 o2 : Option Nat} {σ : AHeap} (hσ : σ[b]? = some (.row (rowOf (fun i => [.complex .f64 (re i) (im i)]) m) rw1 o1)) (hσ2 : σ[b2]? = some (.row (rowOf (fun i => [.float .f64 (re2 i), .float .f64 (im2 i)]) m2) rw2 o2)) (h0 : 0 < n) (hm : n ≤ m) (hm2 : n ≤ m2) (hn : n ≤ 1048576)
    (hs : ∀ i, i < n → gSame_0 (re i) (im i) (re2 i) (im2 i) = true) : sSameL [.slice (some ⟨b, 0, some 1⟩) n cap, .slice (some ⟨b2, 0, some 2⟩) n cap2] σ = some (.bool true, σ) := by
  unfold sSameL
  have l1 := rowOf_len (f := fun i => [Value.complex .f64 (re i) (im i)]) (s := 1) (fun _ => rfl) m
  have l2 := rowOf_len (f := fun i => [Value.float .f64 (re2 i), Value.float .f64 (im2 i)]) (s := 2) (fun _ => rfl) m2
  have b1 : Nat.ble n (rowOf (fun i => [Value.complex .f64 (re i) (im i)]) m).length = true := Nat.ble_eq_true_of_le (by omega)
  have b2' : Nat.ble n ((rowOf (fun i => [Value.float .f64 (re2 i), Value.float .f64 (im2 i)]) m2).length / 2) = true := Nat.ble_eq_true_of_le (by omega)
  have b3 : Nat.ble n 1048576 = true := Nat.ble_eq_true_of_le hn
  have b0 : Nat.blt 0 n = true := by rw [Nat.blt_eq]; exact h0
  have b4 : (List.range n).all (fun i => gSame_0 (cre (rowOf (fun i => [Value.complex .f64 (re i) (im i)]) m) i) (cim (rowOf (fun i => [Value.complex .f64 (re i) (im i)]) m) i) (fq (rowOf (fun i => [Value.float .f64 (re2 i), Value.float .f64 (im2 i)]) m2) (2 * i)) (fq (rowOf (fun i => [Value.float .f64 (re2 i), Value.float .f64 (im2 i)]) m2) (2 * i + 1))) = true := by
    rw [List.all_eq_true]
    intro i hi
    have hi := List.mem_range.1 hi
    have e1 := cre_row re im (m := m) (i := i) (by omega)
    have e2 := fq_at re2 im2 (m := m2) (i := i) (by omega)
    rw [e2.1, e2.2]
    simp only [cre, cim, e1]
    exact hs i hi
  simp only [hσ, hσ2, cx_all, fq_all, b0, b1, b2', b3, b4, Nat.beq_refl, Bool.and_self, cond_true]
noncomputable def t9q : Tab := ((t9p.addH 145 true sSameL).addH 178 true sSameL)
theorem t9q_ok : t9q.Ok Try.prog false := (Tab.Ok.addH (Tab.Ok.addH t9p_ok sSame4_ok) sSame22_ok)
end Go.Lk
end
