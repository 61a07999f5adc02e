import Derived.Test.YtmomainjlncogaaLkJG
section
/- Codes by their numbers: contracts. -/
namespace Go.Lk
open Go.Proofs
set_option maxRecDepth 100000
set_option maxHeartbeats 0
set_option linter.unusedVariables false
set_option linter.unusedSimpArgs false
theorem AnCall.inner {f : FuncId} {args : List Value} {z k : Nat} {row : (Nat → Nat) → (Nat → Nat) → Nat → List Value} {x : An} {σ' : AHeap} (h : CallR Try.prog false f args [] (aVal k z x) σ') (hk : σ'[k]? = some (aObj z row x)) : AnCall f args z row x := by
  obtain ⟨n, a, b, e⟩ := x
  cases n with
  | zero => exact .inl ⟨rfl, σ', h⟩
  | succ n => exact .inr ⟨Nat.succ_pos n, σ', k, some z, h, hk, .inr rfl⟩
abbrev cAr : AObj := AObj.row [Value.int IntKind.i64 (Int.ofNat 2), Value.int IntKind.i64 (Int.ofNat 3), Value.int IntKind.i64 (Int.ofNat 4), Value.int IntKind.i64 (Int.ofNat 5), Value.int IntKind.i64 (Int.ofNat 7), Value.int IntKind.i64 (Int.ofNat 11), Value.int IntKind.i64 (Int.ofNat 13)] true none
abbrev cAw : AObj := AObj.row [Value.int IntKind.i64 (Int.ofNat 0), Value.int IntKind.i64 (Int.ofNat 2), Value.int IntKind.i64 (Int.ofNat 3), Value.int IntKind.i64 (Int.ofNat 4), Value.int IntKind.i64 (Int.ofNat 5), Value.int IntKind.i64 (Int.ofNat 7), Value.int IntKind.i64 (Int.ofNat 11), Value.int IntKind.i64 (Int.ofNat 13)] true none
abbrev cAo : AObj := AObj.row [Value.int IntKind.i64 (Int.ofNat 1), Value.int IntKind.i64 (Int.ofNat 2), Value.int IntKind.i64 (Int.ofNat 4), Value.int IntKind.i64 (Int.ofNat 8), Value.int IntKind.i64 (Int.ofNat 5), Value.int IntKind.i64 (Int.ofNat 10), Value.int IntKind.i64 (Int.ofNat 9), Value.int IntKind.i64 (Int.ofNat 7), Value.int IntKind.i64 (Int.ofNat 3), Value.int IntKind.i64 (Int.ofNat 6)] true none
def aAd (L n z : Nat) : Option Addr := match n with | 0 => none | _ + 1 => some ⟨L, 0, some z⟩
theorem aSl_eq (L n z : Nat) : aSl L n z = .slice (aAd L n z) n n := by cases n <;> rfl
noncomputable def LCo : Lib := ⟨Try.prog, false, t9w, [], []⟩
theorem LCo_fp : ∀ e, e ∈ LCo.pures → Try.prog.funcs[e.1]? = some e.2 := fs_nil
theorem LCo_fh : ∀ e, e ∈ LCo.heaps → Try.prog.funcs[e.1]? = some e.2.2 := gs_nil
theorem LCo_p1 (gp : Nat → PureFn) (g : Nat → HeapFn) : (LCo.pures.all fun e => fnOk (LCo.mk' gp g) e.2) = true := by kernel_rfl
theorem LCo_h1 (gp : Nat → PureFn) (g : Nat → HeapFn) : (LCo.heaps.all fun e => fnOk (LCo.mk' gp g) e.2.2 && (!e.2.1 || fnRo (LCo.mk' gp g) e.2.2)) = true := by kernel_rfl
theorem LCo_ok : LCo.Ok := ⟨t9w_ok, mixed, LCo_fp, LCo_fh, LCo_p1, LCo_h1⟩
noncomputable def dLCo : Cfg := LCo.cfg 100 6
theorem dLCo_ok : dLCo.Ok := LCo_ok.cfg 100 6

theorem cr0_fok : fnOkX (dLCo) [] Try.f74 = true := by kernel_rfl
theorem cr0_p0 : CallR Try.prog false 74 ([Value.int IntKind.i64 (Int.ofNat 0)]) ([]) (Value.tuple { toList := [Value.slice (some { block := 1, off := 0, spot := some 2 }) 1 1, Value.int IntKind.i64 (Int.ofNat 0)] }) ([cAr, AObj.row [Value.float FloatKind.f64 4607182418800017408, Value.float FloatKind.f64 0] true none]) := CallR.of_DOXs (C := dLCo) dLCo_ok (X := []) Try.func74 cr0_fok (n := 3) (orc := []) (ps := []) (by kernel_rfl) (fun hst => trivial)
theorem cr1_fok : fnOkX (dLCo) [] Try.f74 = true := by kernel_rfl
theorem cr1_p0 (a : Option Addr) (l : Nat) (e : Int) (o : AObj) (s0 : sRBk ([Value.int IntKind.i64 (Int.ofNat 2)]) ([cAr]) = some (Value.tuple #[Value.slice a l l, Value.int IntKind.i64 e], [cAr, o])) : CallR Try.prog false 74 ([Value.int IntKind.i64 (Int.ofNat 1)]) ([]) (Value.tuple { toList := [Value.slice a l l, Value.int IntKind.i64 e] }) ([cAr, o]) := CallR.of_DOXs (C := dLCo) dLCo_ok (X := []) Try.func74 cr1_fok (n := 3) (orc := [(41, Item.eff (Value.tuple #[Value.slice a l l, Value.int IntKind.i64 e]) [cAr, o])]) (ps := [(sRBk ([Value.int IntKind.i64 (Int.ofNat 2)]) ([cAr]) = some (Value.tuple #[Value.slice a l l, Value.int IntKind.i64 e], [cAr, o]))]) (by kernel_rfl) (fun hst => ⟨s0, trivial⟩)
theorem cr2_fok : fnOkX (dLCo) [] Try.f74 = true := by kernel_rfl
theorem cr2_p0 (a : Option Addr) (l : Nat) (e : Int) (o : AObj) (s0 : sRBk ([Value.int IntKind.i64 (Int.ofNat 3)]) ([cAr]) = some (Value.tuple #[Value.slice a l l, Value.int IntKind.i64 e], [cAr, o])) : CallR Try.prog false 74 ([Value.int IntKind.i64 (Int.ofNat 2)]) ([]) (Value.tuple { toList := [Value.slice a l l, Value.int IntKind.i64 e] }) ([cAr, o]) := CallR.of_DOXs (C := dLCo) dLCo_ok (X := []) Try.func74 cr2_fok (n := 3) (orc := [(41, Item.eff (Value.tuple #[Value.slice a l l, Value.int IntKind.i64 e]) [cAr, o])]) (ps := [(sRBk ([Value.int IntKind.i64 (Int.ofNat 3)]) ([cAr]) = some (Value.tuple #[Value.slice a l l, Value.int IntKind.i64 e], [cAr, o]))]) (by kernel_rfl) (fun hst => ⟨s0, trivial⟩)
theorem cr3_fok : fnOkX (dLCo) [] Try.f74 = true := by kernel_rfl
theorem cr3_p0 (a : Option Addr) (l : Nat) (e : Int) (o : AObj) (s0 : sRBk ([Value.int IntKind.i64 (Int.ofNat 4)]) ([cAr]) = some (Value.tuple #[Value.slice a l l, Value.int IntKind.i64 e], [cAr, o])) : CallR Try.prog false 74 ([Value.int IntKind.i64 (Int.ofNat 3)]) ([]) (Value.tuple { toList := [Value.slice a l l, Value.int IntKind.i64 e] }) ([cAr, o]) := CallR.of_DOXs (C := dLCo) dLCo_ok (X := []) Try.func74 cr3_fok (n := 3) (orc := [(41, Item.eff (Value.tuple #[Value.slice a l l, Value.int IntKind.i64 e]) [cAr, o])]) (ps := [(sRBk ([Value.int IntKind.i64 (Int.ofNat 4)]) ([cAr]) = some (Value.tuple #[Value.slice a l l, Value.int IntKind.i64 e], [cAr, o]))]) (by kernel_rfl) (fun hst => ⟨s0, trivial⟩)
theorem cr4_fok : fnOkX (dLCo) [] Try.f74 = true := by kernel_rfl
theorem cr4_p0 (a : Option Addr) (l : Nat) (e : Int) (o : AObj) (s0 : sRBk ([Value.int IntKind.i64 (Int.ofNat 5)]) ([cAr]) = some (Value.tuple #[Value.slice a l l, Value.int IntKind.i64 e], [cAr, o])) : CallR Try.prog false 74 ([Value.int IntKind.i64 (Int.ofNat 4)]) ([]) (Value.tuple { toList := [Value.slice a l l, Value.int IntKind.i64 e] }) ([cAr, o]) := CallR.of_DOXs (C := dLCo) dLCo_ok (X := []) Try.func74 cr4_fok (n := 3) (orc := [(41, Item.eff (Value.tuple #[Value.slice a l l, Value.int IntKind.i64 e]) [cAr, o])]) (ps := [(sRBk ([Value.int IntKind.i64 (Int.ofNat 5)]) ([cAr]) = some (Value.tuple #[Value.slice a l l, Value.int IntKind.i64 e], [cAr, o]))]) (by kernel_rfl) (fun hst => ⟨s0, trivial⟩)
theorem cr5_fok : fnOkX (dLCo) [] Try.f74 = true := by kernel_rfl
theorem cr5_p0 (a : Option Addr) (l : Nat) (e : Int) (o : AObj) (s0 : sRBk ([Value.int IntKind.i64 (Int.ofNat 7)]) ([cAr]) = some (Value.tuple #[Value.slice a l l, Value.int IntKind.i64 e], [cAr, o])) : CallR Try.prog false 74 ([Value.int IntKind.i64 (Int.ofNat 5)]) ([]) (Value.tuple { toList := [Value.slice a l l, Value.int IntKind.i64 e] }) ([cAr, o]) := CallR.of_DOXs (C := dLCo) dLCo_ok (X := []) Try.func74 cr5_fok (n := 3) (orc := [(41, Item.eff (Value.tuple #[Value.slice a l l, Value.int IntKind.i64 e]) [cAr, o])]) (ps := [(sRBk ([Value.int IntKind.i64 (Int.ofNat 7)]) ([cAr]) = some (Value.tuple #[Value.slice a l l, Value.int IntKind.i64 e], [cAr, o]))]) (by kernel_rfl) (fun hst => ⟨s0, trivial⟩)
theorem cr6_fok : fnOkX (dLCo) [] Try.f74 = true := by kernel_rfl
theorem cr6_p0 (a : Option Addr) (l : Nat) (e : Int) (o : AObj) (s0 : sRBk ([Value.int IntKind.i64 (Int.ofNat 11)]) ([cAr]) = some (Value.tuple #[Value.slice a l l, Value.int IntKind.i64 e], [cAr, o])) : CallR Try.prog false 74 ([Value.int IntKind.i64 (Int.ofNat 6)]) ([]) (Value.tuple { toList := [Value.slice a l l, Value.int IntKind.i64 e] }) ([cAr, o]) := CallR.of_DOXs (C := dLCo) dLCo_ok (X := []) Try.func74 cr6_fok (n := 3) (orc := [(41, Item.eff (Value.tuple #[Value.slice a l l, Value.int IntKind.i64 e]) [cAr, o])]) (ps := [(sRBk ([Value.int IntKind.i64 (Int.ofNat 11)]) ([cAr]) = some (Value.tuple #[Value.slice a l l, Value.int IntKind.i64 e], [cAr, o]))]) (by kernel_rfl) (fun hst => ⟨s0, trivial⟩)
theorem cr7_fok : fnOkX (dLCo) [] Try.f74 = true := by kernel_rfl
theorem cr7_p0 (a : Option Addr) (l : Nat) (e : Int) (o : AObj) (s0 : sRBk ([Value.int IntKind.i64 (Int.ofNat 13)]) ([cAr]) = some (Value.tuple #[Value.slice a l l, Value.int IntKind.i64 e], [cAr, o])) : CallR Try.prog false 74 ([Value.int IntKind.i64 (Int.ofNat 7)]) ([]) (Value.tuple { toList := [Value.slice a l l, Value.int IntKind.i64 e] }) ([cAr, o]) := CallR.of_DOXs (C := dLCo) dLCo_ok (X := []) Try.func74 cr7_fok (n := 3) (orc := [(41, Item.eff (Value.tuple #[Value.slice a l l, Value.int IntKind.i64 e]) [cAr, o])]) (ps := [(sRBk ([Value.int IntKind.i64 (Int.ofNat 13)]) ([cAr]) = some (Value.tuple #[Value.slice a l l, Value.int IntKind.i64 e], [cAr, o]))]) (by kernel_rfl) (fun hst => ⟨s0, trivial⟩)
theorem cr8_fok : fnOkX (dLCo) [] Try.f74 = true := by kernel_rfl
theorem cr8_p0 (a : Option Addr) (l : Nat) (e : Int) (o : AObj) (s0 : sRFrank ([Value.int IntKind.i64 (Int.ofNat 4)]) ([cAr]) = some (Value.tuple #[Value.slice a l l, Value.int IntKind.i64 e], [cAr, o])) : CallR Try.prog false 74 ([Value.int IntKind.i64 (Int.ofNat 8)]) ([]) (Value.tuple { toList := [Value.slice a l l, Value.int IntKind.i64 e] }) ([cAr, o]) := CallR.of_DOXs (C := dLCo) dLCo_ok (X := []) Try.func74 cr8_fok (n := 3) (orc := [(38, Item.eff (Value.tuple #[Value.slice a l l, Value.int IntKind.i64 e]) [cAr, o])]) (ps := [(sRFrank ([Value.int IntKind.i64 (Int.ofNat 4)]) ([cAr]) = some (Value.tuple #[Value.slice a l l, Value.int IntKind.i64 e], [cAr, o]))]) (by kernel_rfl) (fun hst => ⟨s0, trivial⟩)
theorem cr9_fok : fnOkX (dLCo) [] Try.f74 = true := by kernel_rfl
theorem cr9_p0 (a : Option Addr) (l : Nat) (e : Int) (o : AObj) (s0 : sRFrank ([Value.int IntKind.i64 (Int.ofNat 8)]) ([cAr]) = some (Value.tuple #[Value.slice a l l, Value.int IntKind.i64 e], [cAr, o])) : CallR Try.prog false 74 ([Value.int IntKind.i64 (Int.ofNat 9)]) ([]) (Value.tuple { toList := [Value.slice a l l, Value.int IntKind.i64 e] }) ([cAr, o]) := CallR.of_DOXs (C := dLCo) dLCo_ok (X := []) Try.func74 cr9_fok (n := 3) (orc := [(45, Item.eff (Value.tuple #[Value.slice a l l, Value.int IntKind.i64 e]) [cAr, o])]) (ps := [(sRFrank ([Value.int IntKind.i64 (Int.ofNat 8)]) ([cAr]) = some (Value.tuple #[Value.slice a l l, Value.int IntKind.i64 e], [cAr, o]))]) (by kernel_rfl) (fun hst => ⟨s0, trivial⟩)
theorem cr10_fok : fnOkX (dLCo) [] Try.f74 = true := by kernel_rfl
theorem cr10_p0 (a : Option Addr) (l : Nat) (e : Int) (o : AObj) (s0 : sRChirpW ([Value.int IntKind.i64 (Int.ofNat 32), Value.float FloatKind.f64 4620693217682128896]) ([cAr]) = some (Value.tuple #[Value.slice a l l, Value.int IntKind.i64 e], [cAr, o])) : CallR Try.prog false 74 ([Value.int IntKind.i64 (Int.ofNat 10)]) ([]) (Value.tuple { toList := [Value.slice a l l, Value.int IntKind.i64 e] }) ([cAr, o]) := CallR.of_DOXs (C := dLCo) dLCo_ok (X := []) Try.func74 cr10_fok (n := 3) (orc := [(52, Item.eff (Value.tuple #[Value.slice a l l, Value.int IntKind.i64 e]) [cAr, o])]) (ps := [(sRChirpW ([Value.int IntKind.i64 (Int.ofNat 32), Value.float FloatKind.f64 4620693217682128896]) ([cAr]) = some (Value.tuple #[Value.slice a l l, Value.int IntKind.i64 e], [cAr, o]))]) (by kernel_rfl) (fun hst => ⟨s0, trivial⟩)
theorem cr11_fok : fnOkX (dLCo) [] Try.f74 = true := by kernel_rfl
theorem cr11_p0 (a : Option Addr) (l : Nat) (e : Int) (o : AObj) (s0 : sRChirpW ([Value.int IntKind.i64 (Int.ofNat 64), Value.float FloatKind.f64 4625196817309499392]) ([cAr]) = some (Value.tuple #[Value.slice a l l, Value.int IntKind.i64 e], [cAr, o])) : CallR Try.prog false 74 ([Value.int IntKind.i64 (Int.ofNat 11)]) ([]) (Value.tuple { toList := [Value.slice a l l, Value.int IntKind.i64 e] }) ([cAr, o]) := CallR.of_DOXs (C := dLCo) dLCo_ok (X := []) Try.func74 cr11_fok (n := 3) (orc := [(59, Item.eff (Value.tuple #[Value.slice a l l, Value.int IntKind.i64 e]) [cAr, o])]) (ps := [(sRChirpW ([Value.int IntKind.i64 (Int.ofNat 64), Value.float FloatKind.f64 4625196817309499392]) ([cAr]) = some (Value.tuple #[Value.slice a l l, Value.int IntKind.i64 e], [cAr, o]))]) (by kernel_rfl) (fun hst => ⟨s0, trivial⟩)
theorem cr12_fok : fnOkX (dLCo) [] Try.f74 = true := by kernel_rfl
theorem cr12_p0 (a : Option Addr) (l : Nat) (e : Int) (o : AObj) (s0 : sRSteps ([Value.slice (some { block := 1, off := 0, spot := some 1 }) 10 10, Value.int IntKind.i64 (Int.ofNat 16)]) ([cAr, cAo]) = some (Value.tuple #[Value.slice a l l, Value.int IntKind.i64 e], [cAr, cAo, o])) : CallR Try.prog false 74 ([Value.int IntKind.i64 (Int.ofNat 12)]) ([]) (Value.tuple { toList := [Value.slice a l l, Value.int IntKind.i64 e] }) ([cAr, cAo, o]) := CallR.of_DOXs (C := dLCo) dLCo_ok (X := []) Try.func74 cr12_fok (n := 3) (orc := [(68, Item.eff (Value.tuple #[Value.slice a l l, Value.int IntKind.i64 e]) [cAr, cAo, o])]) (ps := [(sRSteps ([Value.slice (some { block := 1, off := 0, spot := some 1 }) 10 10, Value.int IntKind.i64 (Int.ofNat 16)]) ([cAr, cAo]) = some (Value.tuple #[Value.slice a l l, Value.int IntKind.i64 e], [cAr, cAo, o]))]) (by kernel_rfl) (fun hst => ⟨s0, trivial⟩)
theorem crEa_fok : fnOkX (dLCo) [] Try.f74 = true := by kernel_rfl
theorem crEa_p0 (n : Int) (h : n < 0) (h0 : (n == Int.ofNat 0) = false) (h8 : (n == Int.ofNat 8) = false) (h9 : (n == Int.ofNat 9) = false) (h10 : (n == Int.ofNat 10) = false) (h11 : (n == Int.ofNat 11) = false) (h12 : (n == Int.ofNat 12) = false) : CallR Try.prog false 74 ([Value.int IntKind.i64 n]) ([]) (Value.tuple { toList := [Value.slice none 0 0, Value.int IntKind.i64 (Int.ofNat 40)] }) ([cAr]) := CallR.of_DOXs (C := dLCo) dLCo_ok (X := []) Try.func74 crEa_fok (n := 3) (orc := [(14, Item.br false), (21, Item.br false), (23, Item.br false), (26, Item.res (Value.bool false)), (36, Item.br false), (43, Item.br false), (50, Item.br false), (57, Item.br false), (64, Item.br false)]) (ps := [(bP (n == Int.ofNat 0) false), (some (decide (n ≥ 1) == true) = some false), (some (decide (n ≥ 1) == true) = some false), (pP (none) (some (Value.bool false)) ([cAr]) (decide (n ≥ 1)) (Value.bool false)), (bP (n == Int.ofNat 8) false), (bP (n == Int.ofNat 9) false), (bP (n == Int.ofNat 10) false), (bP (n == Int.ofNat 11) false), (bP (n == Int.ofNat 12) false)]) (by kernel_rfl) (fun hst => ⟨bP_of (fun x => x) h0, ⟨bP_of (fun x => x == true) (show (decide (n ≥ 1)) = false from decide_eq_false (by (try simp only [decide_eq_true_eq, decide_eq_false_iff_not] at *); (try simp only [iN_eq, Int.ofNat_eq_natCast] at *); omega)), ⟨bP_of (fun x => x == true) (show (decide (n ≥ 1)) = false from decide_eq_false (by (try simp only [decide_eq_true_eq, decide_eq_false_iff_not] at *); (try simp only [iN_eq, Int.ofNat_eq_natCast] at *); omega)), ⟨pP_f _ _ _ (congrArg (fun bb => (bb)) (show (decide (n ≥ 1)) = false from decide_eq_false (by (try simp only [decide_eq_true_eq, decide_eq_false_iff_not] at *); (try simp only [iN_eq, Int.ofNat_eq_natCast] at *); omega))), ⟨bP_of (fun x => x) h8, ⟨bP_of (fun x => x) h9, ⟨bP_of (fun x => x) h10, ⟨bP_of (fun x => x) h11, ⟨bP_of (fun x => x) h12, trivial⟩⟩⟩⟩⟩⟩⟩⟩⟩)
theorem crEb_fok : fnOkX (dLCo) [] Try.f74 = true := by kernel_rfl
theorem crEb_p0 (n : Int) (h : 12 < n) (h0 : (n == Int.ofNat 0) = false) (h8 : (n == Int.ofNat 8) = false) (h9 : (n == Int.ofNat 9) = false) (h10 : (n == Int.ofNat 10) = false) (h11 : (n == Int.ofNat 11) = false) (h12 : (n == Int.ofNat 12) = false) : CallR Try.prog false 74 ([Value.int IntKind.i64 n]) ([]) (Value.tuple { toList := [Value.slice none 0 0, Value.int IntKind.i64 (Int.ofNat 40)] }) ([cAr]) := CallR.of_DOXs (C := dLCo) dLCo_ok (X := []) Try.func74 crEb_fok (n := 3) (orc := [(14, Item.br false), (21, Item.br true), (23, Item.br true), (26, Item.res (Value.bool (decide (n ≤ 7)))), (29, Item.br false), (36, Item.br false), (43, Item.br false), (50, Item.br false), (57, Item.br false), (64, Item.br false)]) (ps := [(bP (n == Int.ofNat 0) false), (some (decide (n ≥ 1) == true) = some true), (some (decide (n ≥ 1) == true) = some true), (pP (some (Value.bool (decide (n ≤ 7)))) (some (Value.bool false)) ([cAr]) (decide (n ≥ 1)) (Value.bool (decide (n ≤ 7)))), (some (decide (n ≤ 7)) = some false), (bP (n == Int.ofNat 8) false), (bP (n == Int.ofNat 9) false), (bP (n == Int.ofNat 10) false), (bP (n == Int.ofNat 11) false), (bP (n == Int.ofNat 12) false)]) (by kernel_rfl) (fun hst => ⟨bP_of (fun x => x) h0, ⟨bP_of (fun x => x == true) (show (decide (n ≥ 1)) = true from decide_eq_true (by (try simp only [decide_eq_true_eq, decide_eq_false_iff_not] at *); (try simp only [iN_eq, Int.ofNat_eq_natCast] at *); omega)), ⟨bP_of (fun x => x == true) (show (decide (n ≥ 1)) = true from decide_eq_true (by (try simp only [decide_eq_true_eq, decide_eq_false_iff_not] at *); (try simp only [iN_eq, Int.ofNat_eq_natCast] at *); omega)), ⟨pP_t _ _ _ (congrArg (fun bb => (bb)) (show (decide (n ≥ 1)) = true from decide_eq_true (by (try simp only [decide_eq_true_eq, decide_eq_false_iff_not] at *); (try simp only [iN_eq, Int.ofNat_eq_natCast] at *); omega))), ⟨bP_of (fun x => x) (show (decide (n ≤ 7)) = false from decide_eq_false (by (try simp only [decide_eq_true_eq, decide_eq_false_iff_not] at *); (try simp only [iN_eq, Int.ofNat_eq_natCast] at *); omega)), ⟨bP_of (fun x => x) h8, ⟨bP_of (fun x => x) h9, ⟨bP_of (fun x => x) h10, ⟨bP_of (fun x => x) h11, ⟨bP_of (fun x => x) h12, trivial⟩⟩⟩⟩⟩⟩⟩⟩⟩⟩)
theorem cw0_fok : fnOkX (dLCo) [] Try.f77 = true := by kernel_rfl
theorem cw0_p0 : CallR Try.prog false 77 ([Value.int IntKind.i64 (Int.ofNat 0)]) ([]) (Value.tuple { toList := [Value.slice (some { block := 1, off := 0, spot := some 1 }) 1 1, Value.int IntKind.i64 (Int.ofNat 0)] }) ([cAw, AObj.row [Value.complex FloatKind.f64 4607182418800017408 0] true none]) := CallR.of_DOXs (C := dLCo) dLCo_ok (X := []) Try.func77 cw0_fok (n := 3) (orc := []) (ps := []) (by kernel_rfl) (fun hst => trivial)
theorem cw1_fok : fnOkX (dLCo) [] Try.f77 = true := by kernel_rfl
theorem cw1_p0 (a : Option Addr) (l : Nat) (e : Int) (o : AObj) (s0 : sBk ([Value.int IntKind.i64 (Int.ofNat 2)]) ([cAw]) = some (Value.tuple #[Value.slice a l l, Value.int IntKind.i64 e], [cAw, o])) : CallR Try.prog false 77 ([Value.int IntKind.i64 (Int.ofNat 1)]) ([]) (Value.tuple { toList := [Value.slice a l l, Value.int IntKind.i64 e] }) ([cAw, o]) := CallR.of_DOXs (C := dLCo) dLCo_ok (X := []) Try.func77 cw1_fok (n := 3) (orc := [(39, Item.eff (Value.tuple #[Value.slice a l l, Value.int IntKind.i64 e]) [cAw, o])]) (ps := [(sBk ([Value.int IntKind.i64 (Int.ofNat 2)]) ([cAw]) = some (Value.tuple #[Value.slice a l l, Value.int IntKind.i64 e], [cAw, o]))]) (by kernel_rfl) (fun hst => ⟨s0, trivial⟩)
theorem cw2_fok : fnOkX (dLCo) [] Try.f77 = true := by kernel_rfl
theorem cw2_p0 (a : Option Addr) (l : Nat) (e : Int) (o : AObj) (s0 : sBk ([Value.int IntKind.i64 (Int.ofNat 3)]) ([cAw]) = some (Value.tuple #[Value.slice a l l, Value.int IntKind.i64 e], [cAw, o])) : CallR Try.prog false 77 ([Value.int IntKind.i64 (Int.ofNat 2)]) ([]) (Value.tuple { toList := [Value.slice a l l, Value.int IntKind.i64 e] }) ([cAw, o]) := CallR.of_DOXs (C := dLCo) dLCo_ok (X := []) Try.func77 cw2_fok (n := 3) (orc := [(39, Item.eff (Value.tuple #[Value.slice a l l, Value.int IntKind.i64 e]) [cAw, o])]) (ps := [(sBk ([Value.int IntKind.i64 (Int.ofNat 3)]) ([cAw]) = some (Value.tuple #[Value.slice a l l, Value.int IntKind.i64 e], [cAw, o]))]) (by kernel_rfl) (fun hst => ⟨s0, trivial⟩)
theorem cw3_fok : fnOkX (dLCo) [] Try.f77 = true := by kernel_rfl
theorem cw3_p0 (a : Option Addr) (l : Nat) (e : Int) (o : AObj) (s0 : sBk ([Value.int IntKind.i64 (Int.ofNat 4)]) ([cAw]) = some (Value.tuple #[Value.slice a l l, Value.int IntKind.i64 e], [cAw, o])) : CallR Try.prog false 77 ([Value.int IntKind.i64 (Int.ofNat 3)]) ([]) (Value.tuple { toList := [Value.slice a l l, Value.int IntKind.i64 e] }) ([cAw, o]) := CallR.of_DOXs (C := dLCo) dLCo_ok (X := []) Try.func77 cw3_fok (n := 3) (orc := [(39, Item.eff (Value.tuple #[Value.slice a l l, Value.int IntKind.i64 e]) [cAw, o])]) (ps := [(sBk ([Value.int IntKind.i64 (Int.ofNat 4)]) ([cAw]) = some (Value.tuple #[Value.slice a l l, Value.int IntKind.i64 e], [cAw, o]))]) (by kernel_rfl) (fun hst => ⟨s0, trivial⟩)
theorem cw4_fok : fnOkX (dLCo) [] Try.f77 = true := by kernel_rfl
theorem cw4_p0 (a : Option Addr) (l : Nat) (e : Int) (o : AObj) (s0 : sBk ([Value.int IntKind.i64 (Int.ofNat 5)]) ([cAw]) = some (Value.tuple #[Value.slice a l l, Value.int IntKind.i64 e], [cAw, o])) : CallR Try.prog false 77 ([Value.int IntKind.i64 (Int.ofNat 4)]) ([]) (Value.tuple { toList := [Value.slice a l l, Value.int IntKind.i64 e] }) ([cAw, o]) := CallR.of_DOXs (C := dLCo) dLCo_ok (X := []) Try.func77 cw4_fok (n := 3) (orc := [(39, Item.eff (Value.tuple #[Value.slice a l l, Value.int IntKind.i64 e]) [cAw, o])]) (ps := [(sBk ([Value.int IntKind.i64 (Int.ofNat 5)]) ([cAw]) = some (Value.tuple #[Value.slice a l l, Value.int IntKind.i64 e], [cAw, o]))]) (by kernel_rfl) (fun hst => ⟨s0, trivial⟩)
theorem cw5_fok : fnOkX (dLCo) [] Try.f77 = true := by kernel_rfl
theorem cw5_p0 (a : Option Addr) (l : Nat) (e : Int) (o : AObj) (s0 : sBk ([Value.int IntKind.i64 (Int.ofNat 7)]) ([cAw]) = some (Value.tuple #[Value.slice a l l, Value.int IntKind.i64 e], [cAw, o])) : CallR Try.prog false 77 ([Value.int IntKind.i64 (Int.ofNat 5)]) ([]) (Value.tuple { toList := [Value.slice a l l, Value.int IntKind.i64 e] }) ([cAw, o]) := CallR.of_DOXs (C := dLCo) dLCo_ok (X := []) Try.func77 cw5_fok (n := 3) (orc := [(39, Item.eff (Value.tuple #[Value.slice a l l, Value.int IntKind.i64 e]) [cAw, o])]) (ps := [(sBk ([Value.int IntKind.i64 (Int.ofNat 7)]) ([cAw]) = some (Value.tuple #[Value.slice a l l, Value.int IntKind.i64 e], [cAw, o]))]) (by kernel_rfl) (fun hst => ⟨s0, trivial⟩)
theorem cw6_fok : fnOkX (dLCo) [] Try.f77 = true := by kernel_rfl
theorem cw6_p0 (a : Option Addr) (l : Nat) (e : Int) (o : AObj) (s0 : sBk ([Value.int IntKind.i64 (Int.ofNat 11)]) ([cAw]) = some (Value.tuple #[Value.slice a l l, Value.int IntKind.i64 e], [cAw, o])) : CallR Try.prog false 77 ([Value.int IntKind.i64 (Int.ofNat 6)]) ([]) (Value.tuple { toList := [Value.slice a l l, Value.int IntKind.i64 e] }) ([cAw, o]) := CallR.of_DOXs (C := dLCo) dLCo_ok (X := []) Try.func77 cw6_fok (n := 3) (orc := [(39, Item.eff (Value.tuple #[Value.slice a l l, Value.int IntKind.i64 e]) [cAw, o])]) (ps := [(sBk ([Value.int IntKind.i64 (Int.ofNat 11)]) ([cAw]) = some (Value.tuple #[Value.slice a l l, Value.int IntKind.i64 e], [cAw, o]))]) (by kernel_rfl) (fun hst => ⟨s0, trivial⟩)
theorem cw7_fok : fnOkX (dLCo) [] Try.f77 = true := by kernel_rfl
theorem cw7_p0 (a : Option Addr) (l : Nat) (e : Int) (o : AObj) (s0 : sBk ([Value.int IntKind.i64 (Int.ofNat 13)]) ([cAw]) = some (Value.tuple #[Value.slice a l l, Value.int IntKind.i64 e], [cAw, o])) : CallR Try.prog false 77 ([Value.int IntKind.i64 (Int.ofNat 7)]) ([]) (Value.tuple { toList := [Value.slice a l l, Value.int IntKind.i64 e] }) ([cAw, o]) := CallR.of_DOXs (C := dLCo) dLCo_ok (X := []) Try.func77 cw7_fok (n := 3) (orc := [(39, Item.eff (Value.tuple #[Value.slice a l l, Value.int IntKind.i64 e]) [cAw, o])]) (ps := [(sBk ([Value.int IntKind.i64 (Int.ofNat 13)]) ([cAw]) = some (Value.tuple #[Value.slice a l l, Value.int IntKind.i64 e], [cAw, o]))]) (by kernel_rfl) (fun hst => ⟨s0, trivial⟩)
theorem cw8_fok : fnOkX (dLCo) [] Try.f77 = true := by kernel_rfl
theorem cw8_p0 (a : Option Addr) (l : Nat) (e : Int) (o : AObj) (s0 : sFrank ([Value.int IntKind.i64 (Int.ofNat 4)]) ([cAw]) = some (Value.tuple #[Value.slice a l l, Value.int IntKind.i64 e], [cAw, o])) : CallR Try.prog false 77 ([Value.int IntKind.i64 (Int.ofNat 8)]) ([]) (Value.tuple { toList := [Value.slice a l l, Value.int IntKind.i64 e] }) ([cAw, o]) := CallR.of_DOXs (C := dLCo) dLCo_ok (X := []) Try.func77 cw8_fok (n := 3) (orc := [(40, Item.eff (Value.tuple #[Value.slice a l l, Value.int IntKind.i64 e]) [cAw, o])]) (ps := [(sFrank ([Value.int IntKind.i64 (Int.ofNat 4)]) ([cAw]) = some (Value.tuple #[Value.slice a l l, Value.int IntKind.i64 e], [cAw, o]))]) (by kernel_rfl) (fun hst => ⟨s0, trivial⟩)
theorem cw9_fok : fnOkX (dLCo) [] Try.f77 = true := by kernel_rfl
theorem cw9_p0 (a : Option Addr) (l : Nat) (e : Int) (o : AObj) (s0 : sFrank ([Value.int IntKind.i64 (Int.ofNat 8)]) ([cAw]) = some (Value.tuple #[Value.slice a l l, Value.int IntKind.i64 e], [cAw, o])) : CallR Try.prog false 77 ([Value.int IntKind.i64 (Int.ofNat 9)]) ([]) (Value.tuple { toList := [Value.slice a l l, Value.int IntKind.i64 e] }) ([cAw, o]) := CallR.of_DOXs (C := dLCo) dLCo_ok (X := []) Try.func77 cw9_fok (n := 3) (orc := [(47, Item.eff (Value.tuple #[Value.slice a l l, Value.int IntKind.i64 e]) [cAw, o])]) (ps := [(sFrank ([Value.int IntKind.i64 (Int.ofNat 8)]) ([cAw]) = some (Value.tuple #[Value.slice a l l, Value.int IntKind.i64 e], [cAw, o]))]) (by kernel_rfl) (fun hst => ⟨s0, trivial⟩)
theorem cw10_fok : fnOkX (dLCo) [] Try.f77 = true := by kernel_rfl
theorem cw10_p0 (a : Option Addr) (l : Nat) (e : Int) (o : AObj) (s0 : sChirpW ([Value.int IntKind.i64 (Int.ofNat 32), Value.float FloatKind.f64 4620693217682128896]) ([cAw]) = some (Value.tuple #[Value.slice a l l, Value.int IntKind.i64 e], [cAw, o])) : CallR Try.prog false 77 ([Value.int IntKind.i64 (Int.ofNat 10)]) ([]) (Value.tuple { toList := [Value.slice a l l, Value.int IntKind.i64 e] }) ([cAw, o]) := CallR.of_DOXs (C := dLCo) dLCo_ok (X := []) Try.func77 cw10_fok (n := 3) (orc := [(54, Item.eff (Value.tuple #[Value.slice a l l, Value.int IntKind.i64 e]) [cAw, o])]) (ps := [(sChirpW ([Value.int IntKind.i64 (Int.ofNat 32), Value.float FloatKind.f64 4620693217682128896]) ([cAw]) = some (Value.tuple #[Value.slice a l l, Value.int IntKind.i64 e], [cAw, o]))]) (by kernel_rfl) (fun hst => ⟨s0, trivial⟩)
theorem cw11_fok : fnOkX (dLCo) [] Try.f77 = true := by kernel_rfl
theorem cw11_p0 (a : Option Addr) (l : Nat) (e : Int) (o : AObj) (s0 : sChirpW ([Value.int IntKind.i64 (Int.ofNat 64), Value.float FloatKind.f64 4625196817309499392]) ([cAw]) = some (Value.tuple #[Value.slice a l l, Value.int IntKind.i64 e], [cAw, o])) : CallR Try.prog false 77 ([Value.int IntKind.i64 (Int.ofNat 11)]) ([]) (Value.tuple { toList := [Value.slice a l l, Value.int IntKind.i64 e] }) ([cAw, o]) := CallR.of_DOXs (C := dLCo) dLCo_ok (X := []) Try.func77 cw11_fok (n := 3) (orc := [(61, Item.eff (Value.tuple #[Value.slice a l l, Value.int IntKind.i64 e]) [cAw, o])]) (ps := [(sChirpW ([Value.int IntKind.i64 (Int.ofNat 64), Value.float FloatKind.f64 4625196817309499392]) ([cAw]) = some (Value.tuple #[Value.slice a l l, Value.int IntKind.i64 e], [cAw, o]))]) (by kernel_rfl) (fun hst => ⟨s0, trivial⟩)
theorem cw12_fok : fnOkX (dLCo) [] Try.f77 = true := by kernel_rfl
theorem cw12_p0 (a : Option Addr) (l : Nat) (e : Int) (o : AObj) (s0 : sSteps ([Value.slice (some { block := 1, off := 0, spot := some 1 }) 10 10, Value.int IntKind.i64 (Int.ofNat 16)]) ([cAw, cAo]) = some (Value.tuple #[Value.slice a l l, Value.int IntKind.i64 e], [cAw, cAo, o])) : CallR Try.prog false 77 ([Value.int IntKind.i64 (Int.ofNat 12)]) ([]) (Value.tuple { toList := [Value.slice a l l, Value.int IntKind.i64 e] }) ([cAw, cAo, o]) := CallR.of_DOXs (C := dLCo) dLCo_ok (X := []) Try.func77 cw12_fok (n := 3) (orc := [(70, Item.eff (Value.tuple #[Value.slice a l l, Value.int IntKind.i64 e]) [cAw, cAo, o])]) (ps := [(sSteps ([Value.slice (some { block := 1, off := 0, spot := some 1 }) 10 10, Value.int IntKind.i64 (Int.ofNat 16)]) ([cAw, cAo]) = some (Value.tuple #[Value.slice a l l, Value.int IntKind.i64 e], [cAw, cAo, o]))]) (by kernel_rfl) (fun hst => ⟨s0, trivial⟩)
theorem cwEa_fok : fnOkX (dLCo) [] Try.f77 = true := by kernel_rfl
theorem cwEa_p0 (n : Int) (h : n < 0) (h0 : (n == Int.ofNat 0) = false) (h8 : (n == Int.ofNat 8) = false) (h9 : (n == Int.ofNat 9) = false) (h10 : (n == Int.ofNat 10) = false) (h11 : (n == Int.ofNat 11) = false) (h12 : (n == Int.ofNat 12) = false) : CallR Try.prog false 77 ([Value.int IntKind.i64 n]) ([]) (Value.tuple { toList := [Value.slice none 0 0, Value.int IntKind.i64 (Int.ofNat 40)] }) ([cAw]) := CallR.of_DOXs (C := dLCo) dLCo_ok (X := []) Try.func77 cwEa_fok (n := 3) (orc := [(16, Item.br false), (23, Item.br false), (25, Item.br false), (28, Item.res (Value.bool false)), (38, Item.br false), (45, Item.br false), (52, Item.br false), (59, Item.br false), (66, Item.br false)]) (ps := [(bP (n == Int.ofNat 0) false), (some (decide (n > 0) == true) = some false), (some (decide (n > 0) == true) = some false), (pP (none) (some (Value.bool false)) ([cAw]) (decide (n > 0)) (Value.bool false)), (bP (n == Int.ofNat 8) false), (bP (n == Int.ofNat 9) false), (bP (n == Int.ofNat 10) false), (bP (n == Int.ofNat 11) false), (bP (n == Int.ofNat 12) false)]) (by kernel_rfl) (fun hst => ⟨bP_of (fun x => x) h0, ⟨bP_of (fun x => x == true) (show (decide (n > 0)) = false from decide_eq_false (by (try simp only [decide_eq_true_eq, decide_eq_false_iff_not] at *); (try simp only [iN_eq, Int.ofNat_eq_natCast] at *); omega)), ⟨bP_of (fun x => x == true) (show (decide (n > 0)) = false from decide_eq_false (by (try simp only [decide_eq_true_eq, decide_eq_false_iff_not] at *); (try simp only [iN_eq, Int.ofNat_eq_natCast] at *); omega)), ⟨pP_f _ _ _ (congrArg (fun bb => (bb)) (show (decide (n > 0)) = false from decide_eq_false (by (try simp only [decide_eq_true_eq, decide_eq_false_iff_not] at *); (try simp only [iN_eq, Int.ofNat_eq_natCast] at *); omega))), ⟨bP_of (fun x => x) h8, ⟨bP_of (fun x => x) h9, ⟨bP_of (fun x => x) h10, ⟨bP_of (fun x => x) h11, ⟨bP_of (fun x => x) h12, trivial⟩⟩⟩⟩⟩⟩⟩⟩⟩)
theorem cwEb_fok : fnOkX (dLCo) [] Try.f77 = true := by kernel_rfl
theorem cwEb_p0 (n : Int) (h : 12 < n) (h0 : (n == Int.ofNat 0) = false) (h8 : (n == Int.ofNat 8) = false) (h9 : (n == Int.ofNat 9) = false) (h10 : (n == Int.ofNat 10) = false) (h11 : (n == Int.ofNat 11) = false) (h12 : (n == Int.ofNat 12) = false) : CallR Try.prog false 77 ([Value.int IntKind.i64 n]) ([]) (Value.tuple { toList := [Value.slice none 0 0, Value.int IntKind.i64 (Int.ofNat 40)] }) ([cAw]) := CallR.of_DOXs (C := dLCo) dLCo_ok (X := []) Try.func77 cwEb_fok (n := 3) (orc := [(16, Item.br false), (23, Item.br true), (25, Item.br true), (28, Item.res (Value.bool (decide (n < 8)))), (31, Item.br false), (38, Item.br false), (45, Item.br false), (52, Item.br false), (59, Item.br false), (66, Item.br false)]) (ps := [(bP (n == Int.ofNat 0) false), (some (decide (n > 0) == true) = some true), (some (decide (n > 0) == true) = some true), (pP (some (Value.bool (decide (n < 8)))) (some (Value.bool false)) ([cAw]) (decide (n > 0)) (Value.bool (decide (n < 8)))), (some (decide (n < 8)) = some false), (bP (n == Int.ofNat 8) false), (bP (n == Int.ofNat 9) false), (bP (n == Int.ofNat 10) false), (bP (n == Int.ofNat 11) false), (bP (n == Int.ofNat 12) false)]) (by kernel_rfl) (fun hst => ⟨bP_of (fun x => x) h0, ⟨bP_of (fun x => x == true) (show (decide (n > 0)) = true from decide_eq_true (by (try simp only [decide_eq_true_eq, decide_eq_false_iff_not] at *); (try simp only [iN_eq, Int.ofNat_eq_natCast] at *); omega)), ⟨bP_of (fun x => x == true) (show (decide (n > 0)) = true from decide_eq_true (by (try simp only [decide_eq_true_eq, decide_eq_false_iff_not] at *); (try simp only [iN_eq, Int.ofNat_eq_natCast] at *); omega)), ⟨pP_t _ _ _ (congrArg (fun bb => (bb)) (show (decide (n > 0)) = true from decide_eq_true (by (try simp only [decide_eq_true_eq, decide_eq_false_iff_not] at *); (try simp only [iN_eq, Int.ofNat_eq_natCast] at *); omega))), ⟨bP_of (fun x => x) (show (decide (n < 8)) = false from decide_eq_false (by (try simp only [decide_eq_true_eq, decide_eq_false_iff_not] at *); (try simp only [iN_eq, Int.ofNat_eq_natCast] at *); omega)), ⟨bP_of (fun x => x) h8, ⟨bP_of (fun x => x) h9, ⟨bP_of (fun x => x) h10, ⟨bP_of (fun x => x) h11, ⟨bP_of (fun x => x) h12, trivial⟩⟩⟩⟩⟩⟩⟩⟩⟩⟩)
end Go.Lk
end

section
/- Codes by their numbers: contracts, joined. -/
namespace Go.Lk
open Go.Proofs
set_option maxRecDepth 100000
set_option linter.unusedVariables false
set_option linter.unusedSimpArgs false
theorem aVal_eq (k z : Nat) (x : An) : aVal k z x = .tuple #[.slice (aAd k x.n z) x.n x.n, .int .i64 x.e] := by unfold aVal; rw [aSl_eq]
theorem sAn_side {z : Nat} {row : (Nat → Nat) → (Nat → Nat) → Nat → List Value} {h : List Value → Option An} {args : List Value} {x : An} (hx : h args = some x) (σ : AHeap) :
    sAn z row h args σ = some (.tuple #[.slice (aAd σ.length x.n z) x.n x.n, .int .i64 x.e], σ ++ [aObj z row x]) := by
  unfold sAn
  rw [hx]
  simp only [aVal_eq]
theorem AnCall.in' {f : FuncId} {args : List Value} {z k : Nat} {row : (Nat → Nat) → (Nat → Nat) → Nat → List Value} {x : An} {σ' : AHeap} (h : CallR Try.prog false f args [] (.tuple #[.slice (aAd k x.n z) x.n x.n, .int .i64 x.e]) σ') (hk : σ'[k]? = some (aObj z row x)) : AnCall f args z row x :=
  AnCall.inner (by rw [aVal_eq]; exact h) hk
/-- The order of the twelfth code. -/
def w12 : Nat → Int := intAt [.int .i64 1, .int .i64 2, .int .i64 4, .int .i64 8, .int .i64 5, .int .i64 10, .int .i64 9, .int .i64 7, .int .i64 3, .int .i64 6]
def coAn (fA fB : Nat → Nat → Nat) (fin : Nat → Bool) (A B : (Nat → Int) → Nat → Nat → Nat) (n : Int) : An :=
  bif n == Int.ofNat 0 then ⟨1, fun _ => 4607182418800017408, fun _ => 0, 0⟩ else bif n == Int.ofNat 1 then bkAn 2 else bif n == Int.ofNat 2 then bkAn 3 else bif n == Int.ofNat 3 then bkAn 4 else bif n == Int.ofNat 4 then bkAn 5 else
  bif n == Int.ofNat 5 then bkAn 7 else bif n == Int.ofNat 6 then bkAn 11 else bif n == Int.ofNat 7 then bkAn 13 else bif n == Int.ofNat 8 then frAn fA fB 4 else bif n == Int.ofNat 9 then frAn fA fB 8 else
  bif n == Int.ofNat 10 then chAn fin cwA cwB 32 4620693217682128896 else bif n == Int.ofNat 11 then chAn fin cwA cwB 64 4625196817309499392 else bif n == Int.ofNat 12 then stAn A B w12 10 16 else anErr 40
def coH (fA fB : Nat → Nat → Nat) (fin : Nat → Bool) (A B : (Nat → Int) → Nat → Nat → Nat) : List Value → Option An
  | [.int .i64 n] => some (coAn fA fB fin A B n)
  | _ => none
def sRCode : HeapFn := sAn 2 pRow (coH frA frB cRFin_0 srA srB)
def sCode : HeapFn := sAn 1 xRow (coH fwA fwB cFin_0 swA swB)
theorem ne_beq {n : Int} {k : Nat} (h : ¬ n = (k : Int)) : (n == Int.ofNat k) = false := by simpa using h
theorem co_all {f z : Nat} {row : (Nat → Nat) → (Nat → Nat) → Nat → List Value} {fA fB : Nat → Nat → Nat} {fin : Nat → Bool} {A B : (Nat → Int) → Nat → Nat → Nat}
    (h0 : AnCall f [.int .i64 0] z row ⟨1, fun _ => 4607182418800017408, fun _ => 0, 0⟩) (h1 : AnCall f [.int .i64 1] z row (bkAn 2)) (h2 : AnCall f [.int .i64 2] z row (bkAn 3)) (h3 : AnCall f [.int .i64 3] z row (bkAn 4)) (h4 : AnCall f [.int .i64 4] z row (bkAn 5))
    (h5 : AnCall f [.int .i64 5] z row (bkAn 7)) (h6 : AnCall f [.int .i64 6] z row (bkAn 11)) (h7 : AnCall f [.int .i64 7] z row (bkAn 13)) (h8 : AnCall f [.int .i64 8] z row (frAn fA fB 4)) (h9 : AnCall f [.int .i64 9] z row (frAn fA fB 8))
    (h10 : AnCall f [.int .i64 10] z row (chAn fin cwA cwB 32 4620693217682128896)) (h11 : AnCall f [.int .i64 11] z row (chAn fin cwA cwB 64 4625196817309499392)) (h12 : AnCall f [.int .i64 12] z row (stAn A B w12 10 16))
    (hE : ∀ n : Int, (n < 0 ∨ 12 < n) → (n == Int.ofNat 0) = false → (n == Int.ofNat 8) = false → (n == Int.ofNat 9) = false → (n == Int.ofNat 10) = false → (n == Int.ofNat 11) = false → (n == Int.ofNat 12) = false → ∃ σ', CallR Try.prog false f [.int .i64 n] [] (.tuple #[.slice none 0 0, .int .i64 40]) σ')
    (n : Int) : AnCall f [.int .i64 n] z row (coAn fA fB fin A B n) := by
  by_cases e0 : n = 0; · subst e0; exact h0
  by_cases e1 : n = 1; · subst e1; exact h1
  by_cases e2 : n = 2; · subst e2; exact h2
  by_cases e3 : n = 3; · subst e3; exact h3
  by_cases e4 : n = 4; · subst e4; exact h4
  by_cases e5 : n = 5; · subst e5; exact h5
  by_cases e6 : n = 6; · subst e6; exact h6
  by_cases e7 : n = 7; · subst e7; exact h7
  by_cases e8 : n = 8; · subst e8; exact h8
  by_cases e9 : n = 9; · subst e9; exact h9
  by_cases e10 : n = 10; · subst e10; exact h10
  by_cases e11 : n = 11; · subst e11; exact h11
  by_cases e12 : n = 12; · subst e12; exact h12
  obtain ⟨σ', h⟩ := hE n (by omega) (ne_beq e0) (ne_beq e8) (ne_beq e9) (ne_beq e10) (ne_beq e11) (ne_beq e12)
  unfold coAn
  rw [ne_beq (k := 0) e0, ne_beq (k := 1) e1, ne_beq (k := 2) e2, ne_beq (k := 3) e3, ne_beq (k := 4) e4, ne_beq (k := 5) e5, ne_beq (k := 6) e6, ne_beq (k := 7) e7, ne_beq (k := 8) e8, ne_beq (k := 9) e9, ne_beq (k := 10) e10, ne_beq (k := 11) e11, ne_beq (k := 12) e12]
  exact .err h
theorem st_side {z m cap b : Nat} {n : Int} {row : (Nat → Nat) → (Nat → Nat) → Nat → List Value} {h : (Nat → Int) → Nat → Int → An} {w : Nat → Int} {vs : List Value} {rw' : Bool} {opn : Option Nat} {σ : AHeap}
    (hσ : σ[b]? = some (.row vs rw' opn)) (hv : vs.all isI64 = true) (hm : Nat.ble m vs.length = true) (he : h (intAt vs) m n = h w m n) :
    sAnS z row h [.slice (some ⟨b, 0, some 1⟩) m cap, .int .i64 n] σ = some (.tuple #[.slice (aAd σ.length (h w m n).n z) (h w m n).n (h w m n).n, .int .i64 (h w m n).e], σ ++ [aObj z row (h w m n)]) := by
  unfold sAnS
  simp only [hσ, hv, hm, Bool.and_self, cond_true, he, aVal_eq]
theorem sRCode_ok : IsHeap Try.prog false 74 false sRCode := sAn_is pRow_plain fun args x h => by
  unfold coH at h
  split at h
  · cases h
    refine ⟨rfl, co_all ?_ ?_ ?_ ?_ ?_ ?_ ?_ ?_ ?_ ?_ ?_ ?_ ?_ ?_ _⟩
    · exact .inr ⟨Nat.succ_pos _, _, _, none, cr0_p0, rfl, .inl rfl⟩
    · exact .in' (cr1_p0 _ _ _ _ (sAn_side (x := bkAn 2) rfl _)) rfl
    · exact .in' (cr2_p0 _ _ _ _ (sAn_side (x := bkAn 3) rfl _)) rfl
    · exact .in' (cr3_p0 _ _ _ _ (sAn_side (x := bkAn 4) rfl _)) rfl
    · exact .in' (cr4_p0 _ _ _ _ (sAn_side (x := bkAn 5) rfl _)) rfl
    · exact .in' (cr5_p0 _ _ _ _ (sAn_side (x := bkAn 7) rfl _)) rfl
    · exact .in' (cr6_p0 _ _ _ _ (sAn_side (x := bkAn 11) rfl _)) rfl
    · exact .in' (cr7_p0 _ _ _ _ (sAn_side (x := bkAn 13) rfl _)) rfl
    · exact .in' (cr8_p0 _ _ _ _ (sAn_side (x := frAn frA frB 4) rfl _)) rfl
    · exact .in' (cr9_p0 _ _ _ _ (sAn_side (x := frAn frA frB 8) rfl _)) rfl
    · exact .in' (cr10_p0 _ _ _ _ (sAn_side (x := chAn cRFin_0 cwA cwB 32 4620693217682128896) rfl _)) rfl
    · exact .in' (cr11_p0 _ _ _ _ (sAn_side (x := chAn cRFin_0 cwA cwB 64 4625196817309499392) rfl _)) rfl
    · exact .in' (cr12_p0 _ _ _ _ (st_side (w := w12) (h := stAn srA srB) (m := 10) (n := 16) rfl rfl rfl rfl)) rfl
    · intro n h h0 h8 h9 h10 h11 h12
      rcases h with h | h
      · exact ⟨_, crEa_p0 n h h0 h8 h9 h10 h11 h12⟩
      · exact ⟨_, crEb_p0 n h h0 h8 h9 h10 h11 h12⟩
  · cases h
theorem sCode_ok : IsHeap Try.prog false 77 false sCode := sAn_is xRow_plain fun args x h => by
  unfold coH at h
  split at h
  · cases h
    refine ⟨rfl, co_all ?_ ?_ ?_ ?_ ?_ ?_ ?_ ?_ ?_ ?_ ?_ ?_ ?_ ?_ _⟩
    · exact .inr ⟨Nat.succ_pos _, _, _, none, cw0_p0, rfl, .inl rfl⟩
    · exact .in' (cw1_p0 _ _ _ _ (sAn_side (x := bkAn 2) rfl _)) rfl
    · exact .in' (cw2_p0 _ _ _ _ (sAn_side (x := bkAn 3) rfl _)) rfl
    · exact .in' (cw3_p0 _ _ _ _ (sAn_side (x := bkAn 4) rfl _)) rfl
    · exact .in' (cw4_p0 _ _ _ _ (sAn_side (x := bkAn 5) rfl _)) rfl
    · exact .in' (cw5_p0 _ _ _ _ (sAn_side (x := bkAn 7) rfl _)) rfl
    · exact .in' (cw6_p0 _ _ _ _ (sAn_side (x := bkAn 11) rfl _)) rfl
    · exact .in' (cw7_p0 _ _ _ _ (sAn_side (x := bkAn 13) rfl _)) rfl
    · exact .in' (cw8_p0 _ _ _ _ (sAn_side (x := frAn fwA fwB 4) rfl _)) rfl
    · exact .in' (cw9_p0 _ _ _ _ (sAn_side (x := frAn fwA fwB 8) rfl _)) rfl
    · exact .in' (cw10_p0 _ _ _ _ (sAn_side (x := chAn cFin_0 cwA cwB 32 4620693217682128896) rfl _)) rfl
    · exact .in' (cw11_p0 _ _ _ _ (sAn_side (x := chAn cFin_0 cwA cwB 64 4625196817309499392) rfl _)) rfl
    · exact .in' (cw12_p0 _ _ _ _ (st_side (w := w12) (h := stAn swA swB) (m := 10) (n := 16) rfl rfl rfl rfl)) rfl
    · intro n h h0 h8 h9 h10 h11 h12
      rcases h with h | h
      · exact ⟨_, cwEa_p0 n h h0 h8 h9 h10 h11 h12⟩
      · exact ⟨_, cwEb_p0 n h h0 h8 h9 h10 h11 h12⟩
  · cases h
end Go.Lk
end

section
/- PulseCodes: its path. -/
namespace Go.Lk
open Go.Proofs
set_option maxRecDepth 100000
set_option maxHeartbeats 0
set_option linter.unusedVariables false
set_option linter.unusedSimpArgs false
noncomputable def t9x : Tab := (t9w.addH 74 false sRCode).addH 77 false sCode
theorem t9x_ok : t9x.Ok Try.prog false := Tab.Ok.addH (Tab.Ok.addH t9w_ok sRCode_ok) sCode_ok
noncomputable def LPd : Lib := ⟨Try.prog, false, t9x, [], []⟩
theorem LPd_fp : ∀ e, e ∈ LPd.pures → Try.prog.funcs[e.1]? = some e.2 := fs_nil
theorem LPd_fh : ∀ e, e ∈ LPd.heaps → Try.prog.funcs[e.1]? = some e.2.2 := gs_nil
theorem LPd_p1 (gp : Nat → PureFn) (g : Nat → HeapFn) : (LPd.pures.all fun e => fnOk (LPd.mk' gp g) e.2) = true := by kernel_rfl
theorem LPd_h1 (gp : Nat → PureFn) (g : Nat → HeapFn) : (LPd.heaps.all fun e => fnOk (LPd.mk' gp g) e.2.2 && (!e.2.1 || fnRo (LPd.mk' gp g) e.2.2)) = true := by kernel_rfl
theorem LPd_ok : LPd.Ok := ⟨t9x_ok, mixed, LPd_fp, LPd_fh, LPd_p1, LPd_h1⟩
noncomputable def dLPd : Cfg := LPd.cfg 100 6
theorem dLPd_ok : dLPd.Ok := LPd_ok.cfg 100 6

theorem pco_fok : fnOkX (dLPd) [] Try.f16 = true := by kernel_rfl
theorem pco_p0 (n : Int) (a1 : Option Addr) (a2 : Option Addr) (a3 : Option Addr) (a4 : Option Addr) (a5 : Option Addr) (a6 : Option Addr) (a7 : Option Addr) (a8 : Option Addr) (a9 : Option Addr) (l1 : Nat) (l2 : Nat) (l3 : Nat) (l4 : Nat) (l5 : Nat) (l6 : Nat) (l7 : Nat) (l8 : Nat) (l9 : Nat) (e1 : Int) (e2 : Int) (e3 : Int) (e4 : Int) (e5 : Int) (e6 : Int) (e7 : Int) (e8 : Int) (e9 : Int) (o1 : AObj) (o2 : AObj) (o3 : AObj) (o4 : AObj) (o5 : AObj) (o6 : AObj) (o7 : AObj) (o8 : AObj) (o9 : AObj) (u4 : AObj) (u5 : AObj) (u6 : AObj) (u7 : AObj) (u8 : AObj) (u9 : AObj) (s0 : sToldW ([Value.slice a8 l8 l8, Value.slice a9 l9 l9, Value.int IntKind.i64 e8, Value.int IntKind.i64 e9, Value.slice a3 l3 l3, Value.int IntKind.i64 e3]) ([o1, o2, o3, u4, u5, u6, u7, o8, o9]) = some (Value.bool true, [o1, o2, o3, u4, u5, u6, u7, u8, u9])) (s1 : sCode ([Value.int IntKind.i64 n]) ([o1, o2, o3, u4, u5, u6, u7, o8]) = some (Value.tuple #[Value.slice a9 l9 l9, Value.int IntKind.i64 e9], [o1, o2, o3, u4, u5, u6, u7, o8, o9])) (s2 : sCode ([Value.int IntKind.i64 n]) ([o1, o2, o3, u4, u5, u6, u7]) = some (Value.tuple #[Value.slice a8 l8 l8, Value.int IntKind.i64 e8], [o1, o2, o3, u4, u5, u6, u7, o8])) (s3 : sToldW ([Value.slice a6 l6 l6, Value.slice a7 l7 l7, Value.int IntKind.i64 e6, Value.int IntKind.i64 e7, Value.slice a2 l2 l2, Value.int IntKind.i64 e2]) ([o1, o2, o3, u4, u5, o6, o7]) = some (Value.bool true, [o1, o2, o3, u4, u5, u6, u7])) (s4 : sFrank ([Value.int IntKind.i64 n]) ([o1, o2, o3, u4, u5, o6]) = some (Value.tuple #[Value.slice a7 l7 l7, Value.int IntKind.i64 e7], [o1, o2, o3, u4, u5, o6, o7])) (s5 : sFrank ([Value.int IntKind.i64 n]) ([o1, o2, o3, u4, u5]) = some (Value.tuple #[Value.slice a6 l6 l6, Value.int IntKind.i64 e6], [o1, o2, o3, u4, u5, o6])) (s6 : sToldW ([Value.slice a4 l4 l4, Value.slice a5 l5 l5, Value.int IntKind.i64 e4, Value.int IntKind.i64 e5, Value.slice a1 l1 l1, Value.int IntKind.i64 e1]) ([o1, o2, o3, o4, o5]) = some (Value.bool true, [o1, o2, o3, u4, u5])) (s7 : sBk ([Value.int IntKind.i64 n]) ([o1, o2, o3, o4]) = some (Value.tuple #[Value.slice a5 l5 l5, Value.int IntKind.i64 e5], [o1, o2, o3, o4, o5])) (s8 : sBk ([Value.int IntKind.i64 n]) ([o1, o2, o3]) = some (Value.tuple #[Value.slice a4 l4 l4, Value.int IntKind.i64 e4], [o1, o2, o3, o4])) (s9 : sRCode ([Value.int IntKind.i64 n]) ([o1, o2]) = some (Value.tuple #[Value.slice a3 l3 l3, Value.int IntKind.i64 e3], [o1, o2, o3])) (s10 : sRFrank ([Value.int IntKind.i64 n]) ([o1]) = some (Value.tuple #[Value.slice a2 l2 l2, Value.int IntKind.i64 e2], [o1, o2])) (s11 : sRBk ([Value.int IntKind.i64 n]) ([]) = some (Value.tuple #[Value.slice a1 l1 l1, Value.int IntKind.i64 e1], [o1])) : CallR Try.prog false 16 ([Value.int IntKind.i64 n]) ([]) (Value.bool true) ([o1, o2, o3, u4, u5, u6, u7, u8, u9]) := CallR.of_DOXs (C := dLPd) dLPd_ok (X := []) Try.func16 pco_fok (n := 3) (orc := [(5, Item.eff (Value.tuple #[Value.slice a1 l1 l1, Value.int IntKind.i64 e1]) [o1]), (19, Item.eff (Value.tuple #[Value.slice a2 l2 l2, Value.int IntKind.i64 e2]) [o1, o2]), (33, Item.eff (Value.tuple #[Value.slice a3 l3 l3, Value.int IntKind.i64 e3]) [o1, o2, o3]), (47, Item.eff (Value.tuple #[Value.slice a4 l4 l4, Value.int IntKind.i64 e4]) [o1, o2, o3, o4]), (61, Item.eff (Value.tuple #[Value.slice a5 l5 l5, Value.int IntKind.i64 e5]) [o1, o2, o3, o4, o5]), (85, Item.eff (Value.bool true) [o1, o2, o3, u4, u5]), (92, Item.eff (Value.tuple #[Value.slice a6 l6 l6, Value.int IntKind.i64 e6]) [o1, o2, o3, u4, u5, o6]), (106, Item.eff (Value.tuple #[Value.slice a7 l7 l7, Value.int IntKind.i64 e7]) [o1, o2, o3, u4, u5, o6, o7]), (130, Item.eff (Value.bool true) [o1, o2, o3, u4, u5, u6, u7]), (137, Item.eff (Value.tuple #[Value.slice a8 l8 l8, Value.int IntKind.i64 e8]) [o1, o2, o3, u4, u5, u6, u7, o8]), (151, Item.eff (Value.tuple #[Value.slice a9 l9 l9, Value.int IntKind.i64 e9]) [o1, o2, o3, u4, u5, u6, u7, o8, o9]), (175, Item.eff (Value.bool true) [o1, o2, o3, u4, u5, u6, u7, u8, u9])]) (ps := [(sRBk ([Value.int IntKind.i64 n]) ([]) = some (Value.tuple #[Value.slice a1 l1 l1, Value.int IntKind.i64 e1], [o1])), (sRFrank ([Value.int IntKind.i64 n]) ([o1]) = some (Value.tuple #[Value.slice a2 l2 l2, Value.int IntKind.i64 e2], [o1, o2])), (sRCode ([Value.int IntKind.i64 n]) ([o1, o2]) = some (Value.tuple #[Value.slice a3 l3 l3, Value.int IntKind.i64 e3], [o1, o2, o3])), (sBk ([Value.int IntKind.i64 n]) ([o1, o2, o3]) = some (Value.tuple #[Value.slice a4 l4 l4, Value.int IntKind.i64 e4], [o1, o2, o3, o4])), (sBk ([Value.int IntKind.i64 n]) ([o1, o2, o3, o4]) = some (Value.tuple #[Value.slice a5 l5 l5, Value.int IntKind.i64 e5], [o1, o2, o3, o4, o5])), (sToldW ([Value.slice a4 l4 l4, Value.slice a5 l5 l5, Value.int IntKind.i64 e4, Value.int IntKind.i64 e5, Value.slice a1 l1 l1, Value.int IntKind.i64 e1]) ([o1, o2, o3, o4, o5]) = some (Value.bool true, [o1, o2, o3, u4, u5])), (sFrank ([Value.int IntKind.i64 n]) ([o1, o2, o3, u4, u5]) = some (Value.tuple #[Value.slice a6 l6 l6, Value.int IntKind.i64 e6], [o1, o2, o3, u4, u5, o6])), (sFrank ([Value.int IntKind.i64 n]) ([o1, o2, o3, u4, u5, o6]) = some (Value.tuple #[Value.slice a7 l7 l7, Value.int IntKind.i64 e7], [o1, o2, o3, u4, u5, o6, o7])), (sToldW ([Value.slice a6 l6 l6, Value.slice a7 l7 l7, Value.int IntKind.i64 e6, Value.int IntKind.i64 e7, Value.slice a2 l2 l2, Value.int IntKind.i64 e2]) ([o1, o2, o3, u4, u5, o6, o7]) = some (Value.bool true, [o1, o2, o3, u4, u5, u6, u7])), (sCode ([Value.int IntKind.i64 n]) ([o1, o2, o3, u4, u5, u6, u7]) = some (Value.tuple #[Value.slice a8 l8 l8, Value.int IntKind.i64 e8], [o1, o2, o3, u4, u5, u6, u7, o8])), (sCode ([Value.int IntKind.i64 n]) ([o1, o2, o3, u4, u5, u6, u7, o8]) = some (Value.tuple #[Value.slice a9 l9 l9, Value.int IntKind.i64 e9], [o1, o2, o3, u4, u5, u6, u7, o8, o9])), (sToldW ([Value.slice a8 l8 l8, Value.slice a9 l9 l9, Value.int IntKind.i64 e8, Value.int IntKind.i64 e9, Value.slice a3 l3 l3, Value.int IntKind.i64 e3]) ([o1, o2, o3, u4, u5, u6, u7, o8, o9]) = some (Value.bool true, [o1, o2, o3, u4, u5, u6, u7, u8, u9]))]) (by kernel_rfl) (fun hst => ⟨s11, ⟨s10, ⟨s9, ⟨s8, ⟨s7, ⟨s6, ⟨s5, ⟨s4, ⟨s3, ⟨s2, ⟨s1, ⟨s0, trivial⟩⟩⟩⟩⟩⟩⟩⟩⟩⟩⟩⟩)
end Go.Lk
end

section
/- PulseCodes: the plain law. -/
namespace Go.Lk
open Go.Proofs
set_option maxRecDepth 100000
set_option linter.unusedVariables false
set_option linter.unusedSimpArgs false
/-- Two answers that told takes for one. -/
structure Alike (x y : An) : Prop where
  n : x.n = y.n
  e : x.e = y.e
  le : x.n ≤ 16384
  z : x.n = 0 → x.e = 0 ∨ x.e = 2 ∨ x.e = 3 ∨ x.e = 6 ∨ x.e = 40
  ok : 0 < x.n → x.e = 0
  same : ∀ i, i < x.n → gSame_0 (x.a i) (x.b i) (y.a i) (y.b i) = true
theorem set_same {σ : AHeap} {b : Nat} {o : AObj} (h : σ[b]? = some o) : σ.set b o = σ := by
  apply List.ext_getElem?
  intro k
  rw [List.getElem?_set]
  by_cases hk : b = k
  · subst hk; rw [if_pos rfl, if_pos (lt_of_some h), h]
  · rw [if_neg hk]
theorem told_side {x y : An} (h : Alike x y) {σ : AHeap} {b b2 c : Nat} (g1 : σ[c]? = some (aObj 2 pRow y)) (g2 : σ[b]? = some (aObj 1 xRow x)) (g3 : σ[b2]? = some (aObj 1 xRow x)) (n1 : b ≠ b2) (n2 : b ≠ c) (n3 : b2 ≠ c) :
    sToldW [.slice (aAd b x.n 1) x.n x.n, .slice (aAd b2 x.n 1) x.n x.n, .int .i64 x.e, .int .i64 x.e, .slice (aAd c y.n 2) y.n y.n, .int .i64 y.e] σ = some (.bool true, σ.set b .dead) := by
  obtain ⟨hn, he, hle, hz, hok, hs⟩ := h
  obtain ⟨xn, xa, xb, xe⟩ := x
  obtain ⟨yn, ya, yb, ye⟩ := y
  simp only at hn he hle hz hok hs
  subst hn he
  cases xn with
  | zero =>
    have e2 : aObj 1 xRow ⟨0, xa, xb, xe⟩ = .dead := rfl
    rw [e2] at g2
    rw [set_same g2]
    exact sToldW_err (hz rfl) σ
  | succ n =>
    have := hok (Nat.succ_pos _)
    subst this
    exact sToldW_row (Nat.succ_pos n) hle hs hs g1 g2 g3 n1 n2 n3
theorem bk_alike (n : Int) : Alike (bkAn n) (bkAn n) := by
  have hl : (bkW n).length ≤ 13 := by
    unfold bkW
    cases n == Int.ofNat 2 <;> cases n == Int.ofNat 3 <;> cases n == Int.ofNat 4 <;> cases n == Int.ofNat 5 <;> cases n == Int.ofNat 7 <;> cases n == Int.ofNat 11 <;> cases n == Int.ofNat 13 <;> decide
  refine ⟨rfl, rfl, by show (bkW n).length ≤ 16384; omega, fun h => ?_, fun h => ?_, fun i _ => same_refl _ _⟩
  · have h : (bkW n).length = 0 := h
    have h2 : (bkW n).isEmpty = true := by rw [List.isEmpty_iff]; exact List.length_eq_zero_iff.1 h
    show (bif (bkW n).isEmpty then (40 : Int) else 0) = 0 ∨ _
    rw [h2]
    exact .inr (.inr (.inr (.inr (by show (bif (bkW n).isEmpty then (40 : Int) else 0) = 40; rw [h2]; rfl))))
  · have h : 0 < (bkW n).length := h
    show (bif (bkW n).isEmpty then (40 : Int) else 0) = 0
    cases h2 : (bkW n).isEmpty
    · rfl
    · rw [List.isEmpty_iff] at h2; rw [h2] at h; cases h
theorem err_alike {e : Int} (h : e = 0 ∨ e = 2 ∨ e = 3 ∨ e = 6 ∨ e = 40) : Alike (anErr e) (anErr e) := ⟨rfl, rfl, Nat.zero_le _, fun _ => h, fun h => absurd h (Nat.lt_irrefl 0), fun i h => absurd h (Nat.not_lt_zero i)⟩
theorem fr_alike (m : Int) : Alike (frAn fwA fwB m) (frAn frA frB m) := by
  unfold frAn
  cases h1 : decide (m < 1)
  · cases h2 : decide (m > 128)
    · have g1 := of_decide_eq_false h1
      have g2 := of_decide_eq_false h2
      refine ⟨rfl, rfl, sq_bd (by omega), fun h => .inl rfl, fun _ => rfl, fun i _ => ?_⟩
      show gSame_0 (fwA m.toNat i) (fwB m.toNat i) (frA m.toNat i) (frB m.toNat i) = true
      unfold frA frB
      rw [unit_re, unit_im]
      exact same_refl _ _
    · exact err_alike (by simp)
  · exact err_alike (by simp)
theorem ch_alike {fin : Nat → Bool} (n : Int) (v : Nat) : Alike (chAn fin cwA cwB n v) (chAn fin cwA cwB n v) := by
  unfold chAn
  cases h1 : decide (n < 1)
  · cases h2 : decide (n > 16384)
    · cases h3 : fin v
      · exact err_alike (by simp)
      · have g2 := of_decide_eq_false h2
        exact ⟨rfl, rfl, by show n.toNat ≤ 16384; omega, fun h => .inl rfl, fun _ => rfl, fun i _ => same_refl _ _⟩
    · exact err_alike (by simp)
  · exact err_alike (by simp)
/-- Both ways to fold a number, one. -/
theorem step_fold {z n : Int} (h0 : 0 < n) (h1 : n ≤ 16384) : Int.tmod (IntKind.i64.wrap (Int.tmod z n + n)) n = mdl z n ∧ 0 ≤ mdl z n ∧ mdl z n < n := by
  have b1 : Int.tmod z n < n := Int.tmod_lt_of_pos z h0
  have b2 : -n < Int.tmod z n := by
    have h3 := Int.tmod_lt_of_pos (-z) h0
    rw [Int.neg_tmod] at h3
    omega
  have w : IntKind.i64.wrap (Int.tmod z n + n) = Int.tmod z n + n := i64_wrap ⟨by omega, by omega⟩
  unfold mdl
  rw [w]
  cases hd : decide (Int.tmod z n < 0)
  · have hd := of_decide_eq_false hd
    simp only [cond_false]
    refine ⟨?_, by omega, b1⟩
    rw [Int.tmod_eq_emod_of_nonneg (by omega), Int.add_emod_right]
    rw [Int.emod_eq_of_lt (by omega) (by omega)]
  · have hd := of_decide_eq_true hd
    simp only [cond_true]
    exact ⟨by rw [Int.tmod_eq_emod_of_nonneg (by omega), Int.emod_eq_of_lt (by omega) (by omega)], by omega, by omega⟩
theorem step_unit {w : Nat → Int} {n s : Nat} (h0 : 0 < n) (h1 : n ≤ 16384) : Int.tmod (IntKind.i64.wrap (sfW w n (s / n) * iN (s % n))) (iN n) = mdl (IntKind.i64.wrap (sfR w n (s / n) * iN (s % n))) (iN n) := by
  have hn0 : (0 : Int) < iN n := by rw [iN_eq]; omega
  have hn1 : iN n ≤ 16384 := by rw [iN_eq]; omega
  obtain ⟨e1, e2, e3⟩ := step_fold (z := w (s / n)) hn0 hn1
  have ef : sfW w n (s / n) = sfR w n (s / n) := e1
  have f0 : 0 ≤ sfR w n (s / n) := e2
  have f1 : sfR w n (s / n) < iN n := e3
  rw [ef]
  generalize sfR w n (s / n) = f at f0 f1
  have hk : iN (s % n) < 16384 := by rw [iN_eq]; have := Nat.mod_lt s h0; omega
  have hk0 : 0 ≤ iN (s % n) := by rw [iN_eq]; omega
  generalize iN (s % n) = k at hk hk0
  have p0 : 0 ≤ f * k := Int.mul_nonneg f0 hk0
  have p1 : f * k ≤ 16384 * 16384 := Int.mul_le_mul (by omega) (by omega) hk0 (by decide)
  rw [i64_wrap ⟨by omega, by omega⟩]
  unfold mdl
  have hm : 0 ≤ Int.tmod (f * k) (iN n) := Int.tmod_nonneg _ p0
  rw [decide_eq_false (by omega)]
  rfl
theorem st_alike {w : Nat → Int} {m : Nat} {n : Int} : Alike (stAn swA swB w m n) (stAn srA srB w m n) := by
  unfold stAn
  cases h1 : decide (n < 1)
  · cases m with
    | zero => exact ⟨rfl, rfl, Nat.zero_le _, fun _ => .inl rfl, fun _ => rfl, fun i h => absurd h (Nat.not_lt_zero i)⟩
    | succ m =>
      cases h2 : decide (n > 16384 / ((m : Int) + 1))
      · have g1 := of_decide_eq_false h1
        have g2 := of_decide_eq_false h2
        have hle : n * ((m : Int) + 1) ≤ 16384 := by
          have := Int.mul_le_mul_of_nonneg_right (show n ≤ 16384 / ((m : Int) + 1) by omega) (show 0 ≤ (m : Int) + 1 by omega)
          have h5 := Int.ediv_mul_le 16384 (show (m : Int) + 1 ≠ 0 by omega)
          omega
        have hle2 : n.toNat * (m + 1) ≤ 16384 := by
          have : ((n.toNat * (m + 1) : Nat) : Int) ≤ 16384 := by
            rw [Int.natCast_mul, show ((m + 1 : Nat) : Int) = (m : Int) + 1 by omega, show ((n.toNat : Nat) : Int) = n by omega]; exact hle
          omega
        have b1 : n.toNat ≤ 16384 := by
          have := Nat.le_mul_of_pos_right n.toNat (show 0 < m + 1 by omega)
          omega
        simp only [cond_false, h2]
        refine ⟨rfl, rfl, hle2, fun _ => .inl rfl, fun _ => rfl, fun i _ => ?_⟩
        show gSame_0 (swA w n.toNat i) (swB w n.toNat i) (srA w n.toNat i) (srB w n.toNat i) = true
        unfold srA srB swA swB
        rw [unit_re, unit_im, step_unit (by omega) b1]
        exact same_refl _ _
      · simp only [cond_false, cond_true, h2]
        exact err_alike (by simp)
  · exact err_alike (by simp)
theorem Alike.bif {c : Bool} {x y x' y' : An} (h1 : Alike x y) (h2 : Alike x' y') : Alike (bif c then x else x') (bif c then y else y') := by cases c; exact h2; exact h1
theorem co_alike (n : Int) : Alike (coAn fwA fwB cFin_0 swA swB n) (coAn frA frB cRFin_0 srA srB n) := by
  have f1 : chAn cFin_0 cwA cwB 32 4620693217682128896 = chAn cRFin_0 cwA cwB 32 4620693217682128896 := by
    have h1 : cFin_0 4620693217682128896 = true := by kernel_rfl
    have h2 : cRFin_0 4620693217682128896 = true := by kernel_rfl
    unfold chAn; rw [h1, h2]
  have f2 : chAn cFin_0 cwA cwB 64 4625196817309499392 = chAn cRFin_0 cwA cwB 64 4625196817309499392 := by
    have h1 : cFin_0 4625196817309499392 = true := by kernel_rfl
    have h2 : cRFin_0 4625196817309499392 = true := by kernel_rfl
    unfold chAn; rw [h1, h2]
  unfold coAn
  rw [f1, f2]
  exact .bif ⟨rfl, rfl, by decide, fun h => .inl rfl, fun _ => rfl, fun i _ => same_refl _ _⟩ (.bif (bk_alike _) (.bif (bk_alike _) (.bif (bk_alike _) (.bif (bk_alike _) (.bif (bk_alike _) (.bif (bk_alike _) (.bif (bk_alike _) (.bif (fr_alike _) (.bif (fr_alike _) (.bif (ch_alike _ _) (.bif (ch_alike _ _) (.bif (st_alike) (err_alike (by simp))))))))))))))
theorem pulseCodes_call (n : Int) : ∃ σ', CallR Try.prog false 16 [.int .i64 n] [] (.bool true) σ' := by
  exact ⟨_, pco_p0 n (aAd 0 (bkAn n).n 2) (aAd 1 (frAn frA frB n).n 2) (aAd 2 (coAn frA frB cRFin_0 srA srB n).n 2) (aAd 3 (bkAn n).n 1) (aAd 4 (bkAn n).n 1) (aAd 5 (frAn fwA fwB n).n 1) (aAd 6 (frAn fwA fwB n).n 1) (aAd 7 (coAn fwA fwB cFin_0 swA swB n).n 1) (aAd 8 (coAn fwA fwB cFin_0 swA swB n).n 1)
    (bkAn n).n (frAn frA frB n).n (coAn frA frB cRFin_0 srA srB n).n (bkAn n).n (bkAn n).n (frAn fwA fwB n).n (frAn fwA fwB n).n (coAn fwA fwB cFin_0 swA swB n).n (coAn fwA fwB cFin_0 swA swB n).n
    (bkAn n).e (frAn frA frB n).e (coAn frA frB cRFin_0 srA srB n).e (bkAn n).e (bkAn n).e (frAn fwA fwB n).e (frAn fwA fwB n).e (coAn fwA fwB cFin_0 swA swB n).e (coAn fwA fwB cFin_0 swA swB n).e
    (aObj 2 pRow (bkAn n)) (aObj 2 pRow (frAn frA frB n)) (aObj 2 pRow (coAn frA frB cRFin_0 srA srB n)) (aObj 1 xRow (bkAn n)) (aObj 1 xRow (bkAn n)) (aObj 1 xRow (frAn fwA fwB n)) (aObj 1 xRow (frAn fwA fwB n)) (aObj 1 xRow (coAn fwA fwB cFin_0 swA swB n)) (aObj 1 xRow (coAn fwA fwB cFin_0 swA swB n))
    .dead (aObj 1 xRow (bkAn n)) .dead (aObj 1 xRow (frAn fwA fwB n)) .dead (aObj 1 xRow (coAn fwA fwB cFin_0 swA swB n))
    (told_side (co_alike n) (b := 7) (b2 := 8) (c := 2) rfl rfl rfl (by decide) (by decide) (by decide))
    (sAn_side (x := (coAn fwA fwB cFin_0 swA swB n)) rfl _)
    (sAn_side (x := (coAn fwA fwB cFin_0 swA swB n)) rfl _)
    (told_side (fr_alike n) (b := 5) (b2 := 6) (c := 1) rfl rfl rfl (by decide) (by decide) (by decide))
    (sAn_side (x := (frAn fwA fwB n)) rfl _)
    (sAn_side (x := (frAn fwA fwB n)) rfl _)
    (told_side (bk_alike n) (b := 3) (b2 := 4) (c := 0) rfl rfl rfl (by decide) (by decide) (by decide))
    (sAn_side (x := (bkAn n)) rfl _)
    (sAn_side (x := (bkAn n)) rfl _)
    (sAn_side (x := (coAn frA frB cRFin_0 srA srB n)) rfl _)
    (sAn_side (x := (frAn frA frB n)) rfl _)
    (sAn_side (x := (bkAn n)) rfl _)⟩
end Go.Lk
end
