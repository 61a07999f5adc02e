import Derived.Test.YtmomainjlncogaaSq6
import Derived.Test.YtmomainjlncogaaSq4
section
/- Scene: finite, refused. -/
namespace Go.Lk
open Go.Proofs
set_option maxRecDepth 100000
set_option maxHeartbeats 0
set_option linter.unusedVariables false
set_option linter.unusedSimpArgs false
def sCheck : PureFn
  | [.agg ⟨[.float .f64 c, .float .f64 w, .float .f64 r, .int .i64 e, .int .i64 p]⟩] => some (.int .i64 (iaCheck_0 c w r e p))
  | _ => none
theorem sCheck_ok : IsPure Try.prog false 197 sCheck := by
  intro args v σ h
  unfold sCheck at h
  split at h
  · cases h; exact iaCheck_ok _ _ _ _ _ σ
  · cases h
def sAtS : PureFn
  | [.agg ⟨[.float .f64 r, .float .f64 s, .float .f64 a, .float .f64 t, .float .f64 b]⟩, .float .f64 x] => some (.float .f64 (iaAt_0 r s a t b x))
  | _ => none
theorem sAtS_ok : IsPure Try.prog false 172 sAtS := by
  intro args v σ h
  unfold sAtS at h
  split at h
  · cases h; exact iaAt_ok _ _ _ _ _ _ σ
  · cases h
def sScale : PureFn
  | [.complex .f64 a b, .float .f64 x] => some (.complex .f64 (iaScale_0 a b x) (iaScale_1 a b x))
  | _ => none
theorem sScale_ok : IsPure Try.prog false 136 sScale := by
  intro args v σ h
  unfold sScale at h
  split at h
  · cases h; exact iaScale_ok _ _ _ σ
  · cases h
noncomputable def tib : Tab := (((t7.addP 197 sCheck).addP 172 sAtS).addP 136 sScale)
theorem tib_ok : tib.Ok Try.prog false := (Tab.Ok.addP (Tab.Ok.addP (Tab.Ok.addP t7_ok sCheck_ok) sAtS_ok) sScale_ok)
noncomputable def LIb : Lib := ⟨Try.prog, false, tib, [(127, Try.f127), (128, Try.f128)], []⟩
theorem LIb_fp : ∀ e, e ∈ LIb.pures → Try.prog.funcs[e.1]? = some e.2 := fs_cons Try.func127 (fs_cons Try.func128 (fs_nil))
theorem LIb_fh : ∀ e, e ∈ LIb.heaps → Try.prog.funcs[e.1]? = some e.2.2 := gs_nil
theorem LIb_p1 (gp : Nat → PureFn) (g : Nat → HeapFn) : (LIb.pures.all fun e => fnOk (LIb.mk' gp g) e.2) = true := by kernel_rfl
theorem LIb_h1 (gp : Nat → PureFn) (g : Nat → HeapFn) : (LIb.heaps.all fun e => fnOk (LIb.mk' gp g) e.2.2 && (!e.2.1 || fnRo (LIb.mk' gp g) e.2.2)) = true := by kernel_rfl
theorem LIb_ok : LIb.Ok := ⟨tib_ok, mixed, LIb_fp, LIb_fh, LIb_p1, LIb_h1⟩
noncomputable def dLIb : Cfg := LIb.cfg 100 4
theorem dLIb_ok : dLIb.Ok := LIb_ok.cfg 100 4

theorem ibRef_fok : fnOkX (dLIb) [] Try.f166 = true := by kernel_rfl
theorem ibRef_p0 (opn : Option Nat) (y : Nat → Nat) (z : Nat → Nat) (N : Nat) (c : Nat) (w : Nat) (r : Nat) (e : Int) (p : Int) (l : Nat) (cap : Nat) (k : Int) (q0 : (iaCheck_0 c w r e p != Int.ofNat 0) = false) (q1 : (iN l == Int.ofNat 0) = false) (q2 : decide (k > Int.ofNat 256) = false) (q3 : decide (iN l > Int.ofNat 16384) = false) (q4 : decide (IntKind.i64.wrap (IntKind.i64.wrap (k * p) * iN l) > Int.ofNat 16777216) = false) : CallR Try.prog false 166 ([Value.agg { toList := [Value.float .f64 c, Value.float .f64 w, Value.float .f64 r, Value.int .i64 e, Value.int .i64 p] }, Value.slice (some ⟨0, 0, some 1⟩) l cap, Value.int .i64 k]) ([AObj.row (rowOf (fun i => [Value.complex .f64 (y i) (z i)]) N) false opn]) (Value.int .i64 (Int.ofNat 0)) ([AObj.row (rowOf (fun i => [Value.complex .f64 (y i) (z i)]) N) false opn, AObj.row [Value.float .f64 c, Value.float .f64 w, Value.float .f64 r, Value.int .i64 e, Value.int .i64 p] true none]) := CallR.of_DOXs (C := dLIb) dLIb_ok (X := []) Try.func166 ibRef_fok (n := 3) (orc := [(14, Item.br false), (21, Item.br false), (28, Item.br true), (30, Item.br true), (32, Item.br true), (35, Item.res (Value.bool (decide (iN l > 16384)))), (38, Item.br true), (40, Item.br true), (42, Item.br true), (44, Item.br true), (46, Item.br true), (48, Item.br true), (50, Item.br true), (52, Item.br true), (55, Item.res (Value.bool (decide (IntKind.i64.wrap (IntKind.i64.wrap (k * p) * iN l) > 16777216)))), (56, Item.br false)]) (ps := [(bP (iaCheck_0 c w r e p != Int.ofNat 0) false), (bP (iN l == Int.ofNat 0) false), (some (decide (k > 256) == false) = some true), (some (decide (k > 256) == false) = some true), (some (decide (k > 256) == false) = some true), (pP (some (Value.bool true)) (some (Value.bool (decide (iN l > 16384)))) ([AObj.row (rowOf (fun i => [Value.complex .f64 (y i) (z i)]) N) false opn, AObj.row [Value.float .f64 c, Value.float .f64 w, Value.float .f64 r, Value.int .i64 e, Value.int .i64 p] true none]) (decide (k > 256)) (Value.bool (decide (iN l > 16384)))), (some (decide (iN l > 16384) == false) = some true), (some (decide (iN l > 16384) == false) = some true), (some (decide (iN l > 16384) == false) = some true), (some (decide (iN l > 16384) == false) = some true), (some (decide (iN l > 16384) == false) = some true), (some (decide (iN l > 16384) == false) = some true), (some (decide (iN l > 16384) == false) = some true), (some (decide (iN l > 16384) == false) = some true), (pP (some (Value.bool true)) (some (Value.bool (decide (IntKind.i64.wrap (IntKind.i64.wrap (k * p) * iN l) > 16777216)))) ([AObj.row (rowOf (fun i => [Value.complex .f64 (y i) (z i)]) N) false opn, AObj.row [Value.float .f64 c, Value.float .f64 w, Value.float .f64 r, Value.int .i64 e, Value.int .i64 p] true none]) (decide (iN l > 16384)) (Value.bool (decide (IntKind.i64.wrap (IntKind.i64.wrap (k * p) * iN l) > 16777216)))), (some (decide (IntKind.i64.wrap (IntKind.i64.wrap (k * p) * iN l) > 16777216)) = some false)]) (by kernel_rfl) (fun hst => ⟨bP_of (fun x => x) q0, ⟨bP_of (fun x => x) q1, ⟨bP_of (fun x => x == false) (show (decide (k > 256)) = false from decide_eq_false (by (try simp only [decide_eq_true_eq, decide_eq_false_iff_not] at *); (try simp only [iN_eq, Int.ofNat_eq_natCast] at *); try omega)), ⟨bP_of (fun x => x == false) (show (decide (k > 256)) = false from decide_eq_false (by (try simp only [decide_eq_true_eq, decide_eq_false_iff_not] at *); (try simp only [iN_eq, Int.ofNat_eq_natCast] at *); try omega)), ⟨bP_of (fun x => x == false) (show (decide (k > 256)) = false from decide_eq_false (by (try simp only [decide_eq_true_eq, decide_eq_false_iff_not] at *); (try simp only [iN_eq, Int.ofNat_eq_natCast] at *); try omega)), ⟨pP_f _ _ _ (congrArg (fun bb => (bb)) (show (decide (k > 256)) = false from decide_eq_false (by (try simp only [decide_eq_true_eq, decide_eq_false_iff_not] at *); (try simp only [iN_eq, Int.ofNat_eq_natCast] at *); try omega))), ⟨bP_of (fun x => x == false) (show (decide (iN l > 16384)) = false from decide_eq_false (by (try simp only [decide_eq_true_eq, decide_eq_false_iff_not] at *); (try simp only [iN_eq, Int.ofNat_eq_natCast] at *); try omega)), ⟨bP_of (fun x => x == false) (show (decide (iN l > 16384)) = false from decide_eq_false (by (try simp only [decide_eq_true_eq, decide_eq_false_iff_not] at *); (try simp only [iN_eq, Int.ofNat_eq_natCast] at *); try omega)), ⟨bP_of (fun x => x == false) (show (decide (iN l > 16384)) = false from decide_eq_false (by (try simp only [decide_eq_true_eq, decide_eq_false_iff_not] at *); (try simp only [iN_eq, Int.ofNat_eq_natCast] at *); try omega)), ⟨bP_of (fun x => x == false) (show (decide (iN l > 16384)) = false from decide_eq_false (by (try simp only [decide_eq_true_eq, decide_eq_false_iff_not] at *); (try simp only [iN_eq, Int.ofNat_eq_natCast] at *); try omega)), ⟨bP_of (fun x => x == false) (show (decide (iN l > 16384)) = false from decide_eq_false (by (try simp only [decide_eq_true_eq, decide_eq_false_iff_not] at *); (try simp only [iN_eq, Int.ofNat_eq_natCast] at *); try omega)), ⟨bP_of (fun x => x == false) (show (decide (iN l > 16384)) = false from decide_eq_false (by (try simp only [decide_eq_true_eq, decide_eq_false_iff_not] at *); (try simp only [iN_eq, Int.ofNat_eq_natCast] at *); try omega)), ⟨bP_of (fun x => x == false) (show (decide (iN l > 16384)) = false from decide_eq_false (by (try simp only [decide_eq_true_eq, decide_eq_false_iff_not] at *); (try simp only [iN_eq, Int.ofNat_eq_natCast] at *); try omega)), ⟨bP_of (fun x => x == false) (show (decide (iN l > 16384)) = false from decide_eq_false (by (try simp only [decide_eq_true_eq, decide_eq_false_iff_not] at *); (try simp only [iN_eq, Int.ofNat_eq_natCast] at *); try omega)), ⟨pP_f _ _ _ (congrArg (fun bb => (bb)) (show (decide (iN l > 16384)) = false from decide_eq_false (by (try simp only [decide_eq_true_eq, decide_eq_false_iff_not] at *); (try simp only [iN_eq, Int.ofNat_eq_natCast] at *); try omega))), ⟨bP_of (fun x => x) (show (decide (IntKind.i64.wrap (IntKind.i64.wrap (k * p) * iN l) > 16777216)) = false from decide_eq_false (by (try simp only [decide_eq_true_eq, decide_eq_false_iff_not] at *); (try simp only [iN_eq, Int.ofNat_eq_natCast] at *); try omega)), trivial⟩⟩⟩⟩⟩⟩⟩⟩⟩⟩⟩⟩⟩⟩⟩⟩)
def ifF (m cap k : Nat) : List Value := [undef, undef, .bool false, undef, undef, .slice (some ⟨0, 0, some 1⟩) m cap, .int .i64 (iN m), .int .i64 (iN k)] ++ List.replicate 10 undef
theorem ifR_okX : codeOkX (dLIb) [] (loopOf Try.f167 0) = true := by kernel_rfl
theorem ifR_p0 (opn : Option Nat) (x : Nat → Nat) (M : Nat) (m : Nat) (cap : Nat) (hm : m ≤ M) (hM : m ≤ 65536) (k : Nat) (hk : k < m) (t1 : feq (x k) (x k) = true) (t2 : fgt (fabs (x k)) 9218868437227405311 = false) (hst : Stood false ([.row (rowOf (fun i => [.float .f64 (x i)]) M) false opn])) : Sim (dLIb) 1 (loopOf Try.f167 0) ((ifF m cap k)) ([.row (rowOf (fun i => [.float .f64 (x i)]) M) false opn]) .normal ([undef, undef, Value.bool false, undef, undef, Value.slice (some ⟨0, 0, some 1⟩) m cap, Value.int .i64 (iN m), Value.int .i64 (iN (k + 1)), undef, undef, undef, undef, undef, undef, undef, undef, undef, undef]) ([AObj.row (rowOf (fun i => [Value.float .f64 (x i)]) M) false opn]) := Sim.of_roundQ (C := dLIb) dLIb_ok (X := []) (n := 3) (orc := [(2, Item.br true), (4, Item.res (Value.pointer (some { block := 0, off := 0 + k * 1 }))), (6, Item.res (Value.float .f64 (x k))), (15, Item.br true), (17, Item.br true), (20, Item.res (Value.bool (fgt (fabs (x k)) 9218868437227405311))), (21, Item.br false), (23, Item.res (Value.int .i64 (iN (k + 1))))]) (ks := [0]) (mask := [false, false, true, false, false, true, true, true, false, false, false, false, false, false, false, false, false, false]) (ps := [(some (decide (iN k < iN m)) = some true), (ixF (Value.pointer (some { block := 0, off := 0 + k * 1 })) ([AObj.row (rowOf (fun i => [Value.float .f64 (x i)]) M) false opn]) (iN k) (m) = some (Value.pointer (some { block := 0, off := 0 + k * 1 }), [AObj.row (rowOf (fun i => [Value.float .f64 (x i)]) M) false opn])), (ldF (aLoad Try.prog ([AObj.row (rowOf (fun i => [Value.float .f64 (x i)]) M) false opn]) 22 (.pointer (some ⟨0, 0 + k * 1, none⟩))) ([AObj.row (rowOf (fun i => [Value.float .f64 (x i)]) M) false opn]) = some (Value.float .f64 (x k), [AObj.row (rowOf (fun i => [Value.float .f64 (x i)]) M) false opn])), (bP ((!feq (x k) (x k)) == false) true), (bP ((!feq (x k) (x k)) == false) true), (pP (some (Value.bool true)) (some (Value.bool (fgt (fabs (x k)) 9218868437227405311))) ([AObj.row (rowOf (fun i => [Value.float .f64 (x i)]) M) false opn]) (!feq (x k) (x k)) (Value.bool (fgt (fabs (x k)) 9218868437227405311))), (bP (fgt (fabs (x k)) 9218868437227405311) false), (wF IntKind.i64 (iN k + 1) ([AObj.row (rowOf (fun i => [Value.float .f64 (x i)]) M) false opn]) = some (.int IntKind.i64 (iN (k + 1)), [AObj.row (rowOf (fun i => [Value.float .f64 (x i)]) M) false opn]))]) (L := 1) 1 ifR_okX (by kernel_rfl) ⟨bP_of (fun x => x) (show (decide (iN k < iN m)) = true from decide_eq_true (by (try simp only [decide_eq_true_eq, decide_eq_false_iff_not] at *); (try simp only [iN_eq, Int.ofNat_eq_natCast] at *); try omega)), ⟨ixF_ok _ _ (by (try simp only [decide_eq_true_eq, decide_eq_false_iff_not] at *); (try simp only [iN_eq, Int.ofNat_eq_natCast] at *); try omega), ⟨ldF_ok (load_one (k := k) (n := M) (g := fun i => ((fun i => [Value.float .f64 (x i)]) i).getD 0 undef) rfl (by kernel_rfl) (by omega) (by (try simp only [decide_eq_true_eq, decide_eq_false_iff_not] at *); (try simp only [iN_eq, Int.ofNat_eq_natCast] at *); try omega)), ⟨bP_of (fun x => (!x) == false) t1, ⟨bP_of (fun x => (!x) == false) t1, ⟨pP_f _ _ _ (congrArg (fun bb => (!bb)) t1), ⟨bP_of (fun x => x) t2, ⟨wF_ok _ (by (try simp only [decide_eq_true_eq, decide_eq_false_iff_not] at *); (try simp only [iN_eq, Int.ofNat_eq_natCast] at *); try omega) (by (try simp only [decide_eq_true_eq, decide_eq_false_iff_not] at *); (try simp only [iN_eq, Int.ofNat_eq_natCast] at *); try omega), trivial⟩⟩⟩⟩⟩⟩⟩⟩ hst (by kernel_rfl) (by kernel_rfl) (by kernel_rfl) (by decide) (by kernel_rfl) trivial
theorem ifE_okX : codeOkX (dLIb) [] (loopOf Try.f167 0) = true := by kernel_rfl
theorem ifE_p0 (opn : Option Nat) (x : Nat → Nat) (M : Nat) (m : Nat) (cap : Nat) (hm : m ≤ M) (hM : m ≤ 65536) (hst : Stood false ([.row (rowOf (fun i => [.float .f64 (x i)]) M) false opn])) : Sim (dLIb) 1 (loopOf Try.f167 0) ((ifF m cap m)) ([.row (rowOf (fun i => [.float .f64 (x i)]) M) false opn]) (.exit 0) ([undef, undef, Value.bool false, undef, undef, Value.slice (some ⟨0, 0, some 1⟩) m cap, Value.int .i64 (iN m), Value.int .i64 (iN m), undef, undef, undef, undef, undef, undef, undef, undef, undef, undef]) ([AObj.row (rowOf (fun i => [Value.float .f64 (x i)]) M) false opn]) := Sim.of_roundQ (C := dLIb) dLIb_ok (X := []) (n := 3) (orc := [(2, Item.br false)]) (ks := [0]) (mask := [false, false, true, false, false, true, true, true, false, false, false, false, false, false, false, false, false, false]) (ps := [(some (decide (iN m < iN m)) = some false)]) (L := 1) 1 ifE_okX (by kernel_rfl) ⟨bP_of (fun x => x) (show (decide (iN m < iN m)) = false from decide_eq_false (by (try simp only [decide_eq_true_eq, decide_eq_false_iff_not] at *); (try simp only [iN_eq, Int.ofNat_eq_natCast] at *); try omega)), trivial⟩ hst (by kernel_rfl) (by kernel_rfl) (by kernel_rfl) (by decide) (by kernel_rfl) trivial
theorem ifP_fok : fnOkX (dLIb) [] Try.f167 = true := by kernel_rfl
theorem ifP_p0 (opn : Option Nat) (x : Nat → Nat) (M : Nat) (m : Nat) (cap : Nat) (hm : m ≤ M) (hM : m ≤ 65536) (l0 : Stood false ([AObj.row (rowOf (fun i => [Value.float .f64 (x i)]) M) false opn]) → Sim (dLIb) 1 (.loop (loopOf Try.f167 0)) ([Value.slice (some ⟨0, 0, some 1⟩) m cap, undef, Value.bool false, undef, undef, Value.slice (some ⟨0, 0, some 1⟩) m cap, Value.int .i64 (iN m), Value.int .i64 (Int.ofNat 0), undef, undef, undef, undef, undef, undef, undef, undef, undef, undef]) ([AObj.row (rowOf (fun i => [Value.float .f64 (x i)]) M) false opn]) (Exit.exit 0) ([undef, undef, Value.bool false, undef, undef, Value.slice (some ⟨0, 0, some 1⟩) m cap, Value.int .i64 (iN m), Value.int .i64 (iN m), undef, undef, undef, undef, undef, undef, undef, undef, undef, undef]) ([AObj.row (rowOf (fun i => [Value.float .f64 (x i)]) M) false opn])) : CallR Try.prog false 167 ([Value.slice (some ⟨0, 0, some 1⟩) m cap]) ([AObj.row (rowOf (fun i => [Value.float .f64 (x i)]) M) false opn]) (Value.bool true) ([AObj.row (rowOf (fun i => [Value.float .f64 (x i)]) M) false opn]) := CallR.of_DOXs (C := dLIb) dLIb_ok (X := []) Try.func167 ifP_fok (n := 3) (orc := [(8, Item.loop (Exit.exit 0) (ifF m cap m) [AObj.row (rowOf (fun i => [Value.float .f64 (x i)]) M) false opn])]) (ps := [(Sim (dLIb) 1 (.loop (loopOf Try.f167 0)) ([Value.slice (some ⟨0, 0, some 1⟩) m cap, undef, Value.bool false, undef, undef, Value.slice (some ⟨0, 0, some 1⟩) m cap, Value.int .i64 (iN m), Value.int .i64 (Int.ofNat 0), undef, undef, undef, undef, undef, undef, undef, undef, undef, undef]) ([AObj.row (rowOf (fun i => [Value.float .f64 (x i)]) M) false opn]) (Exit.exit 0) ([undef, undef, Value.bool false, undef, undef, Value.slice (some ⟨0, 0, some 1⟩) m cap, Value.int .i64 (iN m), Value.int .i64 (iN m), undef, undef, undef, undef, undef, undef, undef, undef, undef, undef]) ([AObj.row (rowOf (fun i => [Value.float .f64 (x i)]) M) false opn])), (List.length (α := AObj) ([AObj.row (rowOf (fun i => [Value.float .f64 (x i)]) M) false opn]) ≤ List.length ([AObj.row (rowOf (fun i => [Value.float .f64 (x i)]) M) false opn])), (Lk.Exit.isG (Exit.exit 0) = false)]) (by kernel_rfl) (fun hst => ⟨l0 hst, Nat.le_of_ble_eq_true (by kernel_rfl), rfl, trivial⟩)
end Go.Lk
end

section
/- Abs, by itself. -/
namespace Go.Lk
open Go.Proofs
set_option maxRecDepth 100000
set_option maxHeartbeats 0
set_option linter.unusedVariables false
set_option linter.unusedSimpArgs false
end Go.Lk
end

section
/- Whole numbers as floats: sums and products are exact below 2^53. -/
namespace Go.Lk
open Ieee (Format Datum Toward)
set_option linter.unusedSimpArgs false
set_option linter.unusedVariables false
/-- The float x is the whole number z. -/
def IsW (x : Nat) (z : Int) : Prop := isFin x = true ∧ fx x = z * (U : Int)
theorem U_form : ∃ u, U = 2 ^ u := by obtain ⟨u, _, h⟩ := U_spec; exact ⟨u, h⟩
theorem rnd_w {s : Bool} {z : Int} (h : z.natAbs < 2 ^ 53) : IsW (rnd s (z * (U : Int))) z := by
  obtain ⟨u, hu⟩ := U_form
  obtain ⟨r1, r2, _⟩ := rnd_exact (z := s) (T := z * (U : Int)) (R := 4850376798678024192) (by decide) (by
    rw [Int.natAbs_mul, Int.natAbs_natCast, fxr_big]
    exact Nat.mul_le_mul_right _ (by omega)) ⟨z.natAbs, u, by rw [Int.natAbs_mul, Int.natAbs_natCast, hu], h⟩
  exact ⟨r1, r2⟩
theorem IsW.add {x y : Nat} {a b : Int} (hx : IsW x a) (hy : IsW y b) (h : (a + b).natAbs < 2 ^ 53) : IsW (fadd x y) (a + b) := by
  rw [fadd_fin hx.1 hy.1, hx.2, hy.2, ← Int.add_mul]
  exact rnd_w h
theorem IsW.sub {x y : Nat} {a b : Int} (hx : IsW x a) (hy : IsW y b) (h : (a - b).natAbs < 2 ^ 53) : IsW (fsub x y) (a - b) := by
  rw [fsub_fin hx.1 hy.1, hx.2, hy.2, ← Int.sub_mul]
  exact rnd_w h
theorem IsW.abs {x : Nat} {a : Int} (hx : IsW x a) : fxr (rg x) = a.natAbs * U := by
  have := fx_abs x
  rw [hx.2, Int.natAbs_mul, Int.natAbs_natCast] at this
  exact this.symm
theorem IsW.sg_of {x : Nat} {a : Int} (hx : IsW x a) (h : a ≠ 0) : sg x = decide (a < 0) := by
  have hU := U_pos
  have h1 : fx x ≠ 0 := by rw [hx.2]; exact Int.mul_ne_zero h (by omega)
  rw [sg_fx h1, hx.2]
  by_cases h0 : a < 0
  · rw [decide_eq_true h0]
    exact decide_eq_true (Int.mul_neg_of_neg_of_pos h0 (by omega))
  · rw [decide_eq_false h0]
    refine decide_eq_false fun h2 => ?_
    have : 0 ≤ a * (U : Int) := Int.mul_nonneg (by omega) (by omega)
    omega
theorem IsW.mul {x y : Nat} {a b : Int} (hx : IsW x a) (hy : IsW y b) (h : (a * b).natAbs < 2 ^ 53) : IsW (fmul x y) (a * b) := by
  obtain ⟨r, e, hr⟩ := fmul_near hx.1 hy.1
  have hU := U_pos
  obtain ⟨u, hu⟩ := U_form
  rw [hx.abs, hy.abs] at hr
  obtain ⟨l1, l2⟩ := rung_small (T := (a * b).natAbs * U) (r := 4850376798678024192) (by rw [fxr_big]; exact Nat.mul_le_mul_right _ (by omega)) (by decide) ⟨(a * b).natAbs, u, by rw [hu], h⟩
  have key : fxr (rung ((a * b).natAbs * U)) * U = a.natAbs * U * (b.natAbs * U) := by
    rw [l2, Int.natAbs_mul, Nat.mul_assoc, Nat.mul_assoc, Nat.mul_assoc, ← Nat.mul_assoc U, Nat.mul_comm U b.natAbs, Nat.mul_assoc]
  have e1 := hr.le_of (R := rung ((a * b).natAbs * U)) (by unfold infR; omega) (by omega)
  have e2 := hr.ge_of (R := rung ((a * b).natAbs * U)) (by unfold infR; omega) (by omega)
  have er : r = rung ((a * b).natAbs * U) := by omega
  rw [e, er]
  refine ⟨fin_wd l1, ?_⟩
  rw [fx_wd (rung_lt _), l2, sgn_mul]
  have hs : sgn (sg x ^^ sg y) (a * b).natAbs = a * b := by
    by_cases ha : a = 0
    · subst ha; simp [sgn]
    · by_cases hb : b = 0
      · subst hb; simp [sgn]
      · rw [hx.sg_of ha, hy.sg_of hb]
        unfold sgn
        rcases Int.lt_or_le a 0 with h1 | h1
        · rcases Int.lt_or_le b 0 with h2 | h2
          · rw [decide_eq_true h1, decide_eq_true h2]
            have : 0 < a * b := Int.mul_pos_of_neg_of_neg h1 h2
            simp; omega
          · rw [decide_eq_true h1, decide_eq_false (by omega)]
            have : a * b < 0 := Int.mul_neg_of_neg_of_pos h1 (by omega)
            simp; omega
        · rcases Int.lt_or_le b 0 with h2 | h2
          · rw [decide_eq_false (by omega), decide_eq_true h2]
            have : a * b < 0 := Int.mul_neg_of_pos_of_neg (by omega) h2
            simp; omega
          · rw [decide_eq_false (by omega), decide_eq_false (by omega)]
            have : 0 ≤ a * b := Int.mul_nonneg h1 h2
            simp; omega
  rw [hs]
theorem IsW.neg {x : Nat} {a : Int} (hl : x < 2 ^ 64) (hx : IsW x a) : IsW (fneg x) (-a) := by
  obtain ⟨n1, n2, _⟩ := fneg_fin hl hx.1
  exact ⟨n1, by rw [n2, hx.2, Int.neg_mul]⟩
theorem isW_near {n : Int} (h : n.natAbs < 2 ^ 53) : IsW (FloatKind.f64.nearest n) n := ⟨(near_fx h).1, (near_fx h).2.1⟩
theorem isW_0 : IsW 0 0 := ⟨fin_zero, by rw [fx_0]; simp⟩
theorem isW_m0 : IsW (2 ^ 63) 0 := ⟨by decide, by rw [Int.zero_mul]; decide +kernel⟩
theorem isW_1 : IsW 4607182418800017408 1 := ⟨fin_one, by rw [Int.one_mul]; exact fx_one⟩
theorem IsW.feq_of {x y : Nat} {a : Int} (hx : IsW x a) (hy : IsW y a) : feq x y = true := by
  rw [feq_fin hx.1 hy.1, hx.2, hy.2]; exact decide_eq_true rfl
theorem mul_U_le {a b : Int} : a * (U : Int) ≤ b * (U : Int) ↔ a ≤ b := by
  have hU := U_pos
  constructor
  · intro h
    rcases Int.lt_or_le b a with h1 | h1
    · have : b * (U : Int) < a * (U : Int) := Int.mul_lt_mul_of_pos_right h1 (by omega)
      omega
    · exact h1
  · intro h; exact Int.mul_le_mul_of_nonneg_right h (by omega)
theorem IsW.fgt_iff {x y : Nat} {a b : Int} (hx : IsW x a) (hy : IsW y b) : fgt x y = decide (b < a) := by
  rw [fgt_fin hx.1 hy.1, hx.2, hy.2]
  by_cases h : b < a
  · rw [decide_eq_true h]
    refine decide_eq_true ?_
    rcases Int.lt_or_le (b * (U : Int)) (a * (U : Int)) with h1 | h1
    · exact h1
    · have := mul_U_le.1 h1; omega
  · rw [decide_eq_false h]
    refine decide_eq_false fun h2 => ?_
    have : a * (U : Int) ≤ b * (U : Int) := mul_U_le.2 (by omega)
    omega
/-- Its floor is itself. -/
theorem IsW.floor_of {x : Nat} {a : Int} (hx : IsW x a) (h : a.natAbs < 2 ^ 53) : IsW (ffloor x) a := by
  have hU := U_pos
  rw [ffloor_fin hx.1, hx.abs, Nat.mul_div_cancel _ hU, Nat.mul_mod_left]
  have : (sg x && (0 : Nat) != 0).toNat = 0 := by simp
  rw [this, Nat.add_zero]
  obtain ⟨u, hu⟩ := U_form
  obtain ⟨l1, l2⟩ := rung_small (T := a.natAbs * U) (r := 4850376798678024192) (by rw [fxr_big]; exact Nat.mul_le_mul_right _ (by omega)) (by decide) ⟨a.natAbs, u, by rw [hu], h⟩
  refine ⟨fin_wd l1, ?_⟩
  rw [fx_wd (rung_lt _), l2, ← hx.2]
  unfold fx
  rw [hx.abs]
/-! ### Sums -/
def sumZ (z : Nat → Int) : Nat → Int
  | 0 => 0
  | k + 1 => sumZ z k + z k
theorem sumZ_bound {z : Nat → Int} {B : Nat} : ∀ {m : Nat}, (∀ i, i < m → (z i).natAbs ≤ B) → (sumZ z m).natAbs ≤ m * B
  | 0, _ => by simp [sumZ]
  | m + 1, h => by
    have h1 := sumZ_bound (m := m) (B := B) fun i hi => h i (by omega)
    have h2 := h m (by omega)
    show (sumZ z m + z m).natAbs ≤ _
    rw [Nat.add_mul, Nat.one_mul]
    omega
theorem sumZ_congr {z w : Nat → Int} : ∀ {m : Nat}, (∀ i, i < m → z i = w i) → sumZ z m = sumZ w m
  | 0, _ => rfl
  | m + 1, h => by
    show sumZ z m + z m = sumZ w m + w m
    rw [sumZ_congr fun i hi => h i (by omega), h m (by omega)]
theorem sumZ_const (c : Int) : ∀ m, sumZ (fun _ => c) m = m * c
  | 0 => by simp [sumZ]
  | m + 1 => by
    show sumZ (fun _ => c) m + c = _
    rw [sumZ_const c m, show ((m + 1 : Nat) : Int) = (m : Int) + 1 by omega, Int.add_mul, Int.one_mul]
end Go.Lk
end

section
/- Floats as rational numbers: how far a result is from what it stands for. -/
namespace Go.Lk
set_option linter.unusedSimpArgs false
set_option linter.unusedVariables false

def UR : Rat := ((U : Nat) : Rat)
theorem UR_pos : 0 < UR := Rat.natCast_pos.2 U_pos
def eta : Rat := 1 / 4503599627370496
def tau : Rat := 1 / 1267650600228229401496703205376
theorem UR_big : (1267650600228229401496703205376 : Rat) ≤ UR := by
  obtain ⟨H, h1, _, _, Q, h2, _, h3, _⟩ := U_half
  have h4 : 1267650600228229401496703205376 ≤ U := by
    have : (2 : Nat) ^ 100 = 1267650600228229401496703205376 := by decide
    omega
  unfold UR
  exact_mod_cast h4
/-- What a float stands for. -/
def qv (x : Nat) : Rat := ((fx x : Int) : Rat) / UR
theorem qv_U (x : Nat) : qv x * UR = ((fx x : Int) : Rat) := by
  unfold qv
  exact Rat.div_mul_cancel (fun h => by have := UR_pos; rw [h] at this; exact absurd this (by decide))
/-- Between -A and A. -/
def Bd (r A : Rat) : Prop := -A ≤ r ∧ r ≤ A
theorem Bd.mono {r A B : Rat} (h : Bd r A) (hAB : A ≤ B) : Bd r B := ⟨by have := h.1; grind, by have := h.2; grind⟩
theorem Bd.add {r s A B : Rat} (h : Bd r A) (k : Bd s B) : Bd (r + s) (A + B) := ⟨by have := h.1; have := k.1; grind, by have := h.2; have := k.2; grind⟩
theorem Bd.sub {r s A B : Rat} (h : Bd r A) (k : Bd s B) : Bd (r - s) (A + B) := ⟨by have := h.1; have := k.2; grind, by have := h.2; have := k.1; grind⟩
theorem Bd.neg {r A : Rat} (h : Bd r A) : Bd (-r) A := ⟨by have := h.2; grind, by have := h.1; grind⟩
theorem Bd.mul {r s A B : Rat} (h : Bd r A) (k : Bd s B) : Bd (r * s) (A * B) := by
  obtain ⟨h1, h2⟩ := h
  obtain ⟨h3, h4⟩ := k
  have k1 := Rat.mul_nonneg (a := A - r) (b := B - s) (by grind) (by grind)
  have k2 := Rat.mul_nonneg (a := A + r) (b := B + s) (by grind) (by grind)
  have k3 := Rat.mul_nonneg (a := A - r) (b := B + s) (by grind) (by grind)
  have k4 := Rat.mul_nonneg (a := A + r) (b := B - s) (by grind) (by grind)
  constructor <;> grind
theorem Bd.zero : Bd 0 0 := ⟨by decide, by decide⟩
/-! ### Rounding, as whole multiples -/
/-! ### Products -/
end Go.Lk
end

section
/- Quotients and roots as rational numbers; polynomials. -/
namespace Go.Lk
set_option linter.unusedSimpArgs false
set_option linter.unusedVariables false

theorem qv_nn {x : Nat} (h : sg x = false) : qv x * UR = ((fxr (rg x) : Nat) : Rat) ∧ 0 ≤ qv x := by
  have hU := UR_pos
  have e : qv x * UR = ((fxr (rg x) : Nat) : Rat) := by rw [qv_U, fx_rg h]; rfl
  refine ⟨e, ?_⟩
  refine Rat.le_of_mul_le_mul_right (c := UR) ?_ hU
  rw [e, Rat.zero_mul]
  exact Rat.natCast_nonneg
theorem tau_UR : 1 ≤ tau * UR := by have := UR_big; unfold tau; grind
/-- A quotient of what is not below nought. -/
theorem div_q {x y : Nat} (hx : isFin x = true) (hy : isFin y = true) (sx : sg x = false) (sy : sg y = false) (h0 : 0 < qv y) (hle : qv x ≤ qv y) :
    isFin (fdiv x y) = true ∧ sg (fdiv x y) = false ∧ Bd (qv (fdiv x y) * qv y - qv x) (qv x * eta + tau * qv y) := by
  have hU := UR_pos
  obtain ⟨ex, nx⟩ := qv_nn sx
  obtain ⟨ey, ny⟩ := qv_nn sy
  have hY : fxr (rg y) ≠ 0 := by
    intro h
    rw [h] at ey
    have : qv y * UR = 0 := ey
    rcases Rat.mul_eq_zero.1 this with h1 | h1 <;> grind
  obtain ⟨r, e, hr⟩ := fdiv_near hx hy hY
  rw [sx, sy] at e
  have hXY : fxr (rg x) ≤ fxr (rg y) := by
    refine Rat.natCast_le_natCast.1 ?_
    rw [← ex, ← ey]
    exact Rat.mul_le_mul_of_nonneg_right hle (by grind)
  have hone : r ≤ rg fone := hr.le_of (by have := rg_one_lt; unfold infR; omega) (by rw [fxr_one, Nat.mul_comm U]; exact Nat.mul_le_mul_right _ hXY)
  have ho := rg_one_lt
  obtain ⟨e1, e2⟩ := hr.err (by omega) (by unfold infR; omega)
  have hf : isFin (wd false r) = true := fin_wd (by omega)
  have hsg : sg (wd false r) = false := sg_wd (by omega)
  simp only [Bool.xor_self] at e
  rw [e]
  refine ⟨hf, hsg, ?_⟩
  obtain ⟨er, nr⟩ := qv_nn hsg
  rw [rg_wd (by omega)] at er
  have h52 : (2 : Nat) ^ 52 = 4503599627370496 := by decide
  rw [h52] at e1 e2
  have m1 : max (4503599627370496 * fxr (rg y)) (fxr (rg x) * U) ≤ 4503599627370496 * fxr (rg y) + fxr (rg x) * U := by omega
  have k1 : 4503599627370496 * (fxr r * fxr (rg y)) ≤ 4503599627370496 * (fxr (rg x) * U) + (4503599627370496 * fxr (rg y) + fxr (rg x) * U) := by omega
  have k2 : 4503599627370496 * (fxr (rg x) * U) ≤ 4503599627370496 * (fxr r * fxr (rg y)) + (4503599627370496 * fxr (rg y) + fxr (rg x) * U) := by omega
  have k1 := Rat.natCast_le_natCast.2 k1
  have k2 := Rat.natCast_le_natCast.2 k2
  simp only [Rat.natCast_mul, Rat.natCast_add] at k1 k2
  rw [← er, ← ex, ← ey] at k1 k2
  have e3 : ((4503599627370496 : Nat) : Rat) = 4503599627370496 := by rfl
  have e4 : ((U : Nat) : Rat) = UR := rfl
  rw [e3, e4] at k1 k2
  have ht := tau_UR
  have ht2 : qv y * UR ≤ tau * qv y * (UR * UR) := by
    have := Rat.mul_le_mul_of_nonneg_right ht (c := qv y * UR) (Rat.mul_nonneg ny (by grind))
    grind
  have e5 : qv x * eta * (UR * UR) * 4503599627370496 = qv x * (UR * UR) := by unfold eta; grind
  have hUU : 0 < UR * UR := Rat.mul_pos hU hU
  generalize qv (wd false r) = q at *
  constructor
  · refine Rat.le_of_mul_le_mul_right (c := UR * UR) ?_ hUU
    grind
  · refine Rat.le_of_mul_le_mul_right (c := UR * UR) ?_ hUU
    grind
/-! ### Polynomials -/
end Go.Lk
end

section
/- Floats: the kind of what is finite, the greater of two, magnitudes by themselves. -/
namespace Go.Lk
open Ieee (Format Datum)
set_option linter.unusedSimpArgs false
set_option linter.unusedVariables false
set_option maxRecDepth 100000
/-! ### Magnitudes by themselves -/
theorem rg_sg (x : Nat) : sg (rg x) = false := by
  unfold sg; have := rg_lt x
  have : rg x / 2 ^ 63 = 0 := Nat.div_eq_of_lt this
  rw [this]; rfl
theorem fin_rg {x : Nat} (h : isFin x = true) : isFin (rg x) = true := by unfold isFin; rw [rg_rg]; exact h
theorem fabs_rg {x : Nat} (h : isFin x = true) : fabs x = rg x := by unfold fabs; rw [fin_num h]; rfl
end Go.Lk
end

section
/- Sum, of any row of complex numbers. -/
namespace Go.Lk
open Go.Proofs
set_option maxRecDepth 100000
set_option maxHeartbeats 0
set_option linter.unusedVariables false
set_option linter.unusedSimpArgs false
/-- The sum of the first k + 1. -/
def smA (a : Nat → Nat) : Nat → Nat
  | 0 => a 0
  | k + 1 => fadd (smA a k) (a (k + 1))
/-! ### Rows of complex numbers -/
def isCo : Value → Bool | .complex .f64 _ _ => true | _ => false
def reC (vs : List Value) (i : Nat) : Nat := match vs[i]? with | some (.complex .f64 a _) => a | _ => 0
def imC (vs : List Value) (i : Nat) : Nat := match vs[i]? with | some (.complex .f64 _ b) => b | _ => 0
theorem isCo_eq {v : Value} (h : isCo v = true) : ∃ a b, v = .complex .f64 a b := by
  unfold isCo at h
  split at h
  · exact ⟨_, _, rfl⟩
  · cases h
theorem coRow {vs : List Value} (h : vs.all isCo = true) : rowOf (fun i => [.complex .f64 (reC vs i) (imC vs i)]) vs.length = vs := by
  have hl := rowOf_len (f := fun i => [Value.complex .f64 (reC vs i) (imC vs i)]) (s := 1) (fun _ => rfl) vs.length
  apply List.ext_getElem?
  intro j
  rcases Nat.lt_or_ge j vs.length with hj | hj
  · have h3 := rowOf_at (f := fun i => [Value.complex .f64 (reC vs i) (imC vs i)]) (s := 1) (fun _ => rfl) (k := j) (n := vs.length) hj
    have h3 := congrArg (fun l => l[0]?) h3
    simp only [List.getElem?_take, List.getElem?_drop, Nat.mul_one, Nat.add_zero] at h3
    simp only [Nat.lt_one_iff, if_true, List.getElem?_cons_zero] at h3
    rw [h3]
    have hm : vs[j]? = some vs[j] := List.getElem?_eq_getElem hj
    obtain ⟨a, b, e⟩ := isCo_eq (List.all_eq_true.1 h vs[j] (List.getElem_mem hj))
    rw [e] at hm
    simp only [reC, imC, hm]
  · rw [List.getElem?_eq_none hj, List.getElem?_eq_none (by rw [hl]; omega)]
theorem co_get {x y : Nat → Nat} {M i : Nat} (h : i < M) : (rowOf (fun i => [Value.complex .f64 (x i) (y i)]) M)[i]? = some (.complex .f64 (x i) (y i)) := by
  have h3 := rowOf_at (f := fun i => [Value.complex .f64 (x i) (y i)]) (s := 1) (fun _ => rfl) (k := i) (n := M) h
  have h3 := congrArg (fun l => l[0]?) h3
  simp only [List.getElem?_take, List.getElem?_drop, Nat.mul_one, Nat.add_zero] at h3
  simp only [Nat.lt_one_iff, if_true, List.getElem?_cons_zero] at h3
  exact h3
theorem reC_row {x y : Nat → Nat} {M i : Nat} (h : i < M) : reC (rowOf (fun i => [.complex .f64 (x i) (y i)]) M) i = x i := by unfold reC; rw [co_get h]
theorem imC_row {x y : Nat → Nat} {M i : Nat} (h : i < M) : imC (rowOf (fun i => [.complex .f64 (x i) (y i)]) M) i = y i := by unfold imC; rw [co_get h]
theorem isCo_plain {vs : List Value} (h : vs.all isCo = true) : vs.all plain = true := by
  rw [List.all_eq_true] at h ⊢
  intro v hv
  obtain ⟨a, b, rfl⟩ := isCo_eq (h v hv)
  rfl
theorem isCo_row (x y : Nat → Nat) (M : Nat) : (rowOf (fun i => [Value.complex .f64 (x i) (y i)]) M).all isCo = true := rowOf_all (fun _ => rfl) M
theorem smA_congr {a b : Nat → Nat} : ∀ {k : Nat}, (∀ i, i ≤ k → a i = b i) → smA a k = smA b k
  | 0, h => h 0 (Nat.le_refl _)
  | k + 1, h => by
    show fadd (smA a k) (a (k + 1)) = fadd (smA b k) (b (k + 1))
    rw [smA_congr (fun i hi => h i (by omega)), h (k + 1) (Nat.le_refl _)]
/-- The sum of m, as Sum tells it. -/
def sumC (a : Nat → Nat) (m : Nat) : Nat := bif Nat.beq m 0 then 0 else smA a (m - 1)
theorem sumC_congr {a b : Nat → Nat} {m : Nat} (h : ∀ i, i < m → a i = b i) : sumC a m = sumC b m := by
  unfold sumC
  cases hm : Nat.beq m 0
  · have : m ≠ 0 := by rintro rfl; cases hm
    rw [cond_false, cond_false, smA_congr (fun i hi => h i (by omega))]
  · rfl
noncomputable def tsu : Tab := t1
theorem tsu_ok : tsu.Ok Try.prog false := t1_ok
end Go.Lk
end

section
/- Scene: finite and refused, in any heap. -/
namespace Go.Lk
open Go.Proofs
set_option maxRecDepth 100000
set_option maxHeartbeats 0
set_option linter.unusedVariables false
set_option linter.unusedSimpArgs false
theorem slice_op3 {P : Program} {t e : TypeId} {z b o len cap l h m off' n' c' : Nat} {low : Option Value} {k k2 : IntKind} {hi mi : Int} (hu : P.underlying t = some (.slice e)) (hz : tSize P e = some z) (hl : bnd low 0 h = some l) (hh : bnd (some (.int k hi)) len m = some h) (hm : bnd (some (.int k2 mi)) cap cap = some m) (hc : h ≤ m)
    (ho : off' = o + l * z) (hn : n' = h - l) (hcap : c' = m - l) :
    aSlice P t (.slice (some ⟨b, o, some z⟩) len cap) low (some (.int k hi)) (some (.int k2 mi)) = some (.slice (some ⟨b, off', some z⟩) n' c') := by
  unfold aSlice
  simp only [hu, hz]
  unfold bnds
  simp only [hm, Option.isSome_some, Option.isNone_some, Bool.and_false, Bool.false_eq_true, if_false, if_true, hh, hl]
  rw [if_pos ⟨trivial, hc⟩, ho, hn, hcap]
/-! ### finite -/
theorem if_loop (opn : Option Nat) (x : Nat → Nat) (M m cap : Nat) (hm : m ≤ M) (hM : m ≤ 65536) (h : ∀ i, i < m → isFin (x i) = true) (hst : Stood false [.row (rowOf (fun i => [.float .f64 (x i)]) M) false opn]) :
    Sim dLIb 1 (.loop (loopOf Try.f167 0)) (ifF m cap 0) [.row (rowOf (fun i => [.float .f64 (x i)]) M) false opn] (.exit 0) (ifF m cap m) [.row (rowOf (fun i => [.float .f64 (x i)]) M) false opn] :=
  Sim.loop (fun k => (ifF m cap k, [.row (rowOf (fun i => [.float .f64 (x i)]) M) false opn])) m
    (fun k hk => by
      have f := h k hk
      have t1 : feq (x k) (x k) = true := by rw [feq_fin f f]; exact decide_eq_true rfl
      have t2 : fgt (fabs (x k)) 9218868437227405311 = false := by
        rw [fabs_rg f, fgt_fin (fin_rg f) (by decide)]
        refine decide_eq_false ?_
        have h1 : rg (x k) < 2047 * 2 ^ 52 := of_decide_eq_true f
        have h2 : rg (x k) ≤ rg 9218868437227405311 := by rw [show rg 9218868437227405311 = 9218868437227405311 by decide]; omega
        have h3 := fxr_le.2 h2
        have e1 := fx_rg (rg_sg (x k))
        rw [rg_rg] at e1
        have e2 : fx 9218868437227405311 = ((fxr (rg 9218868437227405311) : Nat) : Int) := fx_rg (by decide)
        omega
      exact (ifR_p0 opn x M m cap hm hM k hk t1 t2 hst).cast (by kernel_rfl) (by kernel_rfl) (by kernel_rfl) (by kernel_rfl))
    ((ifE_p0 opn x M m cap hm hM hst).cast (by kernel_rfl) (by kernel_rfl) (by kernel_rfl) (by kernel_rfl)) rfl
def FinS (args : List Value) (σ : AHeap) : Prop :=
  ∃ b m cap M opn rw', ∃ x : Nat → Nat, args = [.slice (some ⟨b, 0, some 1⟩) m cap] ∧ σ[b]? = some (.row (rowOf (fun i => [.float .f64 (x i)]) M) rw' opn) ∧ m ≤ M ∧ m ≤ 65536 ∧ ∀ i, i < m → isFin (x i) = true
open Classical in
noncomputable def sFinS : HeapFn := fun args σ => if FinS args σ then some (.bool true, σ) else none
theorem sFinS_ok : IsHeap Try.prog false 167 true sFinS := by
  have key : ∀ (args : List Value) (σ : AHeap) (v : Value) (σ' : AHeap), sFinS args σ = some (v, σ') → σ' = σ := by
    intro args σ v σ' h
    unfold sFinS at h
    split at h
    · cases h; rfl
    · cases h
  refine ⟨fun args σ v σ' h => ?_, fun _ args σ v σ' h => key args σ v σ' h, fun args σ v σ' h => by rw [key args σ v σ' h]; exact Nat.le_refl _⟩
  unfold sFinS at h
  split at h
  · rename_i hx
    cases h
    obtain ⟨b, m, cap, M, opn, rw', x, rfl, hb, hm, hM, hn⟩ := hx
    have hs : CallR Try.prog false 167 [.slice (some ⟨0, 0, some 1⟩) m cap] [.row (rowOf (fun i => [.float .f64 (x i)]) M) false opn] (.bool true) [.row (rowOf (fun i => [.float .f64 (x i)]) M) false opn] :=
      ifP_p0 opn x M m cap hm hM (fun hst => ((if_loop opn x M m cap hm hM hn hst).enter ([false, false, true, false, false, true, true, true] ++ List.replicate 10 false) (by kernel_rfl)).cast rfl (by kernel_rfl) (by kernel_rfl) (by kernel_rfl))
    refine CallR.frameQ (r := fun k => if k = 0 then b else k + σ.length) ⟨fun k o hk => ?_, fun k hk => ?_⟩ ?_ hs rfl
    · have : k = 0 := by have := lt_of_some hk; simpa using this
      subst this
      simp only [List.getElem?_cons_zero, Option.some.injEq] at hk
      exact ⟨_, opn, rw', hk.symm, hb, rowOf_all (fun _ => rfl) M⟩
    · have hk : 1 ≤ k := hk
      have : ¬ k = 0 := by omega
      simp only [this, if_false]; omega
    · rfl
  · cases h
theorem sFinS_row {σ : AHeap} {b m cap M : Nat} {opn : Option Nat} {rw' : Bool} {x : Nat → Nat} (h : σ[b]? = some (.row (rowOf (fun i => [.float .f64 (x i)]) M) rw' opn)) (hm : m ≤ M) (hM : m ≤ 65536) (hn : ∀ i, i < m → isFin (x i) = true) :
    sFinS [.slice (some ⟨b, 0, some 1⟩) m cap] σ = some (.bool true, σ) := if_pos ⟨b, m, cap, M, opn, rw', x, rfl, h, hm, hM, hn⟩
/-! ### refused -/
def RefP (args : List Value) (σ : AHeap) : Prop :=
  ∃ (c w r : Nat) (e p : Int) (b l cap N : Nat) (opn : Option Nat) (rw' : Bool) (k : Int) (y z : Nat → Nat), args = [.agg #[.float .f64 c, .float .f64 w, .float .f64 r, .int .i64 e, .int .i64 p], .slice (some ⟨b, 0, some 1⟩) l cap, .int .i64 k] ∧
    σ[b]? = some (.row (rowOf (fun i => [.complex .f64 (y i) (z i)]) N) rw' opn) ∧ iaCheck_0 c w r e p = 0 ∧ 0 < l ∧ l ≤ 16384 ∧ k ≤ 256 ∧ ¬ (IntKind.i64.wrap (IntKind.i64.wrap (k * p) * iN l) > 16777216)
open Classical in
noncomputable def sRefused : HeapFn := fun args σ => if RefP args σ then some (.int .i64 0, σ) else none
theorem sRefused_ok : IsHeap Try.prog false 166 true sRefused := by
  have key : ∀ (args : List Value) (σ : AHeap) (v : Value) (σ' : AHeap), sRefused args σ = some (v, σ') → σ' = σ := by
    intro args σ v σ' h
    unfold sRefused at h
    split at h
    · cases h; rfl
    · cases h
  refine ⟨fun args σ v σ' h => ?_, fun _ args σ v σ' h => key args σ v σ' h, fun args σ v σ' h => by rw [key args σ v σ' h]; exact Nat.le_refl _⟩
  unfold sRefused at h
  split at h
  · rename_i hx
    cases h
    obtain ⟨c, w, r, e, p, b, l, cap, N, opn, rw', k, y, z, rfl, hb, h1, h2, h3, h4, h5⟩ := hx
    have hs := ibRef_p0 opn y z N c w r e p l cap k (by rw [h1]; rfl) (beq_false_of_ne (by rw [iN_eq]; show (l : Int) ≠ 0; omega)) (decide_eq_false (by show ¬ k > 256; omega)) (decide_eq_false (by rw [iN_eq]; show ¬ (l : Int) > 16384; omega)) (decide_eq_false h5)
    refine CallR.frameQ (r := fun k => if k = 0 then b else k + σ.length) ⟨fun k o hk => ?_, fun k hk => ?_⟩ ?_ hs rfl
    · have : k = 0 := by have := lt_of_some hk; simpa using this
      subst this
      simp only [List.getElem?_cons_zero, Option.some.injEq] at hk
      exact ⟨_, opn, rw', hk.symm, hb, rowOf_all (fun _ => rfl) N⟩
    · have hk : 1 ≤ k := hk
      have : ¬ k = 0 := by omega
      simp only [this, if_false]; omega
    · rfl
  · cases h
theorem sRefused_at {c w r : Nat} {e p : Int} {b l cap N : Nat} {opn : Option Nat} {rw' : Bool} {k : Int} {y z : Nat → Nat} {σ : AHeap} (hb : σ[b]? = some (.row (rowOf (fun i => [.complex .f64 (y i) (z i)]) N) rw' opn))
    (h1 : iaCheck_0 c w r e p = 0) (h2 : 0 < l) (h3 : l ≤ 16384) (h4 : k ≤ 256) (h5 : ¬ (IntKind.i64.wrap (IntKind.i64.wrap (k * p) * iN l) > 16777216)) :
    sRefused [.agg #[.float .f64 c, .float .f64 w, .float .f64 r, .int .i64 e, .int .i64 p], .slice (some ⟨b, 0, some 1⟩) l cap, .int .i64 k] σ = some (.int .i64 0, σ) :=
  if_pos ⟨c, w, r, e, p, b, l, cap, N, opn, rw', k, y, z, rfl, hb, h1, h2, h3, h4, h5⟩
end Go.Lk
end

section
/- Scene: blank. -/
namespace Go.Lk
open Go.Proofs
set_option maxRecDepth 100000
set_option maxHeartbeats 0
set_option linter.unusedVariables false
set_option linter.unusedSimpArgs false
-- closed rows
-- no trees
def idF (R E p : Nat) : List Value := [undef, .pointer (some ⟨0, 0, none⟩), .slice none 0 0, .slice none 0 0, .slice (some ⟨1, 0, some 1⟩) (R * E) (R * E), .slice (some ⟨2, 0, some 1⟩) R R, undef, undef, undef, undef, undef, undef, undef, undef, undef, undef, undef, .int .i64 (iN R), .int .i64 (iN p)] ++ List.replicate 24 undef
theorem idR_okX : codeOkX (dLIb) [] (loopOf Try.f168 0) = true := by kernel_rfl
theorem idR_p0 (c : Nat) (w : Nat) (r : Nat) (R : Nat) (E : Nat) (h0 : 0 < E) (hE : E ≤ 16384) (p : Nat) (hp : p < R) (hR : R ≤ 256) (m1 : iN p * iN E = iN (p * E)) (m2 : 0 ≤ iN p * iN E) (m3 : iN p * iN E ≤ 262144) (m4 : iN (p + 1) * iN E = iN ((p + 1) * E)) (m5 : 0 ≤ iN (p + 1) * iN E) (m6 : iN (p + 1) * iN E ≤ 262144) (m7 : p * E ≤ (p + 1) * E) (m8 : (p + 1) * E ≤ R * E) (hst : Stood false ([])) : Sim (dLIb) 3 (loopOf Try.f168 0) ((idF R E p)) ([.row [.float .f64 c, .float .f64 w, .float .f64 r, .int .i64 (iN E), .int .i64 (iN R)] true none, .row (rowOf (fun i => [.complex .f64 0 0]) (R * E)) true none, .row (rowOf (half2 (fun q => [.slice (some ⟨1, 0 + q * E * 1, some 1⟩) ((q + 1) * E - q * E) ((q + 1) * E - q * E)]) (fun _ => [.slice none 0 0]) p) R) true none]) .normal ([undef, Value.pointer (some ⟨0, 0, none⟩), Value.slice none 0 0, Value.slice none 0 0, Value.slice (some ⟨1, 0, some 1⟩) (R * E) (R * E), Value.slice (some ⟨2, 0, some 1⟩) R R, undef, undef, undef, undef, undef, undef, undef, undef, undef, undef, undef, Value.int .i64 (iN R), Value.int .i64 (iN (p + 1)), undef, undef, undef, undef, undef, undef, undef, undef, undef, undef, undef, undef, undef, undef, undef, undef, undef, undef, undef, undef, undef, undef, undef, undef]) ([AObj.row [Value.float .f64 c, Value.float .f64 w, Value.float .f64 r, Value.int .i64 (iN E), Value.int .i64 (iN R)] true none, AObj.row (rowOf (fun i => [Value.complex .f64 0 0]) (R * E)) true none, AObj.row (rowOf (half2 (fun q => [Value.slice (some { block := 1, off := 0 + q * E * 1, spot := some 1 }) ((q + 1) * E - q * E) ((q + 1) * E - q * E)]) (fun x => [Value.slice none 0 0]) (p + 1)) R) true none]) := Sim.of_roundC (C := dLIb) dLIb_ok (X := []) (n := 3) (orc := [(2, Item.br true), (20, Item.res (Value.int .i64 (iN (p * E)))), (24, Item.res (Value.int .i64 (iN (p + 1)))), (30, Item.res (Value.int .i64 (iN ((p + 1) * E)))), (34, Item.res (Value.int .i64 (iN (p + 1)))), (40, Item.res (Value.int .i64 (iN ((p + 1) * E)))), (42, Item.eff (Value.slice (some { block := 1, off := 0 + p * E * 1, spot := some 1 }) ((p + 1) * E - p * E) ((p + 1) * E - p * E)) [AObj.row [Value.float .f64 c, Value.float .f64 w, Value.float .f64 r, Value.int .i64 (iN E), Value.int .i64 (iN R)] true none, AObj.row (rowOf (fun i => [Value.complex .f64 0 0]) (R * E)) true none, AObj.row (rowOf (half2 (fun q => [Value.slice (some { block := 1, off := 0 + q * E * 1, spot := some 1 }) ((q + 1) * E - q * E) ((q + 1) * E - q * E)]) (fun x => [Value.slice none 0 0]) p) R) true none]), (44, Item.res (Value.pointer (some { block := 2, off := 0 + p * 1 }))), (46, Item.eff undef [AObj.row [Value.float .f64 c, Value.float .f64 w, Value.float .f64 r, Value.int .i64 (iN E), Value.int .i64 (iN R)] true none, AObj.row (rowOf (fun i => [Value.complex .f64 0 0]) (R * E)) true none, AObj.row (rowOf (half2 (fun q => [Value.slice (some { block := 1, off := 0 + q * E * 1, spot := some 1 }) ((q + 1) * E - q * E) ((q + 1) * E - q * E)]) (fun x => [Value.slice none 0 0]) (p + 1)) R) true none]), (48, Item.res (Value.int .i64 (iN (p + 1))))]) (ks := [0, 1, 2]) (mask := [false, true, true, true, true, true, false, false, false, false, false, false, false, false, false, false, false, true, true, false, false, false, false, false, false, false, false, false, false, false, false, false, false, false, false, false, false, false, false, false, false, false, false]) (ps := [(some (decide (iN p < iN R)) = some true), (wF IntKind.i64 (iN p * iN E) ([AObj.row [Value.float .f64 c, Value.float .f64 w, Value.float .f64 r, Value.int .i64 (iN E), Value.int .i64 (iN R)] true none, AObj.row (rowOf (fun i => [Value.complex .f64 0 0]) (R * E)) true none, AObj.row (rowOf (half2 (fun q => [Value.slice (some { block := 1, off := 0 + q * E * 1, spot := some 1 }) ((q + 1) * E - q * E) ((q + 1) * E - q * E)]) (fun x => [Value.slice none 0 0]) p) R) true none]) = some (.int IntKind.i64 (iN (p * E)), [AObj.row [Value.float .f64 c, Value.float .f64 w, Value.float .f64 r, Value.int .i64 (iN E), Value.int .i64 (iN R)] true none, AObj.row (rowOf (fun i => [Value.complex .f64 0 0]) (R * E)) true none, AObj.row (rowOf (half2 (fun q => [Value.slice (some { block := 1, off := 0 + q * E * 1, spot := some 1 }) ((q + 1) * E - q * E) ((q + 1) * E - q * E)]) (fun x => [Value.slice none 0 0]) p) R) true none])), (wF IntKind.i64 (iN p + 1) ([AObj.row [Value.float .f64 c, Value.float .f64 w, Value.float .f64 r, Value.int .i64 (iN E), Value.int .i64 (iN R)] true none, AObj.row (rowOf (fun i => [Value.complex .f64 0 0]) (R * E)) true none, AObj.row (rowOf (half2 (fun q => [Value.slice (some { block := 1, off := 0 + q * E * 1, spot := some 1 }) ((q + 1) * E - q * E) ((q + 1) * E - q * E)]) (fun x => [Value.slice none 0 0]) p) R) true none]) = some (.int IntKind.i64 (iN (p + 1)), [AObj.row [Value.float .f64 c, Value.float .f64 w, Value.float .f64 r, Value.int .i64 (iN E), Value.int .i64 (iN R)] true none, AObj.row (rowOf (fun i => [Value.complex .f64 0 0]) (R * E)) true none, AObj.row (rowOf (half2 (fun q => [Value.slice (some { block := 1, off := 0 + q * E * 1, spot := some 1 }) ((q + 1) * E - q * E) ((q + 1) * E - q * E)]) (fun x => [Value.slice none 0 0]) p) R) true none])), (wF IntKind.i64 (iN (p + 1) * iN E) ([AObj.row [Value.float .f64 c, Value.float .f64 w, Value.float .f64 r, Value.int .i64 (iN E), Value.int .i64 (iN R)] true none, AObj.row (rowOf (fun i => [Value.complex .f64 0 0]) (R * E)) true none, AObj.row (rowOf (half2 (fun q => [Value.slice (some { block := 1, off := 0 + q * E * 1, spot := some 1 }) ((q + 1) * E - q * E) ((q + 1) * E - q * E)]) (fun x => [Value.slice none 0 0]) p) R) true none]) = some (.int IntKind.i64 (iN ((p + 1) * E)), [AObj.row [Value.float .f64 c, Value.float .f64 w, Value.float .f64 r, Value.int .i64 (iN E), Value.int .i64 (iN R)] true none, AObj.row (rowOf (fun i => [Value.complex .f64 0 0]) (R * E)) true none, AObj.row (rowOf (half2 (fun q => [Value.slice (some { block := 1, off := 0 + q * E * 1, spot := some 1 }) ((q + 1) * E - q * E) ((q + 1) * E - q * E)]) (fun x => [Value.slice none 0 0]) p) R) true none])), (wF IntKind.i64 (iN p + 1) ([AObj.row [Value.float .f64 c, Value.float .f64 w, Value.float .f64 r, Value.int .i64 (iN E), Value.int .i64 (iN R)] true none, AObj.row (rowOf (fun i => [Value.complex .f64 0 0]) (R * E)) true none, AObj.row (rowOf (half2 (fun q => [Value.slice (some { block := 1, off := 0 + q * E * 1, spot := some 1 }) ((q + 1) * E - q * E) ((q + 1) * E - q * E)]) (fun x => [Value.slice none 0 0]) p) R) true none]) = some (.int IntKind.i64 (iN (p + 1)), [AObj.row [Value.float .f64 c, Value.float .f64 w, Value.float .f64 r, Value.int .i64 (iN E), Value.int .i64 (iN R)] true none, AObj.row (rowOf (fun i => [Value.complex .f64 0 0]) (R * E)) true none, AObj.row (rowOf (half2 (fun q => [Value.slice (some { block := 1, off := 0 + q * E * 1, spot := some 1 }) ((q + 1) * E - q * E) ((q + 1) * E - q * E)]) (fun x => [Value.slice none 0 0]) p) R) true none])), (wF IntKind.i64 (iN (p + 1) * iN E) ([AObj.row [Value.float .f64 c, Value.float .f64 w, Value.float .f64 r, Value.int .i64 (iN E), Value.int .i64 (iN R)] true none, AObj.row (rowOf (fun i => [Value.complex .f64 0 0]) (R * E)) true none, AObj.row (rowOf (half2 (fun q => [Value.slice (some { block := 1, off := 0 + q * E * 1, spot := some 1 }) ((q + 1) * E - q * E) ((q + 1) * E - q * E)]) (fun x => [Value.slice none 0 0]) p) R) true none]) = some (.int IntKind.i64 (iN ((p + 1) * E)), [AObj.row [Value.float .f64 c, Value.float .f64 w, Value.float .f64 r, Value.int .i64 (iN E), Value.int .i64 (iN R)] true none, AObj.row (rowOf (fun i => [Value.complex .f64 0 0]) (R * E)) true none, AObj.row (rowOf (half2 (fun q => [Value.slice (some { block := 1, off := 0 + q * E * 1, spot := some 1 }) ((q + 1) * E - q * E) ((q + 1) * E - q * E)]) (fun x => [Value.slice none 0 0]) p) R) true none])), (ldF (aSlice Try.prog 66 (Value.slice (some ⟨1, 0, some 1⟩) (R * E) (R * E)) (some (Value.int .i64 (iN (p * E)))) (some (Value.int .i64 (iN ((p + 1) * E)))) (some (Value.int .i64 (iN ((p + 1) * E))))) ([AObj.row [Value.float .f64 c, Value.float .f64 w, Value.float .f64 r, Value.int .i64 (iN E), Value.int .i64 (iN R)] true none, AObj.row (rowOf (fun i => [Value.complex .f64 0 0]) (R * E)) true none, AObj.row (rowOf (half2 (fun q => [Value.slice (some { block := 1, off := 0 + q * E * 1, spot := some 1 }) ((q + 1) * E - q * E) ((q + 1) * E - q * E)]) (fun x => [Value.slice none 0 0]) p) R) true none]) = some (Value.slice (some { block := 1, off := 0 + p * E * 1, spot := some 1 }) ((p + 1) * E - p * E) ((p + 1) * E - p * E), [AObj.row [Value.float .f64 c, Value.float .f64 w, Value.float .f64 r, Value.int .i64 (iN E), Value.int .i64 (iN R)] true none, AObj.row (rowOf (fun i => [Value.complex .f64 0 0]) (R * E)) true none, AObj.row (rowOf (half2 (fun q => [Value.slice (some { block := 1, off := 0 + q * E * 1, spot := some 1 }) ((q + 1) * E - q * E) ((q + 1) * E - q * E)]) (fun x => [Value.slice none 0 0]) p) R) true none])), (ixF (Value.pointer (some { block := 2, off := 0 + p * 1 })) ([AObj.row [Value.float .f64 c, Value.float .f64 w, Value.float .f64 r, Value.int .i64 (iN E), Value.int .i64 (iN R)] true none, AObj.row (rowOf (fun i => [Value.complex .f64 0 0]) (R * E)) true none, AObj.row (rowOf (half2 (fun q => [Value.slice (some { block := 1, off := 0 + q * E * 1, spot := some 1 }) ((q + 1) * E - q * E) ((q + 1) * E - q * E)]) (fun x => [Value.slice none 0 0]) p) R) true none]) (iN p) (R) = some (Value.pointer (some { block := 2, off := 0 + p * 1 }), [AObj.row [Value.float .f64 c, Value.float .f64 w, Value.float .f64 r, Value.int .i64 (iN E), Value.int .i64 (iN R)] true none, AObj.row (rowOf (fun i => [Value.complex .f64 0 0]) (R * E)) true none, AObj.row (rowOf (half2 (fun q => [Value.slice (some { block := 1, off := 0 + q * E * 1, spot := some 1 }) ((q + 1) * E - q * E) ((q + 1) * E - q * E)]) (fun x => [Value.slice none 0 0]) p) R) true none])), (stF (aStore Try.prog ([AObj.row [Value.float .f64 c, Value.float .f64 w, Value.float .f64 r, Value.int .i64 (iN E), Value.int .i64 (iN R)] true none, AObj.row (rowOf (fun i => [Value.complex .f64 0 0]) (R * E)) true none, AObj.row (rowOf (half2 (fun q => [Value.slice (some { block := 1, off := 0 + q * E * 1, spot := some 1 }) ((q + 1) * E - q * E) ((q + 1) * E - q * E)]) (fun x => [Value.slice none 0 0]) p) R) true none]) 66 (.pointer (some ⟨2, 0 + p * 1, none⟩)) (Value.slice (some { block := 1, off := 0 + p * E * 1, spot := some 1 }) ((p + 1) * E - p * E) ((p + 1) * E - p * E))) = some (undef, [AObj.row [Value.float .f64 c, Value.float .f64 w, Value.float .f64 r, Value.int .i64 (iN E), Value.int .i64 (iN R)] true none, AObj.row (rowOf (fun i => [Value.complex .f64 0 0]) (R * E)) true none, AObj.row (rowOf (half2 (fun q => [Value.slice (some { block := 1, off := 0 + q * E * 1, spot := some 1 }) ((q + 1) * E - q * E) ((q + 1) * E - q * E)]) (fun x => [Value.slice none 0 0]) (p + 1)) R) true none])), (wF IntKind.i64 (iN p + 1) ([AObj.row [Value.float .f64 c, Value.float .f64 w, Value.float .f64 r, Value.int .i64 (iN E), Value.int .i64 (iN R)] true none, AObj.row (rowOf (fun i => [Value.complex .f64 0 0]) (R * E)) true none, AObj.row (rowOf (half2 (fun q => [Value.slice (some { block := 1, off := 0 + q * E * 1, spot := some 1 }) ((q + 1) * E - q * E) ((q + 1) * E - q * E)]) (fun x => [Value.slice none 0 0]) (p + 1)) R) true none]) = some (.int IntKind.i64 (iN (p + 1)), [AObj.row [Value.float .f64 c, Value.float .f64 w, Value.float .f64 r, Value.int .i64 (iN E), Value.int .i64 (iN R)] true none, AObj.row (rowOf (fun i => [Value.complex .f64 0 0]) (R * E)) true none, AObj.row (rowOf (half2 (fun q => [Value.slice (some { block := 1, off := 0 + q * E * 1, spot := some 1 }) ((q + 1) * E - q * E) ((q + 1) * E - q * E)]) (fun x => [Value.slice none 0 0]) (p + 1)) R) true none]))]) (L := 3) 3 idR_okX (by kernel_rfl) ⟨bP_of (fun x => x) (show (decide (iN p < iN R)) = true from decide_eq_true (by (try simp only [decide_eq_true_eq, decide_eq_false_iff_not] at *); (try simp only [iN_eq, Int.ofNat_eq_natCast] at *); try omega)), ⟨wF_ok _ (by (try simp only [decide_eq_true_eq, decide_eq_false_iff_not] at *); (try simp only [iN_eq, Int.ofNat_eq_natCast] at *); try omega) (by (try simp only [decide_eq_true_eq, decide_eq_false_iff_not] at *); (try simp only [iN_eq, Int.ofNat_eq_natCast] at *); try omega), ⟨wF_ok _ (by (try simp only [decide_eq_true_eq, decide_eq_false_iff_not] at *); (try simp only [iN_eq, Int.ofNat_eq_natCast] at *); try omega) (by (try simp only [decide_eq_true_eq, decide_eq_false_iff_not] at *); (try simp only [iN_eq, Int.ofNat_eq_natCast] at *); try omega), ⟨wF_ok _ (by (try simp only [decide_eq_true_eq, decide_eq_false_iff_not] at *); (try simp only [iN_eq, Int.ofNat_eq_natCast] at *); try omega) (by (try simp only [decide_eq_true_eq, decide_eq_false_iff_not] at *); (try simp only [iN_eq, Int.ofNat_eq_natCast] at *); try omega), ⟨wF_ok _ (by (try simp only [decide_eq_true_eq, decide_eq_false_iff_not] at *); (try simp only [iN_eq, Int.ofNat_eq_natCast] at *); try omega) (by (try simp only [decide_eq_true_eq, decide_eq_false_iff_not] at *); (try simp only [iN_eq, Int.ofNat_eq_natCast] at *); try omega), ⟨wF_ok _ (by (try simp only [decide_eq_true_eq, decide_eq_false_iff_not] at *); (try simp only [iN_eq, Int.ofNat_eq_natCast] at *); try omega) (by (try simp only [decide_eq_true_eq, decide_eq_false_iff_not] at *); (try simp only [iN_eq, Int.ofNat_eq_natCast] at *); try omega), ⟨ldF_ok (slice_op3 (e := 27) (z := 1) (l := p * E) (h := (p + 1) * E) (m := (p + 1) * E) (by kernel_rfl) (by kernel_rfl) (bnd_int (by (try simp only [decide_eq_true_eq, decide_eq_false_iff_not] at *); (try simp only [iN_eq, Int.ofNat_eq_natCast] at *); try omega)) (bnd_int (by (try simp only [decide_eq_true_eq, decide_eq_false_iff_not] at *); (try simp only [iN_eq, Int.ofNat_eq_natCast] at *); try omega)) (bnd_int (by (try simp only [decide_eq_true_eq, decide_eq_false_iff_not] at *); (try simp only [iN_eq, Int.ofNat_eq_natCast] at *); try omega)) (by (try simp only [decide_eq_true_eq, decide_eq_false_iff_not] at *); (try simp only [iN_eq, Int.ofNat_eq_natCast] at *); try omega) (by (try simp only [decide_eq_true_eq, decide_eq_false_iff_not] at *); (try simp only [iN_eq, Int.ofNat_eq_natCast] at *); try omega) (by (try simp only [decide_eq_true_eq, decide_eq_false_iff_not] at *); (try simp only [iN_eq, Int.ofNat_eq_natCast] at *); try omega) (by (try simp only [decide_eq_true_eq, decide_eq_false_iff_not] at *); (try simp only [iN_eq, Int.ofNat_eq_natCast] at *); try omega)), ⟨ixF_ok _ _ (by (try simp only [decide_eq_true_eq, decide_eq_false_iff_not] at *); (try simp only [iN_eq, Int.ofNat_eq_natCast] at *); try omega), ⟨stF_ok (store_row (z := 1) (k := p) (f := half2 (fun q => [Value.slice (some { block := 1, off := 0 + q * E * 1, spot := some 1 }) ((q + 1) * E - q * E) ((q + 1) * E - q * E)]) (fun x => [Value.slice none 0 0]) p) (g := half2 (fun q => [Value.slice (some { block := 1, off := 0 + q * E * 1, spot := some 1 }) ((q + 1) * E - q * E) ((q + 1) * E - q * E)]) (fun x => [Value.slice none 0 0]) (p + 1)) rfl (by kernel_rfl) (half2_len (s := 1) (fun _ => rfl) (fun _ => rfl) _) (half2_len (s := 1) (fun _ => rfl) (fun _ => rfl) _) (by rw [half2_at]; try kernel_rfl) (by rw [half2_at]; try kernel_rfl) (by (try simp only [decide_eq_true_eq, decide_eq_false_iff_not] at *); (try simp only [iN_eq, Int.ofNat_eq_natCast] at *); try omega) (by (try simp only [decide_eq_true_eq, decide_eq_false_iff_not] at *); (try simp only [iN_eq, Int.ofNat_eq_natCast] at *); try omega) (fun i h => half2_ne _ _ _ i h)), ⟨wF_ok _ (by (try simp only [decide_eq_true_eq, decide_eq_false_iff_not] at *); (try simp only [iN_eq, Int.ofNat_eq_natCast] at *); try omega) (by (try simp only [decide_eq_true_eq, decide_eq_false_iff_not] at *); (try simp only [iN_eq, Int.ofNat_eq_natCast] at *); try omega), trivial⟩⟩⟩⟩⟩⟩⟩⟩⟩⟩ hst (by kernel_rfl) (by kernel_rfl) (by kernel_rfl) (by decide) (by kernel_rfl) ⟨by first | exact stay_closed (by kernel_rfl) | exact stay_plain (by kernel_rfl), ⟨by first | exact stay_plain (rowOf_all (fun _ => rfl) _) | exact stay_closed (rowOf_all (fun _ => rfl) _), ⟨by first | exact stay_plain (rowOf_all (half2_all (fun _ => rfl) (fun _ => rfl) _) _) | exact stay_closed (rowOf_all (half2_all (fun _ => rfl) (fun _ => rfl) _) _), trivial⟩⟩⟩
theorem idE_okX : codeOkX (dLIb) [] (loopOf Try.f168 0) = true := by kernel_rfl
theorem idE_p0 (c : Nat) (w : Nat) (r : Nat) (R : Nat) (E : Nat) (h0 : 0 < E) (hE : E ≤ 16384) (hR : R ≤ 256) (hst : Stood false ([])) : Sim (dLIb) 3 (loopOf Try.f168 0) ((idF R E R)) ([.row [.float .f64 c, .float .f64 w, .float .f64 r, .int .i64 (iN E), .int .i64 (iN R)] true none, .row (rowOf (fun i => [.complex .f64 0 0]) (R * E)) true none, .row (rowOf (half2 (fun q => [.slice (some ⟨1, 0 + q * E * 1, some 1⟩) ((q + 1) * E - q * E) ((q + 1) * E - q * E)]) (fun _ => [.slice none 0 0]) R) R) true none]) (.exit 0) ([undef, Value.pointer (some ⟨0, 0, none⟩), Value.slice none 0 0, Value.slice none 0 0, Value.slice (some ⟨1, 0, some 1⟩) (R * E) (R * E), Value.slice (some ⟨2, 0, some 1⟩) R R, undef, undef, undef, undef, undef, undef, undef, undef, undef, undef, undef, Value.int .i64 (iN R), Value.int .i64 (iN R), undef, undef, undef, undef, undef, undef, undef, undef, undef, undef, undef, undef, undef, undef, undef, undef, undef, undef, undef, undef, undef, undef, undef, undef]) ([AObj.row [Value.float .f64 c, Value.float .f64 w, Value.float .f64 r, Value.int .i64 (iN E), Value.int .i64 (iN R)] true none, AObj.row (rowOf (fun i => [Value.complex .f64 0 0]) (R * E)) true none, AObj.row (rowOf (half2 (fun q => [Value.slice (some { block := 1, off := 0 + q * E * 1, spot := some 1 }) ((q + 1) * E - q * E) ((q + 1) * E - q * E)]) (fun x => [Value.slice none 0 0]) R) R) true none]) := Sim.of_roundC (C := dLIb) dLIb_ok (X := []) (n := 3) (orc := [(2, Item.br false)]) (ks := [0, 1, 2]) (mask := [false, true, true, true, true, true, false, false, false, false, false, false, false, false, false, false, false, true, true, false, false, false, false, false, false, false, false, false, false, false, false, false, false, false, false, false, false, false, false, false, false, false, false]) (ps := [(some (decide (iN R < iN R)) = some false)]) (L := 3) 3 idE_okX (by kernel_rfl) ⟨bP_of (fun x => x) (show (decide (iN R < iN R)) = false from decide_eq_false (by (try simp only [decide_eq_true_eq, decide_eq_false_iff_not] at *); (try simp only [iN_eq, Int.ofNat_eq_natCast] at *); try omega)), trivial⟩ hst (by kernel_rfl) (by kernel_rfl) (by kernel_rfl) (by decide) (by kernel_rfl) ⟨by first | exact stay_closed (by kernel_rfl) | exact stay_plain (by kernel_rfl), ⟨by first | exact stay_plain (rowOf_all (fun _ => rfl) _) | exact stay_closed (rowOf_all (fun _ => rfl) _), ⟨by first | exact stay_plain (rowOf_all (half2_all (fun _ => rfl) (fun _ => rfl) _) _) | exact stay_closed (rowOf_all (half2_all (fun _ => rfl) (fun _ => rfl) _) _), trivial⟩⟩⟩
theorem idP_fok : fnOkX (dLIb) [] Try.f168 = true := by kernel_rfl
theorem idP_p0 (c : Nat) (w : Nat) (r : Nat) (R : Nat) (E : Nat) (h0 : 0 < E) (hE : E ≤ 16384) (hR0 : 0 < R) (hR : R ≤ 256) (n1 : iN R * iN E = iN (R * E)) (n2 : 0 ≤ iN R * iN E) (n3 : iN R * iN E ≤ 262144) (l0 : Stood false ([]) → Sim (dLIb) 3 (.loop (loopOf Try.f168 0)) ([Value.agg { toList := [Value.float .f64 c, Value.float .f64 w, Value.float .f64 r, Value.int .i64 (iN E), Value.int .i64 (iN R)] }, Value.pointer (some ⟨0, 0, none⟩), Value.slice none 0 0, Value.slice none 0 0, Value.slice (some ⟨1, 0, some 1⟩) (R * E) (R * E), Value.slice (some ⟨2, 0, some 1⟩) R R, undef, Value.pointer (some ⟨0, 4, none⟩), Value.int .i64 (iN R), Value.pointer (some ⟨0, 3, none⟩), Value.int .i64 (iN E), Value.int .i64 (iN (R * E)), Value.slice (some ⟨1, 0, some 1⟩) (R * E) (R * E), Value.pointer (some ⟨0, 4, none⟩), Value.int .i64 (iN R), Value.slice (some ⟨2, 0, some 1⟩) R R, Value.slice (some ⟨2, 0, some 1⟩) R R, Value.int .i64 (iN R), Value.int .i64 (Int.ofNat 0), undef, undef, undef, undef, undef, undef, undef, undef, undef, undef, undef, undef, undef, undef, undef, undef, undef, undef, undef, undef, undef, undef, undef, undef]) ([AObj.row [Value.float .f64 c, Value.float .f64 w, Value.float .f64 r, Value.int .i64 (iN E), Value.int .i64 (iN R)] true none, AObj.row (rowOf (fun i => [Value.complex .f64 0 0]) (R * E)) true none, AObj.row (rowOf (fun i => [Value.slice none 0 0]) R) true none]) (Exit.exit 0) ([undef, Value.pointer (some ⟨0, 0, none⟩), Value.slice none 0 0, Value.slice none 0 0, Value.slice (some ⟨1, 0, some 1⟩) (R * E) (R * E), Value.slice (some ⟨2, 0, some 1⟩) R R, undef, undef, undef, undef, undef, undef, undef, undef, undef, undef, undef, Value.int .i64 (iN R), Value.int .i64 (iN R), undef, undef, undef, undef, undef, undef, undef, undef, undef, undef, undef, undef, undef, undef, undef, undef, undef, undef, undef, undef, undef, undef, undef, undef]) ([AObj.row [Value.float .f64 c, Value.float .f64 w, Value.float .f64 r, Value.int .i64 (iN E), Value.int .i64 (iN R)] true none, AObj.row (rowOf (fun i => [Value.complex .f64 0 0]) (R * E)) true none, AObj.row (rowOf (fun q => [Value.slice (some { block := 1, off := 0 + q * E * 1, spot := some 1 }) ((q + 1) * E - q * E) ((q + 1) * E - q * E)]) R) true none])) : CallR Try.prog false 168 ([Value.agg { toList := [Value.float .f64 c, Value.float .f64 w, Value.float .f64 r, Value.int .i64 (iN E), Value.int .i64 (iN R)] }]) ([]) (Value.tuple { toList := [Value.slice (some ⟨2, 0, some 1⟩) R R, Value.slice (some ⟨1, 0, some 1⟩) (R * E) (R * E)] }) ([AObj.row [Value.float .f64 c, Value.float .f64 w, Value.float .f64 r, Value.int .i64 (iN E), Value.int .i64 (iN R)] true none, AObj.row (rowOf (fun i => [Value.complex .f64 0 0]) (R * E)) true none, AObj.row (rowOf (fun q => [Value.slice (some { block := 1, off := 0 + q * E * 1, spot := some 1 }) ((q + 1) * E - q * E) ((q + 1) * E - q * E)]) R) true none]) := CallR.of_DOXs (C := dLIb) dLIb_ok (X := []) Try.func168 idP_fok (n := 3) (orc := [(15, Item.res (Value.int .i64 (iN (R * E)))), (17, Item.eff (Value.slice (some ⟨1, 0, some 1⟩) (R * E) (R * E)) [AObj.row [Value.float .f64 c, Value.float .f64 w, Value.float .f64 r, Value.int .i64 (iN E), Value.int .i64 (iN R)] true none, AObj.row (rowOf (fun i => [Value.complex .f64 0 0]) (R * E)) true none]), (23, Item.eff (Value.slice (some ⟨2, 0, some 1⟩) R R) [AObj.row [Value.float .f64 c, Value.float .f64 w, Value.float .f64 r, Value.int .i64 (iN E), Value.int .i64 (iN R)] true none, AObj.row (rowOf (fun i => [Value.complex .f64 0 0]) (R * E)) true none, AObj.row (rowOf (fun i => [Value.slice none 0 0]) R) true none]), (34, Item.loop (Exit.exit 0) (idF R E R) [AObj.row [Value.float .f64 c, Value.float .f64 w, Value.float .f64 r, Value.int .i64 (iN E), Value.int .i64 (iN R)] true none, AObj.row (rowOf (fun i => [Value.complex .f64 0 0]) (R * E)) true none, AObj.row (rowOf (fun q => [Value.slice (some { block := 1, off := 0 + q * E * 1, spot := some 1 }) ((q + 1) * E - q * E) ((q + 1) * E - q * E)]) R) true none])]) (ps := [(wF IntKind.i64 (iN R * iN E) ([AObj.row [Value.float .f64 c, Value.float .f64 w, Value.float .f64 r, Value.int .i64 (iN E), Value.int .i64 (iN R)] true none]) = some (.int IntKind.i64 (iN (R * E)), [AObj.row [Value.float .f64 c, Value.float .f64 w, Value.float .f64 r, Value.int .i64 (iN E), Value.int .i64 (iN R)] true none])), (aMake Try.prog ([AObj.row [Value.float .f64 c, Value.float .f64 w, Value.float .f64 r, Value.int .i64 (iN E), Value.int .i64 (iN R)] true none]) 66 (.int IntKind.i64 (iN (R * E))) (.int IntKind.i64 (iN (R * E))) = some (Value.slice (some ⟨1, 0, some 1⟩) (R * E) (R * E), [AObj.row [Value.float .f64 c, Value.float .f64 w, Value.float .f64 r, Value.int .i64 (iN E), Value.int .i64 (iN R)] true none, AObj.row (rowOf (fun i => [Value.complex .f64 0 0]) (R * E)) true none])), (aMake Try.prog ([AObj.row [Value.float .f64 c, Value.float .f64 w, Value.float .f64 r, Value.int .i64 (iN E), Value.int .i64 (iN R)] true none, AObj.row (rowOf (fun i => [Value.complex .f64 0 0]) (R * E)) true none]) 101 (.int IntKind.i64 (iN (R))) (.int IntKind.i64 (iN (R))) = some (Value.slice (some ⟨2, 0, some 1⟩) R R, [AObj.row [Value.float .f64 c, Value.float .f64 w, Value.float .f64 r, Value.int .i64 (iN E), Value.int .i64 (iN R)] true none, AObj.row (rowOf (fun i => [Value.complex .f64 0 0]) (R * E)) true none, AObj.row (rowOf (fun i => [Value.slice none 0 0]) R) true none])), (Sim (dLIb) 3 (.loop (loopOf Try.f168 0)) ([Value.agg { toList := [Value.float .f64 c, Value.float .f64 w, Value.float .f64 r, Value.int .i64 (iN E), Value.int .i64 (iN R)] }, Value.pointer (some ⟨0, 0, none⟩), Value.slice none 0 0, Value.slice none 0 0, Value.slice (some ⟨1, 0, some 1⟩) (R * E) (R * E), Value.slice (some ⟨2, 0, some 1⟩) R R, undef, Value.pointer (some ⟨0, 4, none⟩), Value.int .i64 (iN R), Value.pointer (some ⟨0, 3, none⟩), Value.int .i64 (iN E), Value.int .i64 (iN (R * E)), Value.slice (some ⟨1, 0, some 1⟩) (R * E) (R * E), Value.pointer (some ⟨0, 4, none⟩), Value.int .i64 (iN R), Value.slice (some ⟨2, 0, some 1⟩) R R, Value.slice (some ⟨2, 0, some 1⟩) R R, Value.int .i64 (iN R), Value.int .i64 (Int.ofNat 0), undef, undef, undef, undef, undef, undef, undef, undef, undef, undef, undef, undef, undef, undef, undef, undef, undef, undef, undef, undef, undef, undef, undef, undef]) ([AObj.row [Value.float .f64 c, Value.float .f64 w, Value.float .f64 r, Value.int .i64 (iN E), Value.int .i64 (iN R)] true none, AObj.row (rowOf (fun i => [Value.complex .f64 0 0]) (R * E)) true none, AObj.row (rowOf (fun i => [Value.slice none 0 0]) R) true none]) (Exit.exit 0) ([undef, Value.pointer (some ⟨0, 0, none⟩), Value.slice none 0 0, Value.slice none 0 0, Value.slice (some ⟨1, 0, some 1⟩) (R * E) (R * E), Value.slice (some ⟨2, 0, some 1⟩) R R, undef, undef, undef, undef, undef, undef, undef, undef, undef, undef, undef, Value.int .i64 (iN R), Value.int .i64 (iN R), undef, undef, undef, undef, undef, undef, undef, undef, undef, undef, undef, undef, undef, undef, undef, undef, undef, undef, undef, undef, undef, undef, undef, undef]) ([AObj.row [Value.float .f64 c, Value.float .f64 w, Value.float .f64 r, Value.int .i64 (iN E), Value.int .i64 (iN R)] true none, AObj.row (rowOf (fun i => [Value.complex .f64 0 0]) (R * E)) true none, AObj.row (rowOf (fun q => [Value.slice (some { block := 1, off := 0 + q * E * 1, spot := some 1 }) ((q + 1) * E - q * E) ((q + 1) * E - q * E)]) R) true none])), (List.length (α := AObj) ([AObj.row [Value.float .f64 c, Value.float .f64 w, Value.float .f64 r, Value.int .i64 (iN E), Value.int .i64 (iN R)] true none, AObj.row (rowOf (fun i => [Value.complex .f64 0 0]) (R * E)) true none, AObj.row (rowOf (fun i => [Value.slice none 0 0]) R) true none]) ≤ List.length ([AObj.row [Value.float .f64 c, Value.float .f64 w, Value.float .f64 r, Value.int .i64 (iN E), Value.int .i64 (iN R)] true none, AObj.row (rowOf (fun i => [Value.complex .f64 0 0]) (R * E)) true none, AObj.row (rowOf (fun q => [Value.slice (some { block := 1, off := 0 + q * E * 1, spot := some 1 }) ((q + 1) * E - q * E) ((q + 1) * E - q * E)]) R) true none])), (Lk.Exit.isG (Exit.exit 0) = false)]) (by kernel_rfl) (fun hst => ⟨wF_ok _ (by (try simp only [decide_eq_true_eq, decide_eq_false_iff_not] at *); (try simp only [iN_eq, Int.ofNat_eq_natCast] at *); try omega) (by (try simp only [decide_eq_true_eq, decide_eq_false_iff_not] at *); (try simp only [iN_eq, Int.ofNat_eq_natCast] at *); try omega), ⟨make_row (zs := [Value.complex .f64 0 0]) (by kernel_rfl) (by kernel_rfl) (by kernel_rfl) (by (try simp only [decide_eq_true_eq, decide_eq_false_iff_not] at *); (try simp only [iN_eq, Int.ofNat_eq_natCast] at *); try omega) (by (try simp only [decide_eq_true_eq, decide_eq_false_iff_not] at *); (try simp only [iN_eq, Int.ofNat_eq_natCast] at *); try omega), ⟨make_row (zs := [Value.slice none 0 0]) (by kernel_rfl) (by kernel_rfl) (by kernel_rfl) (by (try simp only [decide_eq_true_eq, decide_eq_false_iff_not] at *); (try simp only [iN_eq, Int.ofNat_eq_natCast] at *); try omega) (by (try simp only [decide_eq_true_eq, decide_eq_false_iff_not] at *); (try simp only [iN_eq, Int.ofNat_eq_natCast] at *); try omega), ⟨l0 hst, Nat.le_of_ble_eq_true (by kernel_rfl), rfl, trivial⟩⟩⟩⟩)
end Go.Lk
end

section
/- Scene: blank, in any heap. -/
namespace Go.Lk
open Go.Proofs
set_option maxRecDepth 100000
set_option maxHeartbeats 0
set_option linter.unusedVariables false
set_option linter.unusedSimpArgs false
def idBox (c w r R E : Nat) : AObj := .row [.float .f64 c, .float .f64 w, .float .f64 r, .int .i64 (iN E), .int .i64 (iN R)] true none
def idAll (R E : Nat) : AObj := .row (rowOf (fun _ => [.complex .f64 0 0]) (R * E)) true none
def idG (E q : Nat) : List Value := [.slice (some ⟨1, 0 + q * E * 1, some 1⟩) ((q + 1) * E - q * E) ((q + 1) * E - q * E)]
def idH (c w r R E p : Nat) : AHeap := [idBox c w r R E, idAll R E, .row (rowOf (half2 (idG E) (fun _ => [.slice none 0 0]) p) R) true none]
theorem iN_mul (a b : Nat) : iN a * iN b = iN (a * b) := by rw [iN_eq, iN_eq, iN_eq, Int.natCast_mul]
theorem id_loop (c w r R E : Nat) (h0 : 0 < E) (hE : E ≤ 16384) (hR : R ≤ 256) (hRE : R * E ≤ 262144) (hst : Stood false []) :
    Sim dLIb 3 (.loop (loopOf Try.f168 0)) (idF R E 0) (idH c w r R E 0) (.exit 0) (idF R E R) (idH c w r R E R) := by
  refine Sim.loop (fun p => (idF R E p, idH c w r R E p)) R (fun p hp => ?_) ((idE_p0 c w r R E h0 hE hR hst).cast (by kernel_rfl) (by kernel_rfl) (by kernel_rfl) (by kernel_rfl)) rfl
  have a1 : p * E ≤ (p + 1) * E := Nat.mul_le_mul_right _ (by omega)
  have a2 : (p + 1) * E ≤ R * E := Nat.mul_le_mul_right _ (by omega)
  have b1 : iN p * iN E = iN (p * E) := iN_mul p E
  have b2 : iN (p + 1) * iN E = iN ((p + 1) * E) := iN_mul (p + 1) E
  exact (idR_p0 c w r R E h0 hE p hp hR b1 (by rw [b1, iN_eq]; omega) (by rw [b1, iN_eq]; omega) b2 (by rw [b2, iN_eq]; omega) (by rw [b2, iN_eq]; omega) a1 a2 hst).cast (by kernel_rfl) (by kernel_rfl) (by kernel_rfl) (by kernel_rfl)
theorem id_call (c w r R E : Nat) (h0 : 0 < E) (hE : E ≤ 16384) (hR0 : 0 < R) (hR : R ≤ 256) (hRE : R * E ≤ 262144) :
    CallR Try.prog false 168 [.agg #[.float .f64 c, .float .f64 w, .float .f64 r, .int .i64 (iN E), .int .i64 (iN R)]] [] (.tuple #[.slice (some ⟨2, 0, some 1⟩) R R, .slice (some ⟨1, 0, some 1⟩) (R * E) (R * E)]) [idBox c w r R E, idAll R E, .row (rowOf (idG E) R) true none] := by
  have b1 : iN R * iN E = iN (R * E) := iN_mul R E
  refine idP_p0 c w r R E h0 hE hR0 hR b1 (by rw [b1, iN_eq]; omega) (by rw [b1, iN_eq]; omega) (fun hst => ?_)
  have h := id_loop c w r R E h0 hE hR hRE hst
  have e0 : idH c w r R E 0 = [idBox c w r R E, idAll R E, .row (rowOf (fun _ => [.slice none 0 0]) R) true none] := by unfold idH; rw [half2_zero]
  have e1 : idH c w r R E R = [idBox c w r R E, idAll R E, .row (rowOf (idG E) R) true none] := by unfold idH; rw [half2_full]
  rw [e0, e1] at h
  exact (h.enter ([false, true, true, true, true, true] ++ List.replicate 11 false ++ [true, true] ++ List.replicate 24 false) (by kernel_rfl)).cast rfl (by kernel_rfl) (by kernel_rfl) (by kernel_rfl)
/-- The table of a blank: its rows lie in block L. -/
def blG (L E q : Nat) : List Value := [.slice (some ⟨L, q * E, some 1⟩) E E]
def sBlank : HeapFn
  | [.agg ⟨[.float .f64 c, .float .f64 w, .float .f64 r, .int .i64 e, .int .i64 p]⟩], σ =>
    bif decide (0 < e) && (decide (e ≤ 16384) && (decide (0 < p) && (decide (p ≤ 256) && decide (p.toNat * e.toNat ≤ 262144)))) then
      some (.tuple #[.slice (some ⟨σ.length + 1, 0, some 1⟩) p.toNat p.toNat, .slice (some ⟨σ.length, 0, some 1⟩) (p.toNat * e.toNat) (p.toNat * e.toNat)], σ ++ [idAll p.toNat e.toNat, .row (rowOf (blG σ.length e.toNat) p.toNat) true none]) else none
  | _, _ => none
theorem rowOf_map (f : Nat → List Value) (g : Value → Value) : ∀ n, (rowOf f n).map g = rowOf (fun i => (f i).map g) n
  | 0 => rfl
  | n + 1 => by
    rw [rowOf_succ, rowOf_succ, List.map_append, rowOf_map f g n]
theorem sBlank_ok : IsHeap Try.prog false 168 false sBlank := by
  refine ⟨fun args σ v σ' h => ?_, (by intro h; cases h), fun args σ v σ' h => ?_⟩
  · unfold sBlank at h
    split at h
    · rename_i c w r e p
      cases hc : (decide (0 < e) && (decide (e ≤ 16384) && (decide (0 < p) && (decide (p ≤ 256) && decide (p.toNat * e.toNat ≤ 262144)))))
      · rw [hc] at h; cases h
      · rw [hc, cond_true] at h
        cases h
        simp only [Bool.and_eq_true, decide_eq_true_eq] at hc
        obtain ⟨c1, c2, c3, c4, c5⟩ := hc
        have hcall := id_call c w r p.toNat e.toNat (by omega) (by omega) (by omega) (by omega) c5
        have ee : iN e.toNat = e := by rw [iN_eq]; omega
        have ep : iN p.toNat = p := by rw [iN_eq]; omega
        rw [ee, ep] at hcall
        generalize p.toNat = R at *
        generalize e.toNat = E at *
        refine CallR.frameA (r := fun k => k + σ.length) (q := fun b => if b = σ.length then 1 else if b = σ.length + 1 then 2 else b + 3) (ks := fun j => j + 1) (args0 := [.agg ⟨[.float .f64 c, .float .f64 w, .float .f64 r, .int .i64 e, .int .i64 p]⟩]) (σ0 := []) ⟨fun k o hk => by simp at hk, fun k hk => by omega⟩ rfl hcall ?_ (fun j j' _ _ h => by omega) ?_ ?_ ?_
        · intro j o ho
          match j, ho with
          | 0, ho =>
            cases ho
            refine ⟨_, _, rfl, ?_⟩
            rw [rowOf_map]; rfl
          | 1, ho =>
            cases ho
            refine ⟨_, _, rfl, ?_⟩
            rw [rowOf_map]
            have : rowOf (fun i => (blG σ.length E i).map (renV (fun b => if b = σ.length then 1 else if b = σ.length + 1 then 2 else b + 3) 3)) R = rowOf (idG E) R := rowOf_congr fun i _ => by
              have h1 : (i + 1) * E - i * E = E := by rw [Nat.add_mul]; omega
              unfold blG idG
              rw [h1, Nat.zero_add, Nat.mul_one]
              simp [renV]
            rw [this]; rfl
          | j + 2, ho => simp at ho
        · intro j hj
          have : j < 2 := hj
          match j, this with
          | 0, _ => simp
          | 1, _ => simp
        · intro b hb
          have hb' : b < σ.length ∨ σ.length + 2 ≤ b := hb
          show 3 ≤ if b = σ.length then 1 else if b = σ.length + 1 then 2 else b + 3
          rw [if_neg (by omega), if_neg (by omega)]; omega
        · simp [renV]
    · cases h
  · unfold sBlank at h
    split at h
    · rename_i c w r e p
      cases hc : (decide (0 < e) && (decide (e ≤ 16384) && (decide (0 < p) && (decide (p ≤ 256) && decide (p.toNat * e.toNat ≤ 262144)))))
      · rw [hc] at h; cases h
      · rw [hc, cond_true] at h
        cases h
        simp
    · cases h
end Go.Lk
end

section
/- Scene: quarters of a turn. -/
namespace Go.Lk
set_option maxRecDepth 100000
set_option linter.unusedSimpArgs false
set_option linter.unusedVariables false
/-- The float x is m quarters. -/
def IsQ (x : Nat) (m : Int) : Prop := isFin x = true ∧ 4 * fx x = m * (U : Int)
theorem U_four : ∃ v, U = 4 * 2 ^ v := by
  obtain ⟨n, hn, h⟩ := U_spec
  obtain ⟨k, rfl⟩ : ∃ k, n = k + 2 := ⟨1072, hn⟩
  exact ⟨k, by rw [h, Nat.pow_add]; omega⟩
theorem IsQ.nat {x : Nat} {m : Int} (h : IsQ x m) : ∃ v, U = 4 * 2 ^ v ∧ fx x = m * ((2 ^ v : Nat) : Int) ∧ fxr (rg x) = m.natAbs * 2 ^ v := by
  obtain ⟨v, hv⟩ := U_four
  have h1 := h.2
  have e : fx x = m * ((2 ^ v : Nat) : Int) := by
    have h2 : 4 * fx x = 4 * (m * ((2 ^ v : Nat) : Int)) := by
      rw [h1, hv]
      push_cast
      rw [← Int.mul_assoc, ← Int.mul_assoc, Int.mul_comm m 4]
    omega
  refine ⟨v, hv, e, ?_⟩
  have h3 := fx_abs x
  rw [e, Int.natAbs_mul, Int.natAbs_natCast] at h3
  exact h3.symm
theorem q_limit {m v : Nat} (hv : U = 4 * 2 ^ v) (h : m < 2 ^ 53) : m * 2 ^ v ≤ fxr 4850376798678024192 := by
  rw [fxr_big, hv]
  exact Nat.mul_le_mul (by omega) (by omega)
theorem IsQ.sub {x y : Nat} {a b : Int} (hx : IsQ x a) (hy : IsQ y b) (h : (a - b).natAbs < 2 ^ 53) : IsQ (fsub x y) (a - b) := by
  obtain ⟨v, hv, e1, _⟩ := hx.nat
  obtain ⟨v', hv', e2, _⟩ := hy.nat
  have ev : 2 ^ v' = 2 ^ v := by omega
  rw [ev] at e2
  rw [fsub_fin hx.1 hy.1, e1, e2, ← Int.sub_mul]
  obtain ⟨r1, r2, _⟩ := rnd_exact (z := (sg x && !sg y)) (T := (a - b) * ((2 ^ v : Nat) : Int)) (R := 4850376798678024192) (by decide) (by
    rw [Int.natAbs_mul, Int.natAbs_natCast]
    exact q_limit hv h) ⟨(a - b).natAbs, v, by rw [Int.natAbs_mul, Int.natAbs_natCast], h⟩
  refine ⟨r1, ?_⟩
  rw [r2, hv]
  push_cast
  rw [← Int.mul_assoc, ← Int.mul_assoc, Int.mul_comm 4 (a - b)]
theorem IsW.div_q {x y : Nat} {a b c : Int} (hx : IsW x a) (hy : IsW y b) (hb : 0 < b) (hc : 4 * a = c * b) (h : c.natAbs < 2 ^ 53) : IsQ (fdiv x y) c := by
  have hU := U_pos
  obtain ⟨v, hv⟩ := U_four
  obtain ⟨r, e, hr⟩ := fdiv_near hx.1 hy.1 (by
    rw [hy.abs]
    intro h0
    rcases Nat.mul_eq_zero.1 h0 with h0 | h0 <;> omega)
  rw [hx.abs, hy.abs] at hr
  obtain ⟨l1, l2⟩ := rung_small (T := c.natAbs * 2 ^ v) (r := 4850376798678024192) (q_limit hv h) (by decide) ⟨c.natAbs, v, rfl, h⟩
  have hab : 4 * a.natAbs = c.natAbs * b.natAbs := by
    have := congrArg Int.natAbs hc
    rw [Int.natAbs_mul, Int.natAbs_mul] at this
    exact this
  have key : fxr (rung (c.natAbs * 2 ^ v)) * (b.natAbs * U) = a.natAbs * U * U := by
    rw [l2]
    have e1 : c.natAbs * 2 ^ v * (b.natAbs * U) = c.natAbs * b.natAbs * (2 ^ v * U) := by
      rw [Nat.mul_assoc, Nat.mul_assoc, ← Nat.mul_assoc (2 ^ v) b.natAbs U, Nat.mul_comm (2 ^ v) b.natAbs, Nat.mul_assoc b.natAbs]
    have e2 : a.natAbs * U * U = 4 * a.natAbs * (2 ^ v * U) := by
      have : a.natAbs * U * U = a.natAbs * (4 * 2 ^ v) * U := by rw [← hv]
      rw [this, ← Nat.mul_assoc a.natAbs 4, Nat.mul_comm a.natAbs 4, Nat.mul_assoc (4 * a.natAbs)]
    rw [e1, e2, hab]
  have e1 := hr.le_of (R := rung (c.natAbs * 2 ^ v)) (by unfold infR; omega) (by omega)
  have e2 := hr.ge_of (R := rung (c.natAbs * 2 ^ v)) (by unfold infR; omega) (by omega)
  have er : r = rung (c.natAbs * 2 ^ v) := by omega
  have sy : sg y = false := by rw [hy.sg_of (by omega)]; exact decide_eq_false (by omega)
  rw [e, er, sy]
  refine ⟨fin_wd l1, ?_⟩
  rw [fx_wd (rung_lt _), l2]
  have hs : sgn (sg x ^^ false) (c.natAbs * 2 ^ v) = c * ((2 ^ v : Nat) : Int) := by
    by_cases ha : a = 0
    · have : c = 0 := by
        rw [ha, Int.mul_zero] at hc
        rcases Int.mul_eq_zero.1 hc.symm with h0 | h0 <;> omega
      rw [this]; simp [sgn]
    · rw [hx.sg_of ha, Bool.xor_false]
      unfold sgn
      by_cases h0 : a < 0
      · rw [decide_eq_true h0]
        have hc0 : c < 0 := by
          rcases Int.lt_or_le c 0 with h1 | h1
          · exact h1
          · have := Int.mul_nonneg h1 (Int.le_of_lt hb); omega
        simp only [if_true]
        rw [Int.natCast_mul, ← Int.neg_mul]
        congr 1; omega
      · rw [decide_eq_false h0]
        have hc0 : 0 ≤ c := by
          rcases Int.lt_or_le c 0 with h1 | h1
          · have := Int.mul_neg_of_neg_of_pos h1 hb; omega
          · exact h1
        simp only [Bool.false_eq_true, if_false]
        rw [Int.natCast_mul]
        congr 1; omega
  rw [hs, hv]
  push_cast
  rw [← Int.mul_assoc, ← Int.mul_assoc, Int.mul_comm 4 c]
/-- The wrapped turn of a whole number of quarters is one of few. -/
theorem IsQ.wrap_mem {x : Nat} {m : Int} (hl : Canon x) (h : IsQ x m) : wrapP x = 0 ∨ wrapP x = 4598175219545276416 ∨ wrapP x = 13821547256400052224 ∨ wrapP x = 13826050856027422720 := by
  obtain ⟨v, hv, _, e⟩ := h.nat
  obtain ⟨f1, f2, f3⟩ := frac_val h.1
  have hm : fxr (rg x) % U = m.natAbs % 4 * 2 ^ v := by
    rw [e, hv, Nat.mul_mod_mul_right]
  have hw : wrapP x = wStep (fsub x (ftrunc x)) := by
    rw [wrap_eq hl]; unfold wrapR; rw [h.1, cond_true, floor_eq_trunc hl.lt h.1]
  have q1 : 4 * fxr 4598175219545276416 = U := by decide +kernel
  have q2 : fxr 4602678819172646912 = 2 * fxr 4598175219545276416 := by decide +kernel
  have q3 : fxr 4604930618986332160 = 3 * fxr 4598175219545276416 := by decide +kernel
  have e1 : fxr 4598175219545276416 = 2 ^ v := by omega
  rw [hw, f1]
  rw [hm] at f3 ⊢
  have hc : m.natAbs % 4 = 0 ∨ m.natAbs % 4 = 1 ∨ m.natAbs % 4 = 2 ∨ m.natAbs % 4 = 3 := by omega
  have hp : 0 < 2 ^ v := Nat.two_pow_pos v
  rcases hc with hc | hc | hc | hc
  · rw [hc, Nat.zero_mul, if_pos rfl]
    exact .inl (by decide +kernel)
  · rw [hc] at f3 ⊢
    rw [if_neg (by omega)]
    have er : rung (1 * 2 ^ v) = 4598175219545276416 := fxr_inj (by rw [f3, e1]; omega)
    rw [er]
    cases sg x
    · exact .inr (.inl (by decide +kernel))
    · exact .inr (.inr (.inl (by decide +kernel)))
  · rw [hc] at f3 ⊢
    rw [if_neg (by omega)]
    have er : rung (2 * 2 ^ v) = 4602678819172646912 := fxr_inj (by rw [f3, q2, e1])
    rw [er]
    cases sg x
    · exact .inr (.inr (.inr (by decide +kernel)))
    · exact .inr (.inr (.inr (by decide +kernel)))
  · rw [hc] at f3 ⊢
    rw [if_neg (by omega)]
    have er : rung (3 * 2 ^ v) = 4604930618986332160 := fxr_inj (by rw [f3, q3, e1])
    rw [er]
    cases sg x
    · exact .inr (.inr (.inl (by decide +kernel)))
    · exact .inr (.inl (by decide +kernel))
/-- One of the four points. -/
def Four (a b : Int) : Prop := (a = 1 ∧ b = 0) ∨ (a = 0 ∧ b = 1) ∨ (a = -1 ∧ b = 0) ∨ (a = 0 ∧ b = -1)
theorem Four.sq {a b : Int} (h : Four a b) : a * a + b * b = 1 := by
  rcases h with ⟨rfl, rfl⟩ | ⟨rfl, rfl⟩ | ⟨rfl, rfl⟩ | ⟨rfl, rfl⟩ <;> rfl
theorem Four.abs {a b : Int} (h : Four a b) : a.natAbs ≤ 1 ∧ b.natAbs ≤ 1 := by
  rcases h with ⟨rfl, rfl⟩ | ⟨rfl, rfl⟩ | ⟨rfl, rfl⟩ | ⟨rfl, rfl⟩ <;> decide
theorem turn_quarter {x : Nat} {m : Int} (hl : Canon x) (h : IsQ x m) : ∃ a b : Int, Four a b ∧ IsW (wTurn_0 x) a ∧ IsW (wTurn_1 x) b := by
  unfold wTurn_0 wTurn_1
  rcases h.wrap_mem hl with e | e | e | e
  · rw [e]; exact ⟨1, 0, .inl ⟨rfl, rfl⟩, ⟨by decide +kernel, by decide +kernel⟩, ⟨by decide +kernel, by decide +kernel⟩⟩
  · rw [e]; exact ⟨0, 1, .inr (.inl ⟨rfl, rfl⟩), ⟨by decide +kernel, by decide +kernel⟩, ⟨by decide +kernel, by decide +kernel⟩⟩
  · rw [e]; exact ⟨0, -1, .inr (.inr (.inr ⟨rfl, rfl⟩)), ⟨by decide +kernel, by decide +kernel⟩, ⟨by decide +kernel, by decide +kernel⟩⟩
  · rw [e]; exact ⟨-1, 0, .inr (.inr (.inl ⟨rfl, rfl⟩)), ⟨by decide +kernel, by decide +kernel⟩, ⟨by decide +kernel, by decide +kernel⟩⟩
end Go.Lk
end
