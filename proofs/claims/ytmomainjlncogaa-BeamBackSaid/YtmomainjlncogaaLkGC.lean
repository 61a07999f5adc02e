/- Unit; the document's; equal floats. -/
import Derived.Test.YtmomainjlncogaaLkGB
namespace Go.Lk
open Go.Proofs
set_option maxRecDepth 100000
set_option maxHeartbeats 0
set_option linter.unusedVariables false
set_option linter.unusedSimpArgs false
def sTurn : PureFn
  | [.float .f64 x] => some (.complex .f64 (wTurn_0 x) (wTurn_1 x))
  | _ => none
theorem sTurn_ok : IsPure Try.prog false 36 sTurn := by
  intro args v σ h
  unfold sTurn at h
  split at h
  · cases h; exact wTurn_ok _ σ
  · cases h
def sRTurn : PureFn
  | [.float .f64 x] => some (.agg #[.float .f64 (rTurn_0 x), .float .f64 (rTurn_1 x)])
  | _ => none
theorem sRTurn_ok : IsPure Try.prog false 44 sRTurn := by
  intro args v σ h
  unfold sRTurn at h
  split at h
  · cases h; exact rTurn_ok _ σ
  · cases h
def fsame (x y : Nat) : Bool := bif isNaN x || isNaN y then isNaN x && isNaN y else x == y
noncomputable def t6 : Tab := ((t5.addP 36 sTurn).addP 44 sRTurn)
theorem t6_ok : t6.Ok Try.prog false := (Tab.Ok.addP (Tab.Ok.addP t5_ok sTurn_ok) sRTurn_ok)
noncomputable def L6 : Lib := ⟨Try.prog, false, t6, [(181, Try.f181), (160, Try.f160), (69, Try.f69), (55, Try.f55), (33, Try.f33), (128, Try.f128), (207, Try.f207), (43, Try.f43), (122, Try.f122), (133, Try.f133), (134, Try.f134), (135, Try.f135), (136, Try.f136), (137, Try.f137), (142, Try.f142), (109, Try.f109)], []⟩
theorem L6_fp : ∀ e, e ∈ L6.pures → Try.prog.funcs[e.1]? = some e.2 := fs_cons Try.func181 (fs_cons Try.func160 (fs_cons Try.func69 (fs_cons Try.func55 (fs_cons Try.func33 (fs_cons Try.func128 (fs_cons Try.func207 (fs_cons Try.func43 (fs_cons Try.func122 (fs_cons Try.func133 (fs_cons Try.func134 (fs_cons Try.func135 (fs_cons Try.func136 (fs_cons Try.func137 (fs_cons Try.func142 (fs_cons Try.func109 (fs_nil))))))))))))))))
theorem L6_fh : ∀ e, e ∈ L6.heaps → Try.prog.funcs[e.1]? = some e.2.2 := gs_nil
theorem L6_p1 (gp : Nat → PureFn) (g : Nat → HeapFn) : (L6.pures.all fun e => fnOk (L6.mk' gp g) e.2) = true := by kernel_rfl
theorem L6_h1 (gp : Nat → PureFn) (g : Nat → HeapFn) : (L6.heaps.all fun e => fnOk (L6.mk' gp g) e.2.2 && (!e.2.1 || fnRo (L6.mk' gp g) e.2.2)) = true := by kernel_rfl
theorem L6_ok : L6.Ok := ⟨t6_ok, mixed, L6_fp, L6_fh, L6_p1, L6_h1⟩
noncomputable def dL6 : Cfg := L6.cfg 100 4
theorem dL6_ok : dL6.Ok := L6_ok.cfg 100 4

theorem wUnit_fok : fnOk (dL6) Try.f37 = true := by kernel_rfl
theorem wUnit_p0 (k : Int) (n : Int) (σ : AHeap) (h0 : (decide (n < 1)) = true) : CallR Try.prog false 37 [Value.int .i64 k, Value.int .i64 n] σ (Value.complex .f64 0 0) σ := CallR.of_DO_pure (C := dL6) dL6_ok Try.func37 wUnit_fok (n := 100) (orc := [(6, Item.br true)]) (ps := [(bP (decide (n < 1)) true)]) (σ1 := []) (by kernel_rfl) ⟨bP_of (fun x => x) h0, trivial⟩ rfl rfl
theorem wUnit_p1 (k : Int) (n : Int) (σ : AHeap) (h0 : (decide (n < 1)) = false) (h1 : (decide (k.tmod n < 0)) = true) (h2 : (decide (IntKind.i64.wrap (k.tmod n + n) > IntKind.i64.wrap (n - IntKind.i64.wrap (k.tmod n + n)))) = true) : CallR Try.prog false 37 [Value.int .i64 k, Value.int .i64 n] σ (Value.complex .f64 (wTurn_0 (fdiv (FloatKind.f64.nearest (IntKind.i64.wrap (IntKind.i64.wrap (k.tmod n + n) - n))) (FloatKind.f64.nearest n))) (wTurn_1 (fdiv (FloatKind.f64.nearest (IntKind.i64.wrap (IntKind.i64.wrap (k.tmod n + n) - n))) (FloatKind.f64.nearest n)))) σ := CallR.of_DO_pure (C := dL6) dL6_ok Try.func37 wUnit_fok (n := 100) (orc := [(6, Item.br false), (12, Item.res (Value.int .i64 (k.tmod n))), (19, Item.br true), (38, Item.br true)]) (ps := [(bP (decide (n < 1)) false), (qF (Value.int .i64 (k.tmod n)) ([]) (n) = some (Value.int .i64 (k.tmod n), [])), (bP (decide (k.tmod n < 0)) true), (bP (decide (IntKind.i64.wrap (k.tmod n + n) > IntKind.i64.wrap (n - IntKind.i64.wrap (k.tmod n + n)))) true)]) (σ1 := []) (by kernel_rfl) ⟨bP_of (fun x => x) h0, ⟨qF_ok _ _ (by try simp only [decide_eq_true_eq, decide_eq_false_iff_not, Int.not_lt, Int.not_le] at *; omega), ⟨bP_of (fun x => x) h1, ⟨bP_of (fun x => x) h2, trivial⟩⟩⟩⟩ rfl rfl
theorem wUnit_p2 (k : Int) (n : Int) (σ : AHeap) (h0 : (decide (n < 1)) = false) (h1 : (decide (k.tmod n < 0)) = true) (h2 : (decide (IntKind.i64.wrap (k.tmod n + n) > IntKind.i64.wrap (n - IntKind.i64.wrap (k.tmod n + n)))) = false) : CallR Try.prog false 37 [Value.int .i64 k, Value.int .i64 n] σ (Value.complex .f64 (wTurn_0 (fdiv (FloatKind.f64.nearest (IntKind.i64.wrap (k.tmod n + n))) (FloatKind.f64.nearest n))) (wTurn_1 (fdiv (FloatKind.f64.nearest (IntKind.i64.wrap (k.tmod n + n))) (FloatKind.f64.nearest n)))) σ := CallR.of_DO_pure (C := dL6) dL6_ok Try.func37 wUnit_fok (n := 100) (orc := [(6, Item.br false), (12, Item.res (Value.int .i64 (k.tmod n))), (19, Item.br true), (38, Item.br false)]) (ps := [(bP (decide (n < 1)) false), (qF (Value.int .i64 (k.tmod n)) ([]) (n) = some (Value.int .i64 (k.tmod n), [])), (bP (decide (k.tmod n < 0)) true), (bP (decide (IntKind.i64.wrap (k.tmod n + n) > IntKind.i64.wrap (n - IntKind.i64.wrap (k.tmod n + n)))) false)]) (σ1 := []) (by kernel_rfl) ⟨bP_of (fun x => x) h0, ⟨qF_ok _ _ (by try simp only [decide_eq_true_eq, decide_eq_false_iff_not, Int.not_lt, Int.not_le] at *; omega), ⟨bP_of (fun x => x) h1, ⟨bP_of (fun x => x) h2, trivial⟩⟩⟩⟩ rfl rfl
theorem wUnit_p3 (k : Int) (n : Int) (σ : AHeap) (h0 : (decide (n < 1)) = false) (h1 : (decide (k.tmod n < 0)) = false) (h2 : (decide (k.tmod n > IntKind.i64.wrap (n - k.tmod n))) = true) : CallR Try.prog false 37 [Value.int .i64 k, Value.int .i64 n] σ (Value.complex .f64 (wTurn_0 (fdiv (FloatKind.f64.nearest (IntKind.i64.wrap (k.tmod n - n))) (FloatKind.f64.nearest n))) (wTurn_1 (fdiv (FloatKind.f64.nearest (IntKind.i64.wrap (k.tmod n - n))) (FloatKind.f64.nearest n)))) σ := CallR.of_DO_pure (C := dL6) dL6_ok Try.func37 wUnit_fok (n := 100) (orc := [(6, Item.br false), (12, Item.res (Value.int .i64 (k.tmod n))), (19, Item.br false), (30, Item.br true)]) (ps := [(bP (decide (n < 1)) false), (qF (Value.int .i64 (k.tmod n)) ([]) (n) = some (Value.int .i64 (k.tmod n), [])), (bP (decide (k.tmod n < 0)) false), (bP (decide (k.tmod n > IntKind.i64.wrap (n - k.tmod n))) true)]) (σ1 := []) (by kernel_rfl) ⟨bP_of (fun x => x) h0, ⟨qF_ok _ _ (by try simp only [decide_eq_true_eq, decide_eq_false_iff_not, Int.not_lt, Int.not_le] at *; omega), ⟨bP_of (fun x => x) h1, ⟨bP_of (fun x => x) h2, trivial⟩⟩⟩⟩ rfl rfl
theorem wUnit_p4 (k : Int) (n : Int) (σ : AHeap) (h0 : (decide (n < 1)) = false) (h1 : (decide (k.tmod n < 0)) = false) (h2 : (decide (k.tmod n > IntKind.i64.wrap (n - k.tmod n))) = false) : CallR Try.prog false 37 [Value.int .i64 k, Value.int .i64 n] σ (Value.complex .f64 (wTurn_0 (fdiv (FloatKind.f64.nearest (k.tmod n)) (FloatKind.f64.nearest n))) (wTurn_1 (fdiv (FloatKind.f64.nearest (k.tmod n)) (FloatKind.f64.nearest n)))) σ := CallR.of_DO_pure (C := dL6) dL6_ok Try.func37 wUnit_fok (n := 100) (orc := [(6, Item.br false), (12, Item.res (Value.int .i64 (k.tmod n))), (19, Item.br false), (30, Item.br false)]) (ps := [(bP (decide (n < 1)) false), (qF (Value.int .i64 (k.tmod n)) ([]) (n) = some (Value.int .i64 (k.tmod n), [])), (bP (decide (k.tmod n < 0)) false), (bP (decide (k.tmod n > IntKind.i64.wrap (n - k.tmod n))) false)]) (σ1 := []) (by kernel_rfl) ⟨bP_of (fun x => x) h0, ⟨qF_ok _ _ (by try simp only [decide_eq_true_eq, decide_eq_false_iff_not, Int.not_lt, Int.not_le] at *; omega), ⟨bP_of (fun x => x) h1, ⟨bP_of (fun x => x) h2, trivial⟩⟩⟩⟩ rfl rfl
def wUnit_t (k : Int) (n : Int) : Value := (bif decide (n < 1) then (Value.complex .f64 0 0) else (bif decide (k.tmod n < 0) then (bif decide (IntKind.i64.wrap (k.tmod n + n) > IntKind.i64.wrap (n - IntKind.i64.wrap (k.tmod n + n))) then (Value.complex .f64 (wTurn_0 (fdiv (FloatKind.f64.nearest (IntKind.i64.wrap (IntKind.i64.wrap (k.tmod n + n) - n))) (FloatKind.f64.nearest n))) (wTurn_1 (fdiv (FloatKind.f64.nearest (IntKind.i64.wrap (IntKind.i64.wrap (k.tmod n + n) - n))) (FloatKind.f64.nearest n)))) else (Value.complex .f64 (wTurn_0 (fdiv (FloatKind.f64.nearest (IntKind.i64.wrap (k.tmod n + n))) (FloatKind.f64.nearest n))) (wTurn_1 (fdiv (FloatKind.f64.nearest (IntKind.i64.wrap (k.tmod n + n))) (FloatKind.f64.nearest n))))) else (bif decide (k.tmod n > IntKind.i64.wrap (n - k.tmod n)) then (Value.complex .f64 (wTurn_0 (fdiv (FloatKind.f64.nearest (IntKind.i64.wrap (k.tmod n - n))) (FloatKind.f64.nearest n))) (wTurn_1 (fdiv (FloatKind.f64.nearest (IntKind.i64.wrap (k.tmod n - n))) (FloatKind.f64.nearest n)))) else (Value.complex .f64 (wTurn_0 (fdiv (FloatKind.f64.nearest (k.tmod n)) (FloatKind.f64.nearest n))) (wTurn_1 (fdiv (FloatKind.f64.nearest (k.tmod n)) (FloatKind.f64.nearest n)))))))
theorem wUnit_c (k : Int) (n : Int) (σ : AHeap) : CallR Try.prog false 37 [Value.int .i64 k,
  Value.int .i64 n] σ (wUnit_t k n) σ := by
  unfold wUnit_t
  exact (CallR.bif (fun h0 => (wUnit_p0 k n σ h0)) (fun h0 => (CallR.bif (fun h1 => (CallR.bif (fun h2 => (wUnit_p1 k n σ h0 h1 h2)) (fun h2 => (wUnit_p2 k n σ h0 h1 h2)))) (fun h1 => (CallR.bif (fun h2 => (wUnit_p3 k n σ h0 h1 h2)) (fun h2 => (wUnit_p4 k n σ h0 h1 h2)))))))
def wUnit_0 (k : Int) (n : Int) : Nat := (bif decide (n < 1) then 0 else (bif decide (k.tmod n < 0) then (bif decide (IntKind.i64.wrap (k.tmod n + n) > IntKind.i64.wrap (n - IntKind.i64.wrap (k.tmod n + n))) then wTurn_0 (fdiv (FloatKind.f64.nearest (IntKind.i64.wrap (IntKind.i64.wrap (k.tmod n + n) - n))) (FloatKind.f64.nearest n)) else wTurn_0 (fdiv (FloatKind.f64.nearest (IntKind.i64.wrap (k.tmod n + n))) (FloatKind.f64.nearest n))) else (bif decide (k.tmod n > IntKind.i64.wrap (n - k.tmod n)) then wTurn_0 (fdiv (FloatKind.f64.nearest (IntKind.i64.wrap (k.tmod n - n))) (FloatKind.f64.nearest n)) else wTurn_0 (fdiv (FloatKind.f64.nearest (k.tmod n)) (FloatKind.f64.nearest n)))))
def wUnit_1 (k : Int) (n : Int) : Nat := (bif decide (n < 1) then 0 else (bif decide (k.tmod n < 0) then (bif decide (IntKind.i64.wrap (k.tmod n + n) > IntKind.i64.wrap (n - IntKind.i64.wrap (k.tmod n + n))) then wTurn_1 (fdiv (FloatKind.f64.nearest (IntKind.i64.wrap (IntKind.i64.wrap (k.tmod n + n) - n))) (FloatKind.f64.nearest n)) else wTurn_1 (fdiv (FloatKind.f64.nearest (IntKind.i64.wrap (k.tmod n + n))) (FloatKind.f64.nearest n))) else (bif decide (k.tmod n > IntKind.i64.wrap (n - k.tmod n)) then wTurn_1 (fdiv (FloatKind.f64.nearest (IntKind.i64.wrap (k.tmod n - n))) (FloatKind.f64.nearest n)) else wTurn_1 (fdiv (FloatKind.f64.nearest (k.tmod n)) (FloatKind.f64.nearest n)))))
theorem wUnit_v (k : Int) (n : Int) : wUnit_t k n = Go.Value.complex Go.FloatKind.f64 (wUnit_0 k n) (wUnit_1 k n) := by
  unfold wUnit_t wUnit_0 wUnit_1
  cases (decide (n < 1)) with
  | true =>
    kernel_rfl
  | false =>
    cases (decide (k.tmod n < 0)) with
    | true =>
      cases (decide (IntKind.i64.wrap (k.tmod n + n) > IntKind.i64.wrap (n - IntKind.i64.wrap (k.tmod n + n)))) with
      | true =>
        kernel_rfl
      | false =>
        kernel_rfl
    | false =>
      cases (decide (k.tmod n > IntKind.i64.wrap (n - k.tmod n))) with
      | true =>
        kernel_rfl
      | false =>
        kernel_rfl
theorem wUnit_ok (k : Int) (n : Int) (σ : AHeap) : CallR Try.prog false 37 [Value.int .i64 k,
  Value.int .i64 n] σ (Go.Value.complex Go.FloatKind.f64 (wUnit_0 k n) (wUnit_1 k n)) σ := by
  have h := wUnit_c k n σ
  rw [wUnit_v] at h
  exact h
theorem rUnit_fok : fnOk (dL6) Try.f45 = true := by kernel_rfl
theorem rUnit_p0 (k : Int) (n : Int) (σ : AHeap) (h0 : (decide (n < 1)) = true) : CallR Try.prog false 45 [Value.int .i64 k, Value.int .i64 n] σ (Value.agg { toList := [Value.float .f64 0, Value.float .f64 0] }) σ := CallR.of_DO_pure (C := dL6) dL6_ok Try.func45 rUnit_fok (n := 100) (orc := [(6, Item.br true)]) (ps := [(bP (decide (n < 1)) true)]) (σ1 := [AObj.row [Value.float .f64 0, Value.float .f64 0] true none]) (by kernel_rfl) ⟨bP_of (fun x => x) h0, trivial⟩ rfl rfl
theorem rUnit_p1 (k : Int) (n : Int) (σ : AHeap) (h0 : (decide (n < 1)) = false) (h1 : (decide (k.tmod n < 0)) = true) (h2 : (decide (IntKind.i64.wrap (k.tmod n + n) > IntKind.i64.wrap (n - IntKind.i64.wrap (k.tmod n + n)))) = true) : CallR Try.prog false 45 [Value.int .i64 k, Value.int .i64 n] σ (Value.agg { toList := [Value.float .f64 (rTurn_0 (fdiv (FloatKind.f64.nearest (IntKind.i64.wrap (IntKind.i64.wrap (k.tmod n + n) - n))) (FloatKind.f64.nearest n))), Value.float .f64 (rTurn_1 (fdiv (FloatKind.f64.nearest (IntKind.i64.wrap (IntKind.i64.wrap (k.tmod n + n) - n))) (FloatKind.f64.nearest n)))] }) σ := CallR.of_DO_pure (C := dL6) dL6_ok Try.func45 rUnit_fok (n := 100) (orc := [(6, Item.br false), (12, Item.res (Value.int .i64 (k.tmod n))), (19, Item.br true), (38, Item.br true)]) (ps := [(bP (decide (n < 1)) false), (qF (Value.int .i64 (k.tmod n)) ([AObj.row [Value.float .f64 0, Value.float .f64 0] true none]) (n) = some (Value.int .i64 (k.tmod n), [AObj.row [Value.float .f64 0, Value.float .f64 0] true none])), (bP (decide (k.tmod n < 0)) true), (bP (decide (IntKind.i64.wrap (k.tmod n + n) > IntKind.i64.wrap (n - IntKind.i64.wrap (k.tmod n + n)))) true)]) (σ1 := [AObj.row [Value.float .f64 (rTurn_0 (fdiv (FloatKind.f64.nearest (IntKind.i64.wrap (IntKind.i64.wrap (k.tmod n + n) - n))) (FloatKind.f64.nearest n))), Value.float .f64 (rTurn_1 (fdiv (FloatKind.f64.nearest (IntKind.i64.wrap (IntKind.i64.wrap (k.tmod n + n) - n))) (FloatKind.f64.nearest n)))] true none]) (by kernel_rfl) ⟨bP_of (fun x => x) h0, ⟨qF_ok _ _ (by try simp only [decide_eq_true_eq, decide_eq_false_iff_not, Int.not_lt, Int.not_le] at *; omega), ⟨bP_of (fun x => x) h1, ⟨bP_of (fun x => x) h2, trivial⟩⟩⟩⟩ rfl rfl
theorem rUnit_p2 (k : Int) (n : Int) (σ : AHeap) (h0 : (decide (n < 1)) = false) (h1 : (decide (k.tmod n < 0)) = true) (h2 : (decide (IntKind.i64.wrap (k.tmod n + n) > IntKind.i64.wrap (n - IntKind.i64.wrap (k.tmod n + n)))) = false) : CallR Try.prog false 45 [Value.int .i64 k, Value.int .i64 n] σ (Value.agg { toList := [Value.float .f64 (rTurn_0 (fdiv (FloatKind.f64.nearest (IntKind.i64.wrap (k.tmod n + n))) (FloatKind.f64.nearest n))), Value.float .f64 (rTurn_1 (fdiv (FloatKind.f64.nearest (IntKind.i64.wrap (k.tmod n + n))) (FloatKind.f64.nearest n)))] }) σ := CallR.of_DO_pure (C := dL6) dL6_ok Try.func45 rUnit_fok (n := 100) (orc := [(6, Item.br false), (12, Item.res (Value.int .i64 (k.tmod n))), (19, Item.br true), (38, Item.br false)]) (ps := [(bP (decide (n < 1)) false), (qF (Value.int .i64 (k.tmod n)) ([AObj.row [Value.float .f64 0, Value.float .f64 0] true none]) (n) = some (Value.int .i64 (k.tmod n), [AObj.row [Value.float .f64 0, Value.float .f64 0] true none])), (bP (decide (k.tmod n < 0)) true), (bP (decide (IntKind.i64.wrap (k.tmod n + n) > IntKind.i64.wrap (n - IntKind.i64.wrap (k.tmod n + n)))) false)]) (σ1 := [AObj.row [Value.float .f64 (rTurn_0 (fdiv (FloatKind.f64.nearest (IntKind.i64.wrap (k.tmod n + n))) (FloatKind.f64.nearest n))), Value.float .f64 (rTurn_1 (fdiv (FloatKind.f64.nearest (IntKind.i64.wrap (k.tmod n + n))) (FloatKind.f64.nearest n)))] true none]) (by kernel_rfl) ⟨bP_of (fun x => x) h0, ⟨qF_ok _ _ (by try simp only [decide_eq_true_eq, decide_eq_false_iff_not, Int.not_lt, Int.not_le] at *; omega), ⟨bP_of (fun x => x) h1, ⟨bP_of (fun x => x) h2, trivial⟩⟩⟩⟩ rfl rfl
theorem rUnit_p3 (k : Int) (n : Int) (σ : AHeap) (h0 : (decide (n < 1)) = false) (h1 : (decide (k.tmod n < 0)) = false) (h2 : (decide (k.tmod n > IntKind.i64.wrap (n - k.tmod n))) = true) : CallR Try.prog false 45 [Value.int .i64 k, Value.int .i64 n] σ (Value.agg { toList := [Value.float .f64 (rTurn_0 (fdiv (FloatKind.f64.nearest (IntKind.i64.wrap (k.tmod n - n))) (FloatKind.f64.nearest n))), Value.float .f64 (rTurn_1 (fdiv (FloatKind.f64.nearest (IntKind.i64.wrap (k.tmod n - n))) (FloatKind.f64.nearest n)))] }) σ := CallR.of_DO_pure (C := dL6) dL6_ok Try.func45 rUnit_fok (n := 100) (orc := [(6, Item.br false), (12, Item.res (Value.int .i64 (k.tmod n))), (19, Item.br false), (30, Item.br true)]) (ps := [(bP (decide (n < 1)) false), (qF (Value.int .i64 (k.tmod n)) ([AObj.row [Value.float .f64 0, Value.float .f64 0] true none]) (n) = some (Value.int .i64 (k.tmod n), [AObj.row [Value.float .f64 0, Value.float .f64 0] true none])), (bP (decide (k.tmod n < 0)) false), (bP (decide (k.tmod n > IntKind.i64.wrap (n - k.tmod n))) true)]) (σ1 := [AObj.row [Value.float .f64 (rTurn_0 (fdiv (FloatKind.f64.nearest (IntKind.i64.wrap (k.tmod n - n))) (FloatKind.f64.nearest n))), Value.float .f64 (rTurn_1 (fdiv (FloatKind.f64.nearest (IntKind.i64.wrap (k.tmod n - n))) (FloatKind.f64.nearest n)))] true none]) (by kernel_rfl) ⟨bP_of (fun x => x) h0, ⟨qF_ok _ _ (by try simp only [decide_eq_true_eq, decide_eq_false_iff_not, Int.not_lt, Int.not_le] at *; omega), ⟨bP_of (fun x => x) h1, ⟨bP_of (fun x => x) h2, trivial⟩⟩⟩⟩ rfl rfl
theorem rUnit_p4 (k : Int) (n : Int) (σ : AHeap) (h0 : (decide (n < 1)) = false) (h1 : (decide (k.tmod n < 0)) = false) (h2 : (decide (k.tmod n > IntKind.i64.wrap (n - k.tmod n))) = false) : CallR Try.prog false 45 [Value.int .i64 k, Value.int .i64 n] σ (Value.agg { toList := [Value.float .f64 (rTurn_0 (fdiv (FloatKind.f64.nearest (k.tmod n)) (FloatKind.f64.nearest n))), Value.float .f64 (rTurn_1 (fdiv (FloatKind.f64.nearest (k.tmod n)) (FloatKind.f64.nearest n)))] }) σ := CallR.of_DO_pure (C := dL6) dL6_ok Try.func45 rUnit_fok (n := 100) (orc := [(6, Item.br false), (12, Item.res (Value.int .i64 (k.tmod n))), (19, Item.br false), (30, Item.br false)]) (ps := [(bP (decide (n < 1)) false), (qF (Value.int .i64 (k.tmod n)) ([AObj.row [Value.float .f64 0, Value.float .f64 0] true none]) (n) = some (Value.int .i64 (k.tmod n), [AObj.row [Value.float .f64 0, Value.float .f64 0] true none])), (bP (decide (k.tmod n < 0)) false), (bP (decide (k.tmod n > IntKind.i64.wrap (n - k.tmod n))) false)]) (σ1 := [AObj.row [Value.float .f64 (rTurn_0 (fdiv (FloatKind.f64.nearest (k.tmod n)) (FloatKind.f64.nearest n))), Value.float .f64 (rTurn_1 (fdiv (FloatKind.f64.nearest (k.tmod n)) (FloatKind.f64.nearest n)))] true none]) (by kernel_rfl) ⟨bP_of (fun x => x) h0, ⟨qF_ok _ _ (by try simp only [decide_eq_true_eq, decide_eq_false_iff_not, Int.not_lt, Int.not_le] at *; omega), ⟨bP_of (fun x => x) h1, ⟨bP_of (fun x => x) h2, trivial⟩⟩⟩⟩ rfl rfl
def rUnit_t (k : Int) (n : Int) : Value := (bif decide (n < 1) then (Value.agg { toList := [Value.float .f64 0, Value.float .f64 0] }) else (bif decide (k.tmod n < 0) then (bif decide (IntKind.i64.wrap (k.tmod n + n) > IntKind.i64.wrap (n - IntKind.i64.wrap (k.tmod n + n))) then (Value.agg { toList := [Value.float .f64 (rTurn_0 (fdiv (FloatKind.f64.nearest (IntKind.i64.wrap (IntKind.i64.wrap (k.tmod n + n) - n))) (FloatKind.f64.nearest n))), Value.float .f64 (rTurn_1 (fdiv (FloatKind.f64.nearest (IntKind.i64.wrap (IntKind.i64.wrap (k.tmod n + n) - n))) (FloatKind.f64.nearest n)))] }) else (Value.agg { toList := [Value.float .f64 (rTurn_0 (fdiv (FloatKind.f64.nearest (IntKind.i64.wrap (k.tmod n + n))) (FloatKind.f64.nearest n))), Value.float .f64 (rTurn_1 (fdiv (FloatKind.f64.nearest (IntKind.i64.wrap (k.tmod n + n))) (FloatKind.f64.nearest n)))] })) else (bif decide (k.tmod n > IntKind.i64.wrap (n - k.tmod n)) then (Value.agg { toList := [Value.float .f64 (rTurn_0 (fdiv (FloatKind.f64.nearest (IntKind.i64.wrap (k.tmod n - n))) (FloatKind.f64.nearest n))), Value.float .f64 (rTurn_1 (fdiv (FloatKind.f64.nearest (IntKind.i64.wrap (k.tmod n - n))) (FloatKind.f64.nearest n)))] }) else (Value.agg { toList := [Value.float .f64 (rTurn_0 (fdiv (FloatKind.f64.nearest (k.tmod n)) (FloatKind.f64.nearest n))), Value.float .f64 (rTurn_1 (fdiv (FloatKind.f64.nearest (k.tmod n)) (FloatKind.f64.nearest n)))] }))))
theorem rUnit_c (k : Int) (n : Int) (σ : AHeap) : CallR Try.prog false 45 [Value.int .i64 k,
  Value.int .i64 n] σ (rUnit_t k n) σ := by
  unfold rUnit_t
  exact (CallR.bif (fun h0 => (rUnit_p0 k n σ h0)) (fun h0 => (CallR.bif (fun h1 => (CallR.bif (fun h2 => (rUnit_p1 k n σ h0 h1 h2)) (fun h2 => (rUnit_p2 k n σ h0 h1 h2)))) (fun h1 => (CallR.bif (fun h2 => (rUnit_p3 k n σ h0 h1 h2)) (fun h2 => (rUnit_p4 k n σ h0 h1 h2)))))))
def rUnit_0 (k : Int) (n : Int) : Nat := (bif decide (n < 1) then 0 else (bif decide (k.tmod n < 0) then (bif decide (IntKind.i64.wrap (k.tmod n + n) > IntKind.i64.wrap (n - IntKind.i64.wrap (k.tmod n + n))) then rTurn_0 (fdiv (FloatKind.f64.nearest (IntKind.i64.wrap (IntKind.i64.wrap (k.tmod n + n) - n))) (FloatKind.f64.nearest n)) else rTurn_0 (fdiv (FloatKind.f64.nearest (IntKind.i64.wrap (k.tmod n + n))) (FloatKind.f64.nearest n))) else (bif decide (k.tmod n > IntKind.i64.wrap (n - k.tmod n)) then rTurn_0 (fdiv (FloatKind.f64.nearest (IntKind.i64.wrap (k.tmod n - n))) (FloatKind.f64.nearest n)) else rTurn_0 (fdiv (FloatKind.f64.nearest (k.tmod n)) (FloatKind.f64.nearest n)))))
def rUnit_1 (k : Int) (n : Int) : Nat := (bif decide (n < 1) then 0 else (bif decide (k.tmod n < 0) then (bif decide (IntKind.i64.wrap (k.tmod n + n) > IntKind.i64.wrap (n - IntKind.i64.wrap (k.tmod n + n))) then rTurn_1 (fdiv (FloatKind.f64.nearest (IntKind.i64.wrap (IntKind.i64.wrap (k.tmod n + n) - n))) (FloatKind.f64.nearest n)) else rTurn_1 (fdiv (FloatKind.f64.nearest (IntKind.i64.wrap (k.tmod n + n))) (FloatKind.f64.nearest n))) else (bif decide (k.tmod n > IntKind.i64.wrap (n - k.tmod n)) then rTurn_1 (fdiv (FloatKind.f64.nearest (IntKind.i64.wrap (k.tmod n - n))) (FloatKind.f64.nearest n)) else rTurn_1 (fdiv (FloatKind.f64.nearest (k.tmod n)) (FloatKind.f64.nearest n)))))
theorem rUnit_v (k : Int) (n : Int) : rUnit_t k n = Go.Value.agg { toList := [Go.Value.float Go.FloatKind.f64 (rUnit_0 k n), Go.Value.float Go.FloatKind.f64 (rUnit_1 k n)] } := by
  unfold rUnit_t rUnit_0 rUnit_1
  cases (decide (n < 1)) with
  | true =>
    kernel_rfl
  | false =>
    cases (decide (k.tmod n < 0)) with
    | true =>
      cases (decide (IntKind.i64.wrap (k.tmod n + n) > IntKind.i64.wrap (n - IntKind.i64.wrap (k.tmod n + n)))) with
      | true =>
        kernel_rfl
      | false =>
        kernel_rfl
    | false =>
      cases (decide (k.tmod n > IntKind.i64.wrap (n - k.tmod n))) with
      | true =>
        kernel_rfl
      | false =>
        kernel_rfl
theorem rUnit_ok (k : Int) (n : Int) (σ : AHeap) : CallR Try.prog false 45 [Value.int .i64 k,
  Value.int .i64
    n] σ (Go.Value.agg { toList := [Go.Value.float Go.FloatKind.f64 (rUnit_0 k n), Go.Value.float Go.FloatKind.f64 (rUnit_1 k n)] }) σ := by
  have h := rUnit_c k n σ
  rw [rUnit_v] at h
  exact h
theorem gSameF_fok : fnOk (dL6) Try.f40 = true := by kernel_rfl
theorem gSameF_p0 (x : Nat) (y : Nat) (σ : AHeap) (h0 : (feq x x) = true) (h1 : (feq y y) = true) : CallR Try.prog false 40 [Value.float .f64 x, Value.float .f64 y] σ (Value.bool (iN x == iN y)) σ := CallR.of_DO_pure (C := dL6) dL6_ok Try.func40 gSameF_fok (n := 100) (orc := [(10, Item.br true), (12, Item.br true), (14, Item.br true), (17, Item.res (Value.bool !feq y y)), (18, Item.br false), (22, Item.res (Value.int IntKind.u64 (iN x))), (26, Item.res (Value.int IntKind.u64 (iN y)))]) (ps := [(bP ((!feq x x) == false) true), (bP ((!feq x x) == false) true), (bP ((!feq x x) == false) true), (pP (some (Value.bool true)) (some (Value.bool !feq y y)) ([]) (!feq x x) (Value.bool !feq y y)), (bP (!feq y y) false), (gP (Value.int IntKind.u64 (iN x)) ([]) (feq x x)), (gP (Value.int IntKind.u64 (iN y)) ([]) (feq y y))]) (σ1 := []) (by kernel_rfl) ⟨bP_of (fun x => (!x) == false) h0, ⟨bP_of (fun x => (!x) == false) h0, ⟨bP_of (fun x => (!x) == false) h0, ⟨pP_f _ _ _ (congrArg (fun bb => (!bb)) h0), ⟨bP_of (fun x => !x) h1, ⟨gP_true _ _ h0, ⟨gP_true _ _ h1, trivial⟩⟩⟩⟩⟩⟩⟩ rfl rfl
theorem gSameF_p1 (x : Nat) (y : Nat) (σ : AHeap) (h0 : (feq x x) = true) (h1 : (feq y y) = false) : CallR Try.prog false 40 [Value.float .f64 x, Value.float .f64 y] σ (Value.bool false) σ := CallR.of_DO_pure (C := dL6) dL6_ok Try.func40 gSameF_fok (n := 100) (orc := [(10, Item.br true), (12, Item.br true), (14, Item.br true), (17, Item.res (Value.bool !feq y y)), (18, Item.br true), (27, Item.br false), (29, Item.br false), (31, Item.br false), (34, Item.res (Value.bool false))]) (ps := [(bP ((!feq x x) == false) true), (bP ((!feq x x) == false) true), (bP ((!feq x x) == false) true), (pP (some (Value.bool true)) (some (Value.bool !feq y y)) ([]) (!feq x x) (Value.bool !feq y y)), (bP (!feq y y) true), (bP ((!feq x x) == true) false), (bP ((!feq x x) == true) false), (bP ((!feq x x) == true) false), (pP (none) (some (Value.bool false)) ([]) (!feq x x) (Value.bool false))]) (σ1 := []) (by kernel_rfl) ⟨bP_of (fun x => (!x) == false) h0, ⟨bP_of (fun x => (!x) == false) h0, ⟨bP_of (fun x => (!x) == false) h0, ⟨pP_f _ _ _ (congrArg (fun bb => (!bb)) h0), ⟨bP_of (fun x => !x) h1, ⟨bP_of (fun x => (!x) == true) h0, ⟨bP_of (fun x => (!x) == true) h0, ⟨bP_of (fun x => (!x) == true) h0, ⟨pP_f _ _ _ (congrArg (fun bb => (!bb)) h0), trivial⟩⟩⟩⟩⟩⟩⟩⟩⟩ rfl rfl
theorem gSameF_p2 (x : Nat) (y : Nat) (σ : AHeap) (h0 : (feq x x) = false) : CallR Try.prog false 40 [Value.float .f64 x, Value.float .f64 y] σ (Value.bool !feq y y) σ := CallR.of_DO_pure (C := dL6) dL6_ok Try.func40 gSameF_fok (n := 100) (orc := [(10, Item.br false), (12, Item.br false), (14, Item.br false), (17, Item.res (Value.bool true)), (27, Item.br true), (29, Item.br true), (31, Item.br true), (34, Item.res (Value.bool !feq y y))]) (ps := [(bP ((!feq x x) == false) false), (bP ((!feq x x) == false) false), (bP ((!feq x x) == false) false), (pP (some (Value.bool true)) (none) ([]) (!feq x x) (Value.bool true)), (bP ((!feq x x) == true) true), (bP ((!feq x x) == true) true), (bP ((!feq x x) == true) true), (pP (some (Value.bool !feq y y)) (some (Value.bool false)) ([]) (!feq x x) (Value.bool !feq y y))]) (σ1 := []) (by kernel_rfl) ⟨bP_of (fun x => (!x) == false) h0, ⟨bP_of (fun x => (!x) == false) h0, ⟨bP_of (fun x => (!x) == false) h0, ⟨pP_t _ _ _ (congrArg (fun bb => (!bb)) h0), ⟨bP_of (fun x => (!x) == true) h0, ⟨bP_of (fun x => (!x) == true) h0, ⟨bP_of (fun x => (!x) == true) h0, ⟨pP_t _ _ _ (congrArg (fun bb => (!bb)) h0), trivial⟩⟩⟩⟩⟩⟩⟩⟩ rfl rfl
def gSameF_t (x : Nat) (y : Nat) : Value := (bif feq x x then (bif feq y y then (Value.bool (iN x == iN y)) else (Value.bool false)) else (Value.bool !feq y y))
theorem gSameF_c (x : Nat) (y : Nat) (σ : AHeap) : CallR Try.prog false 40 [Value.float .f64 x,
  Value.float .f64 y] σ (gSameF_t x y) σ := by
  unfold gSameF_t
  exact (CallR.bif (fun h0 => (CallR.bif (fun h1 => (gSameF_p0 x y σ h0 h1)) (fun h1 => (gSameF_p1 x y σ h0 h1)))) (fun h0 => (gSameF_p2 x y σ h0)))
def gSameF_0 (x : Nat) (y : Nat) : Bool := (bif feq x x then (bif feq y y then iN x == iN y else false) else !feq y y)
theorem gSameF_v (x : Nat) (y : Nat) : gSameF_t x y = Go.Value.bool (gSameF_0 x y) := by
  unfold gSameF_t gSameF_0
  cases (feq x x) with
  | true =>
    cases (feq y y) with
    | true =>
      kernel_rfl
    | false =>
      kernel_rfl
  | false =>
    kernel_rfl
theorem gSameF_ok (x : Nat) (y : Nat) (σ : AHeap) : CallR Try.prog false 40 [Value.float .f64 x,
  Value.float .f64 y] σ (Go.Value.bool (gSameF_0 x y)) σ := by
  have h := gSameF_c x y σ
  rw [gSameF_v] at h
  exact h
def sUnit : PureFn
  | [.int .i64 k, .int .i64 n] => some (.complex .f64 (wUnit_0 k n) (wUnit_1 k n))
  | _ => none
theorem sUnit_ok : IsPure Try.prog false 37 sUnit := by
  intro args v σ h
  unfold sUnit at h
  split at h
  · cases h; exact wUnit_ok _ _ σ
  · cases h
def sRUnit : PureFn
  | [.int .i64 k, .int .i64 n] => some (.agg #[.float .f64 (rUnit_0 k n), .float .f64 (rUnit_1 k n)])
  | _ => none
theorem sRUnit_ok : IsPure Try.prog false 45 sRUnit := by
  intro args v σ h
  unfold sRUnit at h
  split at h
  · cases h; exact rUnit_ok _ _ σ
  · cases h
def sSameF : PureFn
  | [.float .f64 x, .float .f64 y] => some (.bool (gSameF_0 x y))
  | _ => none
theorem sSameF_ok : IsPure Try.prog false 40 sSameF := by
  intro args v σ h
  unfold sSameF at h
  split at h
  · cases h; exact gSameF_ok _ _ σ
  · cases h
noncomputable def t7 : Tab := (((t6.addP 37 sUnit).addP 45 sRUnit).addP 40 sSameF)
theorem t7_ok : t7.Ok Try.prog false := (Tab.Ok.addP (Tab.Ok.addP (Tab.Ok.addP t6_ok sUnit_ok) sRUnit_ok) sSameF_ok)
noncomputable def L7 : Lib := ⟨Try.prog, false, t7, [(181, Try.f181), (160, Try.f160), (69, Try.f69), (55, Try.f55), (33, Try.f33), (128, Try.f128), (207, Try.f207), (43, Try.f43), (122, Try.f122), (133, Try.f133), (134, Try.f134), (135, Try.f135), (136, Try.f136), (137, Try.f137), (142, Try.f142), (109, Try.f109), (38, Try.f38), (126, Try.f126), (39, Try.f39)], [(183, true, Try.f183)]⟩
theorem L7_fp : ∀ e, e ∈ L7.pures → Try.prog.funcs[e.1]? = some e.2 := fs_cons Try.func181 (fs_cons Try.func160 (fs_cons Try.func69 (fs_cons Try.func55 (fs_cons Try.func33 (fs_cons Try.func128 (fs_cons Try.func207 (fs_cons Try.func43 (fs_cons Try.func122 (fs_cons Try.func133 (fs_cons Try.func134 (fs_cons Try.func135 (fs_cons Try.func136 (fs_cons Try.func137 (fs_cons Try.func142 (fs_cons Try.func109 (fs_cons Try.func38 (fs_cons Try.func126 (fs_cons Try.func39 (fs_nil)))))))))))))))))))
theorem L7_fh : ∀ e, e ∈ L7.heaps → Try.prog.funcs[e.1]? = some e.2.2 := gs_cons Try.func183 (gs_nil)
theorem L7_p1 (gp : Nat → PureFn) (g : Nat → HeapFn) : (L7.pures.all fun e => fnOk (L7.mk' gp g) e.2) = true := by kernel_rfl
theorem L7_h1 (gp : Nat → PureFn) (g : Nat → HeapFn) : (L7.heaps.all fun e => fnOk (L7.mk' gp g) e.2.2 && (!e.2.1 || fnRo (L7.mk' gp g) e.2.2)) = true := by kernel_rfl
theorem L7_ok : L7.Ok := ⟨t7_ok, mixed, L7_fp, L7_fh, L7_p1, L7_h1⟩
noncomputable def dL7 : Cfg := L7.cfg 100 6
theorem dL7_ok : dL7.Ok := L7_ok.cfg 100 6

theorem gSame_fok : fnOk (dL7) Try.f42 = true := by kernel_rfl
theorem gSame_p0 (a : Nat) (b : Nat) (c : Nat) (d : Nat) (σ : AHeap) (h0 : (gSameF_0 a c) = true) : CallR Try.prog false 42 [Value.agg #[Value.float .f64 a, Value.float .f64 b], Value.agg #[Value.float .f64 c, Value.float .f64 d]] σ (Value.bool (gSameF_0 b d)) σ := CallR.of_DO_pure (C := dL7) dL7_ok Try.func42 gSame_fok (n := 100) (orc := [(18, Item.br true), (20, Item.br true), (22, Item.br true), (24, Item.br true), (26, Item.br true), (29, Item.res (Value.bool (gSameF_0 b d)))]) (ps := [(bP (gSameF_0 a c == true) true), (bP (gSameF_0 a c == true) true), (bP (gSameF_0 a c == true) true), (bP (gSameF_0 a c == true) true), (bP (gSameF_0 a c == true) true), (pP (some (Value.bool (gSameF_0 b d))) (some (Value.bool false)) ([AObj.row [Value.float .f64 a, Value.float .f64 b] true none, AObj.row [Value.float .f64 c, Value.float .f64 d] true none]) (gSameF_0 a c) (Value.bool (gSameF_0 b d)))]) (σ1 := [AObj.row [Value.float .f64 a, Value.float .f64 b] true none, AObj.row [Value.float .f64 c, Value.float .f64 d] true none]) (by kernel_rfl) ⟨bP_of (fun x => x == true) h0, ⟨bP_of (fun x => x == true) h0, ⟨bP_of (fun x => x == true) h0, ⟨bP_of (fun x => x == true) h0, ⟨bP_of (fun x => x == true) h0, ⟨pP_t _ _ _ (congrArg (fun bb => (bb)) h0), trivial⟩⟩⟩⟩⟩⟩ rfl rfl
theorem gSame_p1 (a : Nat) (b : Nat) (c : Nat) (d : Nat) (σ : AHeap) (h0 : (gSameF_0 a c) = false) : CallR Try.prog false 42 [Value.agg #[Value.float .f64 a, Value.float .f64 b], Value.agg #[Value.float .f64 c, Value.float .f64 d]] σ (Value.bool false) σ := CallR.of_DO_pure (C := dL7) dL7_ok Try.func42 gSame_fok (n := 100) (orc := [(18, Item.br false), (20, Item.br false), (22, Item.br false), (24, Item.br false), (26, Item.br false), (29, Item.res (Value.bool false))]) (ps := [(bP (gSameF_0 a c == true) false), (bP (gSameF_0 a c == true) false), (bP (gSameF_0 a c == true) false), (bP (gSameF_0 a c == true) false), (bP (gSameF_0 a c == true) false), (pP (none) (some (Value.bool false)) ([AObj.row [Value.float .f64 a, Value.float .f64 b] true none, AObj.row [Value.float .f64 c, Value.float .f64 d] true none]) (gSameF_0 a c) (Value.bool false))]) (σ1 := [AObj.row [Value.float .f64 a, Value.float .f64 b] true none, AObj.row [Value.float .f64 c, Value.float .f64 d] true none]) (by kernel_rfl) ⟨bP_of (fun x => x == true) h0, ⟨bP_of (fun x => x == true) h0, ⟨bP_of (fun x => x == true) h0, ⟨bP_of (fun x => x == true) h0, ⟨bP_of (fun x => x == true) h0, ⟨pP_f _ _ _ (congrArg (fun bb => (bb)) h0), trivial⟩⟩⟩⟩⟩⟩ rfl rfl
def gSame_t (a : Nat) (b : Nat) (c : Nat) (d : Nat) : Value := (bif gSameF_0 a c then (Value.bool (gSameF_0 b d)) else (Value.bool false))
theorem gSame_c (a : Nat) (b : Nat) (c : Nat) (d : Nat) (σ : AHeap) : CallR Try.prog false 42 [Value.agg
    #[Value.float .f64 a, Value.float .f64 b],
  Value.agg #[Value.float .f64 c, Value.float .f64 d]] σ (gSame_t a b c d) σ := by
  unfold gSame_t
  exact (CallR.bif (fun h0 => (gSame_p0 a b c d σ h0)) (fun h0 => (gSame_p1 a b c d σ h0)))
def gSame_0 (a : Nat) (b : Nat) (c : Nat) (d : Nat) : Bool := (bif gSameF_0 a c then gSameF_0 b d else false)
theorem gSame_v (a : Nat) (b : Nat) (c : Nat) (d : Nat) : gSame_t a b c d = Go.Value.bool (gSame_0 a b c d) := by
  unfold gSame_t gSame_0
  cases (gSameF_0 a c) with
  | true =>
    kernel_rfl
  | false =>
    kernel_rfl
theorem gSame_ok (a : Nat) (b : Nat) (c : Nat) (d : Nat) (σ : AHeap) : CallR Try.prog false 42 [Value.agg
    #[Value.float .f64 a, Value.float .f64 b],
  Value.agg #[Value.float .f64 c, Value.float .f64 d]] σ (Go.Value.bool (gSame_0 a b c d)) σ := by
  have h := gSame_c a b c d σ
  rw [gSame_v] at h
  exact h
def sSame : PureFn
  | [.agg ⟨[.float .f64 a, .float .f64 b]⟩, .agg ⟨[.float .f64 c, .float .f64 d]⟩] => some (.bool (gSame_0 a b c d))
  | _ => none
theorem sSame_ok : IsPure Try.prog false 42 sSame := by
  intro args v σ h
  unfold sSame at h
  split at h
  · cases h; exact gSame_ok _ _ _ _ σ
  · cases h
noncomputable def t8 : Tab := (t7.addP 42 sSame)
theorem t8_ok : t8.Ok Try.prog false := (Tab.Ok.addP t7_ok sSame_ok)
noncomputable def L8 : Lib := ⟨Try.prog, false, t8, [(181, Try.f181), (160, Try.f160), (69, Try.f69), (55, Try.f55), (33, Try.f33), (128, Try.f128), (207, Try.f207), (43, Try.f43), (122, Try.f122), (133, Try.f133), (134, Try.f134), (135, Try.f135), (136, Try.f136), (137, Try.f137), (142, Try.f142), (109, Try.f109), (38, Try.f38), (126, Try.f126), (39, Try.f39)], [(183, true, Try.f183)]⟩
theorem L8_fp : ∀ e, e ∈ L8.pures → Try.prog.funcs[e.1]? = some e.2 := fs_cons Try.func181 (fs_cons Try.func160 (fs_cons Try.func69 (fs_cons Try.func55 (fs_cons Try.func33 (fs_cons Try.func128 (fs_cons Try.func207 (fs_cons Try.func43 (fs_cons Try.func122 (fs_cons Try.func133 (fs_cons Try.func134 (fs_cons Try.func135 (fs_cons Try.func136 (fs_cons Try.func137 (fs_cons Try.func142 (fs_cons Try.func109 (fs_cons Try.func38 (fs_cons Try.func126 (fs_cons Try.func39 (fs_nil)))))))))))))))))))
theorem L8_fh : ∀ e, e ∈ L8.heaps → Try.prog.funcs[e.1]? = some e.2.2 := gs_cons Try.func183 (gs_nil)
theorem L8_p1 (gp : Nat → PureFn) (g : Nat → HeapFn) : (L8.pures.all fun e => fnOk (L8.mk' gp g) e.2) = true := by kernel_rfl
theorem L8_h1 (gp : Nat → PureFn) (g : Nat → HeapFn) : (L8.heaps.all fun e => fnOk (L8.mk' gp g) e.2.2 && (!e.2.1 || fnRo (L8.mk' gp g) e.2.2)) = true := by kernel_rfl
theorem L8_ok : L8.Ok := ⟨t8_ok, mixed, L8_fp, L8_fh, L8_p1, L8_h1⟩
noncomputable def dL8 : Cfg := L8.cfg 100 6
theorem dL8_ok : dL8.Ok := L8_ok.cfg 100 6

theorem gWraps_fok : fnOk (dL8) Try.f4 = true := by kernel_rfl
theorem gWraps_p0 (x : Nat) (σ : AHeap) (h0 : (gSameF_0 (wrapP x) (rWrap_0 x)) = true) (h1 : (gSame_0 (wTurn_0 x) (wTurn_1 x) (rTurn_0 x) (rTurn_1 x)) = true) : CallR Try.prog false 4 [Value.float .f64 x] σ (Value.bool true) σ := CallR.of_DO_pure (C := dL8) dL8_ok Try.func4 gWraps_fok (n := 100) (orc := [(32, Item.br true), (35, Item.res (Value.bool (gSame_0 (wTurn_0 x) (wTurn_1 x) (rTurn_0 x) (rTurn_1 x)))), (38, Item.br true), (41, Item.res (Value.bool true))]) (ps := [(bP (gSameF_0 (wrapP x) (rWrap_0 x) == true) true), (pP (some (Value.bool (gSame_0 (wTurn_0 x) (wTurn_1 x) (rTurn_0 x) (rTurn_1 x)))) (some (Value.bool false)) ([]) (gSameF_0 (wrapP x) (rWrap_0 x)) (Value.bool (gSame_0 (wTurn_0 x) (wTurn_1 x) (rTurn_0 x) (rTurn_1 x)))), (bP (gSame_0 (wTurn_0 x) (wTurn_1 x) (rTurn_0 x) (rTurn_1 x) == true) true), (pP (some (Value.bool true)) (some (Value.bool false)) ([]) (gSame_0 (wTurn_0 x) (wTurn_1 x) (rTurn_0 x) (rTurn_1 x)) (Value.bool true))]) (σ1 := []) (by kernel_rfl) ⟨bP_of (fun x => x == true) h0, ⟨pP_t _ _ _ (congrArg (fun bb => (bb)) h0), ⟨bP_of (fun x => x == true) h1, ⟨pP_t _ _ _ (congrArg (fun bb => (bb)) h1), trivial⟩⟩⟩⟩ rfl rfl
theorem gWraps_p1 (x : Nat) (σ : AHeap) (h0 : (gSameF_0 (wrapP x) (rWrap_0 x)) = true) (h1 : (gSame_0 (wTurn_0 x) (wTurn_1 x) (rTurn_0 x) (rTurn_1 x)) = false) : CallR Try.prog false 4 [Value.float .f64 x] σ (Value.bool false) σ := CallR.of_DO_pure (C := dL8) dL8_ok Try.func4 gWraps_fok (n := 100) (orc := [(32, Item.br true), (35, Item.res (Value.bool (gSame_0 (wTurn_0 x) (wTurn_1 x) (rTurn_0 x) (rTurn_1 x)))), (38, Item.br false), (41, Item.res (Value.bool false))]) (ps := [(bP (gSameF_0 (wrapP x) (rWrap_0 x) == true) true), (pP (some (Value.bool (gSame_0 (wTurn_0 x) (wTurn_1 x) (rTurn_0 x) (rTurn_1 x)))) (some (Value.bool false)) ([]) (gSameF_0 (wrapP x) (rWrap_0 x)) (Value.bool (gSame_0 (wTurn_0 x) (wTurn_1 x) (rTurn_0 x) (rTurn_1 x)))), (bP (gSame_0 (wTurn_0 x) (wTurn_1 x) (rTurn_0 x) (rTurn_1 x) == true) false), (pP (none) (some (Value.bool false)) ([]) (gSame_0 (wTurn_0 x) (wTurn_1 x) (rTurn_0 x) (rTurn_1 x)) (Value.bool false))]) (σ1 := []) (by kernel_rfl) ⟨bP_of (fun x => x == true) h0, ⟨pP_t _ _ _ (congrArg (fun bb => (bb)) h0), ⟨bP_of (fun x => x == true) h1, ⟨pP_f _ _ _ (congrArg (fun bb => (bb)) h1), trivial⟩⟩⟩⟩ rfl rfl
theorem gWraps_p2 (x : Nat) (σ : AHeap) (h0 : (gSameF_0 (wrapP x) (rWrap_0 x)) = false) : CallR Try.prog false 4 [Value.float .f64 x] σ (Value.bool false) σ := CallR.of_DO_pure (C := dL8) dL8_ok Try.func4 gWraps_fok (n := 100) (orc := [(32, Item.br false), (35, Item.res (Value.bool false))]) (ps := [(bP (gSameF_0 (wrapP x) (rWrap_0 x) == true) false), (pP (none) (some (Value.bool false)) ([]) (gSameF_0 (wrapP x) (rWrap_0 x)) (Value.bool false))]) (σ1 := []) (by kernel_rfl) ⟨bP_of (fun x => x == true) h0, ⟨pP_f _ _ _ (congrArg (fun bb => (bb)) h0), trivial⟩⟩ rfl rfl
def gWraps_t (x : Nat) : Value := (bif gSameF_0 (wrapP x) (rWrap_0 x) then (bif gSame_0 (wTurn_0 x) (wTurn_1 x) (rTurn_0 x) (rTurn_1 x) then (Value.bool true) else (Value.bool false)) else (Value.bool false))
theorem gWraps_c (x : Nat) (σ : AHeap) : CallR Try.prog false 4 [Value.float .f64 x] σ (gWraps_t x) σ := by
  unfold gWraps_t
  exact (CallR.bif (fun h0 => (CallR.bif (fun h1 => (gWraps_p0 x σ h0 h1)) (fun h1 => (gWraps_p1 x σ h0 h1)))) (fun h0 => (gWraps_p2 x σ h0)))
def gWraps_0 (x : Nat) : Bool := (bif gSameF_0 (wrapP x) (rWrap_0 x) then (bif gSame_0 (wTurn_0 x) (wTurn_1 x) (rTurn_0 x) (rTurn_1 x) then true else false) else false)
theorem gWraps_v (x : Nat) : gWraps_t x = Go.Value.bool (gWraps_0 x) := by
  unfold gWraps_t gWraps_0
  cases (gSameF_0 (wrapP x) (rWrap_0 x)) with
  | true =>
    cases (gSame_0 (wTurn_0 x) (wTurn_1 x) (rTurn_0 x) (rTurn_1 x)) with
    | true =>
      kernel_rfl
    | false =>
      kernel_rfl
  | false =>
    kernel_rfl
theorem gWraps_ok (x : Nat) (σ : AHeap) : CallR Try.prog false 4 [Value.float .f64
    x] σ (Go.Value.bool (gWraps_0 x)) σ := by
  have h := gWraps_c x σ
  rw [gWraps_v] at h
  exact h
theorem gUnits_fok : fnOk (dL8) Try.f5 = true := by kernel_rfl
theorem gUnits_p0 (k : Int) (n : Int) (σ : AHeap) (h0 : (gSame_0 (wUnit_0 k n) (wUnit_1 k n) (rUnit_0 k n) (rUnit_1 k n)) = true) : CallR Try.prog false 5 [Value.int .i64 k, Value.int .i64 n] σ (Value.bool true) σ := CallR.of_DO_pure (C := dL8) dL8_ok Try.func5 gUnits_fok (n := 100) (orc := [(20, Item.br true), (23, Item.res (Value.bool true))]) (ps := [(bP (gSame_0 (wUnit_0 k n) (wUnit_1 k n) (rUnit_0 k n) (rUnit_1 k n) == true) true), (pP (some (Value.bool true)) (some (Value.bool false)) ([]) (gSame_0 (wUnit_0 k n) (wUnit_1 k n) (rUnit_0 k n) (rUnit_1 k n)) (Value.bool true))]) (σ1 := []) (by kernel_rfl) ⟨bP_of (fun x => x == true) h0, ⟨pP_t _ _ _ (congrArg (fun bb => (bb)) h0), trivial⟩⟩ rfl rfl
theorem gUnits_p1 (k : Int) (n : Int) (σ : AHeap) (h0 : (gSame_0 (wUnit_0 k n) (wUnit_1 k n) (rUnit_0 k n) (rUnit_1 k n)) = false) : CallR Try.prog false 5 [Value.int .i64 k, Value.int .i64 n] σ (Value.bool false) σ := CallR.of_DO_pure (C := dL8) dL8_ok Try.func5 gUnits_fok (n := 100) (orc := [(20, Item.br false), (23, Item.res (Value.bool false))]) (ps := [(bP (gSame_0 (wUnit_0 k n) (wUnit_1 k n) (rUnit_0 k n) (rUnit_1 k n) == true) false), (pP (none) (some (Value.bool false)) ([]) (gSame_0 (wUnit_0 k n) (wUnit_1 k n) (rUnit_0 k n) (rUnit_1 k n)) (Value.bool false))]) (σ1 := []) (by kernel_rfl) ⟨bP_of (fun x => x == true) h0, ⟨pP_f _ _ _ (congrArg (fun bb => (bb)) h0), trivial⟩⟩ rfl rfl
def gUnits_t (k : Int) (n : Int) : Value := (bif gSame_0 (wUnit_0 k n) (wUnit_1 k n) (rUnit_0 k n) (rUnit_1 k n) then (Value.bool true) else (Value.bool false))
theorem gUnits_c (k : Int) (n : Int) (σ : AHeap) : CallR Try.prog false 5 [Value.int .i64 k,
  Value.int .i64 n] σ (gUnits_t k n) σ := by
  unfold gUnits_t
  exact (CallR.bif (fun h0 => (gUnits_p0 k n σ h0)) (fun h0 => (gUnits_p1 k n σ h0)))
def gUnits_0 (k : Int) (n : Int) : Bool := (bif gSame_0 (wUnit_0 k n) (wUnit_1 k n) (rUnit_0 k n) (rUnit_1 k n) then true else false)
theorem gUnits_v (k : Int) (n : Int) : gUnits_t k n = Go.Value.bool (gUnits_0 k n) := by
  unfold gUnits_t gUnits_0
  cases (gSame_0 (wUnit_0 k n) (wUnit_1 k n) (rUnit_0 k n) (rUnit_1 k n)) with
  | true =>
    kernel_rfl
  | false =>
    kernel_rfl
theorem gUnits_ok (k : Int) (n : Int) (σ : AHeap) : CallR Try.prog false 5 [Value.int .i64 k,
  Value.int .i64 n] σ (Go.Value.bool (gUnits_0 k n)) σ := by
  have h := gUnits_c k n σ
  rw [gUnits_v] at h
  exact h
end Go.Lk
