/- PlaceSquares: Sector. -/
import Derived.Test.YtmomainjlncogaaLkGA
import Derived.Test.YtmomainjlncogaaLkK46
import Derived.Test.YtmomainjlncogaaLkPSA
namespace Go.Lk
open Go.Proofs
set_option maxRecDepth 100000
set_option maxHeartbeats 0
set_option linter.unusedVariables false
set_option linter.unusedSimpArgs false
def sWrapQ : PureFn
  | [.float .f64 x] => some (.float .f64 (wrapP x))
  | _ => none
theorem sWrapQ_ok : IsPure Try.prog false 32 sWrapQ := by
  intro args v σ h
  unfold sWrapQ at h
  split at h
  · cases h; rw [← wWrap_eq]; exact wWrap_ok _ σ
  · cases h
noncomputable def tq1 : Tab := ((t3.addH 47 true sWithin2).addP 46 sWks23).addP 32 sWrapQ
theorem tq1_ok : tq1.Ok Try.prog false := Tab.Ok.addP (Tab.Ok.addP (Tab.Ok.addH t3_ok sWithin47_ok) sWks23_ok) sWrapQ_ok
noncomputable def LQ1 : Lib := ⟨Try.prog, false, tq1, [(132, Try.f132)], []⟩
theorem LQ1_fp : ∀ e, e ∈ LQ1.pures → Try.prog.funcs[e.1]? = some e.2 := fs_cons Try.func132 (fs_nil)
theorem LQ1_fh : ∀ e, e ∈ LQ1.heaps → Try.prog.funcs[e.1]? = some e.2.2 := gs_nil
theorem LQ1_p1 (gp : Nat → PureFn) (g : Nat → HeapFn) : (LQ1.pures.all fun e => fnOk (LQ1.mk' gp g) e.2) = true := by kernel_rfl
theorem LQ1_h1 (gp : Nat → PureFn) (g : Nat → HeapFn) : (LQ1.heaps.all fun e => fnOk (LQ1.mk' gp g) e.2.2 && (!e.2.1 || fnRo (LQ1.mk' gp g) e.2.2)) = true := by kernel_rfl
theorem LQ1_ok : LQ1.Ok := ⟨tq1_ok, mixed, LQ1_fp, LQ1_fh, LQ1_p1, LQ1_h1⟩
noncomputable def dLQ1 : Cfg := LQ1.cfg 100 6
theorem dLQ1_ok : dLQ1.Ok := LQ1_ok.cfg 100 6

theorem qPos_fok : fnOk (dLQ1) Try.f132 = true := by kernel_rfl
theorem qPos_p0 (x : Nat) (σ : AHeap) (h0 : (flt x 0) = true) (h1 : (fge (fadd x 4607182418800017408) 4607182418800017408) = true) : CallR Try.prog false 132 [Value.float .f64 x] σ (Value.float .f64 0) σ := CallR.of_DO_pure (C := dLQ1) dLQ1_ok Try.func132 qPos_fok (n := 100) (orc := [(6, Item.br true), (17, Item.br true)]) (ps := [(bP (flt x 0) true), (bP (fge (fadd x 4607182418800017408) 4607182418800017408) true)]) (σ1 := []) (by kernel_rfl) ⟨bP_of (fun x => x) h0, ⟨bP_of (fun x => x) h1, trivial⟩⟩ rfl rfl
theorem qPos_p1 (x : Nat) (σ : AHeap) (h0 : (flt x 0) = true) (h1 : (fge (fadd x 4607182418800017408) 4607182418800017408) = false) : CallR Try.prog false 132 [Value.float .f64 x] σ (Value.float .f64 (fadd x 4607182418800017408)) σ := CallR.of_DO_pure (C := dLQ1) dLQ1_ok Try.func132 qPos_fok (n := 100) (orc := [(6, Item.br true), (17, Item.br false)]) (ps := [(bP (flt x 0) true), (bP (fge (fadd x 4607182418800017408) 4607182418800017408) false)]) (σ1 := []) (by kernel_rfl) ⟨bP_of (fun x => x) h0, ⟨bP_of (fun x => x) h1, trivial⟩⟩ rfl rfl
theorem qPos_p2 (x : Nat) (σ : AHeap) (h0 : (flt x 0) = false) (h1 : (fge x 4607182418800017408) = true) : CallR Try.prog false 132 [Value.float .f64 x] σ (Value.float .f64 0) σ := CallR.of_DO_pure (C := dLQ1) dLQ1_ok Try.func132 qPos_fok (n := 100) (orc := [(6, Item.br false), (11, Item.br true)]) (ps := [(bP (flt x 0) false), (bP (fge x 4607182418800017408) true)]) (σ1 := []) (by kernel_rfl) ⟨bP_of (fun x => x) h0, ⟨bP_of (fun x => x) h1, trivial⟩⟩ rfl rfl
theorem qPos_p3 (x : Nat) (σ : AHeap) (h0 : (flt x 0) = false) (h1 : (fge x 4607182418800017408) = false) : CallR Try.prog false 132 [Value.float .f64 x] σ (Value.float .f64 x) σ := CallR.of_DO_pure (C := dLQ1) dLQ1_ok Try.func132 qPos_fok (n := 100) (orc := [(6, Item.br false), (11, Item.br false)]) (ps := [(bP (flt x 0) false), (bP (fge x 4607182418800017408) false)]) (σ1 := []) (by kernel_rfl) ⟨bP_of (fun x => x) h0, ⟨bP_of (fun x => x) h1, trivial⟩⟩ rfl rfl
def qPos_t (x : Nat) : Value := (bif flt x 0 then (bif fge (fadd x 4607182418800017408) 4607182418800017408 then (Value.float .f64 0) else (Value.float .f64 (fadd x 4607182418800017408))) else (bif fge x 4607182418800017408 then (Value.float .f64 0) else (Value.float .f64 x)))
theorem qPos_c (x : Nat) (σ : AHeap) : CallR Try.prog false 132 [Value.float .f64 x] σ (qPos_t x) σ := by
  unfold qPos_t
  exact (CallR.bif (fun h0 => (CallR.bif (fun h1 => (qPos_p0 x σ h0 h1)) (fun h1 => (qPos_p1 x σ h0 h1)))) (fun h0 => (CallR.bif (fun h1 => (qPos_p2 x σ h0 h1)) (fun h1 => (qPos_p3 x σ h0 h1)))))
def qPos_0 (x : Nat) : Nat := (bif flt x 0 then (bif fge (fadd x 4607182418800017408) 4607182418800017408 then 0 else fadd x 4607182418800017408) else (bif fge x 4607182418800017408 then 0 else x))
theorem qPos_v (x : Nat) : qPos_t x = Go.Value.float Go.FloatKind.f64 (qPos_0 x) := by
  unfold qPos_t qPos_0
  cases (flt x 0) with
  | true =>
    cases (fge (fadd x 4607182418800017408) 4607182418800017408) with
    | true =>
      kernel_rfl
    | false =>
      kernel_rfl
  | false =>
    cases (fge x 4607182418800017408) with
    | true =>
      kernel_rfl
    | false =>
      kernel_rfl
theorem qPos_ok (x : Nat) (σ : AHeap) : CallR Try.prog false 132 [Value.float .f64
    x] σ (Go.Value.float Go.FloatKind.f64 (qPos_0 x)) σ := by
  have h := qPos_c x σ
  rw [qPos_v] at h
  exact h
theorem qPos_eq (x : Nat) : qPos_0 x = posP x := rfl
def sPosQ : PureFn
  | [.float .f64 x] => some (.float .f64 (posP x))
  | _ => none
theorem sPosQ_ok : IsPure Try.prog false 132 sPosQ := by
  intro args v σ h
  unfold sPosQ at h
  split at h
  · cases h; rw [← qPos_eq]; exact qPos_ok _ σ
  · cases h
noncomputable def tq2 : Tab := tq1.addP 132 sPosQ
theorem tq2_ok : tq2.Ok Try.prog false := Tab.Ok.addP tq1_ok sPosQ_ok
noncomputable def LQ2 : Lib := ⟨Try.prog, false, tq2, [(69, Try.f69), (148, Try.f148)], []⟩
theorem LQ2_fp : ∀ e, e ∈ LQ2.pures → Try.prog.funcs[e.1]? = some e.2 := fs_cons Try.func69 (fs_cons Try.func148 (fs_nil))
theorem LQ2_fh : ∀ e, e ∈ LQ2.heaps → Try.prog.funcs[e.1]? = some e.2.2 := gs_nil
theorem LQ2_p1 (gp : Nat → PureFn) (g : Nat → HeapFn) : (LQ2.pures.all fun e => fnOk (LQ2.mk' gp g) e.2) = true := by kernel_rfl
theorem LQ2_h1 (gp : Nat → PureFn) (g : Nat → HeapFn) : (LQ2.heaps.all fun e => fnOk (LQ2.mk' gp g) e.2.2 && (!e.2.1 || fnRo (LQ2.mk' gp g) e.2.2)) = true := by kernel_rfl
theorem LQ2_ok : LQ2.Ok := ⟨tq2_ok, mixed, LQ2_fp, LQ2_fh, LQ2_p1, LQ2_h1⟩
noncomputable def dLQ2 : Cfg := LQ2.cfg 100 6
theorem dLQ2_ok : dLQ2.Ok := LQ2_ok.cfg 100 6

theorem qSector_fok : fnOk (dLQ2) Try.f52 = true := by kernel_rfl
theorem qSector_p0 (b : Nat) (n : Int) (σ : AHeap) (h0 : (decide (n < 1)) = true) : CallR Try.prog false 52 [Value.float .f64 b, Value.int .i64 n] σ (Value.tuple { toList := [Value.int .i64 (Int.ofNat 0), Value.int .i64 (Int.ofNat 2)] }) σ := CallR.of_DO_pure (C := dLQ2) dLQ2_ok Try.func52 qSector_fok (n := 100) (orc := [(10, Item.br true), (11, Item.br true)]) (ps := [(bP (decide (n < 1)) true), (bP (decide (n < 1)) true)]) (σ1 := []) (by kernel_rfl) ⟨bP_of (fun x => x) h0, ⟨bP_of (fun x => x) h0, trivial⟩⟩ rfl rfl
theorem qSector_p1 (b : Nat) (n : Int) (σ : AHeap) (h0 : (decide (n < 1)) = false) (h1 : (decide (n > 4096)) = true) : CallR Try.prog false 52 [Value.float .f64 b, Value.int .i64 n] σ (Value.tuple { toList := [Value.int .i64 (Int.ofNat 0), Value.int .i64 (Int.ofNat 2)] }) σ := CallR.of_DO_pure (C := dLQ2) dLQ2_ok Try.func52 qSector_fok (n := 100) (orc := [(10, Item.br false), (17, Item.br true)]) (ps := [(bP (decide (n < 1)) false), (bP (decide (n > 4096)) true)]) (σ1 := []) (by kernel_rfl) ⟨bP_of (fun x => x) h0, ⟨bP_of (fun x => x) h1, trivial⟩⟩ rfl rfl
theorem qSector_p2 (b : Nat) (n : Int) (σ : AHeap) (h0 : (decide (n < 1)) = false) (h1 : (decide (n > 4096)) = false) (h2 : (feq (fsub b b) 0) = true) (h3 : (okI IntKind.i64 (ffloor (fmul (posP (wrapP b)) (FloatKind.f64.nearest n)))) = true) : CallR Try.prog false 52 [Value.float .f64 b, Value.int .i64 n] σ (Value.tuple { toList := [Value.int .i64 (if IntKind.i64.wrap (n - Int.ofNat 1) < toI (ffloor (fmul (posP (wrapP b)) (FloatKind.f64.nearest n))) then IntKind.i64.wrap (n - Int.ofNat 1) else toI (ffloor (fmul (posP (wrapP b)) (FloatKind.f64.nearest n)))), Value.int .i64 (Int.ofNat 0)] }) σ := CallR.of_DO_pure (C := dLQ2) dLQ2_ok Try.func52 qSector_fok (n := 100) (orc := [(10, Item.br false), (17, Item.br false), (28, Item.br false), (48, Item.res (Value.int .i64 (toI (ffloor (fmul (posP (wrapP b)) (FloatKind.f64.nearest n))))))]) (ps := [(bP (decide (n < 1)) false), (bP (decide (n > 4096)) false), (bP (!feq (fsub b b) 0) false), (convF (IntKind.i64) (ffloor (fmul (posP (wrapP b)) (FloatKind.f64.nearest n))) ([]) = some (Value.int .i64 (toI (ffloor (fmul (posP (wrapP b)) (FloatKind.f64.nearest n)))), []))]) (σ1 := []) (by kernel_rfl) ⟨bP_of (fun x => x) h0, ⟨bP_of (fun x => x) h1, ⟨bP_of (fun x => !x) h2, ⟨convF_ok _ _ _ h3, trivial⟩⟩⟩⟩ rfl rfl
theorem qSector_p3 (b : Nat) (n : Int) (σ : AHeap) (h0 : (decide (n < 1)) = false) (h1 : (decide (n > 4096)) = false) (h2 : (feq (fsub b b) 0) = false) : CallR Try.prog false 52 [Value.float .f64 b, Value.int .i64 n] σ (Value.tuple { toList := [Value.int .i64 (Int.ofNat 0), Value.int .i64 (Int.ofNat 6)] }) σ := CallR.of_DO_pure (C := dLQ2) dLQ2_ok Try.func52 qSector_fok (n := 100) (orc := [(10, Item.br false), (17, Item.br false), (28, Item.br true)]) (ps := [(bP (decide (n < 1)) false), (bP (decide (n > 4096)) false), (bP (!feq (fsub b b) 0) true)]) (σ1 := []) (by kernel_rfl) ⟨bP_of (fun x => x) h0, ⟨bP_of (fun x => x) h1, ⟨bP_of (fun x => !x) h2, trivial⟩⟩⟩ rfl rfl
def qSector_t (b : Nat) (n : Int) : Value := (bif decide (n < 1) then (Value.tuple { toList := [Value.int .i64 (Int.ofNat 0), Value.int .i64 (Int.ofNat 2)] }) else (bif decide (n > 4096) then (Value.tuple { toList := [Value.int .i64 (Int.ofNat 0), Value.int .i64 (Int.ofNat 2)] }) else (bif feq (fsub b b) 0 then (Value.tuple { toList := [Value.int .i64 (if IntKind.i64.wrap (n - Int.ofNat 1) < toI (ffloor (fmul (posP (wrapP b)) (FloatKind.f64.nearest n))) then IntKind.i64.wrap (n - Int.ofNat 1) else toI (ffloor (fmul (posP (wrapP b)) (FloatKind.f64.nearest n)))), Value.int .i64 (Int.ofNat 0)] }) else (Value.tuple { toList := [Value.int .i64 (Int.ofNat 0), Value.int .i64 (Int.ofNat 6)] }))))
theorem qSector_c (b : Nat) (n : Int) (σ : AHeap) (g2_3 : (decide
  (n <
    1)) = false → (decide
  (n >
    4096)) = false → (feq (fsub b b)
  0) = true → (okI IntKind.i64
  (ffloor
    (fmul (posP (wrapP b))
      (FloatKind.f64.nearest
        n)))) = true) : CallR Try.prog false 52 [Value.float .f64 b, Value.int .i64 n] σ (qSector_t b n) σ := by
  unfold qSector_t
  exact (CallR.bif (fun h0 => (qSector_p0 b n σ h0)) (fun h0 => (CallR.bif (fun h1 => (qSector_p1 b n σ h0 h1)) (fun h1 => (CallR.bif (fun h2 => (qSector_p2 b n σ h0 h1 h2 (g2_3 h0 h1 h2))) (fun h2 => (qSector_p3 b n σ h0 h1 h2)))))))
def qSector_0 (b : Nat) (n : Int) : Int := (bif decide (n < 1) then Int.ofNat 0 else (bif decide (n > 4096) then Int.ofNat 0 else (bif feq (fsub b b) 0 then if IntKind.i64.wrap (n - Int.ofNat 1) < toI (ffloor (fmul (posP (wrapP b)) (FloatKind.f64.nearest n))) then IntKind.i64.wrap (n - Int.ofNat 1) else toI (ffloor (fmul (posP (wrapP b)) (FloatKind.f64.nearest n))) else Int.ofNat 0)))
def qSector_1 (b : Nat) (n : Int) : Int := (bif decide (n < 1) then Int.ofNat 2 else (bif decide (n > 4096) then Int.ofNat 2 else (bif feq (fsub b b) 0 then Int.ofNat 0 else Int.ofNat 6)))
theorem qSector_v (b : Nat) (n : Int) : qSector_t b n = Go.Value.tuple { toList := [Go.Value.int Go.IntKind.i64 (qSector_0 b n), Go.Value.int Go.IntKind.i64 (qSector_1 b n)] } := by
  unfold qSector_t qSector_0 qSector_1
  cases (decide (n < 1)) with
  | true =>
    kernel_rfl
  | false =>
    cases (decide (n > 4096)) with
    | true =>
      kernel_rfl
    | false =>
      cases (feq (fsub b b) 0) with
      | true =>
        kernel_rfl
      | false =>
        kernel_rfl
theorem qSector_ok (b : Nat) (n : Int) (σ : AHeap) (g2_3 : (decide
  (n <
    1)) = false → (decide
  (n >
    4096)) = false → (feq (fsub b b)
  0) = true → (okI IntKind.i64
  (ffloor
    (fmul (posP (wrapP b))
      (FloatKind.f64.nearest
        n)))) = true) : CallR Try.prog false 52 [Value.float .f64 b,
  Value.int .i64
    n] σ (Go.Value.tuple { toList := [Go.Value.int Go.IntKind.i64 (qSector_0 b n), Go.Value.int Go.IntKind.i64 (qSector_1 b n)] }) σ := by
  have h := qSector_c b n σ g2_3
  rw [qSector_v] at h
  exact h
def okSecQ (b : Nat) (n : Int) : Bool := decide (n < 1) || decide (n > 4096) || !feq (fsub b b) 0 || okI .i64 (ffloor (fmul (posP (wrapP b)) (FloatKind.f64.nearest n)))
def sSecW : HeapFn
  | [.float .f64 b, .int .i64 n], σ => bif okSecQ b n then some (.tuple #[.int .i64 (qSector_0 b n), .int .i64 (qSector_1 b n)], σ) else none
  | _, _ => none
theorem sSecW_ok : IsHeap Try.prog false 52 true sSecW := by
  have key : ∀ (args : List Value) (σ : AHeap) (v : Value) (σ' : AHeap), sSecW args σ = some (v, σ') → ∃ b n, okSecQ b n = true ∧ args = [.float .f64 b, .int .i64 n] ∧ v = .tuple #[.int .i64 (qSector_0 b n), .int .i64 (qSector_1 b n)] ∧ σ' = σ := by
    intro args σ v σ' h
    unfold sSecW at h
    split at h
    · rename_i b n
      cases hb : okSecQ b n
      · rw [hb] at h; cases h
      · rw [hb] at h
        cases h
        exact ⟨b, n, hb, rfl, rfl, rfl⟩
    · cases h
  refine ⟨fun args σ v σ' h => ?_, fun _ args σ v σ' h => ?_, fun args σ v σ' h => ?_⟩
  · obtain ⟨b, n, hb, rfl, rfl, rfl⟩ := key args σ v σ' h
    exact qSector_ok b n σ' (fun h1 h2 h3 => by unfold okSecQ at hb; rw [h1, h2, h3] at hb; simpa using hb)
  · obtain ⟨b, n, hb, rfl, rfl, rfl⟩ := key args σ v σ' h; rfl
  · obtain ⟨b, n, hb, rfl, rfl, rfl⟩ := key args σ v σ' h; exact Nat.le_refl _
theorem qCtT_fok : fnOkX (dLQ2) [] Try.f50 = true := by kernel_rfl
theorem qCtT_p0 (k : Int) (n : Int) (hn : 0 < n) (h : decide (k.tmod n < Int.ofNat 0) = true) : CallR Try.prog false 50 ([Value.int .i64 k, Value.int .i64 n]) ([]) (Value.int .i64 (IntKind.i64.wrap (k.tmod n + n))) ([]) := CallR.of_DOXs (C := dLQ2) dLQ2_ok (X := []) Try.func50 qCtT_fok (n := 3) (orc := [(7, Item.res (Value.int .i64 (k.tmod n))), (14, Item.br true)]) (ps := [(qF (Value.int .i64 (k.tmod n)) ([]) (n) = some (Value.int .i64 (k.tmod n), [])), (some (decide (k.tmod n < 0)) = some true)]) (by kernel_rfl) (fun hst => ⟨qF_ok _ _ (by (try simp only [decide_eq_true_eq, decide_eq_false_iff_not] at *); (try simp only [iN_eq, Int.ofNat_eq_natCast] at *); try omega), ⟨bP_of (fun x => x) (show (decide (k.tmod n < 0)) = true from decide_eq_true (by (try simp only [decide_eq_true_eq, decide_eq_false_iff_not] at *); (try simp only [iN_eq, Int.ofNat_eq_natCast] at *); try omega)), trivial⟩⟩)
theorem qCtF_fok : fnOkX (dLQ2) [] Try.f50 = true := by kernel_rfl
theorem qCtF_p0 (k : Int) (n : Int) (hn : 0 < n) (h : decide (k.tmod n < Int.ofNat 0) = false) : CallR Try.prog false 50 ([Value.int .i64 k, Value.int .i64 n]) ([]) (Value.int .i64 (k.tmod n)) ([]) := CallR.of_DOXs (C := dLQ2) dLQ2_ok (X := []) Try.func50 qCtF_fok (n := 3) (orc := [(7, Item.res (Value.int .i64 (k.tmod n))), (14, Item.br false)]) (ps := [(qF (Value.int .i64 (k.tmod n)) ([]) (n) = some (Value.int .i64 (k.tmod n), [])), (some (decide (k.tmod n < 0)) = some false)]) (by kernel_rfl) (fun hst => ⟨qF_ok _ _ (by (try simp only [decide_eq_true_eq, decide_eq_false_iff_not] at *); (try simp only [iN_eq, Int.ofNat_eq_natCast] at *); try omega), ⟨bP_of (fun x => x) (show (decide (k.tmod n < 0)) = false from decide_eq_false (by (try simp only [decide_eq_true_eq, decide_eq_false_iff_not] at *); (try simp only [iN_eq, Int.ofNat_eq_natCast] at *); try omega)), trivial⟩⟩)
def cntQ (k n : Int) : Int := bif decide (Int.tmod k n < 0) then IntKind.i64.wrap (Int.tmod k n + n) else Int.tmod k n
theorem cntQ_range {k n : Int} (h0 : 0 < n) (h1 : n ≤ 65536) : 0 ≤ cntQ k n ∧ cntQ k n < n := by
  have b1 : Int.tmod k n < n := Int.tmod_lt_of_pos k h0
  have b2 : -n < Int.tmod k n := by
    have h3 := Int.tmod_lt_of_pos (-k) h0
    rw [Int.neg_tmod] at h3
    omega
  have w : IntKind.i64.wrap (Int.tmod k n + n) = Int.tmod k n + n := i64_wrap ⟨by omega, by omega⟩
  unfold cntQ
  rw [w]
  cases hd : decide (Int.tmod k n < 0)
  · have hd := of_decide_eq_false hd
    simp only [cond_false]
    exact ⟨by omega, b1⟩
  · have hd := of_decide_eq_true hd
    simp only [cond_true]
    exact ⟨by omega, by omega⟩
def sCnt : HeapFn
  | [.int .i64 k, .int .i64 n], σ => bif decide (0 < n) then some (.int .i64 (cntQ k n), σ) else none
  | _, _ => none
theorem sCnt_ok : IsHeap Try.prog false 50 true sCnt := by
  have key : ∀ (args : List Value) (σ : AHeap) (v : Value) (σ' : AHeap), sCnt args σ = some (v, σ') → ∃ k n, 0 < n ∧ args = [.int .i64 k, .int .i64 n] ∧ v = .int .i64 (cntQ k n) ∧ σ' = σ := by
    intro args σ v σ' h
    unfold sCnt at h
    split at h
    · rename_i k n
      cases hn : decide (0 < n)
      · rw [hn] at h; cases h
      · rw [hn] at h
        cases h
        exact ⟨k, n, of_decide_eq_true hn, rfl, rfl, rfl⟩
    · cases h
  refine ⟨fun args σ v σ' h => ?_, fun _ args σ v σ' h => ?_, fun args σ v σ' h => ?_⟩
  · obtain ⟨k, n, h0, rfl, rfl, rfl⟩ := key args σ v σ' h
    unfold cntQ
    have fr : ∀ {v : Value}, (∃ σ1, CallR Try.prog false 50 [.int .i64 k, .int .i64 n] [] v σ1) → plain v = true → CallR Try.prog false 50 [.int .i64 k, .int .i64 n] σ' v σ' := by
      rintro v ⟨σ1, hs⟩ hv
      exact CallR.frameQ (r := fun k => k + σ'.length) (args0 := [.int .i64 k, .int .i64 n]) (σ0 := []) ⟨fun k o hk => by simp at hk, fun k hk => by omega⟩ rfl hs hv
    cases hd : decide (Int.tmod k n < 0)
    · exact fr ⟨_, qCtF_p0 k n h0 hd⟩ rfl
    · exact fr ⟨_, qCtT_p0 k n h0 hd⟩ rfl
  · obtain ⟨k, n, h0, rfl, rfl, rfl⟩ := key args σ v σ' h; rfl
  · obtain ⟨k, n, h0, rfl, rfl, rfl⟩ := key args σ v σ' h; exact Nat.le_refl _
noncomputable def tq3 : Tab := (tq2.addH 52 true sSecW).addH 50 true sCnt
theorem tq3_ok : tq3.Ok Try.prog false := Tab.Ok.addH (Tab.Ok.addH tq2_ok sSecW_ok) sCnt_ok
noncomputable def LQ3 : Lib := ⟨Try.prog, false, tq3, [], []⟩
theorem LQ3_fp : ∀ e, e ∈ LQ3.pures → Try.prog.funcs[e.1]? = some e.2 := fs_nil
theorem LQ3_fh : ∀ e, e ∈ LQ3.heaps → Try.prog.funcs[e.1]? = some e.2.2 := gs_nil
theorem LQ3_p1 (gp : Nat → PureFn) (g : Nat → HeapFn) : (LQ3.pures.all fun e => fnOk (LQ3.mk' gp g) e.2) = true := by kernel_rfl
theorem LQ3_h1 (gp : Nat → PureFn) (g : Nat → HeapFn) : (LQ3.heaps.all fun e => fnOk (LQ3.mk' gp g) e.2.2 && (!e.2.1 || fnRo (LQ3.mk' gp g) e.2.2)) = true := by kernel_rfl
theorem LQ3_ok : LQ3.Ok := ⟨tq3_ok, mixed, LQ3_fp, LQ3_fh, LQ3_p1, LQ3_h1⟩
noncomputable def dLQ3 : Cfg := LQ3.cfg 100 6
theorem dLQ3_ok : dLQ3.Ok := LQ3_ok.cfg 100 6

end Go.Lk
