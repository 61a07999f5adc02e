/- The sign turned over, by the words. -/
import Derived.Test.YtmomainjlncogaaLkGA
namespace Go.Lk
open Go.Proofs
set_option maxRecDepth 100000
set_option maxHeartbeats 0
set_option linter.unusedVariables false
set_option linter.unusedSimpArgs false
noncomputable def t0x : Tab := t0 true
theorem t0x_ok : t0x.Ok Try.prog true := t0_ok true
noncomputable def L0x : Lib := ⟨Try.prog, true, t0x, [(34, Try.f34), (35, Try.f35)], []⟩
theorem L0x_fp : ∀ e, e ∈ L0x.pures → Try.prog.funcs[e.1]? = some e.2 := fs_cons Try.func34 (fs_cons Try.func35 (fs_nil))
theorem L0x_fh : ∀ e, e ∈ L0x.heaps → Try.prog.funcs[e.1]? = some e.2.2 := gs_nil
theorem L0x_p1 (gp : Nat → PureFn) (g : Nat → HeapFn) : (L0x.pures.all fun e => fnOk (L0x.mk' gp g) e.2) = true := by kernel_rfl
theorem L0x_h1 (gp : Nat → PureFn) (g : Nat → HeapFn) : (L0x.heaps.all fun e => fnOk (L0x.mk' gp g) e.2.2 && (!e.2.1 || fnRo (L0x.mk' gp g) e.2.2)) = true := by kernel_rfl
theorem L0x_ok : L0x.Ok := ⟨t0x_ok, mixed, L0x_fp, L0x_fh, L0x_p1, L0x_h1⟩
noncomputable def dL0x : Cfg := L0x.cfg 100 4
theorem dL0x_ok : dL0x.Ok := L0x_ok.cfg 100 4

theorem xSignOf_fok : fnOk (dL0x) Try.f208 = true := by kernel_rfl
theorem xSignOf_p0 (x : Nat) (σ : AHeap) (h0 : (decide (IntKind.i64.wrap ↑x < 0)) = true) : CallR Try.prog true 208 [Value.float .f64 x] σ (Value.float FloatKind.f64 4607182418800017408) σ := CallR.of_DO_pure (C := dL0x) dL0x_ok Try.func208 xSignOf_fok (n := 100) (orc := [(6, Item.br true)]) (ps := [(bP (decide (IntKind.i64.wrap ↑x < 0)) true)]) (σ1 := []) (by kernel_rfl) ⟨bP_of (fun x => x) h0, trivial⟩ rfl rfl
theorem xSignOf_p1 (x : Nat) (σ : AHeap) (h0 : (decide (IntKind.i64.wrap ↑x < 0)) = false) : CallR Try.prog true 208 [Value.float .f64 x] σ (Value.float FloatKind.f64 13830554455654793216) σ := CallR.of_DO_pure (C := dL0x) dL0x_ok Try.func208 xSignOf_fok (n := 100) (orc := [(6, Item.br false)]) (ps := [(bP (decide (IntKind.i64.wrap ↑x < 0)) false)]) (σ1 := []) (by kernel_rfl) ⟨bP_of (fun x => x) h0, trivial⟩ rfl rfl
def xSignOf_t (x : Nat) : Value := (bif decide (IntKind.i64.wrap ↑x < 0) then (Value.float FloatKind.f64 4607182418800017408) else (Value.float FloatKind.f64 13830554455654793216))
theorem xSignOf_c (x : Nat) (σ : AHeap) : CallR Try.prog true 208 [Value.float .f64 x] σ (xSignOf_t x) σ := by
  unfold xSignOf_t
  exact (CallR.bif (fun h0 => (xSignOf_p0 x σ h0)) (fun h0 => (xSignOf_p1 x σ h0)))
def xSignOf_0 (x : Nat) : Nat := (bif decide (IntKind.i64.wrap ↑x < 0) then 4607182418800017408 else 13830554455654793216)
theorem xSignOf_v (x : Nat) : xSignOf_t x = Go.Value.float Go.FloatKind.f64 (xSignOf_0 x) := by
  unfold xSignOf_t xSignOf_0
  cases (decide (IntKind.i64.wrap ↑x < 0)) with
  | true =>
    kernel_rfl
  | false =>
    kernel_rfl
theorem xSignOf_ok (x : Nat) (σ : AHeap) : CallR Try.prog true 208 [Value.float .f64
    x] σ (Go.Value.float Go.FloatKind.f64 (xSignOf_0 x)) σ := by
  have h := xSignOf_c x σ
  rw [xSignOf_v] at h
  exact h
def sSignOfX : PureFn
  | [.float .f64 x] => some (.float .f64 (xSignOf_0 x))
  | _ => none
theorem sSignOfX_ok : IsPure Try.prog true 208 sSignOfX := by
  intro args v σ h
  unfold sSignOfX at h
  split at h
  · cases h; exact xSignOf_ok _ σ
  · cases h
noncomputable def t1x : Tab := t0x.addP 208 sSignOfX
theorem t1x_ok : t1x.Ok Try.prog true := Tab.Ok.addP t0x_ok sSignOfX_ok
noncomputable def L1x : Lib := ⟨Try.prog, true, t1x, [(34, Try.f34), (35, Try.f35)], []⟩
theorem L1x_fp : ∀ e, e ∈ L1x.pures → Try.prog.funcs[e.1]? = some e.2 := fs_cons Try.func34 (fs_cons Try.func35 (fs_nil))
theorem L1x_fh : ∀ e, e ∈ L1x.heaps → Try.prog.funcs[e.1]? = some e.2.2 := gs_nil
theorem L1x_p1 (gp : Nat → PureFn) (g : Nat → HeapFn) : (L1x.pures.all fun e => fnOk (L1x.mk' gp g) e.2) = true := by kernel_rfl
theorem L1x_h1 (gp : Nat → PureFn) (g : Nat → HeapFn) : (L1x.heaps.all fun e => fnOk (L1x.mk' gp g) e.2.2 && (!e.2.1 || fnRo (L1x.mk' gp g) e.2.2)) = true := by kernel_rfl
theorem L1x_ok : L1x.Ok := ⟨t1x_ok, mixed, L1x_fp, L1x_fh, L1x_p1, L1x_h1⟩
noncomputable def dL1x : Cfg := L1x.cfg 100 4
theorem dL1x_ok : dL1x.Ok := L1x_ok.cfg 100 4

theorem xTurned_fok : fnOk (dL1x) Try.f189 = true := by kernel_rfl
theorem xTurned_p0 (x : Nat) (σ : AHeap) : CallR Try.prog true 189 [Value.float .f64 x] σ (Value.float FloatKind.f64 (cn true (IntKind.u64.wrap (iN (BitVec.ofInt IntKind.u64.bits (IntKind.u64.wrap ↑(BitVec.ofInt IntKind.u64.bits ↑x &&& ~~~BitVec.ofInt IntKind.u64.bits 9223372036854775808).toNat) ||| BitVec.ofInt IntKind.u64.bits (IntKind.u64.wrap ↑(BitVec.ofInt IntKind.u64.bits ↑(xSignOf_0 x) &&& BitVec.ofInt IntKind.u64.bits 9223372036854775808).toNat)).toNat)).toNat)) σ := CallR.of_DO_pure (C := dL1x) dL1x_ok Try.func189 xTurned_fok (n := 100) (orc := []) (ps := []) (σ1 := []) (by kernel_rfl) trivial rfl rfl
def xTurned_t (x : Nat) : Value := (Value.float FloatKind.f64 (cn true (IntKind.u64.wrap (iN (BitVec.ofInt IntKind.u64.bits (IntKind.u64.wrap ↑(BitVec.ofInt IntKind.u64.bits ↑x &&& ~~~BitVec.ofInt IntKind.u64.bits 9223372036854775808).toNat) ||| BitVec.ofInt IntKind.u64.bits (IntKind.u64.wrap ↑(BitVec.ofInt IntKind.u64.bits ↑(xSignOf_0 x) &&& BitVec.ofInt IntKind.u64.bits 9223372036854775808).toNat)).toNat)).toNat))
theorem xTurned_c (x : Nat) (σ : AHeap) : CallR Try.prog true 189 [Value.float .f64 x] σ (xTurned_t x) σ := by
  unfold xTurned_t
  exact (xTurned_p0 x σ)
def xTurned_0 (x : Nat) : Nat := cn true (IntKind.u64.wrap (iN (BitVec.ofInt IntKind.u64.bits (IntKind.u64.wrap ↑(BitVec.ofInt IntKind.u64.bits ↑x &&& ~~~BitVec.ofInt IntKind.u64.bits 9223372036854775808).toNat) ||| BitVec.ofInt IntKind.u64.bits (IntKind.u64.wrap ↑(BitVec.ofInt IntKind.u64.bits ↑(xSignOf_0 x) &&& BitVec.ofInt IntKind.u64.bits 9223372036854775808).toNat)).toNat)).toNat
theorem xTurned_v (x : Nat) : xTurned_t x = Go.Value.float Go.FloatKind.f64 (xTurned_0 x) := by
  unfold xTurned_t xTurned_0
  kernel_rfl
theorem xTurned_ok (x : Nat) (σ : AHeap) : CallR Try.prog true 189 [Value.float .f64
    x] σ (Go.Value.float Go.FloatKind.f64 (xTurned_0 x)) σ := by
  have h := xTurned_c x σ
  rw [xTurned_v] at h
  exact h
def fturn (x : Nat) : Nat := bif isNaN x then qnan else wd (!sg x) (rg x)
def sTurned : PureFn
  | [.float .f64 x] => some (.float .f64 (fturn x))
  | _ => none
theorem xSignOf_eq (x : Nat) : xSignOf_0 x = bif sg x then 4607182418800017408 else 13830554455654793216 := by
  unfold xSignOf_0
  rw [← signbit_word x]
theorem fturn_can (c : Nat) : fturn (can c) = can (wd (!sg c) (rg c)) := by
  unfold fturn
  rw [isNaN_can]
  have hw : isNaN (wd (!sg c) (rg c)) = isNaN c := nan_rg (rg_wd (rg_lt _))
  cases hc : isNaN c
  · rw [hc] at hw; rw [cond_false, can_of_num hc, can_of_num hw]
  · rw [hc] at hw; rw [cond_true, can_of_nan hw]
theorem sTurned_ok : IsPure Try.prog false 189 sTurned := by
  intro args v σ h
  unfold sTurned at h
  split at h
  · rename_i x
    cases h
    refine CallR.of_exact rfl (fun cargs hv => ?_) rfl
    obtain ⟨y, hy, hvr⟩ := hv.one_of
    obtain ⟨c, rfl, rfl⟩ := hvr.float_of
    subst hy
    refine ⟨_, xTurned_c c [], rfl, ?_⟩
    have e : xTurned_t c = .float .f64 (wd (sg (xSignOf_0 c)) (rg c)) := congrArg (Value.float .f64) (copysign_word c (xSignOf_0 c))
    rw [e, xSignOf_eq]
    have hs : sg (bif sg c then 4607182418800017408 else 13830554455654793216) = !sg c := by cases sg c <;> decide
    rw [hs]
    have := VR.float (ex := false) (μ := []) .f64 (wd (!sg c) (rg c))
    rw [show cn false (wd (!sg c) (rg c)) = can (wd (!sg c) (rg c)) from rfl, ← fturn_can] at this
    exact this
  · cases h
end Go.Lk
