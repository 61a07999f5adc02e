import Derived.Test.YtmomainjlncogaaLkGA
import Derived.Test.YtmomainjlncogaaLkJR
import Derived.Test.YtmomainjlncogaaLkGVB
section
/- The sign turned over, by the words. -/
namespace Go.Lk
open Go.Proofs
set_option maxRecDepth 100000
set_option maxHeartbeats 0
set_option linter.unusedVariables false
set_option linter.unusedSimpArgs false
noncomputable def t0x : Tab := t0 true
theorem t0x_ok : t0x.Ok Try.prog true := t0_ok true
noncomputable def L0x : Lib := ⟨Try.prog, true, t0x, [(34, Try.f34), (35, Try.f35)], []⟩
theorem L0x_fp : ∀ e, e ∈ L0x.pures → Try.prog.funcs[e.1]? = some e.2 := fs_cons Try.func34 (fs_cons Try.func35 (fs_nil))
theorem L0x_fh : ∀ e, e ∈ L0x.heaps → Try.prog.funcs[e.1]? = some e.2.2 := gs_nil
theorem L0x_p1 (gp : Nat → PureFn) (g : Nat → HeapFn) : (L0x.pures.all fun e => fnOk (L0x.mk' gp g) e.2) = true := by kernel_rfl
theorem L0x_h1 (gp : Nat → PureFn) (g : Nat → HeapFn) : (L0x.heaps.all fun e => fnOk (L0x.mk' gp g) e.2.2 && (!e.2.1 || fnRo (L0x.mk' gp g) e.2.2)) = true := by kernel_rfl
theorem L0x_ok : L0x.Ok := ⟨t0x_ok, mixed, L0x_fp, L0x_fh, L0x_p1, L0x_h1⟩
noncomputable def dL0x : Cfg := L0x.cfg 100 4
theorem dL0x_ok : dL0x.Ok := L0x_ok.cfg 100 4

theorem xSignOf_fok : fnOk (dL0x) Try.f208 = true := by kernel_rfl
theorem xSignOf_p0 (x : Nat) (σ : AHeap) (h0 : (decide (Go.IntKind.i64.wrap ↑x < 0)) = true) : CallR Try.prog true 208 [Value.float .f64 x] σ (Go.Value.float Go.FloatKind.f64 4607182418800017408) σ := CallR.of_DO_pure (C := dL0x) dL0x_ok Try.func208 xSignOf_fok (n := 100) (orc := [(6, Go.Lk.Item.br true)]) (ps := [(some (decide (Go.IntKind.i64.wrap ↑x < 0)) = some true)]) (σ1 := []) (by kernel_rfl) ⟨congrArg (fun bb => some (bb)) h0, trivial⟩ rfl rfl
theorem xSignOf_p1 (x : Nat) (σ : AHeap) (h0 : (decide (Go.IntKind.i64.wrap ↑x < 0)) = false) : CallR Try.prog true 208 [Value.float .f64 x] σ (Go.Value.float Go.FloatKind.f64 13830554455654793216) σ := CallR.of_DO_pure (C := dL0x) dL0x_ok Try.func208 xSignOf_fok (n := 100) (orc := [(6, Go.Lk.Item.br false)]) (ps := [(some (decide (Go.IntKind.i64.wrap ↑x < 0)) = some false)]) (σ1 := []) (by kernel_rfl) ⟨congrArg (fun bb => some (bb)) h0, trivial⟩ rfl rfl
def xSignOf_t (x : Nat) : Value := (bif decide (Go.IntKind.i64.wrap ↑x < 0) then (Go.Value.float Go.FloatKind.f64 4607182418800017408) else (Go.Value.float Go.FloatKind.f64 13830554455654793216))
theorem xSignOf_c (x : Nat) (σ : AHeap) : CallR Try.prog true 208 [Value.float .f64 x] σ (xSignOf_t x) σ := by
  unfold xSignOf_t
  exact (CallR.bif (fun h0 => (xSignOf_p0 x σ h0)) (fun h0 => (xSignOf_p1 x σ h0)))
def xSignOf_0 (x : Nat) : Nat := (bif decide (Go.IntKind.i64.wrap ↑x < 0) then 4607182418800017408 else 13830554455654793216)
theorem xSignOf_v (x : Nat) : xSignOf_t x = Go.Value.float Go.FloatKind.f64 (xSignOf_0 x) := by
  unfold xSignOf_t xSignOf_0
  cases (decide (Go.IntKind.i64.wrap ↑x < 0)) with
  | true =>
    kernel_rfl
  | false =>
    kernel_rfl
theorem xSignOf_ok (x : Nat) (σ : AHeap) : CallR Try.prog true 208 [Value.float .f64
    x] σ (Go.Value.float Go.FloatKind.f64 (xSignOf_0 x)) σ := by
  have h := xSignOf_c x σ
  rw [xSignOf_v] at h
  exact h
def sSignOfX : PureFn
  | [.float .f64 x] => some (.float .f64 (xSignOf_0 x))
  | _ => none
theorem sSignOfX_ok : IsPure Try.prog true 208 sSignOfX := by
  intro args v σ h
  unfold sSignOfX at h
  split at h
  · cases h; exact xSignOf_ok _ σ
  · cases h
noncomputable def t1x : Tab := t0x.addP 208 sSignOfX
theorem t1x_ok : t1x.Ok Try.prog true := Tab.Ok.addP t0x_ok sSignOfX_ok
noncomputable def L1x : Lib := ⟨Try.prog, true, t1x, [(34, Try.f34), (35, Try.f35)], []⟩
theorem L1x_fp : ∀ e, e ∈ L1x.pures → Try.prog.funcs[e.1]? = some e.2 := fs_cons Try.func34 (fs_cons Try.func35 (fs_nil))
theorem L1x_fh : ∀ e, e ∈ L1x.heaps → Try.prog.funcs[e.1]? = some e.2.2 := gs_nil
theorem L1x_p1 (gp : Nat → PureFn) (g : Nat → HeapFn) : (L1x.pures.all fun e => fnOk (L1x.mk' gp g) e.2) = true := by kernel_rfl
theorem L1x_h1 (gp : Nat → PureFn) (g : Nat → HeapFn) : (L1x.heaps.all fun e => fnOk (L1x.mk' gp g) e.2.2 && (!e.2.1 || fnRo (L1x.mk' gp g) e.2.2)) = true := by kernel_rfl
theorem L1x_ok : L1x.Ok := ⟨t1x_ok, mixed, L1x_fp, L1x_fh, L1x_p1, L1x_h1⟩
noncomputable def dL1x : Cfg := L1x.cfg 100 4
theorem dL1x_ok : dL1x.Ok := L1x_ok.cfg 100 4

theorem xTurned_fok : fnOk (dL1x) Try.f189 = true := by kernel_rfl
theorem xTurned_p0 (x : Nat) (σ : AHeap) : CallR Try.prog true 189 [Value.float .f64 x] σ (Go.Value.float Go.FloatKind.f64 (Go.Lk.cn true (Go.IntKind.u64.wrap (Go.Lk.iN (BitVec.ofInt Go.IntKind.u64.bits (Go.IntKind.u64.wrap ↑(BitVec.ofInt Go.IntKind.u64.bits ↑x &&& ~~~BitVec.ofInt Go.IntKind.u64.bits 9223372036854775808).toNat) ||| BitVec.ofInt Go.IntKind.u64.bits (Go.IntKind.u64.wrap ↑(BitVec.ofInt Go.IntKind.u64.bits ↑(Go.Lk.xSignOf_0 x) &&& BitVec.ofInt Go.IntKind.u64.bits 9223372036854775808).toNat)).toNat)).toNat)) σ := CallR.of_DO_pure (C := dL1x) dL1x_ok Try.func189 xTurned_fok (n := 100) (orc := []) (ps := []) (σ1 := []) (by kernel_rfl) trivial rfl rfl
def xTurned_t (x : Nat) : Value := (Go.Value.float Go.FloatKind.f64 (Go.Lk.cn true (Go.IntKind.u64.wrap (Go.Lk.iN (BitVec.ofInt Go.IntKind.u64.bits (Go.IntKind.u64.wrap ↑(BitVec.ofInt Go.IntKind.u64.bits ↑x &&& ~~~BitVec.ofInt Go.IntKind.u64.bits 9223372036854775808).toNat) ||| BitVec.ofInt Go.IntKind.u64.bits (Go.IntKind.u64.wrap ↑(BitVec.ofInt Go.IntKind.u64.bits ↑(Go.Lk.xSignOf_0 x) &&& BitVec.ofInt Go.IntKind.u64.bits 9223372036854775808).toNat)).toNat)).toNat))
theorem xTurned_c (x : Nat) (σ : AHeap) : CallR Try.prog true 189 [Value.float .f64 x] σ (xTurned_t x) σ := by
  unfold xTurned_t
  exact (xTurned_p0 x σ)
def fturn (x : Nat) : Nat := bif isNaN x then qnan else wd (!sg x) (rg x)
def sTurned : PureFn
  | [.float .f64 x] => some (.float .f64 (fturn x))
  | _ => none
theorem xSignOf_eq (x : Nat) : xSignOf_0 x = bif sg x then 4607182418800017408 else 13830554455654793216 := by
  unfold xSignOf_0
  rw [← signbit_word x]
theorem fturn_can (c : Nat) : fturn (can c) = can (wd (!sg c) (rg c)) := by
  unfold fturn
  rw [isNaN_can]
  have hw : isNaN (wd (!sg c) (rg c)) = isNaN c := nan_rg (rg_wd (rg_lt _))
  cases hc : isNaN c
  · rw [hc] at hw; rw [cond_false, can_of_num hc, can_of_num hw]
  · rw [hc] at hw; rw [cond_true, can_of_nan hw]
theorem sTurned_ok : IsPure Try.prog false 189 sTurned := by
  intro args v σ h
  unfold sTurned at h
  split at h
  · rename_i x
    cases h
    refine CallR.of_exact rfl (fun cargs hv => ?_) rfl
    obtain ⟨y, hy, hvr⟩ := hv.one_of
    obtain ⟨c, rfl, rfl⟩ := hvr.float_of
    subst hy
    refine ⟨_, xTurned_c c [], rfl, ?_⟩
    have e : xTurned_t c = .float .f64 (wd (sg (xSignOf_0 c)) (rg c)) := congrArg (Value.float .f64) (copysign_word c (xSignOf_0 c))
    rw [e, xSignOf_eq]
    have hs : sg (bif sg c then 4607182418800017408 else 13830554455654793216) = !sg c := by cases sg c <;> decide
    rw [hs]
    have := VR.float (ex := false) (μ := []) .f64 (wd (!sg c) (rg c))
    rw [show cn false (wd (!sg c) (rg c)) = can (wd (!sg c) (rg c)) from rfl, ← fturn_can] at this
    exact this
  · cases h
end Go.Lk
end

section
/- A row of which one element is written. -/
namespace Go.Lk
set_option linter.unusedVariables false
def updR (f : Nat → List Value) (k : Nat) (l : List Value) (i : Nat) : List Value := bif Nat.beq i k then l else f i
theorem updR_at (f : Nat → List Value) (k : Nat) (l : List Value) : updR f k l k = l := by
  unfold updR; rw [show Nat.beq k k = true from Nat.beq_refl k]; rfl
theorem updR_ne (f : Nat → List Value) (k : Nat) (l : List Value) {i : Nat} (h : i ≠ k) : updR f k l i = f i := by
  unfold updR
  have : Nat.beq i k = false := by cases h' : Nat.beq i k; rfl; exact absurd (Nat.eq_of_beq_eq_true h') h
  rw [this]; rfl
theorem updR_len {f : Nat → List Value} {k s : Nat} {l : List Value} (hf : ∀ i, (f i).length = s) (hl : l.length = s) (i : Nat) : (updR f k l i).length = s := by
  unfold updR; cases Nat.beq i k; exact hf i; exact hl
theorem updR_all {f : Nat → List Value} {k : Nat} {l : List Value} {p : Value → Bool} (hf : ∀ i, (f i).all p = true) (hl : l.all p = true) (i : Nat) : (updR f k l i).all p = true := by
  unfold updR; cases Nat.beq i k; exact hf i; exact hl
end Go.Lk
end

section
/- Null: what its parts tell. -/
namespace Go.Lk
open Go.Proofs
set_option maxRecDepth 100000
set_option maxHeartbeats 0
set_option linter.unusedVariables false
set_option linter.unusedSimpArgs false
noncomputable def LFi : Lib := ⟨Try.prog, false, t9q, [(127, Try.f127), (51, Try.f51), (128, Try.f128)], []⟩
theorem LFi_fp : ∀ e, e ∈ LFi.pures → Try.prog.funcs[e.1]? = some e.2 := fs_cons Try.func127 (fs_cons Try.func51 (fs_cons Try.func128 (fs_nil)))
theorem LFi_fh : ∀ e, e ∈ LFi.heaps → Try.prog.funcs[e.1]? = some e.2.2 := gs_nil
theorem LFi_p1 (gp : Nat → PureFn) (g : Nat → HeapFn) : (LFi.pures.all fun e => fnOk (LFi.mk' gp g) e.2) = true := by kernel_rfl
theorem LFi_h1 (gp : Nat → PureFn) (g : Nat → HeapFn) : (LFi.heaps.all fun e => fnOk (LFi.mk' gp g) e.2.2 && (!e.2.1 || fnRo (LFi.mk' gp g) e.2.2)) = true := by kernel_rfl
theorem LFi_ok : LFi.Ok := ⟨t9q_ok, mixed, LFi_fp, LFi_fh, LFi_p1, LFi_h1⟩
noncomputable def dLFi : Cfg := LFi.cfg 100 4
theorem dLFi_ok : dLFi.Ok := LFi_ok.cfg 100 4

theorem cRFin_fok : fnOk (dLFi) Try.f141 = true := by kernel_rfl
theorem cRFin_p0 (x : Nat) (σ : AHeap) (h0 : (feq x x) = true) (h1 : (fle x 9218868437227405311) = true) : CallR Try.prog false 141 [Value.float .f64 x] σ (Value.bool (fge x 18442240474082181119)) σ := CallR.of_DO_pure (C := dLFi) dLFi_ok Try.func141 cRFin_fok (n := 100) (orc := [(10, Item.br true), (12, Item.br true), (15, Item.res (Value.bool (fle x 9218868437227405311))), (18, Item.br true), (20, Item.br true), (23, Item.res (Value.bool (fge x 18442240474082181119)))]) (ps := [(bP (feq x x == true) true), (bP (feq x x == true) true), (pP (some (Value.bool (fle x 9218868437227405311))) (some (Value.bool false)) ([]) (feq x x) (Value.bool (fle x 9218868437227405311))), (bP (fle x 9218868437227405311 == true) true), (bP (fle x 9218868437227405311 == true) true), (pP (some (Value.bool (fge x 18442240474082181119))) (some (Value.bool false)) ([]) (fle x 9218868437227405311) (Value.bool (fge x 18442240474082181119)))]) (σ1 := []) (by kernel_rfl) ⟨bP_of (fun x => x == true) h0, ⟨bP_of (fun x => x == true) h0, ⟨pP_t _ _ _ (congrArg (fun bb => (bb)) h0), ⟨bP_of (fun x => x == true) h1, ⟨bP_of (fun x => x == true) h1, ⟨pP_t _ _ _ (congrArg (fun bb => (bb)) h1), trivial⟩⟩⟩⟩⟩⟩ rfl rfl
theorem cRFin_p1 (x : Nat) (σ : AHeap) (h0 : (feq x x) = true) (h1 : (fle x 9218868437227405311) = false) : CallR Try.prog false 141 [Value.float .f64 x] σ (Value.bool false) σ := CallR.of_DO_pure (C := dLFi) dLFi_ok Try.func141 cRFin_fok (n := 100) (orc := [(10, Item.br true), (12, Item.br true), (15, Item.res (Value.bool (fle x 9218868437227405311))), (18, Item.br false), (20, Item.br false), (23, Item.res (Value.bool false))]) (ps := [(bP (feq x x == true) true), (bP (feq x x == true) true), (pP (some (Value.bool (fle x 9218868437227405311))) (some (Value.bool false)) ([]) (feq x x) (Value.bool (fle x 9218868437227405311))), (bP (fle x 9218868437227405311 == true) false), (bP (fle x 9218868437227405311 == true) false), (pP (none) (some (Value.bool false)) ([]) (fle x 9218868437227405311) (Value.bool false))]) (σ1 := []) (by kernel_rfl) ⟨bP_of (fun x => x == true) h0, ⟨bP_of (fun x => x == true) h0, ⟨pP_t _ _ _ (congrArg (fun bb => (bb)) h0), ⟨bP_of (fun x => x == true) h1, ⟨bP_of (fun x => x == true) h1, ⟨pP_f _ _ _ (congrArg (fun bb => (bb)) h1), trivial⟩⟩⟩⟩⟩⟩ rfl rfl
theorem cRFin_p2 (x : Nat) (σ : AHeap) (h0 : (feq x x) = false) : CallR Try.prog false 141 [Value.float .f64 x] σ (Value.bool false) σ := CallR.of_DO_pure (C := dLFi) dLFi_ok Try.func141 cRFin_fok (n := 100) (orc := [(10, Item.br false), (12, Item.br false), (15, Item.res (Value.bool false))]) (ps := [(bP (feq x x == true) false), (bP (feq x x == true) false), (pP (none) (some (Value.bool false)) ([]) (feq x x) (Value.bool false))]) (σ1 := []) (by kernel_rfl) ⟨bP_of (fun x => x == true) h0, ⟨bP_of (fun x => x == true) h0, ⟨pP_f _ _ _ (congrArg (fun bb => (bb)) h0), trivial⟩⟩⟩ rfl rfl
def cRFin_t (x : Nat) : Value := (bif feq x x then (bif fle x 9218868437227405311 then (Value.bool (fge x 18442240474082181119)) else (Value.bool false)) else (Value.bool false))
theorem cRFin_c (x : Nat) (σ : AHeap) : CallR Try.prog false 141 [Value.float .f64 x] σ (cRFin_t x) σ := by
  unfold cRFin_t
  exact (CallR.bif (fun h0 => (CallR.bif (fun h1 => (cRFin_p0 x σ h0 h1)) (fun h1 => (cRFin_p1 x σ h0 h1)))) (fun h0 => (cRFin_p2 x σ h0)))
def cRFin_0 (x : Nat) : Bool := (bif feq x x then (bif fle x 9218868437227405311 then fge x 18442240474082181119 else false) else false)
theorem cRFin_v (x : Nat) : cRFin_t x = Go.Value.bool (cRFin_0 x) := by
  unfold cRFin_t cRFin_0
  cases (feq x x) with
  | true =>
    cases (fle x 9218868437227405311) with
    | true =>
      kernel_rfl
    | false =>
      kernel_rfl
  | false =>
    kernel_rfl
theorem cRFin_ok (x : Nat) (σ : AHeap) : CallR Try.prog false 141 [Value.float .f64
    x] σ (Go.Value.bool (cRFin_0 x)) σ := by
  have h := cRFin_c x σ
  rw [cRFin_v] at h
  exact h
def sCRFin : PureFn
  | [.float .f64 x] => some (.bool (cRFin_0 x))
  | _ => none
theorem sCRFin_ok : IsPure Try.prog false 141 sCRFin := by
  intro args v σ h
  unfold sCRFin at h
  split at h
  · cases h; exact cRFin_ok _ σ
  · cases h
noncomputable def n0 : Tab := ((t9q.addP 141 sCRFin).addP 189 sTurned)
theorem n0_ok : n0.Ok Try.prog false := (Tab.Ok.addP (Tab.Ok.addP t9q_ok sCRFin_ok) sTurned_ok)
noncomputable def Ln0 : Lib := ⟨Try.prog, false, n0, [], []⟩
theorem Ln0_fp : ∀ e, e ∈ Ln0.pures → Try.prog.funcs[e.1]? = some e.2 := fs_nil
theorem Ln0_fh : ∀ e, e ∈ Ln0.heaps → Try.prog.funcs[e.1]? = some e.2.2 := gs_nil
theorem Ln0_p1 (gp : Nat → PureFn) (g : Nat → HeapFn) : (Ln0.pures.all fun e => fnOk (Ln0.mk' gp g) e.2) = true := by kernel_rfl
theorem Ln0_h1 (gp : Nat → PureFn) (g : Nat → HeapFn) : (Ln0.heaps.all fun e => fnOk (Ln0.mk' gp g) e.2.2 && (!e.2.1 || fnRo (Ln0.mk' gp g) e.2.2)) = true := by kernel_rfl
theorem Ln0_ok : Ln0.Ok := ⟨n0_ok, mixed, Ln0_fp, Ln0_fh, Ln0_p1, Ln0_h1⟩
noncomputable def dLn0 : Cfg := Ln0.cfg 100 4
theorem dLn0_ok : dLn0.Ok := Ln0_ok.cfg 100 4

theorem cNf_fok : fnOk (dLn0) Try.f201 = true := by kernel_rfl
theorem cNf_p0 (x : Nat) (σ : AHeap) : CallR Try.prog false 201 [Value.float .f64 x] σ (Value.bool !feq (fsub x x) 0) σ := CallR.of_DO_pure (C := dLn0) dLn0_ok Try.func201 cNf_fok (n := 100) (orc := []) (ps := []) (σ1 := []) (by kernel_rfl) trivial rfl rfl
def cNf_t (x : Nat) : Value := (Value.bool !feq (fsub x x) 0)
theorem cNf_c (x : Nat) (σ : AHeap) : CallR Try.prog false 201 [Value.float .f64 x] σ (cNf_t x) σ := by
  unfold cNf_t
  exact (cNf_p0 x σ)
def cNf_0 (x : Nat) : Bool := !feq (fsub x x) 0
theorem cNf_v (x : Nat) : cNf_t x = Go.Value.bool (cNf_0 x) := by
  unfold cNf_t cNf_0
  kernel_rfl
theorem cNf_ok (x : Nat) (σ : AHeap) : CallR Try.prog false 201 [Value.float .f64 x] σ (Go.Value.bool (cNf_0 x)) σ := by
  have h := cNf_c x σ
  rw [cNf_v] at h
  exact h
theorem nMul_fok : fnOk (dLn0) Try.f135 = true := by kernel_rfl
theorem nMul_p0 (a : Nat) (b : Nat) (c : Nat) (d : Nat) (σ : AHeap) : CallR Try.prog false 135 [.complex .f64 a b, .complex .f64 c d] σ (Value.complex .f64 (fsub (fmul a c) (fmul b d)) (fadd (fmul a d) (fmul b c))) σ := CallR.of_DO_pure (C := dLn0) dLn0_ok Try.func135 nMul_fok (n := 100) (orc := []) (ps := []) (σ1 := []) (by kernel_rfl) trivial rfl rfl
def nMul_t (a : Nat) (b : Nat) (c : Nat) (d : Nat) : Value := (Value.complex .f64 (fsub (fmul a c) (fmul b d)) (fadd (fmul a d) (fmul b c)))
theorem nMul_c (a : Nat) (b : Nat) (c : Nat) (d : Nat) (σ : AHeap) : CallR Try.prog false 135 [.complex .f64 a b,
  .complex .f64 c d] σ (nMul_t a b c d) σ := by
  unfold nMul_t
  exact (nMul_p0 a b c d σ)
def nMul_0 (a : Nat) (b : Nat) (c : Nat) (d : Nat) : Nat := fsub (fmul a c) (fmul b d)
def nMul_1 (a : Nat) (b : Nat) (c : Nat) (d : Nat) : Nat := fadd (fmul a d) (fmul b c)
theorem nMul_v (a : Nat) (b : Nat) (c : Nat) (d : Nat) : nMul_t a b c d = Go.Value.complex Go.FloatKind.f64 (nMul_0 a b c d) (nMul_1 a b c d) := by
  unfold nMul_t nMul_0 nMul_1
  kernel_rfl
theorem nMul_ok (a : Nat) (b : Nat) (c : Nat) (d : Nat) (σ : AHeap) : CallR Try.prog false 135 [.complex .f64 a b,
  .complex .f64 c d] σ (Go.Value.complex Go.FloatKind.f64 (nMul_0 a b c d) (nMul_1 a b c d)) σ := by
  have h := nMul_c a b c d σ
  rw [nMul_v] at h
  exact h
theorem nCj_fok : fnOk (dLn0) Try.f122 = true := by kernel_rfl
theorem nCj_p0 (a : Nat) (b : Nat) (σ : AHeap) : CallR Try.prog false 122 [.complex .f64 a b] σ (Value.complex .f64 a (aneg false b)) σ := CallR.of_DO_pure (C := dLn0) dLn0_ok Try.func122 nCj_fok (n := 100) (orc := []) (ps := []) (σ1 := []) (by kernel_rfl) trivial rfl rfl
def nCj_t (a : Nat) (b : Nat) : Value := (Value.complex .f64 a (aneg false b))
theorem nCj_c (a : Nat) (b : Nat) (σ : AHeap) : CallR Try.prog false 122 [.complex .f64 a b] σ (nCj_t a b) σ := by
  unfold nCj_t
  exact (nCj_p0 a b σ)
def nCj_0 (a : Nat) (b : Nat) : Nat := aneg false b
theorem nCj_v (a : Nat) (b : Nat) : nCj_t a b = Go.Value.complex Go.FloatKind.f64 a (nCj_0 a b) := by
  unfold nCj_t nCj_0
  kernel_rfl
theorem nCj_ok (a : Nat) (b : Nat) (σ : AHeap) : CallR Try.prog false 122 [.complex .f64 a
    b] σ (Go.Value.complex Go.FloatKind.f64 a (nCj_0 a b)) σ := by
  have h := nCj_c a b σ
  rw [nCj_v] at h
  exact h
theorem nRm_fok : fnOk (dLn0) Try.f142 = true := by kernel_rfl
theorem nRm_p0 (a : Nat) (b : Nat) (c : Nat) (d : Nat) (σ : AHeap) : CallR Try.prog false 142 [.agg #[.float .f64 a, .float .f64 b], .agg #[.float .f64 c, .float .f64 d]] σ (Value.agg { toList := [Value.float .f64 (fsub (fmul a c) (fmul b d)), Value.float .f64 (fadd (fmul a d) (fmul b c))] }) σ := CallR.of_DO_pure (C := dLn0) dLn0_ok Try.func142 nRm_fok (n := 100) (orc := []) (ps := []) (σ1 := [AObj.row [Value.float .f64 a, Value.float .f64 b] true none, AObj.row [Value.float .f64 c, Value.float .f64 d] true none, AObj.row [Value.float .f64 (fsub (fmul a c) (fmul b d)), Value.float .f64 (fadd (fmul a d) (fmul b c))] true none]) (by kernel_rfl) trivial rfl rfl
def nRm_t (a : Nat) (b : Nat) (c : Nat) (d : Nat) : Value := (Value.agg { toList := [Value.float .f64 (fsub (fmul a c) (fmul b d)), Value.float .f64 (fadd (fmul a d) (fmul b c))] })
theorem nRm_c (a : Nat) (b : Nat) (c : Nat) (d : Nat) (σ : AHeap) : CallR Try.prog false 142 [.agg
    #[.float .f64 a, .float .f64 b],
  .agg #[.float .f64 c, .float .f64 d]] σ (nRm_t a b c d) σ := by
  unfold nRm_t
  exact (nRm_p0 a b c d σ)
def nRm_0 (a : Nat) (b : Nat) (c : Nat) (d : Nat) : Nat := fsub (fmul a c) (fmul b d)
def nRm_1 (a : Nat) (b : Nat) (c : Nat) (d : Nat) : Nat := fadd (fmul a d) (fmul b c)
theorem nRm_v (a : Nat) (b : Nat) (c : Nat) (d : Nat) : nRm_t a b c d = Go.Value.agg { toList := [Go.Value.float Go.FloatKind.f64 (nRm_0 a b c d), Go.Value.float Go.FloatKind.f64 (nRm_1 a b c d)] } := by
  unfold nRm_t nRm_0 nRm_1
  kernel_rfl
theorem nRm_ok (a : Nat) (b : Nat) (c : Nat) (d : Nat) (σ : AHeap) : CallR Try.prog false 142 [.agg
    #[.float .f64 a, .float .f64 b],
  .agg
    #[.float .f64 c,
      .float .f64
        d]] σ (Go.Value.agg { toList := [Go.Value.float Go.FloatKind.f64 (nRm_0 a b c d), Go.Value.float Go.FloatKind.f64 (nRm_1 a b c d)] }) σ := by
  have h := nRm_c a b c d σ
  rw [nRm_v] at h
  exact h
theorem nRs_fok : fnOk (dLn0) Try.f179 = true := by kernel_rfl
theorem nRs_p0 (a : Nat) (b : Nat) (c : Nat) (d : Nat) (σ : AHeap) : CallR Try.prog false 179 [.agg #[.float .f64 a, .float .f64 b], .agg #[.float .f64 c, .float .f64 d]] σ (Value.agg { toList := [Value.float .f64 (fsub a c), Value.float .f64 (fsub b d)] }) σ := CallR.of_DO_pure (C := dLn0) dLn0_ok Try.func179 nRs_fok (n := 100) (orc := []) (ps := []) (σ1 := [AObj.row [Value.float .f64 a, Value.float .f64 b] true none, AObj.row [Value.float .f64 c, Value.float .f64 d] true none, AObj.row [Value.float .f64 (fsub a c), Value.float .f64 (fsub b d)] true none]) (by kernel_rfl) trivial rfl rfl
def nRs_t (a : Nat) (b : Nat) (c : Nat) (d : Nat) : Value := (Value.agg { toList := [Value.float .f64 (fsub a c), Value.float .f64 (fsub b d)] })
theorem nRs_c (a : Nat) (b : Nat) (c : Nat) (d : Nat) (σ : AHeap) : CallR Try.prog false 179 [.agg
    #[.float .f64 a, .float .f64 b],
  .agg #[.float .f64 c, .float .f64 d]] σ (nRs_t a b c d) σ := by
  unfold nRs_t
  exact (nRs_p0 a b c d σ)
def nRs_0 (a : Nat) (b : Nat) (c : Nat) (d : Nat) : Nat := fsub a c
def nRs_1 (a : Nat) (b : Nat) (c : Nat) (d : Nat) : Nat := fsub b d
theorem nRs_v (a : Nat) (b : Nat) (c : Nat) (d : Nat) : nRs_t a b c d = Go.Value.agg { toList := [Go.Value.float Go.FloatKind.f64 (nRs_0 a b c d), Go.Value.float Go.FloatKind.f64 (nRs_1 a b c d)] } := by
  unfold nRs_t nRs_0 nRs_1
  kernel_rfl
theorem nRs_ok (a : Nat) (b : Nat) (c : Nat) (d : Nat) (σ : AHeap) : CallR Try.prog false 179 [.agg
    #[.float .f64 a, .float .f64 b],
  .agg
    #[.float .f64 c,
      .float .f64
        d]] σ (Go.Value.agg { toList := [Go.Value.float Go.FloatKind.f64 (nRs_0 a b c d), Go.Value.float Go.FloatKind.f64 (nRs_1 a b c d)] }) σ := by
  have h := nRs_c a b c d σ
  rw [nRs_v] at h
  exact h
theorem nRc_fok : fnOk (dLn0) Try.f143 = true := by kernel_rfl
theorem nRc_p0 (a : Nat) (b : Nat) (σ : AHeap) : CallR Try.prog false 143 [.agg #[.float .f64 a, .float .f64 b]] σ (Value.agg { toList := [Value.float .f64 a, Value.float .f64 (fturn b)] }) σ := CallR.of_DO_pure (C := dLn0) dLn0_ok Try.func143 nRc_fok (n := 100) (orc := []) (ps := []) (σ1 := [AObj.row [Value.float .f64 a, Value.float .f64 b] true none, AObj.row [Value.float .f64 a, Value.float .f64 (fturn b)] true none]) (by kernel_rfl) trivial rfl rfl
def nRc_t (a : Nat) (b : Nat) : Value := (Value.agg { toList := [Value.float .f64 a, Value.float .f64 (fturn b)] })
theorem nRc_c (a : Nat) (b : Nat) (σ : AHeap) : CallR Try.prog false 143 [.agg
    #[.float .f64 a, .float .f64 b]] σ (nRc_t a b) σ := by
  unfold nRc_t
  exact (nRc_p0 a b σ)
def nRc_0 (a : Nat) (b : Nat) : Nat := fturn b
theorem nRc_v (a : Nat) (b : Nat) : nRc_t a b = Go.Value.agg { toList := [Go.Value.float Go.FloatKind.f64 a, Go.Value.float Go.FloatKind.f64 (nRc_0 a b)] } := by
  unfold nRc_t nRc_0
  kernel_rfl
theorem nRc_ok (a : Nat) (b : Nat) (σ : AHeap) : CallR Try.prog false 143 [.agg
    #[.float .f64 a,
      .float .f64
        b]] σ (Go.Value.agg { toList := [Go.Value.float Go.FloatKind.f64 a, Go.Value.float Go.FloatKind.f64 (nRc_0 a b)] }) σ := by
  have h := nRc_c a b σ
  rw [nRc_v] at h
  exact h
theorem cStep_fok : fnOk (dLn0) Try.f174 = true := by kernel_rfl
theorem cStep_p0 (d : Nat) (s : Nat) (σ : AHeap) : CallR Try.prog false 174 [Value.float .f64 d, Value.float .f64 s] σ (Value.float .f64 (fmul d (wTurn_1 s))) σ := CallR.of_DO_pure (C := dLn0) dLn0_ok Try.func174 cStep_fok (n := 100) (orc := []) (ps := []) (σ1 := []) (by kernel_rfl) trivial rfl rfl
def cStep_t (d : Nat) (s : Nat) : Value := (Value.float .f64 (fmul d (wTurn_1 s)))
theorem cStep_c (d : Nat) (s : Nat) (σ : AHeap) : CallR Try.prog false 174 [Value.float .f64 d,
  Value.float .f64 s] σ (cStep_t d s) σ := by
  unfold cStep_t
  exact (cStep_p0 d s σ)
def cStep_0 (d : Nat) (s : Nat) : Nat := fmul d (wTurn_1 s)
theorem cStep_v (d : Nat) (s : Nat) : cStep_t d s = Go.Value.float Go.FloatKind.f64 (cStep_0 d s) := by
  unfold cStep_t cStep_0
  kernel_rfl
theorem cStep_ok (d : Nat) (s : Nat) (σ : AHeap) : CallR Try.prog false 174 [Value.float .f64 d,
  Value.float .f64 s] σ (Go.Value.float Go.FloatKind.f64 (cStep_0 d s)) σ := by
  have h := cStep_c d s σ
  rw [cStep_v] at h
  exact h
theorem cRStep_fok : fnOk (dLn0) Try.f177 = true := by kernel_rfl
theorem cRStep_p0 (d : Nat) (s : Nat) (σ : AHeap) : CallR Try.prog false 177 [Value.float .f64 d, Value.float .f64 s] σ (Value.float .f64 (fmul d (rTurn_1 s))) σ := CallR.of_DO_pure (C := dLn0) dLn0_ok Try.func177 cRStep_fok (n := 100) (orc := []) (ps := []) (σ1 := []) (by kernel_rfl) trivial rfl rfl
def cRStep_t (d : Nat) (s : Nat) : Value := (Value.float .f64 (fmul d (rTurn_1 s)))
theorem cRStep_c (d : Nat) (s : Nat) (σ : AHeap) : CallR Try.prog false 177 [Value.float .f64 d,
  Value.float .f64 s] σ (cRStep_t d s) σ := by
  unfold cRStep_t
  exact (cRStep_p0 d s σ)
def cRStep_0 (d : Nat) (s : Nat) : Nat := fmul d (rTurn_1 s)
theorem cRStep_v (d : Nat) (s : Nat) : cRStep_t d s = Go.Value.float Go.FloatKind.f64 (cRStep_0 d s) := by
  unfold cRStep_t cRStep_0
  kernel_rfl
theorem cRStep_ok (d : Nat) (s : Nat) (σ : AHeap) : CallR Try.prog false 177 [Value.float .f64 d,
  Value.float .f64 s] σ (Go.Value.float Go.FloatKind.f64 (cRStep_0 d s)) σ := by
  have h := cRStep_c d s σ
  rw [cRStep_v] at h
  exact h
def sNf : PureFn
  | [.float .f64 x] => some (.bool (cNf_0 x))
  | _ => none
theorem sNf_ok : IsPure Try.prog false 201 sNf := by
  intro args v σ h
  unfold sNf at h
  split at h
  · cases h; exact cNf_ok _ σ
  · cases h
def sStep : PureFn
  | [.float .f64 x, .float .f64 y] => some (.float .f64 (cStep_0 x y))
  | _ => none
theorem sStep_ok : IsPure Try.prog false 174 sStep := by
  intro args v σ h
  unfold sStep at h
  split at h
  · cases h; exact cStep_ok _ _ σ
  · cases h
def sRStep : PureFn
  | [.float .f64 x, .float .f64 y] => some (.float .f64 (cRStep_0 x y))
  | _ => none
theorem sRStep_ok : IsPure Try.prog false 177 sRStep := by
  intro args v σ h
  unfold sRStep at h
  split at h
  · cases h; exact cRStep_ok _ _ σ
  · cases h
def sMul : PureFn
  | [.complex .f64 a b, .complex .f64 c d] => some (.complex .f64 (nMul_0 a b c d) (nMul_1 a b c d))
  | _ => none
theorem sMul_ok : IsPure Try.prog false 135 sMul := by
  intro args v σ h
  unfold sMul at h
  split at h
  · cases h; exact nMul_ok _ _ _ _ σ
  · cases h
def sCj : PureFn
  | [.complex .f64 a b] => some (.complex .f64 a (nCj_0 a b))
  | _ => none
theorem sCj_ok : IsPure Try.prog false 122 sCj := by
  intro args v σ h
  unfold sCj at h
  split at h
  · cases h; exact nCj_ok _ _ σ
  · cases h
def sRm : PureFn
  | [.agg ⟨[.float .f64 a, .float .f64 b]⟩, .agg ⟨[.float .f64 c, .float .f64 d]⟩] => some (.agg #[.float .f64 (nRm_0 a b c d), .float .f64 (nRm_1 a b c d)])
  | _ => none
theorem sRm_ok : IsPure Try.prog false 142 sRm := by
  intro args v σ h
  unfold sRm at h
  split at h
  · cases h; exact nRm_ok _ _ _ _ σ
  · cases h
def sRs : PureFn
  | [.agg ⟨[.float .f64 a, .float .f64 b]⟩, .agg ⟨[.float .f64 c, .float .f64 d]⟩] => some (.agg #[.float .f64 (nRs_0 a b c d), .float .f64 (nRs_1 a b c d)])
  | _ => none
theorem sRs_ok : IsPure Try.prog false 179 sRs := by
  intro args v σ h
  unfold sRs at h
  split at h
  · cases h; exact nRs_ok _ _ _ _ σ
  · cases h
def sRc : PureFn
  | [.agg ⟨[.float .f64 a, .float .f64 b]⟩] => some (.agg #[.float .f64 a, .float .f64 (nRc_0 a b)])
  | _ => none
theorem sRc_ok : IsPure Try.prog false 143 sRc := by
  intro args v σ h
  unfold sRc at h
  split at h
  · cases h; exact nRc_ok _ _ σ
  · cases h
noncomputable def n1 : Tab := ((((((((n0.addP 201 sNf).addP 174 sStep).addP 177 sRStep).addP 135 sMul).addP 122 sCj).addP 142 sRm).addP 179 sRs).addP 143 sRc)
theorem n1_ok : n1.Ok Try.prog false := (Tab.Ok.addP (Tab.Ok.addP (Tab.Ok.addP (Tab.Ok.addP (Tab.Ok.addP (Tab.Ok.addP (Tab.Ok.addP (Tab.Ok.addP n0_ok sNf_ok) sStep_ok) sRStep_ok) sMul_ok) sCj_ok) sRm_ok) sRs_ok) sRc_ok)
noncomputable def Ln1 : Lib := ⟨Try.prog, false, n1, [], []⟩
theorem Ln1_fp : ∀ e, e ∈ Ln1.pures → Try.prog.funcs[e.1]? = some e.2 := fs_nil
theorem Ln1_fh : ∀ e, e ∈ Ln1.heaps → Try.prog.funcs[e.1]? = some e.2.2 := gs_nil
theorem Ln1_p1 (gp : Nat → PureFn) (g : Nat → HeapFn) : (Ln1.pures.all fun e => fnOk (Ln1.mk' gp g) e.2) = true := by kernel_rfl
theorem Ln1_h1 (gp : Nat → PureFn) (g : Nat → HeapFn) : (Ln1.heaps.all fun e => fnOk (Ln1.mk' gp g) e.2.2 && (!e.2.1 || fnRo (Ln1.mk' gp g) e.2.2)) = true := by kernel_rfl
theorem Ln1_ok : Ln1.Ok := ⟨n1_ok, mixed, Ln1_fp, Ln1_fh, Ln1_p1, Ln1_h1⟩
noncomputable def dLn1 : Cfg := Ln1.cfg 100 6
theorem dLn1_ok : dLn1.Ok := Ln1_ok.cfg 100 6

end Go.Lk
end

section
/- finite, of any row. -/
namespace Go.Lk
open Go.Proofs
set_option maxRecDepth 100000
set_option maxHeartbeats 0
set_option linter.unusedVariables false
set_option linter.unusedSimpArgs false
theorem fxR_okX : codeOkX (dLn1) [] (loopOf Try.f211 0) = true := by kernel_rfl
theorem fxR_p0 (opn : Option Nat) (x : Nat → Nat) (M : Nat) (m : Nat) (cap : Nat) (hm : m ≤ M) (hM : m ≤ 65536) (k : Nat) (hk : k < m) (hx : cNf_0 (x k) = false) (hst : Stood false ([.row (rowOf (fun i => [.float .f64 (x i)]) M) false opn])) : Sim (dLn1) 1 (loopOf Try.f211 0) (([.slice (some ⟨0, 0, some 1⟩) m cap, .func (.func 201) #[] #[], undef, undef, .int .i64 0, undef, undef, .int .i64 (iN m), .int .i64 (iN k)] ++ List.replicate 10 undef)) ([.row (rowOf (fun i => [.float .f64 (x i)]) M) false opn]) .normal (([Value.slice (some ⟨0, 0, some 1⟩) m cap, Value.func (Fn.func 201) { toList := [] } { toList := [] }, undef, undef, Value.int .i64 (Int.ofNat 0), undef, undef, Value.int .i64 (iN m), Value.int .i64 (iN (k + 1))] ++ List.replicate 10 undef)) ([AObj.row (rowOf (fun i => [Value.float .f64 (x i)]) M) false opn]) := Sim.of_roundQ (C := dLn1) dLn1_ok (X := []) (n := 3) (orc := [(2, Item.br true), (14, Item.res (Value.pointer (some { block := 0, off := 0 + k * 1 }))), (16, Item.res (Value.float .f64 (x k))), (19, Item.br false), (21, Item.res (Value.int .i64 (iN (k + 1))))]) (ks := [0]) (mask := ([true, true, false, false, true, false, false, true, true] ++ List.replicate 10 false)) (ps := [(some (decide (iN k < iN m)) = some true), (ixF (Value.pointer (some { block := 0, off := 0 + k * 1 })) ([AObj.row (rowOf (fun i => [Value.float .f64 (x i)]) M) false opn]) (iN k) (m) = some (Value.pointer (some { block := 0, off := 0 + k * 1 }), [AObj.row (rowOf (fun i => [Value.float .f64 (x i)]) M) false opn])), (ldF (aLoad Try.prog ([AObj.row (rowOf (fun i => [Value.float .f64 (x i)]) M) false opn]) 22 (.pointer (some ⟨0, 0 + k * 1, none⟩))) ([AObj.row (rowOf (fun i => [Value.float .f64 (x i)]) M) false opn]) = some (Value.float .f64 (x k), [AObj.row (rowOf (fun i => [Value.float .f64 (x i)]) M) false opn])), (bP (cNf_0 (x k)) false), (wF IntKind.i64 (iN k + 1) ([AObj.row (rowOf (fun i => [Value.float .f64 (x i)]) M) false opn]) = some (.int IntKind.i64 (iN (k + 1)), [AObj.row (rowOf (fun i => [Value.float .f64 (x i)]) M) false opn]))]) (L := 1) 1 fxR_okX (by kernel_rfl) ⟨bP_of (fun x => x) (show (decide (iN k < iN m)) = true from decide_eq_true (by (try simp only [decide_eq_true_eq, decide_eq_false_iff_not] at *); (try simp only [iN_eq, Int.ofNat_eq_natCast] at *); try omega)), ⟨ixF_ok _ _ (by (try simp only [decide_eq_true_eq, decide_eq_false_iff_not] at *); (try simp only [iN_eq, Int.ofNat_eq_natCast] at *); try omega), ⟨ldF_ok (load_one (k := k) (n := M) (g := fun i => ((fun i => [Value.float .f64 (x i)]) i).getD 0 undef) rfl (by kernel_rfl) (by omega) (by (try simp only [decide_eq_true_eq, decide_eq_false_iff_not] at *); (try simp only [iN_eq, Int.ofNat_eq_natCast] at *); try omega)), ⟨bP_of (fun x => x) hx, ⟨wF_ok _ (by (try simp only [decide_eq_true_eq, decide_eq_false_iff_not] at *); (try simp only [iN_eq, Int.ofNat_eq_natCast] at *); try omega) (by (try simp only [decide_eq_true_eq, decide_eq_false_iff_not] at *); (try simp only [iN_eq, Int.ofNat_eq_natCast] at *); try omega), trivial⟩⟩⟩⟩⟩ hst (by kernel_rfl) (by kernel_rfl) (by kernel_rfl) (by decide) (by kernel_rfl) trivial
theorem fxE_okX : codeOkX (dLn1) [] (loopOf Try.f211 0) = true := by kernel_rfl
theorem fxE_p0 (opn : Option Nat) (x : Nat → Nat) (M : Nat) (m : Nat) (cap : Nat) (hm : m ≤ M) (hM : m ≤ 65536) (hst : Stood false ([.row (rowOf (fun i => [.float .f64 (x i)]) M) false opn])) : Sim (dLn1) 1 (loopOf Try.f211 0) (([.slice (some ⟨0, 0, some 1⟩) m cap, .func (.func 201) #[] #[], undef, undef, .int .i64 0, undef, undef, .int .i64 (iN m), .int .i64 (iN m)] ++ List.replicate 10 undef)) ([.row (rowOf (fun i => [.float .f64 (x i)]) M) false opn]) (.exit 0) (([Value.slice (some ⟨0, 0, some 1⟩) m cap, Value.func (Fn.func 201) { toList := [] } { toList := [] }, undef, undef, Value.int .i64 (Int.ofNat 0), undef, undef, Value.int .i64 (iN m), Value.int .i64 (iN m)] ++ List.replicate 10 undef)) ([AObj.row (rowOf (fun i => [Value.float .f64 (x i)]) M) false opn]) := Sim.of_roundQ (C := dLn1) dLn1_ok (X := []) (n := 3) (orc := [(2, Item.br false)]) (ks := [0]) (mask := ([true, true, false, false, true, false, false, true, true] ++ List.replicate 10 false)) (ps := [(some (decide (iN m < iN m)) = some false)]) (L := 1) 1 fxE_okX (by kernel_rfl) ⟨bP_of (fun x => x) (show (decide (iN m < iN m)) = false from decide_eq_false (by (try simp only [decide_eq_true_eq, decide_eq_false_iff_not] at *); (try simp only [iN_eq, Int.ofNat_eq_natCast] at *); try omega)), trivial⟩ hst (by kernel_rfl) (by kernel_rfl) (by kernel_rfl) (by decide) (by kernel_rfl) trivial
theorem fxT_okX : codeOkX (dLn1) [] (loopOf Try.f211 0) = true := by kernel_rfl
theorem fxT_p0 (opn : Option Nat) (x : Nat → Nat) (M : Nat) (m : Nat) (cap : Nat) (hm : m ≤ M) (hM : m ≤ 65536) (k : Nat) (hk : k < m) (hx : cNf_0 (x k) = true) (hst : Stood false ([.row (rowOf (fun i => [.float .f64 (x i)]) M) false opn])) : Sim (dLn1) 1 (loopOf Try.f211 0) (([.slice (some ⟨0, 0, some 1⟩) m cap, .func (.func 201) #[] #[], undef, undef, .int .i64 0, undef, undef, .int .i64 (iN m), .int .i64 (iN k)] ++ List.replicate 10 undef)) ([.row (rowOf (fun i => [.float .f64 (x i)]) M) false opn]) .ret (([Value.slice (some ⟨0, 0, some 1⟩) m cap, Value.func (Fn.func 201) { toList := [] } { toList := [] }, undef, undef, Value.int .i64 (iN k)] ++ List.replicate 14 undef)) ([AObj.row (rowOf (fun i => [Value.float .f64 (x i)]) M) false opn]) := Sim.of_roundQ (C := dLn1) dLn1_ok (X := []) (n := 3) (orc := [(2, Item.br true), (14, Item.res (Value.pointer (some { block := 0, off := 0 + k * 1 }))), (16, Item.res (Value.float .f64 (x k))), (19, Item.br true)]) (ks := [0]) (mask := ([true, true, false, false, true] ++ List.replicate 14 false)) (ps := [(some (decide (iN k < iN m)) = some true), (ixF (Value.pointer (some { block := 0, off := 0 + k * 1 })) ([AObj.row (rowOf (fun i => [Value.float .f64 (x i)]) M) false opn]) (iN k) (m) = some (Value.pointer (some { block := 0, off := 0 + k * 1 }), [AObj.row (rowOf (fun i => [Value.float .f64 (x i)]) M) false opn])), (ldF (aLoad Try.prog ([AObj.row (rowOf (fun i => [Value.float .f64 (x i)]) M) false opn]) 22 (.pointer (some ⟨0, 0 + k * 1, none⟩))) ([AObj.row (rowOf (fun i => [Value.float .f64 (x i)]) M) false opn]) = some (Value.float .f64 (x k), [AObj.row (rowOf (fun i => [Value.float .f64 (x i)]) M) false opn])), (bP (cNf_0 (x k)) true)]) (L := 1) 1 fxT_okX (by kernel_rfl) ⟨bP_of (fun x => x) (show (decide (iN k < iN m)) = true from decide_eq_true (by (try simp only [decide_eq_true_eq, decide_eq_false_iff_not] at *); (try simp only [iN_eq, Int.ofNat_eq_natCast] at *); try omega)), ⟨ixF_ok _ _ (by (try simp only [decide_eq_true_eq, decide_eq_false_iff_not] at *); (try simp only [iN_eq, Int.ofNat_eq_natCast] at *); try omega), ⟨ldF_ok (load_one (k := k) (n := M) (g := fun i => ((fun i => [Value.float .f64 (x i)]) i).getD 0 undef) rfl (by kernel_rfl) (by omega) (by (try simp only [decide_eq_true_eq, decide_eq_false_iff_not] at *); (try simp only [iN_eq, Int.ofNat_eq_natCast] at *); try omega)), ⟨bP_of (fun x => x) hx, trivial⟩⟩⟩⟩ hst (by kernel_rfl) (by kernel_rfl) (by kernel_rfl) (by decide) (by kernel_rfl) trivial
def fxFr (m cap : Nat) (k : Nat) : List Value := ([.slice (some ⟨0, 0, some 1⟩) m cap, .func (.func 201) #[] #[], undef, undef, .int .i64 0, undef, undef, .int .i64 (iN m), .int .i64 (iN k)] ++ List.replicate 10 undef)
theorem fx_rounds (opn : Option Nat) (x : Nat → Nat) (M : Nat) (m : Nat) (cap : Nat) (hm : m ≤ M) (hM : m ≤ 65536) (q : Nat) (hq : q ≤ m) (hx : ∀ i, i < q → cNf_0 (x i) = false) (hst : Stood false [.row (rowOf (fun i => [.float .f64 (x i)]) M) false opn]) : ∀ k, k < q → Sim dLn1 1 (loopOf Try.f211 0) (fxFr m cap k) [.row (rowOf (fun i => [.float .f64 (x i)]) M) false opn] .normal (fxFr m cap (k + 1)) [.row (rowOf (fun i => [.float .f64 (x i)]) M) false opn] :=
  fun k hk => (fxR_p0 opn x M m cap hm hM k (by omega) (hx k hk) hst).cast (by kernel_rfl) (by kernel_rfl) (by kernel_rfl) (by kernel_rfl)
theorem fx_loop (opn : Option Nat) (x : Nat → Nat) (M : Nat) (m : Nat) (cap : Nat) (hm : m ≤ M) (hM : m ≤ 65536) (hx : ∀ i, i < m → cNf_0 (x i) = false) (hst : Stood false [.row (rowOf (fun i => [.float .f64 (x i)]) M) false opn]) : Sim dLn1 1 (.loop (loopOf Try.f211 0)) (fxFr m cap 0) [.row (rowOf (fun i => [.float .f64 (x i)]) M) false opn] (.exit 0) (fxFr m cap m) [.row (rowOf (fun i => [.float .f64 (x i)]) M) false opn] :=
  Sim.loop (fun k => (fxFr m cap k, [.row (rowOf (fun i => [.float .f64 (x i)]) M) false opn])) m (fx_rounds opn x M m cap hm hM m (Nat.le_refl m) hx hst) ((fxE_p0 opn x M m cap hm hM hst).cast (by kernel_rfl) (by kernel_rfl) (by kernel_rfl) (by kernel_rfl)) rfl
def fxFj (m cap : Nat) (k : Nat) : List Value := ([.slice (some ⟨0, 0, some 1⟩) m cap, .func (.func 201) #[] #[], undef, undef, .int .i64 (iN k)] ++ List.replicate 14 undef)
theorem fx_loopT (opn : Option Nat) (x : Nat → Nat) (M : Nat) (m : Nat) (cap : Nat) (hm : m ≤ M) (hM : m ≤ 65536) (j : Nat) (hj : j < m) (hx : ∀ i, i < j → cNf_0 (x i) = false) (ht : cNf_0 (x j) = true) (hst : Stood false [.row (rowOf (fun i => [.float .f64 (x i)]) M) false opn]) : Sim dLn1 1 (.loop (loopOf Try.f211 0)) (fxFr m cap 0) [.row (rowOf (fun i => [.float .f64 (x i)]) M) false opn] .ret (fxFj m cap j) [.row (rowOf (fun i => [.float .f64 (x i)]) M) false opn] :=
  Sim.loop (fun k => (fxFr m cap k, [.row (rowOf (fun i => [.float .f64 (x i)]) M) false opn])) j (fx_rounds opn x M m cap hm hM j (Nat.le_of_lt hj) hx hst) ((fxT_p0 opn x M m cap hm hM j hj ht hst).cast (by kernel_rfl) (by kernel_rfl) (by kernel_rfl) (by kernel_rfl)) rfl
theorem fxA_fok : fnOkX (dLn1) [] Try.f211 = true := by kernel_rfl
theorem fxA_p0 (opn : Option Nat) (x : Nat → Nat) (M : Nat) (m : Nat) (cap : Nat) (hm : m ≤ M) (hM : m ≤ 65536) (l0 : Stood false ([AObj.row (rowOf (fun i => [Value.float .f64 (x i)]) M) false opn]) → Sim (dLn1) 1 (.loop (loopOf Try.f211 0)) (([Value.slice (some ⟨0, 0, some 1⟩) m cap, Value.func (Fn.func 201) { toList := [] } { toList := [] }, undef, undef, Value.int .i64 (Int.ofNat 0), undef, Value.slice (some ⟨0, 0, some 1⟩) m cap, Value.int .i64 (iN m), Value.int .i64 (Int.ofNat 0)] ++ List.replicate 10 undef)) ([AObj.row (rowOf (fun i => [Value.float .f64 (x i)]) M) false opn]) (Exit.exit 0) (([Value.slice (some ⟨0, 0, some 1⟩) m cap, Value.func (Fn.func 201) { toList := [] } { toList := [] }, undef, undef, Value.int .i64 (Int.ofNat 0), undef, undef, Value.int .i64 (iN m), Value.int .i64 (iN m)] ++ List.replicate 10 undef)) ([AObj.row (rowOf (fun i => [Value.float .f64 (x i)]) M) false opn])) : CallR Try.prog false 211 ([Value.slice (some ⟨0, 0, some 1⟩) m cap, Value.func (Fn.func 201) { toList := [] } { toList := [] }]) ([AObj.row (rowOf (fun i => [Value.float .f64 (x i)]) M) false opn]) (Value.int .i64 (Int.negSucc 0)) ([AObj.row (rowOf (fun i => [Value.float .f64 (x i)]) M) false opn]) := CallR.of_DOXs (C := dLn1) dLn1_ok (X := []) Try.func211 fxA_fok (n := 3) (orc := [(8, Item.loop (Exit.exit 0) (fxFr m cap m) [AObj.row (rowOf (fun i => [Value.float .f64 (x i)]) M) false opn])]) (ps := [(Sim (dLn1) 1 (.loop (loopOf Try.f211 0)) (([Value.slice (some ⟨0, 0, some 1⟩) m cap, Value.func (Fn.func 201) { toList := [] } { toList := [] }, undef, undef, Value.int .i64 (Int.ofNat 0), undef, Value.slice (some ⟨0, 0, some 1⟩) m cap, Value.int .i64 (iN m), Value.int .i64 (Int.ofNat 0)] ++ List.replicate 10 undef)) ([AObj.row (rowOf (fun i => [Value.float .f64 (x i)]) M) false opn]) (Exit.exit 0) (([Value.slice (some ⟨0, 0, some 1⟩) m cap, Value.func (Fn.func 201) { toList := [] } { toList := [] }, undef, undef, Value.int .i64 (Int.ofNat 0), undef, undef, Value.int .i64 (iN m), Value.int .i64 (iN m)] ++ List.replicate 10 undef)) ([AObj.row (rowOf (fun i => [Value.float .f64 (x i)]) M) false opn])), (List.length (α := AObj) ([AObj.row (rowOf (fun i => [Value.float .f64 (x i)]) M) false opn]) ≤ List.length ([AObj.row (rowOf (fun i => [Value.float .f64 (x i)]) M) false opn])), (Lk.Exit.isG (Exit.exit 0) = false)]) (by kernel_rfl) (fun hst => ⟨l0 hst, Nat.le_of_ble_eq_true (by kernel_rfl), rfl, trivial⟩)
theorem fxJ_fok : fnOkX (dLn1) [] Try.f211 = true := by kernel_rfl
theorem fxJ_p0 (opn : Option Nat) (x : Nat → Nat) (M : Nat) (m : Nat) (cap : Nat) (hm : m ≤ M) (hM : m ≤ 65536) (j : Nat) (hj : j < m) (l0 : Stood false ([AObj.row (rowOf (fun i => [Value.float .f64 (x i)]) M) false opn]) → Sim (dLn1) 1 (.loop (loopOf Try.f211 0)) (([Value.slice (some ⟨0, 0, some 1⟩) m cap, Value.func (Fn.func 201) { toList := [] } { toList := [] }, undef, undef, Value.int .i64 (Int.ofNat 0), undef, Value.slice (some ⟨0, 0, some 1⟩) m cap, Value.int .i64 (iN m), Value.int .i64 (Int.ofNat 0)] ++ List.replicate 10 undef)) ([AObj.row (rowOf (fun i => [Value.float .f64 (x i)]) M) false opn]) (Exit.ret) (([Value.slice (some ⟨0, 0, some 1⟩) m cap, Value.func (Fn.func 201) { toList := [] } { toList := [] }, undef, undef, Value.int .i64 (iN j)] ++ List.replicate 14 undef)) ([AObj.row (rowOf (fun i => [Value.float .f64 (x i)]) M) false opn])) : CallR Try.prog false 211 ([Value.slice (some ⟨0, 0, some 1⟩) m cap, Value.func (Fn.func 201) { toList := [] } { toList := [] }]) ([AObj.row (rowOf (fun i => [Value.float .f64 (x i)]) M) false opn]) (Value.int .i64 (iN j)) ([AObj.row (rowOf (fun i => [Value.float .f64 (x i)]) M) false opn]) := CallR.of_DOXs (C := dLn1) dLn1_ok (X := []) Try.func211 fxJ_fok (n := 3) (orc := [(8, Item.loop Exit.ret (fxFj m cap j) [AObj.row (rowOf (fun i => [Value.float .f64 (x i)]) M) false opn])]) (ps := [(Sim (dLn1) 1 (.loop (loopOf Try.f211 0)) (([Value.slice (some ⟨0, 0, some 1⟩) m cap, Value.func (Fn.func 201) { toList := [] } { toList := [] }, undef, undef, Value.int .i64 (Int.ofNat 0), undef, Value.slice (some ⟨0, 0, some 1⟩) m cap, Value.int .i64 (iN m), Value.int .i64 (Int.ofNat 0)] ++ List.replicate 10 undef)) ([AObj.row (rowOf (fun i => [Value.float .f64 (x i)]) M) false opn]) (Exit.ret) (([Value.slice (some ⟨0, 0, some 1⟩) m cap, Value.func (Fn.func 201) { toList := [] } { toList := [] }, undef, undef, Value.int .i64 (iN j)] ++ List.replicate 14 undef)) ([AObj.row (rowOf (fun i => [Value.float .f64 (x i)]) M) false opn])), (List.length (α := AObj) ([AObj.row (rowOf (fun i => [Value.float .f64 (x i)]) M) false opn]) ≤ List.length ([AObj.row (rowOf (fun i => [Value.float .f64 (x i)]) M) false opn])), (Lk.Exit.isG (Exit.ret) = false)]) (by kernel_rfl) (fun hst => ⟨l0 hst, Nat.le_of_ble_eq_true (by kernel_rfl), rfl, trivial⟩)
/-! ### Rows of floats -/
def nFlo : Value → Bool | .float .f64 _ => true | _ => false
def nAt (vs : List Value) (i : Nat) : Nat := match vs[i]? with | some (.float .f64 a) => a | _ => 0
theorem nFlo_eq {v : Value} (h : nFlo v = true) : ∃ n, v = .float .f64 n := by
  unfold nFlo at h
  split at h
  · exact ⟨_, rfl⟩
  · cases h
theorem nRow {vs : List Value} (h : vs.all nFlo = true) : rowOf (fun i => [.float .f64 (nAt vs i)]) vs.length = vs := by
  have hl := rowOf_len (f := fun i => [Value.float .f64 (nAt vs i)]) (s := 1) (fun _ => rfl) vs.length
  apply List.ext_getElem?
  intro j
  rcases Nat.lt_or_ge j vs.length with hj | hj
  · have h3 := rowOf_at (f := fun i => [Value.float .f64 (nAt vs i)]) (s := 1) (fun _ => rfl) (k := j) (n := vs.length) hj
    have h3 := congrArg (fun l => l[0]?) h3
    simp only [List.getElem?_take, List.getElem?_drop, Nat.mul_one, Nat.add_zero] at h3
    simp only [Nat.lt_one_iff, if_true, List.getElem?_cons_zero] at h3
    rw [h3]
    have hm : vs[j]? = some vs[j] := List.getElem?_eq_getElem hj
    obtain ⟨a, e⟩ := nFlo_eq (List.all_eq_true.1 h vs[j] (List.getElem_mem hj))
    rw [e] at hm
    simp only [nAt, hm]
  · rw [List.getElem?_eq_none hj, List.getElem?_eq_none (by rw [hl]; omega)]
theorem nAt_row {x : Nat → Nat} {M i : Nat} (h : i < M) : nAt (rowOf (fun i => [.float .f64 (x i)]) M) i = x i := by
  have h3 := rowOf_at (f := fun i => [Value.float .f64 (x i)]) (s := 1) (fun _ => rfl) (k := i) (n := M) h
  have h3 := congrArg (fun l => l[0]?) h3
  simp only [List.getElem?_take, List.getElem?_drop, Nat.mul_one, Nat.add_zero] at h3
  simp only [Nat.lt_one_iff, if_true, List.getElem?_cons_zero] at h3
  unfold nAt
  rw [h3]
theorem nFlo_plain {vs : List Value} (h : vs.all nFlo = true) : vs.all plain = true := by
  rw [List.all_eq_true] at h ⊢
  intro v hv
  obtain ⟨a, rfl⟩ := nFlo_eq (h v hv)
  rfl
def nOk (vs : List Value) (m : Nat) : Bool := vs.all nFlo && (Nat.ble m vs.length && Nat.ble m 65536)
theorem nOk_row {x : Nat → Nat} {M m : Nat} (hm : m ≤ M) (hM : m ≤ 65536) : nOk (rowOf (fun i => [.float .f64 (x i)]) M) m = true := by
  unfold nOk
  rw [rowOf_all (fun _ => rfl) M, rowOf_len (f := fun i => [Value.float .f64 (x i)]) (s := 1) (fun _ => rfl) M]
  simp only [Bool.true_and, Bool.and_eq_true]
  exact ⟨Nat.ble_eq_true_of_le (by omega), Nat.ble_eq_true_of_le hM⟩
open Classical in
noncomputable def sRd (tl : List Value) (h : (Nat → Nat) → Nat → Value) : HeapFn
  | .slice (some ⟨b, 0, some 1⟩) m cap :: l, σ =>
    match σ[b]? with
    | some (.row vs _ _) => if nOk vs m = true ∧ l = tl then some (h (nAt vs) m, σ) else none
    | _ => none
  | _, _ => none
theorem sRd_is {f : FuncId} {tl : List Value} {h : (Nat → Nat) → Nat → Value} (hp : ∀ x m, plain (h x m) = true) (ht : ∀ r, tl.map (renV r 3) = tl)
    (hS : ∀ opn x M m cap, m ≤ M → m ≤ 65536 → ∃ σ', CallR Try.prog false f (.slice (some ⟨0, 0, some 1⟩) m cap :: tl) [.row (rowOf (fun i => [.float .f64 (x i)]) M) false opn] (h x m) σ') : IsHeap Try.prog false f true (sRd tl h) := by
  have quiet : ∀ (args : List Value) (σ : AHeap) (v : Value) (σ' : AHeap), sRd tl h args σ = some (v, σ') → σ' = σ := by
    intro args σ v σ' hs
    unfold sRd at hs
    split at hs
    · split at hs
      · split at hs
        · cases hs; rfl
        · cases hs
      · cases hs
    · cases hs
  refine ⟨fun args σ v σ' hs => ?_, fun _ args σ v σ' hs => quiet args σ v σ' hs, fun args σ v σ' hs => by rw [quiet args σ v σ' hs]; exact Nat.le_refl _⟩
  unfold sRd at hs
  split at hs
  · rename_i b m cap l
    split at hs
    · rename_i vs rw' opn hb
      split at hs
      rotate_left
      · cases hs
      · rename_i hc
        cases hs
        obtain ⟨c1, c2⟩ := hc
        subst c2
        unfold nOk at c1
        rw [Bool.and_eq_true, Bool.and_eq_true] at c1
        obtain ⟨σ1, hh⟩ := hS opn (nAt vs) vs.length m cap (Nat.le_of_ble_eq_true c1.2.1) (Nat.le_of_ble_eq_true c1.2.2)
        rw [nRow c1.1] at hh
        refine CallR.frameQ (r := fun k => if k = 0 then b else k + σ.length) ⟨fun k o hk => ?_, fun k hk => ?_⟩ ?_ hh (hp _ _)
        · have : k = 0 := by have := lt_of_some hk; simpa using this
          subst this
          simp only [List.getElem?_cons_zero, Option.some.injEq] at hk
          exact ⟨vs, opn, rw', hk.symm, hb, nFlo_plain c1.1⟩
        · have hk : 1 ≤ k := hk
          have : ¬ k = 0 := by omega
          simp only [this, if_false]; omega
        · rw [List.map_cons, ht]; rfl
    · cases hs
  · cases hs
theorem sRd_row {tl : List Value} {h : (Nat → Nat) → Nat → Value} {b m cap M : Nat} {x : Nat → Nat} {rw' : Bool} {opn : Option Nat} {σ : AHeap} (hσ : σ[b]? = some (.row (rowOf (fun i => [.float .f64 (x i)]) M) rw' opn)) (hm : m ≤ M) (hM : m ≤ 65536)
    (hc : ∀ y : Nat → Nat, (∀ i, i < m → y i = x i) → h y m = h x m) : sRd tl h (.slice (some ⟨b, 0, some 1⟩) m cap :: tl) σ = some (h x m, σ) := by
  unfold sRd
  simp only [hσ]
  rw [if_pos ⟨nOk_row hm hM, trivial⟩, hc _ (fun i hi => nAt_row (by omega))]
/-- The first that is not finite. -/
def nIdx (x : Nat → Nat) : Nat → Option Nat
  | 0 => none
  | k + 1 => match nIdx x k with | some j => some j | none => bif cNf_0 (x k) then some k else none
theorem nIdx_congr {x y : Nat → Nat} : ∀ {m : Nat}, (∀ i, i < m → y i = x i) → nIdx y m = nIdx x m
  | 0, _ => rfl
  | m + 1, h => by unfold nIdx; rw [nIdx_congr (fun i hi => h i (by omega)), h m (by omega)]
theorem nIdx_none {x : Nat → Nat} : ∀ {m : Nat}, nIdx x m = none → ∀ i, i < m → cNf_0 (x i) = false
  | 0, _, i, hi => by omega
  | m + 1, h, i, hi => by
    unfold nIdx at h
    cases e : nIdx x m with
    | some j => rw [e] at h; cases h
    | none =>
      rw [e] at h
      cases c : cNf_0 (x m)
      · rcases Nat.lt_or_ge i m with h1 | h1
        · exact nIdx_none e i h1
        · rw [show i = m by omega]; exact c
      · rw [c] at h; cases h
theorem nIdx_some {x : Nat → Nat} {j : Nat} : ∀ {m : Nat}, nIdx x m = some j → j < m ∧ cNf_0 (x j) = true ∧ ∀ i, i < j → cNf_0 (x i) = false
  | 0, h => by cases h
  | m + 1, h => by
    unfold nIdx at h
    cases e : nIdx x m with
    | some q =>
      rw [e] at h
      cases h
      obtain ⟨h1, h2, h3⟩ := nIdx_some e
      exact ⟨by omega, h2, h3⟩
    | none =>
      rw [e] at h
      cases c : cNf_0 (x m)
      · rw [c] at h; cases h
      · rw [c] at h
        cases h
        exact ⟨Nat.lt_succ_self _, c, nIdx_none e⟩
def idxI (x : Nat → Nat) (m : Nat) : Int := match nIdx x m with | some j => iN j | none => -1
def nBad (x : Nat → Nat) (m : Nat) : Bool := (nIdx x m).isSome
def fxTl : List Value := [.func (.func 201) #[] #[]]
noncomputable def sIdxN : HeapFn := sRd fxTl (fun x m => .int .i64 (idxI x m))
noncomputable def sHasN : HeapFn := sRd fxTl (fun x m => .bool (nBad x m))
noncomputable def sFinN : HeapFn := sRd [] (fun x m => .bool (!nBad x m))
theorem sIdxN_ok : IsHeap Try.prog false 211 true sIdxN := sRd_is (fun _ _ => rfl) (fun _ => rfl) (fun opn x M m cap hm hM => by
  unfold idxI
  cases h : nIdx x m with
  | none => exact ⟨_, fxA_p0 opn x M m cap hm hM (fun hst => (fx_loop opn x M m cap hm hM (nIdx_none h) hst).enter ([true, true, false, false, true, false, false, true, true] ++ List.replicate 10 false) (by kernel_rfl))⟩
  | some j =>
    obtain ⟨h1, h2, h3⟩ := nIdx_some h
    exact ⟨_, fxJ_p0 opn x M m cap hm hM j h1 (fun hst => (fx_loopT opn x M m cap hm hM j h1 h3 h2 hst).enter ([true, true, false, false, true, false, false, true, true] ++ List.replicate 10 false) (by kernel_rfl))⟩)
noncomputable def n2 : Tab := (n1.addH 211 true sIdxN)
theorem n2_ok : n2.Ok Try.prog false := (Tab.Ok.addH n1_ok sIdxN_ok)
noncomputable def Ln2 : Lib := ⟨Try.prog, false, n2, [], []⟩
theorem Ln2_fp : ∀ e, e ∈ Ln2.pures → Try.prog.funcs[e.1]? = some e.2 := fs_nil
theorem Ln2_fh : ∀ e, e ∈ Ln2.heaps → Try.prog.funcs[e.1]? = some e.2.2 := gs_nil
theorem Ln2_p1 (gp : Nat → PureFn) (g : Nat → HeapFn) : (Ln2.pures.all fun e => fnOk (Ln2.mk' gp g) e.2) = true := by kernel_rfl
theorem Ln2_h1 (gp : Nat → PureFn) (g : Nat → HeapFn) : (Ln2.heaps.all fun e => fnOk (Ln2.mk' gp g) e.2.2 && (!e.2.1 || fnRo (Ln2.mk' gp g) e.2.2)) = true := by kernel_rfl
theorem Ln2_ok : Ln2.Ok := ⟨n2_ok, mixed, Ln2_fp, Ln2_fh, Ln2_p1, Ln2_h1⟩
noncomputable def dLn2 : Cfg := Ln2.cfg 100 6
theorem dLn2_ok : dLn2.Ok := Ln2_ok.cfg 100 6

theorem fxH_fok : fnOkX (dLn2) [] Try.f200 = true := by kernel_rfl
theorem fxH_p0 (opn : Option Nat) (x : Nat → Nat) (M : Nat) (m : Nat) (cap : Nat) (w : Int) (s0 : sIdxN ([Value.slice (some ⟨0, 0, some 1⟩) m cap, Value.func (Fn.func 201) { toList := [] } { toList := [] }]) ([AObj.row (rowOf (fun i => [Value.float .f64 (x i)]) M) false opn]) = some (Value.int .i64 w, [AObj.row (rowOf (fun i => [Value.float .f64 (x i)]) M) false opn])) : CallR Try.prog false 200 ([Value.slice (some ⟨0, 0, some 1⟩) m cap, Value.func (Fn.func 201) { toList := [] } { toList := [] }]) ([AObj.row (rowOf (fun i => [Value.float .f64 (x i)]) M) false opn]) (Value.bool (decide (w ≥ 0))) ([AObj.row (rowOf (fun i => [Value.float .f64 (x i)]) M) false opn]) := CallR.of_DOXs (C := dLn2) dLn2_ok (X := []) Try.func200 fxH_fok (n := 3) (orc := [(7, Item.eff (Value.int .i64 w) [AObj.row (rowOf (fun i => [Value.float .f64 (x i)]) M) false opn])]) (ps := [(sIdxN ([Value.slice (some ⟨0, 0, some 1⟩) m cap, Value.func (Fn.func 201) { toList := [] } { toList := [] }]) ([AObj.row (rowOf (fun i => [Value.float .f64 (x i)]) M) false opn]) = some (Value.int .i64 w, [AObj.row (rowOf (fun i => [Value.float .f64 (x i)]) M) false opn]))]) (by kernel_rfl) (fun hst => ⟨s0, trivial⟩)
theorem idx_ge (x : Nat → Nat) (m : Nat) : decide (idxI x m ≥ 0) = nBad x m := by
  unfold idxI nBad
  cases nIdx x m with
  | none => rfl
  | some j => exact decide_eq_true (by show (0 : Int) ≤ iN j; rw [iN_eq]; omega)
theorem sHasN_ok : IsHeap Try.prog false 200 true sHasN := sRd_is (fun _ _ => rfl) (fun _ => rfl) (fun opn x M m cap hm hM => by
  have h := fxH_p0 opn x M m cap (idxI x m) (sRd_row (h := fun x m => .int .i64 (idxI x m)) (tl := fxTl) rfl hm hM (fun y hy => by show Value.int .i64 (idxI y m) = .int .i64 (idxI x m); unfold idxI; rw [nIdx_congr hy]))
  rw [idx_ge] at h
  exact ⟨_, h⟩)
noncomputable def n3 : Tab := (n2.addH 200 true sHasN)
theorem n3_ok : n3.Ok Try.prog false := (Tab.Ok.addH n2_ok sHasN_ok)
noncomputable def Ln3 : Lib := ⟨Try.prog, false, n3, [], []⟩
theorem Ln3_fp : ∀ e, e ∈ Ln3.pures → Try.prog.funcs[e.1]? = some e.2 := fs_nil
theorem Ln3_fh : ∀ e, e ∈ Ln3.heaps → Try.prog.funcs[e.1]? = some e.2.2 := gs_nil
theorem Ln3_p1 (gp : Nat → PureFn) (g : Nat → HeapFn) : (Ln3.pures.all fun e => fnOk (Ln3.mk' gp g) e.2) = true := by kernel_rfl
theorem Ln3_h1 (gp : Nat → PureFn) (g : Nat → HeapFn) : (Ln3.heaps.all fun e => fnOk (Ln3.mk' gp g) e.2.2 && (!e.2.1 || fnRo (Ln3.mk' gp g) e.2.2)) = true := by kernel_rfl
theorem Ln3_ok : Ln3.Ok := ⟨n3_ok, mixed, Ln3_fp, Ln3_fh, Ln3_p1, Ln3_h1⟩
noncomputable def dLn3 : Cfg := Ln3.cfg 100 6
theorem dLn3_ok : dLn3.Ok := Ln3_ok.cfg 100 6

theorem fxG_fok : fnOkX (dLn3) [] Try.f173 = true := by kernel_rfl
theorem fxG_p0 (opn : Option Nat) (x : Nat → Nat) (M : Nat) (m : Nat) (cap : Nat) (c : Bool) (s0 : sHasN ([Value.slice (some ⟨0, 0, some 1⟩) m cap, Value.func (Fn.func 201) { toList := [] } { toList := [] }]) ([AObj.row (rowOf (fun i => [Value.float .f64 (x i)]) M) false opn]) = some (Value.bool c, [AObj.row (rowOf (fun i => [Value.float .f64 (x i)]) M) false opn])) : CallR Try.prog false 173 ([Value.slice (some ⟨0, 0, some 1⟩) m cap]) ([AObj.row (rowOf (fun i => [Value.float .f64 (x i)]) M) false opn]) (Value.bool !c) ([AObj.row (rowOf (fun i => [Value.float .f64 (x i)]) M) false opn]) := CallR.of_DOXs (C := dLn3) dLn3_ok (X := []) Try.func173 fxG_fok (n := 3) (orc := [(5, Item.eff (Value.bool c) [AObj.row (rowOf (fun i => [Value.float .f64 (x i)]) M) false opn])]) (ps := [(sHasN ([Value.slice (some ⟨0, 0, some 1⟩) m cap, Value.func (Fn.func 201) { toList := [] } { toList := [] }]) ([AObj.row (rowOf (fun i => [Value.float .f64 (x i)]) M) false opn]) = some (Value.bool c, [AObj.row (rowOf (fun i => [Value.float .f64 (x i)]) M) false opn]))]) (by kernel_rfl) (fun hst => ⟨s0, trivial⟩)
theorem nBad_congr {x y : Nat → Nat} {m : Nat} (h : ∀ i, i < m → y i = x i) : nBad y m = nBad x m := by unfold nBad; rw [nIdx_congr h]
theorem sFinN_ok : IsHeap Try.prog false 173 true sFinN := sRd_is (fun _ _ => rfl) (fun _ => rfl) (fun opn x M m cap hm hM =>
  ⟨_, fxG_p0 opn x M m cap (nBad x m) (sRd_row (h := fun x m => .bool (nBad x m)) (tl := fxTl) rfl hm hM (fun y hy => by show Value.bool (nBad y m) = .bool (nBad x m); rw [nBad_congr hy]))⟩)
theorem sFinN_row {b m cap M : Nat} {x : Nat → Nat} {rw' : Bool} {opn : Option Nat} {σ : AHeap} (hσ : σ[b]? = some (.row (rowOf (fun i => [.float .f64 (x i)]) M) rw' opn)) (hm : m ≤ M) (hM : m ≤ 65536) :
    sFinN [.slice (some ⟨b, 0, some 1⟩) m cap] σ = some (.bool (!nBad x m), σ) :=
  sRd_row (tl := []) (h := fun x m => .bool (!nBad x m)) hσ hm hM (fun y hy => by show Value.bool (!nBad y m) = .bool (!nBad x m); rw [nBad_congr hy])
noncomputable def n4 : Tab := (n3.addH 173 true sFinN)
theorem n4_ok : n4.Ok Try.prog false := (Tab.Ok.addH n3_ok sFinN_ok)
noncomputable def Ln4 : Lib := ⟨Try.prog, false, n4, [], []⟩
theorem Ln4_fp : ∀ e, e ∈ Ln4.pures → Try.prog.funcs[e.1]? = some e.2 := fs_nil
theorem Ln4_fh : ∀ e, e ∈ Ln4.heaps → Try.prog.funcs[e.1]? = some e.2.2 := gs_nil
theorem Ln4_p1 (gp : Nat → PureFn) (g : Nat → HeapFn) : (Ln4.pures.all fun e => fnOk (Ln4.mk' gp g) e.2) = true := by kernel_rfl
theorem Ln4_h1 (gp : Nat → PureFn) (g : Nat → HeapFn) : (Ln4.heaps.all fun e => fnOk (Ln4.mk' gp g) e.2.2 && (!e.2.1 || fnRo (Ln4.mk' gp g) e.2.2)) = true := by kernel_rfl
theorem Ln4_ok : Ln4.Ok := ⟨n4_ok, mixed, Ln4_fp, Ln4_fh, Ln4_p1, Ln4_h1⟩
noncomputable def dLn4 : Cfg := Ln4.cfg 100 6
theorem dLn4_ok : dLn4.Ok := Ln4_ok.cfg 100 6

end Go.Lk
end
