/- Places; the document's. -/
import Derived.Test.YtmomainjlncogaaLkGDA
namespace Go.Lk
open Go.Proofs
set_option maxRecDepth 100000
set_option maxHeartbeats 0
set_option linter.unusedVariables false
set_option linter.unusedSimpArgs false
def sAngle : PureFn
  | [.complex .f64 a b] => some (.float .f64 (wAngle_0 a b))
  | _ => none
theorem sAngle_ok : IsPure Try.prog false 38 sAngle := by
  intro args v σ h
  unfold sAngle at h
  split at h
  · cases h; exact wAngle_ok _ _ σ
  · cases h
def sRAngle : PureFn
  | [.agg ⟨[.float .f64 a, .float .f64 b]⟩] => some (.float .f64 (rAngle_0 a b))
  | _ => none
theorem sRAngle_ok : IsPure Try.prog false 140 sRAngle := by
  intro args v σ h
  unfold sRAngle at h
  split at h
  · cases h; exact rAngle_ok _ _ σ
  · cases h
def sAbsC : PureFn
  | [.complex .f64 a b] => some (.float .f64 (wAbs_0 a b))
  | _ => none
theorem sAbsC_ok : IsPure Try.prog false 89 sAbsC := by
  intro args v σ h
  unfold sAbsC at h
  split at h
  · cases h; exact wAbs_ok _ _ σ
  · cases h
def sRAbs : PureFn
  | [.agg ⟨[.float .f64 a, .float .f64 b]⟩] => some (.float .f64 (rAbs_0 a b))
  | _ => none
theorem sRAbs_ok : IsPure Try.prog false 138 sRAbs := by
  intro args v σ h
  unfold sRAbs at h
  split at h
  · cases h; exact rAbs_ok _ _ σ
  · cases h
noncomputable def t10 : Tab := ((((t9.addP 38 sAngle).addP 140 sRAngle).addP 89 sAbsC).addP 138 sRAbs)
theorem t10_ok : t10.Ok Try.prog false := (Tab.Ok.addP (Tab.Ok.addP (Tab.Ok.addP (Tab.Ok.addP t9_ok sAngle_ok) sRAngle_ok) sAbsC_ok) sRAbs_ok)
noncomputable def L11 : Lib := ⟨Try.prog, false, t10, [(181, Try.f181), (160, Try.f160), (69, Try.f69), (55, Try.f55), (33, Try.f33), (128, Try.f128), (207, Try.f207), (43, Try.f43), (122, Try.f122), (133, Try.f133), (134, Try.f134), (135, Try.f135), (136, Try.f136), (137, Try.f137), (142, Try.f142), (143, Try.f143), (109, Try.f109)], []⟩
theorem L11_fp : ∀ e, e ∈ L11.pures → Try.prog.funcs[e.1]? = some e.2 := fs_cons Try.func181 (fs_cons Try.func160 (fs_cons Try.func69 (fs_cons Try.func55 (fs_cons Try.func33 (fs_cons Try.func128 (fs_cons Try.func207 (fs_cons Try.func43 (fs_cons Try.func122 (fs_cons Try.func133 (fs_cons Try.func134 (fs_cons Try.func135 (fs_cons Try.func136 (fs_cons Try.func137 (fs_cons Try.func142 (fs_cons Try.func143 (fs_cons Try.func109 (fs_nil)))))))))))))))))
theorem L11_fh : ∀ e, e ∈ L11.heaps → Try.prog.funcs[e.1]? = some e.2.2 := gs_nil
theorem L11_p1 (gp : Nat → PureFn) (g : Nat → HeapFn) : (L11.pures.all fun e => fnOk (L11.mk' gp g) e.2) = true := by kernel_rfl
theorem L11_h1 (gp : Nat → PureFn) (g : Nat → HeapFn) : (L11.heaps.all fun e => fnOk (L11.mk' gp g) e.2.2 && (!e.2.1 || fnRo (L11.mk' gp g) e.2.2)) = true := by kernel_rfl
theorem L11_ok : L11.Ok := ⟨t10_ok, mixed, L11_fp, L11_fh, L11_p1, L11_h1⟩
noncomputable def dL11 : Cfg := L11.cfg 100 6
theorem dL11_ok : dL11.Ok := L11_ok.cfg 100 6

theorem wTo_fok : fnOk (dL11) Try.f56 = true := by kernel_rfl
theorem wTo_p0 (m : Nat) (b : Nat) (σ : AHeap) : CallR Try.prog false 56 [Value.float .f64 m, Value.float .f64 b] σ (Value.agg { toList := [Value.float FloatKind.f64 (fmul (wTurn_1 b) m), Value.float FloatKind.f64 (fmul (wTurn_0 b) m)] }) σ := CallR.of_DO_pure (C := dL11) dL11_ok Try.func56 wTo_fok (n := 100) (orc := []) (ps := []) (σ1 := [AObj.row [Value.float FloatKind.f64 (fmul (wTurn_1 b) m), Value.float FloatKind.f64 (fmul (wTurn_0 b) m)] true none]) (by kernel_rfl) trivial rfl rfl
def wTo_t (m : Nat) (b : Nat) : Value := (Value.agg { toList := [Value.float FloatKind.f64 (fmul (wTurn_1 b) m), Value.float FloatKind.f64 (fmul (wTurn_0 b) m)] })
theorem wTo_c (m : Nat) (b : Nat) (σ : AHeap) : CallR Try.prog false 56 [Value.float .f64 m,
  Value.float .f64 b] σ (wTo_t m b) σ := by
  unfold wTo_t
  exact (wTo_p0 m b σ)
def wTo_0 (m : Nat) (b : Nat) : Nat := fmul (wTurn_1 b) m
def wTo_1 (m : Nat) (b : Nat) : Nat := fmul (wTurn_0 b) m
theorem wTo_v (m : Nat) (b : Nat) : wTo_t m b = Go.Value.agg { toList := [Go.Value.float Go.FloatKind.f64 (wTo_0 m b), Go.Value.float Go.FloatKind.f64 (wTo_1 m b)] } := by
  unfold wTo_t wTo_0 wTo_1
  kernel_rfl
theorem wTo_ok (m : Nat) (b : Nat) (σ : AHeap) : CallR Try.prog false 56 [Value.float .f64 m,
  Value.float .f64
    b] σ (Go.Value.agg { toList := [Go.Value.float Go.FloatKind.f64 (wTo_0 m b), Go.Value.float Go.FloatKind.f64 (wTo_1 m b)] }) σ := by
  have h := wTo_c m b σ
  rw [wTo_v] at h
  exact h
theorem rTo_fok : fnOk (dL11) Try.f60 = true := by kernel_rfl
theorem rTo_p0 (m : Nat) (b : Nat) (σ : AHeap) : CallR Try.prog false 60 [Value.float .f64 m, Value.float .f64 b] σ (Value.agg { toList := [Value.float FloatKind.f64 (fmul m (rTurn_1 b)), Value.float FloatKind.f64 (fmul m (rTurn_0 b))] }) σ := CallR.of_DO_pure (C := dL11) dL11_ok Try.func60 rTo_fok (n := 100) (orc := []) (ps := []) (σ1 := [AObj.row [Value.float FloatKind.f64 (fmul m (rTurn_1 b)), Value.float FloatKind.f64 (fmul m (rTurn_0 b))] true none, AObj.row [Value.float FloatKind.f64 (rTurn_0 b), Value.float FloatKind.f64 (rTurn_1 b)] true none]) (by kernel_rfl) trivial rfl rfl
def rTo_t (m : Nat) (b : Nat) : Value := (Value.agg { toList := [Value.float FloatKind.f64 (fmul m (rTurn_1 b)), Value.float FloatKind.f64 (fmul m (rTurn_0 b))] })
theorem rTo_c (m : Nat) (b : Nat) (σ : AHeap) : CallR Try.prog false 60 [Value.float .f64 m,
  Value.float .f64 b] σ (rTo_t m b) σ := by
  unfold rTo_t
  exact (rTo_p0 m b σ)
def rTo_0 (m : Nat) (b : Nat) : Nat := fmul m (rTurn_1 b)
def rTo_1 (m : Nat) (b : Nat) : Nat := fmul m (rTurn_0 b)
theorem rTo_v (m : Nat) (b : Nat) : rTo_t m b = Go.Value.agg { toList := [Go.Value.float Go.FloatKind.f64 (rTo_0 m b), Go.Value.float Go.FloatKind.f64 (rTo_1 m b)] } := by
  unfold rTo_t rTo_0 rTo_1
  kernel_rfl
theorem rTo_ok (m : Nat) (b : Nat) (σ : AHeap) : CallR Try.prog false 60 [Value.float .f64 m,
  Value.float .f64
    b] σ (Go.Value.agg { toList := [Go.Value.float Go.FloatKind.f64 (rTo_0 m b), Go.Value.float Go.FloatKind.f64 (rTo_1 m b)] }) σ := by
  have h := rTo_c m b σ
  rw [rTo_v] at h
  exact h
theorem wFrom_fok : fnOk (dL11) Try.f53 = true := by kernel_rfl
theorem wFrom_p0 (x : Nat) (y : Nat) (σ : AHeap) : CallR Try.prog false 53 [Value.agg #[Value.float .f64 x, Value.float .f64 y]] σ (Value.tuple { toList := [Value.float FloatKind.f64 (wAbs_0 y x), Value.float FloatKind.f64 (wPos_0 (wAngle_0 y x))] }) σ := CallR.of_DO_pure (C := dL11) dL11_ok Try.func53 wFrom_fok (n := 100) (orc := []) (ps := []) (σ1 := [AObj.row [Value.float FloatKind.f64 x, Value.float FloatKind.f64 y] true none]) (by kernel_rfl) trivial rfl rfl
def wFrom_t (x : Nat) (y : Nat) : Value := (Value.tuple { toList := [Value.float FloatKind.f64 (wAbs_0 y x), Value.float FloatKind.f64 (wPos_0 (wAngle_0 y x))] })
theorem wFrom_c (x : Nat) (y : Nat) (σ : AHeap) : CallR Try.prog false 53 [Value.agg
    #[Value.float .f64 x, Value.float .f64 y]] σ (wFrom_t x y) σ := by
  unfold wFrom_t
  exact (wFrom_p0 x y σ)
def wFrom_0 (x : Nat) (y : Nat) : Nat := wAbs_0 y x
def wFrom_1 (x : Nat) (y : Nat) : Nat := wPos_0 (wAngle_0 y x)
theorem wFrom_v (x : Nat) (y : Nat) : wFrom_t x y = Go.Value.tuple { toList := [Go.Value.float Go.FloatKind.f64 (wFrom_0 x y), Go.Value.float Go.FloatKind.f64 (wFrom_1 x y)] } := by
  unfold wFrom_t wFrom_0 wFrom_1
  kernel_rfl
theorem wFrom_ok (x : Nat) (y : Nat) (σ : AHeap) : CallR Try.prog false 53 [Value.agg
    #[Value.float .f64 x,
      Value.float .f64
        y]] σ (Go.Value.tuple { toList := [Go.Value.float Go.FloatKind.f64 (wFrom_0 x y), Go.Value.float Go.FloatKind.f64 (wFrom_1 x y)] }) σ := by
  have h := wFrom_c x y σ
  rw [wFrom_v] at h
  exact h
theorem rFrom_fok : fnOk (dL11) Try.f59 = true := by kernel_rfl
theorem rFrom_p0 (x : Nat) (y : Nat) (σ : AHeap) : CallR Try.prog false 59 [Value.agg #[Value.float .f64 x, Value.float .f64 y]] σ (Value.tuple { toList := [Value.float FloatKind.f64 (rAbs_0 y x), Value.float FloatKind.f64 (rRound_0 (rAngle_0 y x))] }) σ := CallR.of_DO_pure (C := dL11) dL11_ok Try.func59 rFrom_fok (n := 100) (orc := []) (ps := []) (σ1 := [AObj.row [Value.float FloatKind.f64 x, Value.float FloatKind.f64 y] true none, AObj.row [Value.float FloatKind.f64 y, Value.float FloatKind.f64 x] true none]) (by kernel_rfl) trivial rfl rfl
def rFrom_t (x : Nat) (y : Nat) : Value := (Value.tuple { toList := [Value.float FloatKind.f64 (rAbs_0 y x), Value.float FloatKind.f64 (rRound_0 (rAngle_0 y x))] })
theorem rFrom_c (x : Nat) (y : Nat) (σ : AHeap) : CallR Try.prog false 59 [Value.agg
    #[Value.float .f64 x, Value.float .f64 y]] σ (rFrom_t x y) σ := by
  unfold rFrom_t
  exact (rFrom_p0 x y σ)
def rFrom_0 (x : Nat) (y : Nat) : Nat := rAbs_0 y x
def rFrom_1 (x : Nat) (y : Nat) : Nat := rRound_0 (rAngle_0 y x)
theorem rFrom_v (x : Nat) (y : Nat) : rFrom_t x y = Go.Value.tuple { toList := [Go.Value.float Go.FloatKind.f64 (rFrom_0 x y), Go.Value.float Go.FloatKind.f64 (rFrom_1 x y)] } := by
  unfold rFrom_t rFrom_0 rFrom_1
  kernel_rfl
theorem rFrom_ok (x : Nat) (y : Nat) (σ : AHeap) : CallR Try.prog false 59 [Value.agg
    #[Value.float .f64 x,
      Value.float .f64
        y]] σ (Go.Value.tuple { toList := [Go.Value.float Go.FloatKind.f64 (rFrom_0 x y), Go.Value.float Go.FloatKind.f64 (rFrom_1 x y)] }) σ := by
  have h := rFrom_c x y σ
  rw [rFrom_v] at h
  exact h
theorem wMoved_fok : fnOk (dL11) Try.f54 = true := by kernel_rfl
theorem wMoved_p0 (u : Nat) (v : Nat) (t : Nat) (x : Nat) (y : Nat) (σ : AHeap) : CallR Try.prog false 54 [Value.agg #[Value.float .f64 u, Value.float .f64 v, Value.float .f64 t], Value.agg #[Value.float .f64 x, Value.float .f64 y]] σ (Value.agg { toList := [Value.float FloatKind.f64 (fadd (fadd (fmul y (wTurn_1 t)) (fmul x (wTurn_0 t))) u), Value.float FloatKind.f64 (fadd (fsub (fmul y (wTurn_0 t)) (fmul x (wTurn_1 t))) v)] }) σ := CallR.of_DO_pure (C := dL11) dL11_ok Try.func54 wMoved_fok (n := 100) (orc := []) (ps := []) (σ1 := [AObj.row [Value.float FloatKind.f64 u, Value.float FloatKind.f64 v, Value.float FloatKind.f64 t] true none, AObj.row [Value.float FloatKind.f64 x, Value.float FloatKind.f64 y] true none, AObj.row [Value.float FloatKind.f64 (fadd (fadd (fmul y (wTurn_1 t)) (fmul x (wTurn_0 t))) u), Value.float FloatKind.f64 (fadd (fsub (fmul y (wTurn_0 t)) (fmul x (wTurn_1 t))) v)] true none, AObj.row [Value.float FloatKind.f64 (fadd (fmul y (wTurn_1 t)) (fmul x (wTurn_0 t))), Value.float FloatKind.f64 (fsub (fmul y (wTurn_0 t)) (fmul x (wTurn_1 t)))] true none]) (by kernel_rfl) trivial rfl rfl
def wMoved_t (u : Nat) (v : Nat) (t : Nat) (x : Nat) (y : Nat) : Value := (Value.agg { toList := [Value.float FloatKind.f64 (fadd (fadd (fmul y (wTurn_1 t)) (fmul x (wTurn_0 t))) u), Value.float FloatKind.f64 (fadd (fsub (fmul y (wTurn_0 t)) (fmul x (wTurn_1 t))) v)] })
theorem wMoved_c (u : Nat) (v : Nat) (t : Nat) (x : Nat) (y : Nat) (σ : AHeap) : CallR Try.prog false 54 [Value.agg
    #[Value.float .f64 u, Value.float .f64 v, Value.float .f64 t],
  Value.agg #[Value.float .f64 x, Value.float .f64 y]] σ (wMoved_t u v t x y) σ := by
  unfold wMoved_t
  exact (wMoved_p0 u v t x y σ)
def wMoved_0 (u : Nat) (v : Nat) (t : Nat) (x : Nat) (y : Nat) : Nat := fadd (fadd (fmul y (wTurn_1 t)) (fmul x (wTurn_0 t))) u
def wMoved_1 (u : Nat) (v : Nat) (t : Nat) (x : Nat) (y : Nat) : Nat := fadd (fsub (fmul y (wTurn_0 t)) (fmul x (wTurn_1 t))) v
theorem wMoved_v (u : Nat) (v : Nat) (t : Nat) (x : Nat) (y : Nat) : wMoved_t u v t x y = Go.Value.agg { toList := [Go.Value.float Go.FloatKind.f64 (wMoved_0 u v t x y), Go.Value.float Go.FloatKind.f64 (wMoved_1 u v t x y)] } := by
  unfold wMoved_t wMoved_0 wMoved_1
  kernel_rfl
theorem wMoved_ok (u : Nat) (v : Nat) (t : Nat) (x : Nat) (y : Nat) (σ : AHeap) : CallR Try.prog false 54 [Value.agg
    #[Value.float .f64 u, Value.float .f64 v, Value.float .f64 t],
  Value.agg
    #[Value.float .f64 x,
      Value.float .f64
        y]] σ (Go.Value.agg { toList := [Go.Value.float Go.FloatKind.f64 (wMoved_0 u v t x y), Go.Value.float Go.FloatKind.f64 (wMoved_1 u v t x y)] }) σ := by
  have h := wMoved_c u v t x y σ
  rw [wMoved_v] at h
  exact h
theorem rMoved_fok : fnOk (dL11) Try.f62 = true := by kernel_rfl
theorem rMoved_p0 (u : Nat) (v : Nat) (t : Nat) (x : Nat) (y : Nat) (σ : AHeap) : CallR Try.prog false 62 [Value.agg #[Value.float .f64 u, Value.float .f64 v, Value.float .f64 t], Value.agg #[Value.float .f64 x, Value.float .f64 y]] σ (Value.agg { toList := [Value.float FloatKind.f64 (fadd (fadd (fmul y (rTurn_1 t)) (fmul x (rTurn_0 t))) u), Value.float FloatKind.f64 (fadd (fsub (fmul y (rTurn_0 t)) (fmul x (rTurn_1 t))) v)] }) σ := CallR.of_DO_pure (C := dL11) dL11_ok Try.func62 rMoved_fok (n := 100) (orc := []) (ps := []) (σ1 := [AObj.row [Value.float FloatKind.f64 u, Value.float FloatKind.f64 v, Value.float FloatKind.f64 t] true none, AObj.row [Value.float FloatKind.f64 x, Value.float FloatKind.f64 y] true none, AObj.row [Value.float FloatKind.f64 (fadd (fadd (fmul y (rTurn_1 t)) (fmul x (rTurn_0 t))) u), Value.float FloatKind.f64 (fadd (fsub (fmul y (rTurn_0 t)) (fmul x (rTurn_1 t))) v)] true none, AObj.row [Value.float FloatKind.f64 (fsub (fmul y (rTurn_0 t)) (fmul x (rTurn_1 t))), Value.float FloatKind.f64 (fadd (fmul y (rTurn_1 t)) (fmul x (rTurn_0 t)))] true none]) (by kernel_rfl) trivial rfl rfl
def rMoved_t (u : Nat) (v : Nat) (t : Nat) (x : Nat) (y : Nat) : Value := (Value.agg { toList := [Value.float FloatKind.f64 (fadd (fadd (fmul y (rTurn_1 t)) (fmul x (rTurn_0 t))) u), Value.float FloatKind.f64 (fadd (fsub (fmul y (rTurn_0 t)) (fmul x (rTurn_1 t))) v)] })
theorem rMoved_c (u : Nat) (v : Nat) (t : Nat) (x : Nat) (y : Nat) (σ : AHeap) : CallR Try.prog false 62 [Value.agg
    #[Value.float .f64 u, Value.float .f64 v, Value.float .f64 t],
  Value.agg #[Value.float .f64 x, Value.float .f64 y]] σ (rMoved_t u v t x y) σ := by
  unfold rMoved_t
  exact (rMoved_p0 u v t x y σ)
def rMoved_0 (u : Nat) (v : Nat) (t : Nat) (x : Nat) (y : Nat) : Nat := fadd (fadd (fmul y (rTurn_1 t)) (fmul x (rTurn_0 t))) u
def rMoved_1 (u : Nat) (v : Nat) (t : Nat) (x : Nat) (y : Nat) : Nat := fadd (fsub (fmul y (rTurn_0 t)) (fmul x (rTurn_1 t))) v
theorem rMoved_v (u : Nat) (v : Nat) (t : Nat) (x : Nat) (y : Nat) : rMoved_t u v t x y = Go.Value.agg { toList := [Go.Value.float Go.FloatKind.f64 (rMoved_0 u v t x y), Go.Value.float Go.FloatKind.f64 (rMoved_1 u v t x y)] } := by
  unfold rMoved_t rMoved_0 rMoved_1
  kernel_rfl
theorem rMoved_ok (u : Nat) (v : Nat) (t : Nat) (x : Nat) (y : Nat) (σ : AHeap) : CallR Try.prog false 62 [Value.agg
    #[Value.float .f64 u, Value.float .f64 v, Value.float .f64 t],
  Value.agg
    #[Value.float .f64 x,
      Value.float .f64
        y]] σ (Go.Value.agg { toList := [Go.Value.float Go.FloatKind.f64 (rMoved_0 u v t x y), Go.Value.float Go.FloatKind.f64 (rMoved_1 u v t x y)] }) σ := by
  have h := rMoved_c u v t x y σ
  rw [rMoved_v] at h
  exact h
theorem wBack_fok : fnOk (dL11) Try.f57 = true := by kernel_rfl
theorem wBack_p0 (u : Nat) (v : Nat) (t : Nat) (x : Nat) (y : Nat) (σ : AHeap) : CallR Try.prog false 57 [Value.agg #[Value.float .f64 u, Value.float .f64 v, Value.float .f64 t], Value.agg #[Value.float .f64 x, Value.float .f64 y]] σ (Value.agg { toList := [Value.float FloatKind.f64 (fadd (fmul (fsub y v) (aneg false (wTurn_1 t))) (fmul (fsub x u) (wTurn_0 t))), Value.float FloatKind.f64 (fsub (fmul (fsub y v) (wTurn_0 t)) (fmul (fsub x u) (aneg false (wTurn_1 t))))] }) σ := CallR.of_DO_pure (C := dL11) dL11_ok Try.func57 wBack_fok (n := 100) (orc := []) (ps := []) (σ1 := [AObj.row [Value.float FloatKind.f64 u, Value.float FloatKind.f64 v, Value.float FloatKind.f64 t] true none, AObj.row [Value.float FloatKind.f64 x, Value.float FloatKind.f64 y] true none, AObj.row [Value.float FloatKind.f64 (fadd (fmul (fsub y v) (aneg false (wTurn_1 t))) (fmul (fsub x u) (wTurn_0 t))), Value.float FloatKind.f64 (fsub (fmul (fsub y v) (wTurn_0 t)) (fmul (fsub x u) (aneg false (wTurn_1 t))))] true none, AObj.row [Value.float FloatKind.f64 (fsub x u), Value.float FloatKind.f64 (fsub y v)] true none]) (by kernel_rfl) trivial rfl rfl
def wBack_t (u : Nat) (v : Nat) (t : Nat) (x : Nat) (y : Nat) : Value := (Value.agg { toList := [Value.float FloatKind.f64 (fadd (fmul (fsub y v) (aneg false (wTurn_1 t))) (fmul (fsub x u) (wTurn_0 t))), Value.float FloatKind.f64 (fsub (fmul (fsub y v) (wTurn_0 t)) (fmul (fsub x u) (aneg false (wTurn_1 t))))] })
theorem wBack_c (u : Nat) (v : Nat) (t : Nat) (x : Nat) (y : Nat) (σ : AHeap) : CallR Try.prog false 57 [Value.agg
    #[Value.float .f64 u, Value.float .f64 v, Value.float .f64 t],
  Value.agg #[Value.float .f64 x, Value.float .f64 y]] σ (wBack_t u v t x y) σ := by
  unfold wBack_t
  exact (wBack_p0 u v t x y σ)
def wBack_0 (u : Nat) (v : Nat) (t : Nat) (x : Nat) (y : Nat) : Nat := fadd (fmul (fsub y v) (aneg false (wTurn_1 t))) (fmul (fsub x u) (wTurn_0 t))
def wBack_1 (u : Nat) (v : Nat) (t : Nat) (x : Nat) (y : Nat) : Nat := fsub (fmul (fsub y v) (wTurn_0 t)) (fmul (fsub x u) (aneg false (wTurn_1 t)))
theorem wBack_v (u : Nat) (v : Nat) (t : Nat) (x : Nat) (y : Nat) : wBack_t u v t x y = Go.Value.agg { toList := [Go.Value.float Go.FloatKind.f64 (wBack_0 u v t x y), Go.Value.float Go.FloatKind.f64 (wBack_1 u v t x y)] } := by
  unfold wBack_t wBack_0 wBack_1
  kernel_rfl
theorem wBack_ok (u : Nat) (v : Nat) (t : Nat) (x : Nat) (y : Nat) (σ : AHeap) : CallR Try.prog false 57 [Value.agg
    #[Value.float .f64 u, Value.float .f64 v, Value.float .f64 t],
  Value.agg
    #[Value.float .f64 x,
      Value.float .f64
        y]] σ (Go.Value.agg { toList := [Go.Value.float Go.FloatKind.f64 (wBack_0 u v t x y), Go.Value.float Go.FloatKind.f64 (wBack_1 u v t x y)] }) σ := by
  have h := wBack_c u v t x y σ
  rw [wBack_v] at h
  exact h
theorem rBack_fok : fnOk (dL11) Try.f63 = true := by kernel_rfl
theorem rBack_p0 (u : Nat) (v : Nat) (t : Nat) (x : Nat) (y : Nat) (σ : AHeap) : CallR Try.prog false 63 [Value.agg #[Value.float .f64 u, Value.float .f64 v, Value.float .f64 t], Value.agg #[Value.float .f64 x, Value.float .f64 y]] σ (Value.agg { toList := [Value.float FloatKind.f64 (fadd (fmul (fsub y v) (fturn (rTurn_1 t))) (fmul (fsub x u) (rTurn_0 t))), Value.float FloatKind.f64 (fsub (fmul (fsub y v) (rTurn_0 t)) (fmul (fsub x u) (fturn (rTurn_1 t))))] }) σ := CallR.of_DO_pure (C := dL11) dL11_ok Try.func63 rBack_fok (n := 100) (orc := []) (ps := []) (σ1 := [AObj.row [Value.float FloatKind.f64 u, Value.float FloatKind.f64 v, Value.float FloatKind.f64 t] true none, AObj.row [Value.float FloatKind.f64 x, Value.float FloatKind.f64 y] true none, AObj.row [Value.float FloatKind.f64 (fadd (fmul (fsub y v) (fturn (rTurn_1 t))) (fmul (fsub x u) (rTurn_0 t))), Value.float FloatKind.f64 (fsub (fmul (fsub y v) (rTurn_0 t)) (fmul (fsub x u) (fturn (rTurn_1 t))))] true none, AObj.row [Value.float FloatKind.f64 (fsub (fmul (fsub y v) (rTurn_0 t)) (fmul (fsub x u) (fturn (rTurn_1 t)))), Value.float FloatKind.f64 (fadd (fmul (fsub y v) (fturn (rTurn_1 t))) (fmul (fsub x u) (rTurn_0 t)))] true none]) (by kernel_rfl) trivial rfl rfl
def rBack_t (u : Nat) (v : Nat) (t : Nat) (x : Nat) (y : Nat) : Value := (Value.agg { toList := [Value.float FloatKind.f64 (fadd (fmul (fsub y v) (fturn (rTurn_1 t))) (fmul (fsub x u) (rTurn_0 t))), Value.float FloatKind.f64 (fsub (fmul (fsub y v) (rTurn_0 t)) (fmul (fsub x u) (fturn (rTurn_1 t))))] })
theorem rBack_c (u : Nat) (v : Nat) (t : Nat) (x : Nat) (y : Nat) (σ : AHeap) : CallR Try.prog false 63 [Value.agg
    #[Value.float .f64 u, Value.float .f64 v, Value.float .f64 t],
  Value.agg #[Value.float .f64 x, Value.float .f64 y]] σ (rBack_t u v t x y) σ := by
  unfold rBack_t
  exact (rBack_p0 u v t x y σ)
def rBack_0 (u : Nat) (v : Nat) (t : Nat) (x : Nat) (y : Nat) : Nat := fadd (fmul (fsub y v) (fturn (rTurn_1 t))) (fmul (fsub x u) (rTurn_0 t))
def rBack_1 (u : Nat) (v : Nat) (t : Nat) (x : Nat) (y : Nat) : Nat := fsub (fmul (fsub y v) (rTurn_0 t)) (fmul (fsub x u) (fturn (rTurn_1 t)))
theorem rBack_v (u : Nat) (v : Nat) (t : Nat) (x : Nat) (y : Nat) : rBack_t u v t x y = Go.Value.agg { toList := [Go.Value.float Go.FloatKind.f64 (rBack_0 u v t x y), Go.Value.float Go.FloatKind.f64 (rBack_1 u v t x y)] } := by
  unfold rBack_t rBack_0 rBack_1
  kernel_rfl
theorem rBack_ok (u : Nat) (v : Nat) (t : Nat) (x : Nat) (y : Nat) (σ : AHeap) : CallR Try.prog false 63 [Value.agg
    #[Value.float .f64 u, Value.float .f64 v, Value.float .f64 t],
  Value.agg
    #[Value.float .f64 x,
      Value.float .f64
        y]] σ (Go.Value.agg { toList := [Go.Value.float Go.FloatKind.f64 (rBack_0 u v t x y), Go.Value.float Go.FloatKind.f64 (rBack_1 u v t x y)] }) σ := by
  have h := rBack_c u v t x y σ
  rw [rBack_v] at h
  exact h
theorem wSector_fok : fnOk (dL11) Try.f52 = true := by kernel_rfl
theorem wSector_p0 (b : Nat) (n : Int) (σ : AHeap) (h0 : (decide (n < 1)) = true) : CallR Try.prog false 52 [Value.float .f64 b, Value.int .i64 n] σ (Value.tuple { toList := [Value.int IntKind.i64 (Int.ofNat 0), Value.int IntKind.i64 (Int.ofNat 2)] }) σ := CallR.of_DO_pure (C := dL11) dL11_ok Try.func52 wSector_fok (n := 100) (orc := [(10, Item.br true), (11, Item.br true)]) (ps := [(bP (decide (n < 1)) true), (bP (decide (n < 1)) true)]) (σ1 := []) (by kernel_rfl) ⟨bP_of (fun x => x) h0, ⟨bP_of (fun x => x) h0, trivial⟩⟩ rfl rfl
theorem wSector_p1 (b : Nat) (n : Int) (σ : AHeap) (h0 : (decide (n < 1)) = false) (h1 : (decide (n > 4096)) = true) : CallR Try.prog false 52 [Value.float .f64 b, Value.int .i64 n] σ (Value.tuple { toList := [Value.int IntKind.i64 (Int.ofNat 0), Value.int IntKind.i64 (Int.ofNat 2)] }) σ := CallR.of_DO_pure (C := dL11) dL11_ok Try.func52 wSector_fok (n := 100) (orc := [(10, Item.br false), (17, Item.br true)]) (ps := [(bP (decide (n < 1)) false), (bP (decide (n > 4096)) true)]) (σ1 := []) (by kernel_rfl) ⟨bP_of (fun x => x) h0, ⟨bP_of (fun x => x) h1, trivial⟩⟩ rfl rfl
theorem wSector_p2 (b : Nat) (n : Int) (σ : AHeap) (h0 : (decide (n < 1)) = false) (h1 : (decide (n > 4096)) = false) (h2 : (feq (fsub b b) 0) = true) (h3 : (okI IntKind.i64 (ffloor (fmul (wPos_0 (wrapP b)) (FloatKind.f64.nearest n)))) = true) : CallR Try.prog false 52 [Value.float .f64 b, Value.int .i64 n] σ (Value.tuple { toList := [Value.int IntKind.i64 (if IntKind.i64.wrap (n - Int.ofNat 1) < toI (ffloor (fmul (wPos_0 (wrapP b)) (FloatKind.f64.nearest n))) then IntKind.i64.wrap (n - Int.ofNat 1) else toI (ffloor (fmul (wPos_0 (wrapP b)) (FloatKind.f64.nearest n)))), Value.int IntKind.i64 (Int.ofNat 0)] }) σ := CallR.of_DO_pure (C := dL11) dL11_ok Try.func52 wSector_fok (n := 100) (orc := [(10, Item.br false), (17, Item.br false), (28, Item.br false), (48, Item.res (Value.int IntKind.i64 (toI (ffloor (fmul (wPos_0 (wrapP b)) (FloatKind.f64.nearest n))))))]) (ps := [(bP (decide (n < 1)) false), (bP (decide (n > 4096)) false), (bP (!feq (fsub b b) 0) false), (convF (IntKind.i64) (ffloor (fmul (wPos_0 (wrapP b)) (FloatKind.f64.nearest n))) ([]) = some (Value.int IntKind.i64 (toI (ffloor (fmul (wPos_0 (wrapP b)) (FloatKind.f64.nearest n)))), []))]) (σ1 := []) (by kernel_rfl) ⟨bP_of (fun x => x) h0, ⟨bP_of (fun x => x) h1, ⟨bP_of (fun x => !x) h2, ⟨convF_ok _ _ _ h3, trivial⟩⟩⟩⟩ rfl rfl
theorem wSector_p3 (b : Nat) (n : Int) (σ : AHeap) (h0 : (decide (n < 1)) = false) (h1 : (decide (n > 4096)) = false) (h2 : (feq (fsub b b) 0) = false) : CallR Try.prog false 52 [Value.float .f64 b, Value.int .i64 n] σ (Value.tuple { toList := [Value.int IntKind.i64 (Int.ofNat 0), Value.int IntKind.i64 (Int.ofNat 6)] }) σ := CallR.of_DO_pure (C := dL11) dL11_ok Try.func52 wSector_fok (n := 100) (orc := [(10, Item.br false), (17, Item.br false), (28, Item.br true)]) (ps := [(bP (decide (n < 1)) false), (bP (decide (n > 4096)) false), (bP (!feq (fsub b b) 0) true)]) (σ1 := []) (by kernel_rfl) ⟨bP_of (fun x => x) h0, ⟨bP_of (fun x => x) h1, ⟨bP_of (fun x => !x) h2, trivial⟩⟩⟩ rfl rfl
def wSector_t (b : Nat) (n : Int) : Value := (bif decide (n < 1) then (Value.tuple { toList := [Value.int IntKind.i64 (Int.ofNat 0), Value.int IntKind.i64 (Int.ofNat 2)] }) else (bif decide (n > 4096) then (Value.tuple { toList := [Value.int IntKind.i64 (Int.ofNat 0), Value.int IntKind.i64 (Int.ofNat 2)] }) else (bif feq (fsub b b) 0 then (Value.tuple { toList := [Value.int IntKind.i64 (if IntKind.i64.wrap (n - Int.ofNat 1) < toI (ffloor (fmul (wPos_0 (wrapP b)) (FloatKind.f64.nearest n))) then IntKind.i64.wrap (n - Int.ofNat 1) else toI (ffloor (fmul (wPos_0 (wrapP b)) (FloatKind.f64.nearest n)))), Value.int IntKind.i64 (Int.ofNat 0)] }) else (Value.tuple { toList := [Value.int IntKind.i64 (Int.ofNat 0), Value.int IntKind.i64 (Int.ofNat 6)] }))))
theorem wSector_c (b : Nat) (n : Int) (σ : AHeap) (g2_3 : (decide
  (n <
    1)) = false → (decide
  (n >
    4096)) = false → (feq (fsub b b)
  0) = true → (okI IntKind.i64
  (ffloor
    (fmul (wPos_0 (wrapP b))
      (FloatKind.f64.nearest
        n)))) = true) : CallR Try.prog false 52 [Value.float .f64 b, Value.int .i64 n] σ (wSector_t b n) σ := by
  unfold wSector_t
  exact (CallR.bif (fun h0 => (wSector_p0 b n σ h0)) (fun h0 => (CallR.bif (fun h1 => (wSector_p1 b n σ h0 h1)) (fun h1 => (CallR.bif (fun h2 => (wSector_p2 b n σ h0 h1 h2 (g2_3 h0 h1 h2))) (fun h2 => (wSector_p3 b n σ h0 h1 h2)))))))
def wSector_0 (b : Nat) (n : Int) : Int := (bif decide (n < 1) then Int.ofNat 0 else (bif decide (n > 4096) then Int.ofNat 0 else (bif feq (fsub b b) 0 then if IntKind.i64.wrap (n - Int.ofNat 1) < toI (ffloor (fmul (wPos_0 (wrapP b)) (FloatKind.f64.nearest n))) then IntKind.i64.wrap (n - Int.ofNat 1) else toI (ffloor (fmul (wPos_0 (wrapP b)) (FloatKind.f64.nearest n))) else Int.ofNat 0)))
def wSector_1 (b : Nat) (n : Int) : Int := (bif decide (n < 1) then Int.ofNat 2 else (bif decide (n > 4096) then Int.ofNat 2 else (bif feq (fsub b b) 0 then Int.ofNat 0 else Int.ofNat 6)))
theorem wSector_v (b : Nat) (n : Int) : wSector_t b n = Go.Value.tuple { toList := [Go.Value.int Go.IntKind.i64 (wSector_0 b n), Go.Value.int Go.IntKind.i64 (wSector_1 b n)] } := by
  unfold wSector_t wSector_0 wSector_1
  cases (decide (n < 1)) with
  | true =>
    kernel_rfl
  | false =>
    cases (decide (n > 4096)) with
    | true =>
      kernel_rfl
    | false =>
      cases (feq (fsub b b) 0) with
      | true =>
        kernel_rfl
      | false =>
        kernel_rfl
theorem wSector_ok (b : Nat) (n : Int) (σ : AHeap) (g2_3 : (decide
  (n <
    1)) = false → (decide
  (n >
    4096)) = false → (feq (fsub b b)
  0) = true → (okI IntKind.i64
  (ffloor
    (fmul (wPos_0 (wrapP b))
      (FloatKind.f64.nearest
        n)))) = true) : CallR Try.prog false 52 [Value.float .f64 b,
  Value.int .i64
    n] σ (Go.Value.tuple { toList := [Go.Value.int Go.IntKind.i64 (wSector_0 b n), Go.Value.int Go.IntKind.i64 (wSector_1 b n)] }) σ := by
  have h := wSector_c b n σ g2_3
  rw [wSector_v] at h
  exact h
theorem rSector_fok : fnOk (dL11) Try.f61 = true := by kernel_rfl
theorem rSector_p0 (b : Nat) (n : Int) (σ : AHeap) (h0 : (decide (n < 1)) = true) : CallR Try.prog false 61 [Value.float .f64 b, Value.int .i64 n] σ (Value.tuple { toList := [Value.int IntKind.i64 (Int.ofNat 0), Value.int IntKind.i64 (Int.ofNat 2)] }) σ := CallR.of_DO_pure (C := dL11) dL11_ok Try.func61 rSector_fok (n := 100) (orc := [(10, Item.br false), (12, Item.br false), (15, Item.res (Value.bool true))]) (ps := [(bP (decide (n < 1) == false) false), (bP (decide (n < 1) == false) false), (pP (some (Value.bool true)) (none) ([]) (decide (n < 1)) (Value.bool true))]) (σ1 := []) (by kernel_rfl) ⟨bP_of (fun x => x == false) h0, ⟨bP_of (fun x => x == false) h0, ⟨pP_t _ _ _ (congrArg (fun bb => (bb)) h0), trivial⟩⟩⟩ rfl rfl
theorem rSector_p1 (b : Nat) (n : Int) (σ : AHeap) (h0 : (decide (n < 1)) = false) (h1 : (decide (n > 4096)) = true) : CallR Try.prog false 61 [Value.float .f64 b, Value.int .i64 n] σ (Value.tuple { toList := [Value.int IntKind.i64 (Int.ofNat 0), Value.int IntKind.i64 (Int.ofNat 2)] }) σ := CallR.of_DO_pure (C := dL11) dL11_ok Try.func61 rSector_fok (n := 100) (orc := [(10, Item.br true), (12, Item.br true), (15, Item.res (Value.bool (decide (n > 4096)))), (16, Item.br true)]) (ps := [(bP (decide (n < 1) == false) true), (bP (decide (n < 1) == false) true), (pP (some (Value.bool true)) (some (Value.bool (decide (n > 4096)))) ([]) (decide (n < 1)) (Value.bool (decide (n > 4096)))), (bP (decide (n > 4096)) true)]) (σ1 := []) (by kernel_rfl) ⟨bP_of (fun x => x == false) h0, ⟨bP_of (fun x => x == false) h0, ⟨pP_f _ _ _ (congrArg (fun bb => (bb)) h0), ⟨bP_of (fun x => x) h1, trivial⟩⟩⟩⟩ rfl rfl
theorem rSector_p2 (b : Nat) (n : Int) (σ : AHeap) (h0 : (decide (n < 1)) = false) (h1 : (decide (n > 4096)) = false) (h2 : (rIsFin_0 b) = true) (h3 : (okI IntKind.i64 (ffloor (fmul (rRound_0 (rWrap_0 b)) (FloatKind.f64.nearest n)))) = true) : CallR Try.prog false 61 [Value.float .f64 b, Value.int .i64 n] σ (Value.tuple { toList := [Value.int IntKind.i64 (if IntKind.i64.wrap (n - Int.ofNat 1) < toI (ffloor (fmul (rRound_0 (rWrap_0 b)) (FloatKind.f64.nearest n))) then IntKind.i64.wrap (n - Int.ofNat 1) else toI (ffloor (fmul (rRound_0 (rWrap_0 b)) (FloatKind.f64.nearest n)))), Value.int IntKind.i64 (Int.ofNat 0)] }) σ := CallR.of_DO_pure (C := dL11) dL11_ok Try.func61 rSector_fok (n := 100) (orc := [(10, Item.br true), (12, Item.br true), (15, Item.res (Value.bool (decide (n > 4096)))), (16, Item.br false), (23, Item.br false), (43, Item.res (Value.int IntKind.i64 (toI (ffloor (fmul (rRound_0 (rWrap_0 b)) (FloatKind.f64.nearest n))))))]) (ps := [(bP (decide (n < 1) == false) true), (bP (decide (n < 1) == false) true), (pP (some (Value.bool true)) (some (Value.bool (decide (n > 4096)))) ([]) (decide (n < 1)) (Value.bool (decide (n > 4096)))), (bP (decide (n > 4096)) false), (bP (!rIsFin_0 b) false), (convF (IntKind.i64) (ffloor (fmul (rRound_0 (rWrap_0 b)) (FloatKind.f64.nearest n))) ([]) = some (Value.int IntKind.i64 (toI (ffloor (fmul (rRound_0 (rWrap_0 b)) (FloatKind.f64.nearest n)))), []))]) (σ1 := []) (by kernel_rfl) ⟨bP_of (fun x => x == false) h0, ⟨bP_of (fun x => x == false) h0, ⟨pP_f _ _ _ (congrArg (fun bb => (bb)) h0), ⟨bP_of (fun x => x) h1, ⟨bP_of (fun x => !x) h2, ⟨convF_ok _ _ _ h3, trivial⟩⟩⟩⟩⟩⟩ rfl rfl
theorem rSector_p3 (b : Nat) (n : Int) (σ : AHeap) (h0 : (decide (n < 1)) = false) (h1 : (decide (n > 4096)) = false) (h2 : (rIsFin_0 b) = false) : CallR Try.prog false 61 [Value.float .f64 b, Value.int .i64 n] σ (Value.tuple { toList := [Value.int IntKind.i64 (Int.ofNat 0), Value.int IntKind.i64 (Int.ofNat 6)] }) σ := CallR.of_DO_pure (C := dL11) dL11_ok Try.func61 rSector_fok (n := 100) (orc := [(10, Item.br true), (12, Item.br true), (15, Item.res (Value.bool (decide (n > 4096)))), (16, Item.br false), (23, Item.br true)]) (ps := [(bP (decide (n < 1) == false) true), (bP (decide (n < 1) == false) true), (pP (some (Value.bool true)) (some (Value.bool (decide (n > 4096)))) ([]) (decide (n < 1)) (Value.bool (decide (n > 4096)))), (bP (decide (n > 4096)) false), (bP (!rIsFin_0 b) true)]) (σ1 := []) (by kernel_rfl) ⟨bP_of (fun x => x == false) h0, ⟨bP_of (fun x => x == false) h0, ⟨pP_f _ _ _ (congrArg (fun bb => (bb)) h0), ⟨bP_of (fun x => x) h1, ⟨bP_of (fun x => !x) h2, trivial⟩⟩⟩⟩⟩ rfl rfl
def rSector_t (b : Nat) (n : Int) : Value := (bif decide (n < 1) then (Value.tuple { toList := [Value.int IntKind.i64 (Int.ofNat 0), Value.int IntKind.i64 (Int.ofNat 2)] }) else (bif decide (n > 4096) then (Value.tuple { toList := [Value.int IntKind.i64 (Int.ofNat 0), Value.int IntKind.i64 (Int.ofNat 2)] }) else (bif rIsFin_0 b then (Value.tuple { toList := [Value.int IntKind.i64 (if IntKind.i64.wrap (n - Int.ofNat 1) < toI (ffloor (fmul (rRound_0 (rWrap_0 b)) (FloatKind.f64.nearest n))) then IntKind.i64.wrap (n - Int.ofNat 1) else toI (ffloor (fmul (rRound_0 (rWrap_0 b)) (FloatKind.f64.nearest n)))), Value.int IntKind.i64 (Int.ofNat 0)] }) else (Value.tuple { toList := [Value.int IntKind.i64 (Int.ofNat 0), Value.int IntKind.i64 (Int.ofNat 6)] }))))
theorem rSector_c (b : Nat) (n : Int) (σ : AHeap) (g2_3 : (decide
  (n <
    1)) = false → (decide
  (n >
    4096)) = false → (rIsFin_0
  b) = true → (okI IntKind.i64
  (ffloor
    (fmul (rRound_0 (rWrap_0 b))
      (FloatKind.f64.nearest
        n)))) = true) : CallR Try.prog false 61 [Value.float .f64 b, Value.int .i64 n] σ (rSector_t b n) σ := by
  unfold rSector_t
  exact (CallR.bif (fun h0 => (rSector_p0 b n σ h0)) (fun h0 => (CallR.bif (fun h1 => (rSector_p1 b n σ h0 h1)) (fun h1 => (CallR.bif (fun h2 => (rSector_p2 b n σ h0 h1 h2 (g2_3 h0 h1 h2))) (fun h2 => (rSector_p3 b n σ h0 h1 h2)))))))
def rSector_0 (b : Nat) (n : Int) : Int := (bif decide (n < 1) then Int.ofNat 0 else (bif decide (n > 4096) then Int.ofNat 0 else (bif rIsFin_0 b then if IntKind.i64.wrap (n - Int.ofNat 1) < toI (ffloor (fmul (rRound_0 (rWrap_0 b)) (FloatKind.f64.nearest n))) then IntKind.i64.wrap (n - Int.ofNat 1) else toI (ffloor (fmul (rRound_0 (rWrap_0 b)) (FloatKind.f64.nearest n))) else Int.ofNat 0)))
def rSector_1 (b : Nat) (n : Int) : Int := (bif decide (n < 1) then Int.ofNat 2 else (bif decide (n > 4096) then Int.ofNat 2 else (bif rIsFin_0 b then Int.ofNat 0 else Int.ofNat 6)))
theorem rSector_v (b : Nat) (n : Int) : rSector_t b n = Go.Value.tuple { toList := [Go.Value.int Go.IntKind.i64 (rSector_0 b n), Go.Value.int Go.IntKind.i64 (rSector_1 b n)] } := by
  unfold rSector_t rSector_0 rSector_1
  cases (decide (n < 1)) with
  | true =>
    kernel_rfl
  | false =>
    cases (decide (n > 4096)) with
    | true =>
      kernel_rfl
    | false =>
      cases (rIsFin_0 b) with
      | true =>
        kernel_rfl
      | false =>
        kernel_rfl
theorem rSector_ok (b : Nat) (n : Int) (σ : AHeap) (g2_3 : (decide
  (n <
    1)) = false → (decide
  (n >
    4096)) = false → (rIsFin_0
  b) = true → (okI IntKind.i64
  (ffloor
    (fmul (rRound_0 (rWrap_0 b))
      (FloatKind.f64.nearest
        n)))) = true) : CallR Try.prog false 61 [Value.float .f64 b,
  Value.int .i64
    n] σ (Go.Value.tuple { toList := [Go.Value.int Go.IntKind.i64 (rSector_0 b n), Go.Value.int Go.IntKind.i64 (rSector_1 b n)] }) σ := by
  have h := rSector_c b n σ g2_3
  rw [rSector_v] at h
  exact h
theorem gSameP_fok : fnOk (dL11) Try.f49 = true := by kernel_rfl
theorem gSameP_p0 (a : Nat) (b : Nat) (c : Nat) (d : Nat) (σ : AHeap) (h0 : (gSameF_0 a c) = true) : CallR Try.prog false 49 [Value.agg #[Value.float .f64 a, Value.float .f64 b], Value.agg #[Value.float .f64 c, Value.float .f64 d]] σ (Value.bool (gSameF_0 b d)) σ := CallR.of_DO_pure (C := dL11) dL11_ok Try.func49 gSameP_fok (n := 100) (orc := [(18, Item.br true), (20, Item.br true), (22, Item.br true), (24, Item.br true), (26, Item.br true), (29, Item.res (Value.bool (gSameF_0 b d)))]) (ps := [(bP (gSameF_0 a c == true) true), (bP (gSameF_0 a c == true) true), (bP (gSameF_0 a c == true) true), (bP (gSameF_0 a c == true) true), (bP (gSameF_0 a c == true) true), (pP (some (Value.bool (gSameF_0 b d))) (some (Value.bool false)) ([AObj.row [Value.float FloatKind.f64 a, Value.float FloatKind.f64 b] true none, AObj.row [Value.float FloatKind.f64 c, Value.float FloatKind.f64 d] true none]) (gSameF_0 a c) (Value.bool (gSameF_0 b d)))]) (σ1 := [AObj.row [Value.float FloatKind.f64 a, Value.float FloatKind.f64 b] true none, AObj.row [Value.float FloatKind.f64 c, Value.float FloatKind.f64 d] true none]) (by kernel_rfl) ⟨bP_of (fun x => x == true) h0, ⟨bP_of (fun x => x == true) h0, ⟨bP_of (fun x => x == true) h0, ⟨bP_of (fun x => x == true) h0, ⟨bP_of (fun x => x == true) h0, ⟨pP_t _ _ _ (congrArg (fun bb => (bb)) h0), trivial⟩⟩⟩⟩⟩⟩ rfl rfl
theorem gSameP_p1 (a : Nat) (b : Nat) (c : Nat) (d : Nat) (σ : AHeap) (h0 : (gSameF_0 a c) = false) : CallR Try.prog false 49 [Value.agg #[Value.float .f64 a, Value.float .f64 b], Value.agg #[Value.float .f64 c, Value.float .f64 d]] σ (Value.bool false) σ := CallR.of_DO_pure (C := dL11) dL11_ok Try.func49 gSameP_fok (n := 100) (orc := [(18, Item.br false), (20, Item.br false), (22, Item.br false), (24, Item.br false), (26, Item.br false), (29, Item.res (Value.bool false))]) (ps := [(bP (gSameF_0 a c == true) false), (bP (gSameF_0 a c == true) false), (bP (gSameF_0 a c == true) false), (bP (gSameF_0 a c == true) false), (bP (gSameF_0 a c == true) false), (pP (none) (some (Value.bool false)) ([AObj.row [Value.float FloatKind.f64 a, Value.float FloatKind.f64 b] true none, AObj.row [Value.float FloatKind.f64 c, Value.float FloatKind.f64 d] true none]) (gSameF_0 a c) (Value.bool false))]) (σ1 := [AObj.row [Value.float FloatKind.f64 a, Value.float FloatKind.f64 b] true none, AObj.row [Value.float FloatKind.f64 c, Value.float FloatKind.f64 d] true none]) (by kernel_rfl) ⟨bP_of (fun x => x == true) h0, ⟨bP_of (fun x => x == true) h0, ⟨bP_of (fun x => x == true) h0, ⟨bP_of (fun x => x == true) h0, ⟨bP_of (fun x => x == true) h0, ⟨pP_f _ _ _ (congrArg (fun bb => (bb)) h0), trivial⟩⟩⟩⟩⟩⟩ rfl rfl
def gSameP_t (a : Nat) (b : Nat) (c : Nat) (d : Nat) : Value := (bif gSameF_0 a c then (Value.bool (gSameF_0 b d)) else (Value.bool false))
theorem gSameP_c (a : Nat) (b : Nat) (c : Nat) (d : Nat) (σ : AHeap) : CallR Try.prog false 49 [Value.agg
    #[Value.float .f64 a, Value.float .f64 b],
  Value.agg #[Value.float .f64 c, Value.float .f64 d]] σ (gSameP_t a b c d) σ := by
  unfold gSameP_t
  exact (CallR.bif (fun h0 => (gSameP_p0 a b c d σ h0)) (fun h0 => (gSameP_p1 a b c d σ h0)))
def gSameP_0 (a : Nat) (b : Nat) (c : Nat) (d : Nat) : Bool := (bif gSameF_0 a c then gSameF_0 b d else false)
theorem gSameP_v (a : Nat) (b : Nat) (c : Nat) (d : Nat) : gSameP_t a b c d = Go.Value.bool (gSameP_0 a b c d) := by
  unfold gSameP_t gSameP_0
  cases (gSameF_0 a c) with
  | true =>
    kernel_rfl
  | false =>
    kernel_rfl
theorem gSameP_ok (a : Nat) (b : Nat) (c : Nat) (d : Nat) (σ : AHeap) : CallR Try.prog false 49 [Value.agg
    #[Value.float .f64 a, Value.float .f64 b],
  Value.agg #[Value.float .f64 c, Value.float .f64 d]] σ (Go.Value.bool (gSameP_0 a b c d)) σ := by
  have h := gSameP_c a b c d σ
  rw [gSameP_v] at h
  exact h
end Go.Lk
