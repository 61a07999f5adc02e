/- Modf, Wrap. -/
import Derived.Test.YtmomainjlncogaaLkJD
namespace Go.Lk
open Go.Proofs
set_option maxRecDepth 100000
set_option linter.unusedVariables false
set_option linter.unusedSimpArgs false
theorem wModf_fok : fnOk (d2) Try.f123 = true := by kernel_rfl
theorem wModf_p0 (x : Nat) (σ : AHeap) (h0 : (isNaN (fsub x (ftrunc x)) || !isNaN x) = true) : CallR Try.prog false 123 [Value.float .f64 x] σ (Value.tuple { toList := [Value.float .f64 (ftrunc x), Value.float .f64 (fcopysign (fsub x (ftrunc x)) x)] }) σ := CallR.of_DO_pure (C := d2) d2_ok Try.func123 wModf_fok (n := 100) (orc := [(19, Item.res (Value.float .f64 (fcopysign (fsub x (ftrunc x)) x)))]) (ps := [(gP (Value.float .f64 (fcopysign (fsub x (ftrunc x)) x)) ([]) (isNaN (fsub x (ftrunc x)) || !isNaN x))]) (σ1 := []) (by kernel_rfl) ⟨gP_true _ _ h0, trivial⟩ rfl rfl
def wModf_t (x : Nat) : Value := (Value.tuple { toList := [Value.float .f64 (ftrunc x), Value.float .f64 (fcopysign (fsub x (ftrunc x)) x)] })
theorem wModf_c (x : Nat) (σ : AHeap) (g0_0 : (isNaN (fsub x (ftrunc x)) ||
  !isNaN x) = true) : CallR Try.prog false 123 [Value.float .f64 x] σ (wModf_t x) σ := by
  unfold wModf_t
  exact (wModf_p0 x σ (g0_0))
def wModf_0 (x : Nat) : Nat := ftrunc x
def wModf_1 (x : Nat) : Nat := fcopysign (fsub x (ftrunc x)) x
theorem wModf_v (x : Nat) : wModf_t x = Go.Value.tuple { toList := [Go.Value.float Go.FloatKind.f64 (wModf_0 x), Go.Value.float Go.FloatKind.f64 (wModf_1 x)] } := by
  unfold wModf_t wModf_0 wModf_1
  kernel_rfl
theorem wModf_ok (x : Nat) (σ : AHeap) (g0_0 : (isNaN (fsub x (ftrunc x)) ||
  !isNaN
      x) = true) : CallR Try.prog false 123 [Value.float .f64
    x] σ (Go.Value.tuple { toList := [Go.Value.float Go.FloatKind.f64 (wModf_0 x), Go.Value.float Go.FloatKind.f64 (wModf_1 x)] }) σ := by
  have h := wModf_c x σ g0_0
  rw [wModf_v] at h
  exact h
def sModf : PureFn
  | [.float .f64 x] => bif feq (fsub x x) 0 then some (.tuple #[.float .f64 (ftrunc x), .float .f64 (fcopysign (fsub x (ftrunc x)) x)]) else none
  | _ => none
theorem sModf_ok : IsPure Try.prog false 123 sModf := by
  intro args v σ h
  unfold sModf at h
  split at h
  · rename_i x
    cases hb : feq (fsub x x) 0
    · rw [hb] at h; cases h
    · rw [hb] at h
      cases h
      refine wModf_c x σ ?_
      have : isNaN x = false := by
        cases hn : isNaN x
        · rfl
        · rw [fsub_nan_l hn, feq_nan_l isNaN_qnan] at hb; cases hb
      rw [this]; simp
  · cases h
theorem feq_self (x : Nat) : feq x x = !isNaN x := by
  rcases three x with h | h | h
  · rw [feq_fin h h, fin_num h]; simp
  · have : isNaN x = false := by rw [isNaN_iff, h]; decide
    rw [this]
    unfold feq Ieee.Format.order
    rw [read_inf h]
    cases sg x <;> rfl
  · rw [feq_nan_l h, h]; rfl
def sBits : PureFn
  | [.float .f64 x] => bif feq x x then some (.int .u64 x) else none
  | _ => none
theorem sBits_ok : IsPure Try.prog false 80 sBits := by
  refine (xBits_ok false b80).of_sub fun args v h => ?_
  unfold sBits at h
  split at h
  · rename_i x
    rw [feq_self] at h
    exact h
  · cases h
def sSign : PureFn
  | [.float .f64 x] => bif feq x x then some (.bool (sg x)) else none
  | _ => none
theorem sSign_ok : IsPure Try.prog false 34 sSign := by
  refine sSignbit_ok.of_sub fun args v h => ?_
  unfold sSign at h
  split at h
  · rename_i x
    rw [feq_self] at h
    unfold sSignbit
    cases hn : isNaN x
    · rw [hn] at h; simp only [hn, cond_false]; exact h
    · rw [hn] at h; cases h
  · cases h
noncomputable def t3 : Tab := (((t2.addP 123 sModf).addP 80 sBits).addP 34 sSign)
theorem t3_ok : t3.Ok Try.prog false := (Tab.Ok.addP (Tab.Ok.addP (Tab.Ok.addP t2_ok sModf_ok) sBits_ok) sSign_ok)
noncomputable def L3a : Lib := ⟨Try.prog, false, t3, [(181, Try.f181), (160, Try.f160), (69, Try.f69), (55, Try.f55), (33, Try.f33), (127, Try.f127), (128, Try.f128), (207, Try.f207), (43, Try.f43), (122, Try.f122), (133, Try.f133), (134, Try.f134), (135, Try.f135), (136, Try.f136), (137, Try.f137), (142, Try.f142), (109, Try.f109)], []⟩
theorem L3a_fp : ∀ e, e ∈ L3a.pures → Try.prog.funcs[e.1]? = some e.2 := fs_cons Try.func181 (fs_cons Try.func160 (fs_cons Try.func69 (fs_cons Try.func55 (fs_cons Try.func33 (fs_cons Try.func127 (fs_cons Try.func128 (fs_cons Try.func207 (fs_cons Try.func43 (fs_cons Try.func122 (fs_cons Try.func133 (fs_cons Try.func134 (fs_cons Try.func135 (fs_cons Try.func136 (fs_cons Try.func137 (fs_cons Try.func142 (fs_cons Try.func109 (fs_nil)))))))))))))))))
theorem L3a_fh : ∀ e, e ∈ L3a.heaps → Try.prog.funcs[e.1]? = some e.2.2 := gs_nil
theorem L3a_p1 (gp : Nat → PureFn) (g : Nat → HeapFn) : (L3a.pures.all fun e => fnOk (L3a.mk' gp g) e.2) = true := by kernel_rfl
theorem L3a_h1 (gp : Nat → PureFn) (g : Nat → HeapFn) : (L3a.heaps.all fun e => fnOk (L3a.mk' gp g) e.2.2 && (!e.2.1 || fnRo (L3a.mk' gp g) e.2.2)) = true := by kernel_rfl
theorem L3a_ok : L3a.Ok := ⟨t3_ok, mixed, L3a_fp, L3a_fh, L3a_p1, L3a_h1⟩
noncomputable def dL3a : Cfg := L3a.cfg 100 4
theorem dL3a_ok : dL3a.Ok := L3a_ok.cfg 100 4

theorem wWrap_fok : fnOk (dL3a) Try.f32 = true := by kernel_rfl
theorem wWrap_p0 (x : Nat) (σ : AHeap) (h0 : (feq (fsub x x) 0) = true) (h1 : (fge (fcopysign (fsub x (ftrunc x)) x) 4602678819172646912) = true) : CallR Try.prog false 32 [Value.float .f64 x] σ (Value.float .f64 (fadd (fsub (fcopysign (fsub x (ftrunc x)) x) 4607182418800017408) 0)) σ := CallR.of_DO_pure (C := dL3a) dL3a_ok Try.func32 wWrap_fok (n := 100) (orc := [(10, Item.br false), (14, Item.res (Value.tuple { toList := [Value.float .f64 (ftrunc x), Value.float .f64 (fcopysign (fsub x (ftrunc x)) x)] })), (31, Item.br true)]) (ps := [(bP (!feq (fsub x x) 0) false), (gP (Value.tuple { toList := [Value.float .f64 (ftrunc x), Value.float .f64 (fcopysign (fsub x (ftrunc x)) x)] }) ([]) (feq (fsub x x) 0)), (bP (fge (fcopysign (fsub x (ftrunc x)) x) 4602678819172646912) true)]) (σ1 := []) (by kernel_rfl) ⟨bP_of (fun x => !x) h0, ⟨gP_true _ _ h0, ⟨bP_of (fun x => x) h1, trivial⟩⟩⟩ rfl rfl
theorem wWrap_p1 (x : Nat) (σ : AHeap) (h0 : (feq (fsub x x) 0) = true) (h1 : (fge (fcopysign (fsub x (ftrunc x)) x) 4602678819172646912) = false) (h2 : (flt (fcopysign (fsub x (ftrunc x)) x) 13826050856027422720) = true) : CallR Try.prog false 32 [Value.float .f64 x] σ (Value.float .f64 (fadd (fadd (fcopysign (fsub x (ftrunc x)) x) 4607182418800017408) 0)) σ := CallR.of_DO_pure (C := dL3a) dL3a_ok Try.func32 wWrap_fok (n := 100) (orc := [(10, Item.br false), (14, Item.res (Value.tuple { toList := [Value.float .f64 (ftrunc x), Value.float .f64 (fcopysign (fsub x (ftrunc x)) x)] })), (31, Item.br false), (38, Item.br true)]) (ps := [(bP (!feq (fsub x x) 0) false), (gP (Value.tuple { toList := [Value.float .f64 (ftrunc x), Value.float .f64 (fcopysign (fsub x (ftrunc x)) x)] }) ([]) (feq (fsub x x) 0)), (bP (fge (fcopysign (fsub x (ftrunc x)) x) 4602678819172646912) false), (bP (flt (fcopysign (fsub x (ftrunc x)) x) 13826050856027422720) true)]) (σ1 := []) (by kernel_rfl) ⟨bP_of (fun x => !x) h0, ⟨gP_true _ _ h0, ⟨bP_of (fun x => x) h1, ⟨bP_of (fun x => x) h2, trivial⟩⟩⟩⟩ rfl rfl
theorem wWrap_p2 (x : Nat) (σ : AHeap) (h0 : (feq (fsub x x) 0) = true) (h1 : (fge (fcopysign (fsub x (ftrunc x)) x) 4602678819172646912) = false) (h2 : (flt (fcopysign (fsub x (ftrunc x)) x) 13826050856027422720) = false) : CallR Try.prog false 32 [Value.float .f64 x] σ (Value.float .f64 (fadd (fcopysign (fsub x (ftrunc x)) x) 0)) σ := CallR.of_DO_pure (C := dL3a) dL3a_ok Try.func32 wWrap_fok (n := 100) (orc := [(10, Item.br false), (14, Item.res (Value.tuple { toList := [Value.float .f64 (ftrunc x), Value.float .f64 (fcopysign (fsub x (ftrunc x)) x)] })), (31, Item.br false), (38, Item.br false)]) (ps := [(bP (!feq (fsub x x) 0) false), (gP (Value.tuple { toList := [Value.float .f64 (ftrunc x), Value.float .f64 (fcopysign (fsub x (ftrunc x)) x)] }) ([]) (feq (fsub x x) 0)), (bP (fge (fcopysign (fsub x (ftrunc x)) x) 4602678819172646912) false), (bP (flt (fcopysign (fsub x (ftrunc x)) x) 13826050856027422720) false)]) (σ1 := []) (by kernel_rfl) ⟨bP_of (fun x => !x) h0, ⟨gP_true _ _ h0, ⟨bP_of (fun x => x) h1, ⟨bP_of (fun x => x) h2, trivial⟩⟩⟩⟩ rfl rfl
theorem wWrap_p3 (x : Nat) (σ : AHeap) (h0 : (feq (fsub x x) 0) = false) : CallR Try.prog false 32 [Value.float .f64 x] σ (Value.float .f64 9221120237041090561) σ := CallR.of_DO_pure (C := dL3a) dL3a_ok Try.func32 wWrap_fok (n := 100) (orc := [(10, Item.br true)]) (ps := [(bP (!feq (fsub x x) 0) true)]) (σ1 := []) (by kernel_rfl) ⟨bP_of (fun x => !x) h0, trivial⟩ rfl rfl
def wWrap_t (x : Nat) : Value := (bif feq (fsub x x) 0 then (bif fge (fcopysign (fsub x (ftrunc x)) x) 4602678819172646912 then (Value.float .f64 (fadd (fsub (fcopysign (fsub x (ftrunc x)) x) 4607182418800017408) 0)) else (bif flt (fcopysign (fsub x (ftrunc x)) x) 13826050856027422720 then (Value.float .f64 (fadd (fadd (fcopysign (fsub x (ftrunc x)) x) 4607182418800017408) 0)) else (Value.float .f64 (fadd (fcopysign (fsub x (ftrunc x)) x) 0)))) else (Value.float .f64 9221120237041090561))
theorem wWrap_c (x : Nat) (σ : AHeap) : CallR Try.prog false 32 [Value.float .f64 x] σ (wWrap_t x) σ := by
  unfold wWrap_t
  exact (CallR.bif (fun h0 => (CallR.bif (fun h1 => (wWrap_p0 x σ h0 h1)) (fun h1 => (CallR.bif (fun h2 => (wWrap_p1 x σ h0 h1 h2)) (fun h2 => (wWrap_p2 x σ h0 h1 h2)))))) (fun h0 => (wWrap_p3 x σ h0)))
def wWrap_0 (x : Nat) : Nat := (bif feq (fsub x x) 0 then (bif fge (fcopysign (fsub x (ftrunc x)) x) 4602678819172646912 then fadd (fsub (fcopysign (fsub x (ftrunc x)) x) 4607182418800017408) 0 else (bif flt (fcopysign (fsub x (ftrunc x)) x) 13826050856027422720 then fadd (fadd (fcopysign (fsub x (ftrunc x)) x) 4607182418800017408) 0 else fadd (fcopysign (fsub x (ftrunc x)) x) 0)) else 9221120237041090561)
theorem wWrap_v (x : Nat) : wWrap_t x = Go.Value.float Go.FloatKind.f64 (wWrap_0 x) := by
  unfold wWrap_t wWrap_0
  cases (feq (fsub x x) 0) with
  | true =>
    cases (fge (fcopysign (fsub x (ftrunc x)) x) 4602678819172646912) with
    | true =>
      kernel_rfl
    | false =>
      cases (flt (fcopysign (fsub x (ftrunc x)) x) 13826050856027422720) with
      | true =>
        kernel_rfl
      | false =>
        kernel_rfl
  | false =>
    kernel_rfl
theorem wWrap_ok (x : Nat) (σ : AHeap) : CallR Try.prog false 32 [Value.float .f64
    x] σ (Go.Value.float Go.FloatKind.f64 (wWrap_0 x)) σ := by
  have h := wWrap_c x σ
  rw [wWrap_v] at h
  exact h
theorem wWrap_eq (x : Nat) : wWrap_0 x = wrapP x := by
  unfold wWrap_0 wrapP wStep half fone mhalf
  cases feq (fsub x x) 0
  · rfl
  · cases fge (fcopysign (fsub x (ftrunc x)) x) 4602678819172646912
    · cases flt (fcopysign (fsub x (ftrunc x)) x) 13826050856027422720 <;> rfl
    · rfl
theorem rIsNaN_fok : fnOk (dL3a) Try.f127 = true := by kernel_rfl
theorem rIsNaN_p0 (x : Nat) (σ : AHeap) : CallR Try.prog false 127 [Value.float .f64 x] σ (Value.bool !feq x x) σ := CallR.of_DO_pure (C := dL3a) dL3a_ok Try.func127 rIsNaN_fok (n := 100) (orc := []) (ps := []) (σ1 := []) (by kernel_rfl) trivial rfl rfl
def rIsNaN_t (x : Nat) : Value := (Value.bool !feq x x)
theorem rIsNaN_c (x : Nat) (σ : AHeap) : CallR Try.prog false 127 [Value.float .f64 x] σ (rIsNaN_t x) σ := by
  unfold rIsNaN_t
  exact (rIsNaN_p0 x σ)
def rIsNaN_0 (x : Nat) : Bool := !feq x x
theorem rIsNaN_v (x : Nat) : rIsNaN_t x = Go.Value.bool (rIsNaN_0 x) := by
  unfold rIsNaN_t rIsNaN_0
  kernel_rfl
theorem rIsNaN_ok (x : Nat) (σ : AHeap) : CallR Try.prog false 127 [Value.float .f64
    x] σ (Go.Value.bool (rIsNaN_0 x)) σ := by
  have h := rIsNaN_c x σ
  rw [rIsNaN_v] at h
  exact h
theorem rIsInf_fok : fnOk (dL3a) Try.f128 = true := by kernel_rfl
theorem rIsInf_p0 (x : Nat) (σ : AHeap) : CallR Try.prog false 128 [Value.float .f64 x, Value.int .i64 0] σ (Value.bool (fgt (fabs x) 9218868437227405311)) σ := CallR.of_DO_pure (C := dL3a) dL3a_ok Try.func128 rIsInf_fok (n := 100) (orc := []) (ps := []) (σ1 := []) (by kernel_rfl) trivial rfl rfl
def rIsInf_t (x : Nat) : Value := (Value.bool (fgt (fabs x) 9218868437227405311))
theorem rIsInf_c (x : Nat) (σ : AHeap) : CallR Try.prog false 128 [Value.float .f64 x,
  Value.int .i64 0] σ (rIsInf_t x) σ := by
  unfold rIsInf_t
  exact (rIsInf_p0 x σ)
def rIsInf_0 (x : Nat) : Bool := fgt (fabs x) 9218868437227405311
theorem rIsInf_v (x : Nat) : rIsInf_t x = Go.Value.bool (rIsInf_0 x) := by
  unfold rIsInf_t rIsInf_0
  kernel_rfl
theorem rIsInf_ok (x : Nat) (σ : AHeap) : CallR Try.prog false 128 [Value.float .f64 x,
  Value.int .i64 0] σ (Go.Value.bool (rIsInf_0 x)) σ := by
  have h := rIsInf_c x σ
  rw [rIsInf_v] at h
  exact h
theorem rWrap_fok : fnOk (dL3a) Try.f41 = true := by kernel_rfl
theorem rWrap_p0 (x : Nat) (σ : AHeap) (h0 : (feq x x) = true) (h1 : (fgt (fabs x) 9218868437227405311) = true) : CallR Try.prog false 41 [Value.float .f64 x] σ (Value.float .f64 9221120237041090561) σ := CallR.of_DO_pure (C := dL3a) dL3a_ok Try.func41 rWrap_fok (n := 100) (orc := [(8, Item.br true), (10, Item.br true), (13, Item.res (Value.bool (fgt (fabs x) 9218868437227405311))), (14, Item.br true)]) (ps := [(bP ((!feq x x) == false) true), (bP ((!feq x x) == false) true), (pP (some (Value.bool true)) (some (Value.bool (fgt (fabs x) 9218868437227405311))) ([]) (!feq x x) (Value.bool (fgt (fabs x) 9218868437227405311))), (bP (fgt (fabs x) 9218868437227405311) true)]) (σ1 := []) (by kernel_rfl) ⟨bP_of (fun x => (!x) == false) h0, ⟨bP_of (fun x => (!x) == false) h0, ⟨pP_f _ _ _ (congrArg (fun bb => (!bb)) h0), ⟨bP_of (fun x => x) h1, trivial⟩⟩⟩⟩ rfl rfl
theorem rWrap_p1 (x : Nat) (σ : AHeap) (h0 : (feq x x) = true) (h1 : (fgt (fabs x) 9218868437227405311) = false) (h2 : (flt x 0) = true) (h3 : (fge (fsub x (aneg false (ffloor (aneg false x)))) 4602678819172646912) = true) : CallR Try.prog false 41 [Value.float .f64 x] σ (Value.float .f64 (fsub (fsub x (aneg false (ffloor (aneg false x)))) 4607182418800017408)) σ := CallR.of_DO_pure (C := dL3a) dL3a_ok Try.func41 rWrap_fok (n := 100) (orc := [(8, Item.br true), (10, Item.br true), (13, Item.res (Value.bool (fgt (fabs x) 9218868437227405311))), (14, Item.br false), (25, Item.br true), (48, Item.br true)]) (ps := [(bP ((!feq x x) == false) true), (bP ((!feq x x) == false) true), (pP (some (Value.bool true)) (some (Value.bool (fgt (fabs x) 9218868437227405311))) ([]) (!feq x x) (Value.bool (fgt (fabs x) 9218868437227405311))), (bP (fgt (fabs x) 9218868437227405311) false), (bP (flt x 0) true), (bP (fge (fsub x (aneg false (ffloor (aneg false x)))) 4602678819172646912) true)]) (σ1 := []) (by kernel_rfl) ⟨bP_of (fun x => (!x) == false) h0, ⟨bP_of (fun x => (!x) == false) h0, ⟨pP_f _ _ _ (congrArg (fun bb => (!bb)) h0), ⟨bP_of (fun x => x) h1, ⟨bP_of (fun x => x) h2, ⟨bP_of (fun x => x) h3, trivial⟩⟩⟩⟩⟩⟩ rfl rfl
theorem rWrap_p2 (x : Nat) (σ : AHeap) (h0 : (feq x x) = true) (h1 : (fgt (fabs x) 9218868437227405311) = false) (h2 : (flt x 0) = true) (h3 : (fge (fsub x (aneg false (ffloor (aneg false x)))) 4602678819172646912) = false) (h4 : (flt (fsub x (aneg false (ffloor (aneg false x)))) 13826050856027422720) = true) : CallR Try.prog false 41 [Value.float .f64 x] σ (Value.float .f64 (fadd (fsub x (aneg false (ffloor (aneg false x)))) 4607182418800017408)) σ := CallR.of_DO_pure (C := dL3a) dL3a_ok Try.func41 rWrap_fok (n := 100) (orc := [(8, Item.br true), (10, Item.br true), (13, Item.res (Value.bool (fgt (fabs x) 9218868437227405311))), (14, Item.br false), (25, Item.br true), (48, Item.br false), (53, Item.br true)]) (ps := [(bP ((!feq x x) == false) true), (bP ((!feq x x) == false) true), (pP (some (Value.bool true)) (some (Value.bool (fgt (fabs x) 9218868437227405311))) ([]) (!feq x x) (Value.bool (fgt (fabs x) 9218868437227405311))), (bP (fgt (fabs x) 9218868437227405311) false), (bP (flt x 0) true), (bP (fge (fsub x (aneg false (ffloor (aneg false x)))) 4602678819172646912) false), (bP (flt (fsub x (aneg false (ffloor (aneg false x)))) 13826050856027422720) true)]) (σ1 := []) (by kernel_rfl) ⟨bP_of (fun x => (!x) == false) h0, ⟨bP_of (fun x => (!x) == false) h0, ⟨pP_f _ _ _ (congrArg (fun bb => (!bb)) h0), ⟨bP_of (fun x => x) h1, ⟨bP_of (fun x => x) h2, ⟨bP_of (fun x => x) h3, ⟨bP_of (fun x => x) h4, trivial⟩⟩⟩⟩⟩⟩⟩ rfl rfl
theorem rWrap_p3 (x : Nat) (σ : AHeap) (h0 : (feq x x) = true) (h1 : (fgt (fabs x) 9218868437227405311) = false) (h2 : (flt x 0) = true) (h3 : (fge (fsub x (aneg false (ffloor (aneg false x)))) 4602678819172646912) = false) (h4 : (flt (fsub x (aneg false (ffloor (aneg false x)))) 13826050856027422720) = false) : CallR Try.prog false 41 [Value.float .f64 x] σ (Value.float .f64 (fsub x (aneg false (ffloor (aneg false x))))) σ := CallR.of_DO_pure (C := dL3a) dL3a_ok Try.func41 rWrap_fok (n := 100) (orc := [(8, Item.br true), (10, Item.br true), (13, Item.res (Value.bool (fgt (fabs x) 9218868437227405311))), (14, Item.br false), (25, Item.br true), (48, Item.br false), (53, Item.br false)]) (ps := [(bP ((!feq x x) == false) true), (bP ((!feq x x) == false) true), (pP (some (Value.bool true)) (some (Value.bool (fgt (fabs x) 9218868437227405311))) ([]) (!feq x x) (Value.bool (fgt (fabs x) 9218868437227405311))), (bP (fgt (fabs x) 9218868437227405311) false), (bP (flt x 0) true), (bP (fge (fsub x (aneg false (ffloor (aneg false x)))) 4602678819172646912) false), (bP (flt (fsub x (aneg false (ffloor (aneg false x)))) 13826050856027422720) false)]) (σ1 := []) (by kernel_rfl) ⟨bP_of (fun x => (!x) == false) h0, ⟨bP_of (fun x => (!x) == false) h0, ⟨pP_f _ _ _ (congrArg (fun bb => (!bb)) h0), ⟨bP_of (fun x => x) h1, ⟨bP_of (fun x => x) h2, ⟨bP_of (fun x => x) h3, ⟨bP_of (fun x => x) h4, trivial⟩⟩⟩⟩⟩⟩⟩ rfl rfl
theorem rWrap_p4 (x : Nat) (σ : AHeap) (h0 : (feq x x) = true) (h1 : (fgt (fabs x) 9218868437227405311) = false) (h2 : (flt x 0) = false) (h3 : (fge (fsub x (ffloor x)) 4602678819172646912) = true) : CallR Try.prog false 41 [Value.float .f64 x] σ (Value.float .f64 (fsub (fsub x (ffloor x)) 4607182418800017408)) σ := CallR.of_DO_pure (C := dL3a) dL3a_ok Try.func41 rWrap_fok (n := 100) (orc := [(8, Item.br true), (10, Item.br true), (13, Item.res (Value.bool (fgt (fabs x) 9218868437227405311))), (14, Item.br false), (25, Item.br false), (38, Item.br true)]) (ps := [(bP ((!feq x x) == false) true), (bP ((!feq x x) == false) true), (pP (some (Value.bool true)) (some (Value.bool (fgt (fabs x) 9218868437227405311))) ([]) (!feq x x) (Value.bool (fgt (fabs x) 9218868437227405311))), (bP (fgt (fabs x) 9218868437227405311) false), (bP (flt x 0) false), (bP (fge (fsub x (ffloor x)) 4602678819172646912) true)]) (σ1 := []) (by kernel_rfl) ⟨bP_of (fun x => (!x) == false) h0, ⟨bP_of (fun x => (!x) == false) h0, ⟨pP_f _ _ _ (congrArg (fun bb => (!bb)) h0), ⟨bP_of (fun x => x) h1, ⟨bP_of (fun x => x) h2, ⟨bP_of (fun x => x) h3, trivial⟩⟩⟩⟩⟩⟩ rfl rfl
theorem rWrap_p5 (x : Nat) (σ : AHeap) (h0 : (feq x x) = true) (h1 : (fgt (fabs x) 9218868437227405311) = false) (h2 : (flt x 0) = false) (h3 : (fge (fsub x (ffloor x)) 4602678819172646912) = false) (h4 : (flt (fsub x (ffloor x)) 13826050856027422720) = true) : CallR Try.prog false 41 [Value.float .f64 x] σ (Value.float .f64 (fadd (fsub x (ffloor x)) 4607182418800017408)) σ := CallR.of_DO_pure (C := dL3a) dL3a_ok Try.func41 rWrap_fok (n := 100) (orc := [(8, Item.br true), (10, Item.br true), (13, Item.res (Value.bool (fgt (fabs x) 9218868437227405311))), (14, Item.br false), (25, Item.br false), (38, Item.br false), (43, Item.br true)]) (ps := [(bP ((!feq x x) == false) true), (bP ((!feq x x) == false) true), (pP (some (Value.bool true)) (some (Value.bool (fgt (fabs x) 9218868437227405311))) ([]) (!feq x x) (Value.bool (fgt (fabs x) 9218868437227405311))), (bP (fgt (fabs x) 9218868437227405311) false), (bP (flt x 0) false), (bP (fge (fsub x (ffloor x)) 4602678819172646912) false), (bP (flt (fsub x (ffloor x)) 13826050856027422720) true)]) (σ1 := []) (by kernel_rfl) ⟨bP_of (fun x => (!x) == false) h0, ⟨bP_of (fun x => (!x) == false) h0, ⟨pP_f _ _ _ (congrArg (fun bb => (!bb)) h0), ⟨bP_of (fun x => x) h1, ⟨bP_of (fun x => x) h2, ⟨bP_of (fun x => x) h3, ⟨bP_of (fun x => x) h4, trivial⟩⟩⟩⟩⟩⟩⟩ rfl rfl
theorem rWrap_p6 (x : Nat) (σ : AHeap) (h0 : (feq x x) = true) (h1 : (fgt (fabs x) 9218868437227405311) = false) (h2 : (flt x 0) = false) (h3 : (fge (fsub x (ffloor x)) 4602678819172646912) = false) (h4 : (flt (fsub x (ffloor x)) 13826050856027422720) = false) : CallR Try.prog false 41 [Value.float .f64 x] σ (Value.float .f64 (fsub x (ffloor x))) σ := CallR.of_DO_pure (C := dL3a) dL3a_ok Try.func41 rWrap_fok (n := 100) (orc := [(8, Item.br true), (10, Item.br true), (13, Item.res (Value.bool (fgt (fabs x) 9218868437227405311))), (14, Item.br false), (25, Item.br false), (38, Item.br false), (43, Item.br false)]) (ps := [(bP ((!feq x x) == false) true), (bP ((!feq x x) == false) true), (pP (some (Value.bool true)) (some (Value.bool (fgt (fabs x) 9218868437227405311))) ([]) (!feq x x) (Value.bool (fgt (fabs x) 9218868437227405311))), (bP (fgt (fabs x) 9218868437227405311) false), (bP (flt x 0) false), (bP (fge (fsub x (ffloor x)) 4602678819172646912) false), (bP (flt (fsub x (ffloor x)) 13826050856027422720) false)]) (σ1 := []) (by kernel_rfl) ⟨bP_of (fun x => (!x) == false) h0, ⟨bP_of (fun x => (!x) == false) h0, ⟨pP_f _ _ _ (congrArg (fun bb => (!bb)) h0), ⟨bP_of (fun x => x) h1, ⟨bP_of (fun x => x) h2, ⟨bP_of (fun x => x) h3, ⟨bP_of (fun x => x) h4, trivial⟩⟩⟩⟩⟩⟩⟩ rfl rfl
theorem rWrap_p7 (x : Nat) (σ : AHeap) (h0 : (feq x x) = false) : CallR Try.prog false 41 [Value.float .f64 x] σ (Value.float .f64 9221120237041090561) σ := CallR.of_DO_pure (C := dL3a) dL3a_ok Try.func41 rWrap_fok (n := 100) (orc := [(8, Item.br false), (10, Item.br false), (13, Item.res (Value.bool true))]) (ps := [(bP ((!feq x x) == false) false), (bP ((!feq x x) == false) false), (pP (some (Value.bool true)) (none) ([]) (!feq x x) (Value.bool true))]) (σ1 := []) (by kernel_rfl) ⟨bP_of (fun x => (!x) == false) h0, ⟨bP_of (fun x => (!x) == false) h0, ⟨pP_t _ _ _ (congrArg (fun bb => (!bb)) h0), trivial⟩⟩⟩ rfl rfl
def rWrap_t (x : Nat) : Value := (bif feq x x then (bif fgt (fabs x) 9218868437227405311 then (Value.float .f64 9221120237041090561) else (bif flt x 0 then (bif fge (fsub x (aneg false (ffloor (aneg false x)))) 4602678819172646912 then (Value.float .f64 (fsub (fsub x (aneg false (ffloor (aneg false x)))) 4607182418800017408)) else (bif flt (fsub x (aneg false (ffloor (aneg false x)))) 13826050856027422720 then (Value.float .f64 (fadd (fsub x (aneg false (ffloor (aneg false x)))) 4607182418800017408)) else (Value.float .f64 (fsub x (aneg false (ffloor (aneg false x))))))) else (bif fge (fsub x (ffloor x)) 4602678819172646912 then (Value.float .f64 (fsub (fsub x (ffloor x)) 4607182418800017408)) else (bif flt (fsub x (ffloor x)) 13826050856027422720 then (Value.float .f64 (fadd (fsub x (ffloor x)) 4607182418800017408)) else (Value.float .f64 (fsub x (ffloor x))))))) else (Value.float .f64 9221120237041090561))
theorem rWrap_c (x : Nat) (σ : AHeap) : CallR Try.prog false 41 [Value.float .f64 x] σ (rWrap_t x) σ := by
  unfold rWrap_t
  exact (CallR.bif (fun h0 => (CallR.bif (fun h1 => (rWrap_p0 x σ h0 h1)) (fun h1 => (CallR.bif (fun h2 => (CallR.bif (fun h3 => (rWrap_p1 x σ h0 h1 h2 h3)) (fun h3 => (CallR.bif (fun h4 => (rWrap_p2 x σ h0 h1 h2 h3 h4)) (fun h4 => (rWrap_p3 x σ h0 h1 h2 h3 h4)))))) (fun h2 => (CallR.bif (fun h3 => (rWrap_p4 x σ h0 h1 h2 h3)) (fun h3 => (CallR.bif (fun h4 => (rWrap_p5 x σ h0 h1 h2 h3 h4)) (fun h4 => (rWrap_p6 x σ h0 h1 h2 h3 h4)))))))))) (fun h0 => (rWrap_p7 x σ h0)))
def rWrap_0 (x : Nat) : Nat := (bif feq x x then (bif fgt (fabs x) 9218868437227405311 then 9221120237041090561 else (bif flt x 0 then (bif fge (fsub x (aneg false (ffloor (aneg false x)))) 4602678819172646912 then fsub (fsub x (aneg false (ffloor (aneg false x)))) 4607182418800017408 else (bif flt (fsub x (aneg false (ffloor (aneg false x)))) 13826050856027422720 then fadd (fsub x (aneg false (ffloor (aneg false x)))) 4607182418800017408 else fsub x (aneg false (ffloor (aneg false x))))) else (bif fge (fsub x (ffloor x)) 4602678819172646912 then fsub (fsub x (ffloor x)) 4607182418800017408 else (bif flt (fsub x (ffloor x)) 13826050856027422720 then fadd (fsub x (ffloor x)) 4607182418800017408 else fsub x (ffloor x))))) else 9221120237041090561)
theorem rWrap_v (x : Nat) : rWrap_t x = Go.Value.float Go.FloatKind.f64 (rWrap_0 x) := by
  unfold rWrap_t rWrap_0
  cases (feq x x) with
  | true =>
    cases (fgt (fabs x) 9218868437227405311) with
    | true =>
      kernel_rfl
    | false =>
      cases (flt x 0) with
      | true =>
        cases (fge (fsub x (aneg false (ffloor (aneg false x)))) 4602678819172646912) with
        | true =>
          kernel_rfl
        | false =>
          cases (flt (fsub x (aneg false (ffloor (aneg false x)))) 13826050856027422720) with
          | true =>
            kernel_rfl
          | false =>
            kernel_rfl
      | false =>
        cases (fge (fsub x (ffloor x)) 4602678819172646912) with
        | true =>
          kernel_rfl
        | false =>
          cases (flt (fsub x (ffloor x)) 13826050856027422720) with
          | true =>
            kernel_rfl
          | false =>
            kernel_rfl
  | false =>
    kernel_rfl
theorem rWrap_ok (x : Nat) (σ : AHeap) : CallR Try.prog false 41 [Value.float .f64
    x] σ (Go.Value.float Go.FloatKind.f64 (rWrap_0 x)) σ := by
  have h := rWrap_c x σ
  rw [rWrap_v] at h
  exact h
end Go.Lk
