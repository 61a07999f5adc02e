/- Modf, Wrap. -/
import Derived.Test.YtmomainjlncogaaLkMY
namespace Go.Lk
open Go.Proofs
set_option maxRecDepth 100000
set_option linter.unusedVariables false
set_option linter.unusedSimpArgs false
theorem wModf_fok : fnOk (d2) Try.f123 = true := by kernel_rfl
theorem wModf_p0 (x : Nat) (σ : AHeap) (h0 : (Go.Lk.isNaN (Go.Lk.fsub x (Go.Lk.ftrunc x)) || !Go.Lk.isNaN x) = true) : CallR Try.prog false 123 [Value.float .f64 x] σ (Go.Value.tuple { toList := [Go.Value.float Go.FloatKind.f64 (Go.Lk.ftrunc x), Go.Value.float Go.FloatKind.f64 (Go.Lk.fcopysign (Go.Lk.fsub x (Go.Lk.ftrunc x)) x)] }) σ := CallR.of_DO_pure (C := d2) d2_ok Try.func123 wModf_fok (n := 100) (orc := [(19, Go.Lk.Item.res (Go.Value.float Go.FloatKind.f64 (Go.Lk.fcopysign (Go.Lk.fsub x (Go.Lk.ftrunc x)) x)))]) (ps := [(gF (Go.Value.float Go.FloatKind.f64 (Go.Lk.fcopysign (Go.Lk.fsub x (Go.Lk.ftrunc x)) x)) ([]) (Go.Lk.isNaN (Go.Lk.fsub x (Go.Lk.ftrunc x)) || !Go.Lk.isNaN x) = some (Go.Value.float Go.FloatKind.f64 (Go.Lk.fcopysign (Go.Lk.fsub x (Go.Lk.ftrunc x)) x), []))]) (σ1 := []) (by kernel_rfl) ⟨gF_true _ _ h0, trivial⟩ rfl rfl
def wModf_t (x : Nat) : Value := (Go.Value.tuple { toList := [Go.Value.float Go.FloatKind.f64 (Go.Lk.ftrunc x), Go.Value.float Go.FloatKind.f64 (Go.Lk.fcopysign (Go.Lk.fsub x (Go.Lk.ftrunc x)) x)] })
theorem wModf_c (x : Nat) (σ : AHeap) (g0 : (Go.Lk.isNaN (Go.Lk.fsub x (Go.Lk.ftrunc x)) ||
  !Go.Lk.isNaN x) = true) : CallR Try.prog false 123 [Value.float .f64 x] σ (wModf_t x) σ := by
  unfold wModf_t
  exact (wModf_p0 x σ g0)
def sModf : PureFn
  | [.float .f64 x] => bif feq (fsub x x) 0 then some (.tuple #[.float .f64 (ftrunc x), .float .f64 (fcopysign (fsub x (ftrunc x)) x)]) else none
  | _ => none
theorem sModf_ok : IsPure Try.prog false 123 sModf := by
  intro args v σ h
  unfold sModf at h
  split at h
  · rename_i x
    cases hb : feq (fsub x x) 0
    · rw [hb] at h; cases h
    · rw [hb] at h
      cases h
      refine wModf_c x σ ?_
      have : isNaN x = false := by
        cases hn : isNaN x
        · rfl
        · rw [fsub_nan_l hn, feq_nan_l isNaN_qnan] at hb; cases hb
      rw [this]; simp
  · cases h
theorem feq_self (x : Nat) : feq x x = !isNaN x := by
  rcases three x with h | h | h
  · rw [feq_fin h h, fin_num h]; simp
  · have : isNaN x = false := by rw [isNaN_iff, h]; decide
    rw [this]
    unfold feq Ieee.Format.order
    rw [read_inf h]
    cases sg x <;> rfl
  · rw [feq_nan_l h, h]; rfl
def sBits : PureFn
  | [.float .f64 x] => bif feq x x then some (.int .u64 x) else none
  | _ => none
theorem sBits_ok : IsPure Try.prog false 80 sBits := by
  refine (xBits_ok false b80).of_sub fun args v h => ?_
  unfold sBits at h
  split at h
  · rename_i x
    rw [feq_self] at h
    exact h
  · cases h
def sSign : PureFn
  | [.float .f64 x] => bif feq x x then some (.bool (sg x)) else none
  | _ => none
theorem sSign_ok : IsPure Try.prog false 34 sSign := by
  refine sSignbit_ok.of_sub fun args v h => ?_
  unfold sSign at h
  split at h
  · rename_i x
    rw [feq_self] at h
    unfold sSignbit
    cases hn : isNaN x
    · rw [hn] at h; simp only [hn, cond_false]; exact h
    · rw [hn] at h; cases h
  · cases h
noncomputable def t3 : Tab := (((t2.addP 123 sModf).addP 80 sBits).addP 34 sSign)
theorem t3_ok : t3.Ok Try.prog false := (Tab.Ok.addP (Tab.Ok.addP (Tab.Ok.addP t2_ok sModf_ok) sBits_ok) sSign_ok)
noncomputable def L3a : Lib := ⟨Try.prog, false, t3, [(181, Try.f181), (160, Try.f160), (69, Try.f69), (55, Try.f55), (33, Try.f33), (127, Try.f127), (128, Try.f128), (207, Try.f207), (43, Try.f43), (122, Try.f122), (133, Try.f133), (134, Try.f134), (135, Try.f135), (136, Try.f136), (137, Try.f137), (142, Try.f142), (109, Try.f109)], []⟩
theorem L3a_fp : ∀ e, e ∈ L3a.pures → Try.prog.funcs[e.1]? = some e.2 := fs_cons Try.func181 (fs_cons Try.func160 (fs_cons Try.func69 (fs_cons Try.func55 (fs_cons Try.func33 (fs_cons Try.func127 (fs_cons Try.func128 (fs_cons Try.func207 (fs_cons Try.func43 (fs_cons Try.func122 (fs_cons Try.func133 (fs_cons Try.func134 (fs_cons Try.func135 (fs_cons Try.func136 (fs_cons Try.func137 (fs_cons Try.func142 (fs_cons Try.func109 (fs_nil)))))))))))))))))
theorem L3a_fh : ∀ e, e ∈ L3a.heaps → Try.prog.funcs[e.1]? = some e.2.2 := gs_nil
theorem L3a_p1 (gp : Nat → PureFn) (g : Nat → HeapFn) : (L3a.pures.all fun e => fnOk (L3a.mk' gp g) e.2) = true := by kernel_rfl
theorem L3a_h1 (gp : Nat → PureFn) (g : Nat → HeapFn) : (L3a.heaps.all fun e => fnOk (L3a.mk' gp g) e.2.2 && (!e.2.1 || fnRo (L3a.mk' gp g) e.2.2)) = true := by kernel_rfl
theorem L3a_ok : L3a.Ok := ⟨t3_ok, mixed, L3a_fp, L3a_fh, L3a_p1, L3a_h1⟩
noncomputable def dL3a : Cfg := L3a.cfg 100 4
theorem dL3a_ok : dL3a.Ok := L3a_ok.cfg 100 4

theorem wWrap_fok : fnOk (dL3a) Try.f32 = true := by kernel_rfl
theorem wWrap_p0 (x : Nat) (σ : AHeap) (h0 : (Go.Lk.feq (Go.Lk.fsub x x) 0) = true) (h1 : (Go.Lk.fge (Go.Lk.fcopysign (Go.Lk.fsub x (Go.Lk.ftrunc x)) x) 4602678819172646912) = true) : CallR Try.prog false 32 [Value.float .f64 x] σ (Go.Value.float Go.FloatKind.f64 (Go.Lk.fadd (Go.Lk.fsub (Go.Lk.fcopysign (Go.Lk.fsub x (Go.Lk.ftrunc x)) x) 4607182418800017408) 0)) σ := CallR.of_DO_pure (C := dL3a) dL3a_ok Try.func32 wWrap_fok (n := 100) (orc := [(10, Go.Lk.Item.br false), (14, Go.Lk.Item.res (Go.Value.tuple { toList := [Go.Value.float Go.FloatKind.f64 (Go.Lk.ftrunc x), Go.Value.float Go.FloatKind.f64 (Go.Lk.fcopysign (Go.Lk.fsub x (Go.Lk.ftrunc x)) x)] })), (31, Go.Lk.Item.br true)]) (ps := [(some (!Go.Lk.feq (Go.Lk.fsub x x) 0) = some false), (gF (Go.Value.tuple { toList := [Go.Value.float Go.FloatKind.f64 (Go.Lk.ftrunc x), Go.Value.float Go.FloatKind.f64 (Go.Lk.fcopysign (Go.Lk.fsub x (Go.Lk.ftrunc x)) x)] }) ([]) (Go.Lk.feq (Go.Lk.fsub x x) 0) = some (Go.Value.tuple { toList := [Go.Value.float Go.FloatKind.f64 (Go.Lk.ftrunc x), Go.Value.float Go.FloatKind.f64 (Go.Lk.fcopysign (Go.Lk.fsub x (Go.Lk.ftrunc x)) x)] }, [])), (some (Go.Lk.fge (Go.Lk.fcopysign (Go.Lk.fsub x (Go.Lk.ftrunc x)) x) 4602678819172646912) = some true)]) (σ1 := []) (by kernel_rfl) ⟨congrArg (fun bb => some (!bb)) h0, ⟨gF_true _ _ h0, ⟨congrArg (fun bb => some (bb)) h1, trivial⟩⟩⟩ rfl rfl
theorem wWrap_p1 (x : Nat) (σ : AHeap) (h0 : (Go.Lk.feq (Go.Lk.fsub x x) 0) = true) (h1 : (Go.Lk.fge (Go.Lk.fcopysign (Go.Lk.fsub x (Go.Lk.ftrunc x)) x) 4602678819172646912) = false) (h2 : (Go.Lk.flt (Go.Lk.fcopysign (Go.Lk.fsub x (Go.Lk.ftrunc x)) x) 13826050856027422720) = true) : CallR Try.prog false 32 [Value.float .f64 x] σ (Go.Value.float Go.FloatKind.f64 (Go.Lk.fadd (Go.Lk.fadd (Go.Lk.fcopysign (Go.Lk.fsub x (Go.Lk.ftrunc x)) x) 4607182418800017408) 0)) σ := CallR.of_DO_pure (C := dL3a) dL3a_ok Try.func32 wWrap_fok (n := 100) (orc := [(10, Go.Lk.Item.br false), (14, Go.Lk.Item.res (Go.Value.tuple { toList := [Go.Value.float Go.FloatKind.f64 (Go.Lk.ftrunc x), Go.Value.float Go.FloatKind.f64 (Go.Lk.fcopysign (Go.Lk.fsub x (Go.Lk.ftrunc x)) x)] })), (31, Go.Lk.Item.br false), (38, Go.Lk.Item.br true)]) (ps := [(some (!Go.Lk.feq (Go.Lk.fsub x x) 0) = some false), (gF (Go.Value.tuple { toList := [Go.Value.float Go.FloatKind.f64 (Go.Lk.ftrunc x), Go.Value.float Go.FloatKind.f64 (Go.Lk.fcopysign (Go.Lk.fsub x (Go.Lk.ftrunc x)) x)] }) ([]) (Go.Lk.feq (Go.Lk.fsub x x) 0) = some (Go.Value.tuple { toList := [Go.Value.float Go.FloatKind.f64 (Go.Lk.ftrunc x), Go.Value.float Go.FloatKind.f64 (Go.Lk.fcopysign (Go.Lk.fsub x (Go.Lk.ftrunc x)) x)] }, [])), (some (Go.Lk.fge (Go.Lk.fcopysign (Go.Lk.fsub x (Go.Lk.ftrunc x)) x) 4602678819172646912) = some false), (some (Go.Lk.flt (Go.Lk.fcopysign (Go.Lk.fsub x (Go.Lk.ftrunc x)) x) 13826050856027422720) = some true)]) (σ1 := []) (by kernel_rfl) ⟨congrArg (fun bb => some (!bb)) h0, ⟨gF_true _ _ h0, ⟨congrArg (fun bb => some (bb)) h1, ⟨congrArg (fun bb => some (bb)) h2, trivial⟩⟩⟩⟩ rfl rfl
theorem wWrap_p2 (x : Nat) (σ : AHeap) (h0 : (Go.Lk.feq (Go.Lk.fsub x x) 0) = true) (h1 : (Go.Lk.fge (Go.Lk.fcopysign (Go.Lk.fsub x (Go.Lk.ftrunc x)) x) 4602678819172646912) = false) (h2 : (Go.Lk.flt (Go.Lk.fcopysign (Go.Lk.fsub x (Go.Lk.ftrunc x)) x) 13826050856027422720) = false) : CallR Try.prog false 32 [Value.float .f64 x] σ (Go.Value.float Go.FloatKind.f64 (Go.Lk.fadd (Go.Lk.fcopysign (Go.Lk.fsub x (Go.Lk.ftrunc x)) x) 0)) σ := CallR.of_DO_pure (C := dL3a) dL3a_ok Try.func32 wWrap_fok (n := 100) (orc := [(10, Go.Lk.Item.br false), (14, Go.Lk.Item.res (Go.Value.tuple { toList := [Go.Value.float Go.FloatKind.f64 (Go.Lk.ftrunc x), Go.Value.float Go.FloatKind.f64 (Go.Lk.fcopysign (Go.Lk.fsub x (Go.Lk.ftrunc x)) x)] })), (31, Go.Lk.Item.br false), (38, Go.Lk.Item.br false)]) (ps := [(some (!Go.Lk.feq (Go.Lk.fsub x x) 0) = some false), (gF (Go.Value.tuple { toList := [Go.Value.float Go.FloatKind.f64 (Go.Lk.ftrunc x), Go.Value.float Go.FloatKind.f64 (Go.Lk.fcopysign (Go.Lk.fsub x (Go.Lk.ftrunc x)) x)] }) ([]) (Go.Lk.feq (Go.Lk.fsub x x) 0) = some (Go.Value.tuple { toList := [Go.Value.float Go.FloatKind.f64 (Go.Lk.ftrunc x), Go.Value.float Go.FloatKind.f64 (Go.Lk.fcopysign (Go.Lk.fsub x (Go.Lk.ftrunc x)) x)] }, [])), (some (Go.Lk.fge (Go.Lk.fcopysign (Go.Lk.fsub x (Go.Lk.ftrunc x)) x) 4602678819172646912) = some false), (some (Go.Lk.flt (Go.Lk.fcopysign (Go.Lk.fsub x (Go.Lk.ftrunc x)) x) 13826050856027422720) = some false)]) (σ1 := []) (by kernel_rfl) ⟨congrArg (fun bb => some (!bb)) h0, ⟨gF_true _ _ h0, ⟨congrArg (fun bb => some (bb)) h1, ⟨congrArg (fun bb => some (bb)) h2, trivial⟩⟩⟩⟩ rfl rfl
theorem wWrap_p3 (x : Nat) (σ : AHeap) (h0 : (Go.Lk.feq (Go.Lk.fsub x x) 0) = false) : CallR Try.prog false 32 [Value.float .f64 x] σ (Go.Value.float Go.FloatKind.f64 9221120237041090561) σ := CallR.of_DO_pure (C := dL3a) dL3a_ok Try.func32 wWrap_fok (n := 100) (orc := [(10, Go.Lk.Item.br true)]) (ps := [(some (!Go.Lk.feq (Go.Lk.fsub x x) 0) = some true)]) (σ1 := []) (by kernel_rfl) ⟨congrArg (fun bb => some (!bb)) h0, trivial⟩ rfl rfl
def wWrap_t (x : Nat) : Value := (bif Go.Lk.feq (Go.Lk.fsub x x) 0 then (bif Go.Lk.fge (Go.Lk.fcopysign (Go.Lk.fsub x (Go.Lk.ftrunc x)) x) 4602678819172646912 then (Go.Value.float Go.FloatKind.f64 (Go.Lk.fadd (Go.Lk.fsub (Go.Lk.fcopysign (Go.Lk.fsub x (Go.Lk.ftrunc x)) x) 4607182418800017408) 0)) else (bif Go.Lk.flt (Go.Lk.fcopysign (Go.Lk.fsub x (Go.Lk.ftrunc x)) x) 13826050856027422720 then (Go.Value.float Go.FloatKind.f64 (Go.Lk.fadd (Go.Lk.fadd (Go.Lk.fcopysign (Go.Lk.fsub x (Go.Lk.ftrunc x)) x) 4607182418800017408) 0)) else (Go.Value.float Go.FloatKind.f64 (Go.Lk.fadd (Go.Lk.fcopysign (Go.Lk.fsub x (Go.Lk.ftrunc x)) x) 0)))) else (Go.Value.float Go.FloatKind.f64 9221120237041090561))
theorem wWrap_c (x : Nat) (σ : AHeap) : CallR Try.prog false 32 [Value.float .f64 x] σ (wWrap_t x) σ := by
  unfold wWrap_t
  exact (CallR.bif (fun h0 => (CallR.bif (fun h1 => (wWrap_p0 x σ h0 h1)) (fun h1 => (CallR.bif (fun h2 => (wWrap_p1 x σ h0 h1 h2)) (fun h2 => (wWrap_p2 x σ h0 h1 h2)))))) (fun h0 => (wWrap_p3 x σ h0)))
def wWrap_0 (x : Nat) : Nat := (bif Go.Lk.feq (Go.Lk.fsub x x) 0 then (bif Go.Lk.fge (Go.Lk.fcopysign (Go.Lk.fsub x (Go.Lk.ftrunc x)) x) 4602678819172646912 then Go.Lk.fadd (Go.Lk.fsub (Go.Lk.fcopysign (Go.Lk.fsub x (Go.Lk.ftrunc x)) x) 4607182418800017408) 0 else (bif Go.Lk.flt (Go.Lk.fcopysign (Go.Lk.fsub x (Go.Lk.ftrunc x)) x) 13826050856027422720 then Go.Lk.fadd (Go.Lk.fadd (Go.Lk.fcopysign (Go.Lk.fsub x (Go.Lk.ftrunc x)) x) 4607182418800017408) 0 else Go.Lk.fadd (Go.Lk.fcopysign (Go.Lk.fsub x (Go.Lk.ftrunc x)) x) 0)) else 9221120237041090561)
theorem wWrap_v (x : Nat) : wWrap_t x = Go.Value.float Go.FloatKind.f64 (wWrap_0 x) := by
  unfold wWrap_t wWrap_0
  cases (Go.Lk.feq (Go.Lk.fsub x x) 0) with
  | true =>
    cases (Go.Lk.fge (Go.Lk.fcopysign (Go.Lk.fsub x (Go.Lk.ftrunc x)) x) 4602678819172646912) with
    | true =>
      kernel_rfl
    | false =>
      cases (Go.Lk.flt (Go.Lk.fcopysign (Go.Lk.fsub x (Go.Lk.ftrunc x)) x) 13826050856027422720) with
      | true =>
        kernel_rfl
      | false =>
        kernel_rfl
  | false =>
    kernel_rfl
theorem wWrap_ok (x : Nat) (σ : AHeap) : CallR Try.prog false 32 [Value.float .f64
    x] σ (Go.Value.float Go.FloatKind.f64 (wWrap_0 x)) σ := by
  have h := wWrap_c x σ
  rw [wWrap_v] at h
  exact h
theorem wWrap_eq (x : Nat) : wWrap_0 x = wrapP x := by
  unfold wWrap_0 wrapP wStep half fone mhalf
  cases feq (fsub x x) 0
  · rfl
  · cases fge (fcopysign (fsub x (ftrunc x)) x) 4602678819172646912
    · cases flt (fcopysign (fsub x (ftrunc x)) x) 13826050856027422720 <;> rfl
    · rfl
theorem rIsNaN_fok : fnOk (dL3a) Try.f127 = true := by kernel_rfl
theorem rIsNaN_p0 (x : Nat) (σ : AHeap) : CallR Try.prog false 127 [Value.float .f64 x] σ (Go.Value.bool !Go.Lk.feq x x) σ := CallR.of_DO_pure (C := dL3a) dL3a_ok Try.func127 rIsNaN_fok (n := 100) (orc := []) (ps := []) (σ1 := []) (by kernel_rfl) trivial rfl rfl
def rIsNaN_t (x : Nat) : Value := (Go.Value.bool !Go.Lk.feq x x)
theorem rIsNaN_c (x : Nat) (σ : AHeap) : CallR Try.prog false 127 [Value.float .f64 x] σ (rIsNaN_t x) σ := by
  unfold rIsNaN_t
  exact (rIsNaN_p0 x σ)
theorem rIsInf_fok : fnOk (dL3a) Try.f128 = true := by kernel_rfl
theorem rIsInf_p0 (x : Nat) (σ : AHeap) : CallR Try.prog false 128 [Value.float .f64 x, Value.int .i64 0] σ (Go.Value.bool (Go.Lk.fgt (Go.Lk.fabs x) 9218868437227405311)) σ := CallR.of_DO_pure (C := dL3a) dL3a_ok Try.func128 rIsInf_fok (n := 100) (orc := []) (ps := []) (σ1 := []) (by kernel_rfl) trivial rfl rfl
def rIsInf_t (x : Nat) : Value := (Go.Value.bool (Go.Lk.fgt (Go.Lk.fabs x) 9218868437227405311))
theorem rIsInf_c (x : Nat) (σ : AHeap) : CallR Try.prog false 128 [Value.float .f64 x,
  Value.int .i64 0] σ (rIsInf_t x) σ := by
  unfold rIsInf_t
  exact (rIsInf_p0 x σ)
theorem rWrap_fok : fnOk (dL3a) Try.f41 = true := by kernel_rfl
theorem rWrap_p0 (x : Nat) (σ : AHeap) (h0 : (Go.Lk.feq x x) = true) (h1 : (Go.Lk.fgt (Go.Lk.fabs x) 9218868437227405311) = true) : CallR Try.prog false 41 [Value.float .f64 x] σ (Go.Value.float Go.FloatKind.f64 9221120237041090561) σ := CallR.of_DO_pure (C := dL3a) dL3a_ok Try.func41 rWrap_fok (n := 100) (orc := [(8, Go.Lk.Item.br true), (10, Go.Lk.Item.br true), (13, Go.Lk.Item.res (Go.Value.bool (Go.Lk.fgt (Go.Lk.fabs x) 9218868437227405311))), (14, Go.Lk.Item.br true)]) (ps := [(some ((!Go.Lk.feq x x) == false) = some true), (some ((!Go.Lk.feq x x) == false) = some true), (pF (some (Go.Value.bool true)) (some ([Go.Value.float Go.FloatKind.f64 x, Go.undef, Go.Value.float Go.FloatKind.f64 0, Go.undef, Go.undef, Go.Value.float Go.FloatKind.f64 x, Go.Value.bool !Go.Lk.feq x x, Go.Value.bool !Go.Lk.feq x x, Go.Value.float Go.FloatKind.f64 x, Go.Value.bool (Go.Lk.fgt (Go.Lk.fabs x) 9218868437227405311), Go.undef, Go.undef, Go.undef, Go.undef, Go.undef, Go.undef, Go.undef, Go.undef, Go.undef, Go.undef, Go.undef, Go.undef, Go.undef, Go.undef, Go.undef, Go.undef, Go.undef, Go.undef, Go.undef, Go.undef, Go.undef, Go.undef].getD 9 Go.undef)) ([]) (!Go.Lk.feq x x) = some (Go.Value.bool (Go.Lk.fgt (Go.Lk.fabs x) 9218868437227405311), [])), (some (Go.Lk.fgt (Go.Lk.fabs x) 9218868437227405311) = some true)]) (σ1 := []) (by kernel_rfl) ⟨congrArg (fun bb => some ((!bb) == false)) h0, ⟨congrArg (fun bb => some ((!bb) == false)) h0, ⟨pF_f (some (Go.Value.bool true)) (Go.Value.bool (Go.Lk.fgt (Go.Lk.fabs x) 9218868437227405311)) _ (congrArg (fun bb => (!bb)) h0), ⟨congrArg (fun bb => some (bb)) h1, trivial⟩⟩⟩⟩ rfl rfl
theorem rWrap_p1 (x : Nat) (σ : AHeap) (h0 : (Go.Lk.feq x x) = true) (h1 : (Go.Lk.fgt (Go.Lk.fabs x) 9218868437227405311) = false) (h2 : (Go.Lk.flt x 0) = true) (h3 : (Go.Lk.fge (Go.Lk.fsub x (Go.Lk.aneg false (Go.Lk.ffloor (Go.Lk.aneg false x)))) 4602678819172646912) = true) : CallR Try.prog false 41 [Value.float .f64 x] σ (Go.Value.float Go.FloatKind.f64 (Go.Lk.fsub (Go.Lk.fsub x (Go.Lk.aneg false (Go.Lk.ffloor (Go.Lk.aneg false x)))) 4607182418800017408)) σ := CallR.of_DO_pure (C := dL3a) dL3a_ok Try.func41 rWrap_fok (n := 100) (orc := [(8, Go.Lk.Item.br true), (10, Go.Lk.Item.br true), (13, Go.Lk.Item.res (Go.Value.bool (Go.Lk.fgt (Go.Lk.fabs x) 9218868437227405311))), (14, Go.Lk.Item.br false), (25, Go.Lk.Item.br true), (48, Go.Lk.Item.br true)]) (ps := [(some ((!Go.Lk.feq x x) == false) = some true), (some ((!Go.Lk.feq x x) == false) = some true), (pF (some (Go.Value.bool true)) (some ([Go.Value.float Go.FloatKind.f64 x, Go.undef, Go.Value.float Go.FloatKind.f64 0, Go.undef, Go.undef, Go.Value.float Go.FloatKind.f64 x, Go.Value.bool !Go.Lk.feq x x, Go.Value.bool !Go.Lk.feq x x, Go.Value.float Go.FloatKind.f64 x, Go.Value.bool (Go.Lk.fgt (Go.Lk.fabs x) 9218868437227405311), Go.undef, Go.undef, Go.undef, Go.undef, Go.undef, Go.undef, Go.undef, Go.undef, Go.undef, Go.undef, Go.undef, Go.undef, Go.undef, Go.undef, Go.undef, Go.undef, Go.undef, Go.undef, Go.undef, Go.undef, Go.undef, Go.undef].getD 9 Go.undef)) ([]) (!Go.Lk.feq x x) = some (Go.Value.bool (Go.Lk.fgt (Go.Lk.fabs x) 9218868437227405311), [])), (some (Go.Lk.fgt (Go.Lk.fabs x) 9218868437227405311) = some false), (some (Go.Lk.flt x 0) = some true), (some (Go.Lk.fge (Go.Lk.fsub x (Go.Lk.aneg false (Go.Lk.ffloor (Go.Lk.aneg false x)))) 4602678819172646912) = some true)]) (σ1 := []) (by kernel_rfl) ⟨congrArg (fun bb => some ((!bb) == false)) h0, ⟨congrArg (fun bb => some ((!bb) == false)) h0, ⟨pF_f (some (Go.Value.bool true)) (Go.Value.bool (Go.Lk.fgt (Go.Lk.fabs x) 9218868437227405311)) _ (congrArg (fun bb => (!bb)) h0), ⟨congrArg (fun bb => some (bb)) h1, ⟨congrArg (fun bb => some (bb)) h2, ⟨congrArg (fun bb => some (bb)) h3, trivial⟩⟩⟩⟩⟩⟩ rfl rfl
theorem rWrap_p2 (x : Nat) (σ : AHeap) (h0 : (Go.Lk.feq x x) = true) (h1 : (Go.Lk.fgt (Go.Lk.fabs x) 9218868437227405311) = false) (h2 : (Go.Lk.flt x 0) = true) (h3 : (Go.Lk.fge (Go.Lk.fsub x (Go.Lk.aneg false (Go.Lk.ffloor (Go.Lk.aneg false x)))) 4602678819172646912) = false) (h4 : (Go.Lk.flt (Go.Lk.fsub x (Go.Lk.aneg false (Go.Lk.ffloor (Go.Lk.aneg false x)))) 13826050856027422720) = true) : CallR Try.prog false 41 [Value.float .f64 x] σ (Go.Value.float Go.FloatKind.f64 (Go.Lk.fadd (Go.Lk.fsub x (Go.Lk.aneg false (Go.Lk.ffloor (Go.Lk.aneg false x)))) 4607182418800017408)) σ := CallR.of_DO_pure (C := dL3a) dL3a_ok Try.func41 rWrap_fok (n := 100) (orc := [(8, Go.Lk.Item.br true), (10, Go.Lk.Item.br true), (13, Go.Lk.Item.res (Go.Value.bool (Go.Lk.fgt (Go.Lk.fabs x) 9218868437227405311))), (14, Go.Lk.Item.br false), (25, Go.Lk.Item.br true), (48, Go.Lk.Item.br false), (53, Go.Lk.Item.br true)]) (ps := [(some ((!Go.Lk.feq x x) == false) = some true), (some ((!Go.Lk.feq x x) == false) = some true), (pF (some (Go.Value.bool true)) (some ([Go.Value.float Go.FloatKind.f64 x, Go.undef, Go.Value.float Go.FloatKind.f64 0, Go.undef, Go.undef, Go.Value.float Go.FloatKind.f64 x, Go.Value.bool !Go.Lk.feq x x, Go.Value.bool !Go.Lk.feq x x, Go.Value.float Go.FloatKind.f64 x, Go.Value.bool (Go.Lk.fgt (Go.Lk.fabs x) 9218868437227405311), Go.undef, Go.undef, Go.undef, Go.undef, Go.undef, Go.undef, Go.undef, Go.undef, Go.undef, Go.undef, Go.undef, Go.undef, Go.undef, Go.undef, Go.undef, Go.undef, Go.undef, Go.undef, Go.undef, Go.undef, Go.undef, Go.undef].getD 9 Go.undef)) ([]) (!Go.Lk.feq x x) = some (Go.Value.bool (Go.Lk.fgt (Go.Lk.fabs x) 9218868437227405311), [])), (some (Go.Lk.fgt (Go.Lk.fabs x) 9218868437227405311) = some false), (some (Go.Lk.flt x 0) = some true), (some (Go.Lk.fge (Go.Lk.fsub x (Go.Lk.aneg false (Go.Lk.ffloor (Go.Lk.aneg false x)))) 4602678819172646912) = some false), (some (Go.Lk.flt (Go.Lk.fsub x (Go.Lk.aneg false (Go.Lk.ffloor (Go.Lk.aneg false x)))) 13826050856027422720) = some true)]) (σ1 := []) (by kernel_rfl) ⟨congrArg (fun bb => some ((!bb) == false)) h0, ⟨congrArg (fun bb => some ((!bb) == false)) h0, ⟨pF_f (some (Go.Value.bool true)) (Go.Value.bool (Go.Lk.fgt (Go.Lk.fabs x) 9218868437227405311)) _ (congrArg (fun bb => (!bb)) h0), ⟨congrArg (fun bb => some (bb)) h1, ⟨congrArg (fun bb => some (bb)) h2, ⟨congrArg (fun bb => some (bb)) h3, ⟨congrArg (fun bb => some (bb)) h4, trivial⟩⟩⟩⟩⟩⟩⟩ rfl rfl
theorem rWrap_p3 (x : Nat) (σ : AHeap) (h0 : (Go.Lk.feq x x) = true) (h1 : (Go.Lk.fgt (Go.Lk.fabs x) 9218868437227405311) = false) (h2 : (Go.Lk.flt x 0) = true) (h3 : (Go.Lk.fge (Go.Lk.fsub x (Go.Lk.aneg false (Go.Lk.ffloor (Go.Lk.aneg false x)))) 4602678819172646912) = false) (h4 : (Go.Lk.flt (Go.Lk.fsub x (Go.Lk.aneg false (Go.Lk.ffloor (Go.Lk.aneg false x)))) 13826050856027422720) = false) : CallR Try.prog false 41 [Value.float .f64 x] σ (Go.Value.float Go.FloatKind.f64 (Go.Lk.fsub x (Go.Lk.aneg false (Go.Lk.ffloor (Go.Lk.aneg false x))))) σ := CallR.of_DO_pure (C := dL3a) dL3a_ok Try.func41 rWrap_fok (n := 100) (orc := [(8, Go.Lk.Item.br true), (10, Go.Lk.Item.br true), (13, Go.Lk.Item.res (Go.Value.bool (Go.Lk.fgt (Go.Lk.fabs x) 9218868437227405311))), (14, Go.Lk.Item.br false), (25, Go.Lk.Item.br true), (48, Go.Lk.Item.br false), (53, Go.Lk.Item.br false)]) (ps := [(some ((!Go.Lk.feq x x) == false) = some true), (some ((!Go.Lk.feq x x) == false) = some true), (pF (some (Go.Value.bool true)) (some ([Go.Value.float Go.FloatKind.f64 x, Go.undef, Go.Value.float Go.FloatKind.f64 0, Go.undef, Go.undef, Go.Value.float Go.FloatKind.f64 x, Go.Value.bool !Go.Lk.feq x x, Go.Value.bool !Go.Lk.feq x x, Go.Value.float Go.FloatKind.f64 x, Go.Value.bool (Go.Lk.fgt (Go.Lk.fabs x) 9218868437227405311), Go.undef, Go.undef, Go.undef, Go.undef, Go.undef, Go.undef, Go.undef, Go.undef, Go.undef, Go.undef, Go.undef, Go.undef, Go.undef, Go.undef, Go.undef, Go.undef, Go.undef, Go.undef, Go.undef, Go.undef, Go.undef, Go.undef].getD 9 Go.undef)) ([]) (!Go.Lk.feq x x) = some (Go.Value.bool (Go.Lk.fgt (Go.Lk.fabs x) 9218868437227405311), [])), (some (Go.Lk.fgt (Go.Lk.fabs x) 9218868437227405311) = some false), (some (Go.Lk.flt x 0) = some true), (some (Go.Lk.fge (Go.Lk.fsub x (Go.Lk.aneg false (Go.Lk.ffloor (Go.Lk.aneg false x)))) 4602678819172646912) = some false), (some (Go.Lk.flt (Go.Lk.fsub x (Go.Lk.aneg false (Go.Lk.ffloor (Go.Lk.aneg false x)))) 13826050856027422720) = some false)]) (σ1 := []) (by kernel_rfl) ⟨congrArg (fun bb => some ((!bb) == false)) h0, ⟨congrArg (fun bb => some ((!bb) == false)) h0, ⟨pF_f (some (Go.Value.bool true)) (Go.Value.bool (Go.Lk.fgt (Go.Lk.fabs x) 9218868437227405311)) _ (congrArg (fun bb => (!bb)) h0), ⟨congrArg (fun bb => some (bb)) h1, ⟨congrArg (fun bb => some (bb)) h2, ⟨congrArg (fun bb => some (bb)) h3, ⟨congrArg (fun bb => some (bb)) h4, trivial⟩⟩⟩⟩⟩⟩⟩ rfl rfl
theorem rWrap_p4 (x : Nat) (σ : AHeap) (h0 : (Go.Lk.feq x x) = true) (h1 : (Go.Lk.fgt (Go.Lk.fabs x) 9218868437227405311) = false) (h2 : (Go.Lk.flt x 0) = false) (h3 : (Go.Lk.fge (Go.Lk.fsub x (Go.Lk.ffloor x)) 4602678819172646912) = true) : CallR Try.prog false 41 [Value.float .f64 x] σ (Go.Value.float Go.FloatKind.f64 (Go.Lk.fsub (Go.Lk.fsub x (Go.Lk.ffloor x)) 4607182418800017408)) σ := CallR.of_DO_pure (C := dL3a) dL3a_ok Try.func41 rWrap_fok (n := 100) (orc := [(8, Go.Lk.Item.br true), (10, Go.Lk.Item.br true), (13, Go.Lk.Item.res (Go.Value.bool (Go.Lk.fgt (Go.Lk.fabs x) 9218868437227405311))), (14, Go.Lk.Item.br false), (25, Go.Lk.Item.br false), (38, Go.Lk.Item.br true)]) (ps := [(some ((!Go.Lk.feq x x) == false) = some true), (some ((!Go.Lk.feq x x) == false) = some true), (pF (some (Go.Value.bool true)) (some ([Go.Value.float Go.FloatKind.f64 x, Go.undef, Go.Value.float Go.FloatKind.f64 0, Go.undef, Go.undef, Go.Value.float Go.FloatKind.f64 x, Go.Value.bool !Go.Lk.feq x x, Go.Value.bool !Go.Lk.feq x x, Go.Value.float Go.FloatKind.f64 x, Go.Value.bool (Go.Lk.fgt (Go.Lk.fabs x) 9218868437227405311), Go.undef, Go.undef, Go.undef, Go.undef, Go.undef, Go.undef, Go.undef, Go.undef, Go.undef, Go.undef, Go.undef, Go.undef, Go.undef, Go.undef, Go.undef, Go.undef, Go.undef, Go.undef, Go.undef, Go.undef, Go.undef, Go.undef].getD 9 Go.undef)) ([]) (!Go.Lk.feq x x) = some (Go.Value.bool (Go.Lk.fgt (Go.Lk.fabs x) 9218868437227405311), [])), (some (Go.Lk.fgt (Go.Lk.fabs x) 9218868437227405311) = some false), (some (Go.Lk.flt x 0) = some false), (some (Go.Lk.fge (Go.Lk.fsub x (Go.Lk.ffloor x)) 4602678819172646912) = some true)]) (σ1 := []) (by kernel_rfl) ⟨congrArg (fun bb => some ((!bb) == false)) h0, ⟨congrArg (fun bb => some ((!bb) == false)) h0, ⟨pF_f (some (Go.Value.bool true)) (Go.Value.bool (Go.Lk.fgt (Go.Lk.fabs x) 9218868437227405311)) _ (congrArg (fun bb => (!bb)) h0), ⟨congrArg (fun bb => some (bb)) h1, ⟨congrArg (fun bb => some (bb)) h2, ⟨congrArg (fun bb => some (bb)) h3, trivial⟩⟩⟩⟩⟩⟩ rfl rfl
theorem rWrap_p5 (x : Nat) (σ : AHeap) (h0 : (Go.Lk.feq x x) = true) (h1 : (Go.Lk.fgt (Go.Lk.fabs x) 9218868437227405311) = false) (h2 : (Go.Lk.flt x 0) = false) (h3 : (Go.Lk.fge (Go.Lk.fsub x (Go.Lk.ffloor x)) 4602678819172646912) = false) (h4 : (Go.Lk.flt (Go.Lk.fsub x (Go.Lk.ffloor x)) 13826050856027422720) = true) : CallR Try.prog false 41 [Value.float .f64 x] σ (Go.Value.float Go.FloatKind.f64 (Go.Lk.fadd (Go.Lk.fsub x (Go.Lk.ffloor x)) 4607182418800017408)) σ := CallR.of_DO_pure (C := dL3a) dL3a_ok Try.func41 rWrap_fok (n := 100) (orc := [(8, Go.Lk.Item.br true), (10, Go.Lk.Item.br true), (13, Go.Lk.Item.res (Go.Value.bool (Go.Lk.fgt (Go.Lk.fabs x) 9218868437227405311))), (14, Go.Lk.Item.br false), (25, Go.Lk.Item.br false), (38, Go.Lk.Item.br false), (43, Go.Lk.Item.br true)]) (ps := [(some ((!Go.Lk.feq x x) == false) = some true), (some ((!Go.Lk.feq x x) == false) = some true), (pF (some (Go.Value.bool true)) (some ([Go.Value.float Go.FloatKind.f64 x, Go.undef, Go.Value.float Go.FloatKind.f64 0, Go.undef, Go.undef, Go.Value.float Go.FloatKind.f64 x, Go.Value.bool !Go.Lk.feq x x, Go.Value.bool !Go.Lk.feq x x, Go.Value.float Go.FloatKind.f64 x, Go.Value.bool (Go.Lk.fgt (Go.Lk.fabs x) 9218868437227405311), Go.undef, Go.undef, Go.undef, Go.undef, Go.undef, Go.undef, Go.undef, Go.undef, Go.undef, Go.undef, Go.undef, Go.undef, Go.undef, Go.undef, Go.undef, Go.undef, Go.undef, Go.undef, Go.undef, Go.undef, Go.undef, Go.undef].getD 9 Go.undef)) ([]) (!Go.Lk.feq x x) = some (Go.Value.bool (Go.Lk.fgt (Go.Lk.fabs x) 9218868437227405311), [])), (some (Go.Lk.fgt (Go.Lk.fabs x) 9218868437227405311) = some false), (some (Go.Lk.flt x 0) = some false), (some (Go.Lk.fge (Go.Lk.fsub x (Go.Lk.ffloor x)) 4602678819172646912) = some false), (some (Go.Lk.flt (Go.Lk.fsub x (Go.Lk.ffloor x)) 13826050856027422720) = some true)]) (σ1 := []) (by kernel_rfl) ⟨congrArg (fun bb => some ((!bb) == false)) h0, ⟨congrArg (fun bb => some ((!bb) == false)) h0, ⟨pF_f (some (Go.Value.bool true)) (Go.Value.bool (Go.Lk.fgt (Go.Lk.fabs x) 9218868437227405311)) _ (congrArg (fun bb => (!bb)) h0), ⟨congrArg (fun bb => some (bb)) h1, ⟨congrArg (fun bb => some (bb)) h2, ⟨congrArg (fun bb => some (bb)) h3, ⟨congrArg (fun bb => some (bb)) h4, trivial⟩⟩⟩⟩⟩⟩⟩ rfl rfl
theorem rWrap_p6 (x : Nat) (σ : AHeap) (h0 : (Go.Lk.feq x x) = true) (h1 : (Go.Lk.fgt (Go.Lk.fabs x) 9218868437227405311) = false) (h2 : (Go.Lk.flt x 0) = false) (h3 : (Go.Lk.fge (Go.Lk.fsub x (Go.Lk.ffloor x)) 4602678819172646912) = false) (h4 : (Go.Lk.flt (Go.Lk.fsub x (Go.Lk.ffloor x)) 13826050856027422720) = false) : CallR Try.prog false 41 [Value.float .f64 x] σ (Go.Value.float Go.FloatKind.f64 (Go.Lk.fsub x (Go.Lk.ffloor x))) σ := CallR.of_DO_pure (C := dL3a) dL3a_ok Try.func41 rWrap_fok (n := 100) (orc := [(8, Go.Lk.Item.br true), (10, Go.Lk.Item.br true), (13, Go.Lk.Item.res (Go.Value.bool (Go.Lk.fgt (Go.Lk.fabs x) 9218868437227405311))), (14, Go.Lk.Item.br false), (25, Go.Lk.Item.br false), (38, Go.Lk.Item.br false), (43, Go.Lk.Item.br false)]) (ps := [(some ((!Go.Lk.feq x x) == false) = some true), (some ((!Go.Lk.feq x x) == false) = some true), (pF (some (Go.Value.bool true)) (some ([Go.Value.float Go.FloatKind.f64 x, Go.undef, Go.Value.float Go.FloatKind.f64 0, Go.undef, Go.undef, Go.Value.float Go.FloatKind.f64 x, Go.Value.bool !Go.Lk.feq x x, Go.Value.bool !Go.Lk.feq x x, Go.Value.float Go.FloatKind.f64 x, Go.Value.bool (Go.Lk.fgt (Go.Lk.fabs x) 9218868437227405311), Go.undef, Go.undef, Go.undef, Go.undef, Go.undef, Go.undef, Go.undef, Go.undef, Go.undef, Go.undef, Go.undef, Go.undef, Go.undef, Go.undef, Go.undef, Go.undef, Go.undef, Go.undef, Go.undef, Go.undef, Go.undef, Go.undef].getD 9 Go.undef)) ([]) (!Go.Lk.feq x x) = some (Go.Value.bool (Go.Lk.fgt (Go.Lk.fabs x) 9218868437227405311), [])), (some (Go.Lk.fgt (Go.Lk.fabs x) 9218868437227405311) = some false), (some (Go.Lk.flt x 0) = some false), (some (Go.Lk.fge (Go.Lk.fsub x (Go.Lk.ffloor x)) 4602678819172646912) = some false), (some (Go.Lk.flt (Go.Lk.fsub x (Go.Lk.ffloor x)) 13826050856027422720) = some false)]) (σ1 := []) (by kernel_rfl) ⟨congrArg (fun bb => some ((!bb) == false)) h0, ⟨congrArg (fun bb => some ((!bb) == false)) h0, ⟨pF_f (some (Go.Value.bool true)) (Go.Value.bool (Go.Lk.fgt (Go.Lk.fabs x) 9218868437227405311)) _ (congrArg (fun bb => (!bb)) h0), ⟨congrArg (fun bb => some (bb)) h1, ⟨congrArg (fun bb => some (bb)) h2, ⟨congrArg (fun bb => some (bb)) h3, ⟨congrArg (fun bb => some (bb)) h4, trivial⟩⟩⟩⟩⟩⟩⟩ rfl rfl
theorem rWrap_p7 (x : Nat) (σ : AHeap) (h0 : (Go.Lk.feq x x) = false) : CallR Try.prog false 41 [Value.float .f64 x] σ (Go.Value.float Go.FloatKind.f64 9221120237041090561) σ := CallR.of_DO_pure (C := dL3a) dL3a_ok Try.func41 rWrap_fok (n := 100) (orc := [(8, Go.Lk.Item.br false), (10, Go.Lk.Item.br false), (13, Go.Lk.Item.res (Go.Value.bool true))]) (ps := [(some ((!Go.Lk.feq x x) == false) = some false), (some ((!Go.Lk.feq x x) == false) = some false), (pF (some (Go.Value.bool true)) (none) ([]) (!Go.Lk.feq x x) = some (Go.Value.bool true, []))]) (σ1 := []) (by kernel_rfl) ⟨congrArg (fun bb => some ((!bb) == false)) h0, ⟨congrArg (fun bb => some ((!bb) == false)) h0, ⟨pF_t (Go.Value.bool true) (none) _ (congrArg (fun bb => (!bb)) h0), trivial⟩⟩⟩ rfl rfl
def rWrap_t (x : Nat) : Value := (bif Go.Lk.feq x x then (bif Go.Lk.fgt (Go.Lk.fabs x) 9218868437227405311 then (Go.Value.float Go.FloatKind.f64 9221120237041090561) else (bif Go.Lk.flt x 0 then (bif Go.Lk.fge (Go.Lk.fsub x (Go.Lk.aneg false (Go.Lk.ffloor (Go.Lk.aneg false x)))) 4602678819172646912 then (Go.Value.float Go.FloatKind.f64 (Go.Lk.fsub (Go.Lk.fsub x (Go.Lk.aneg false (Go.Lk.ffloor (Go.Lk.aneg false x)))) 4607182418800017408)) else (bif Go.Lk.flt (Go.Lk.fsub x (Go.Lk.aneg false (Go.Lk.ffloor (Go.Lk.aneg false x)))) 13826050856027422720 then (Go.Value.float Go.FloatKind.f64 (Go.Lk.fadd (Go.Lk.fsub x (Go.Lk.aneg false (Go.Lk.ffloor (Go.Lk.aneg false x)))) 4607182418800017408)) else (Go.Value.float Go.FloatKind.f64 (Go.Lk.fsub x (Go.Lk.aneg false (Go.Lk.ffloor (Go.Lk.aneg false x))))))) else (bif Go.Lk.fge (Go.Lk.fsub x (Go.Lk.ffloor x)) 4602678819172646912 then (Go.Value.float Go.FloatKind.f64 (Go.Lk.fsub (Go.Lk.fsub x (Go.Lk.ffloor x)) 4607182418800017408)) else (bif Go.Lk.flt (Go.Lk.fsub x (Go.Lk.ffloor x)) 13826050856027422720 then (Go.Value.float Go.FloatKind.f64 (Go.Lk.fadd (Go.Lk.fsub x (Go.Lk.ffloor x)) 4607182418800017408)) else (Go.Value.float Go.FloatKind.f64 (Go.Lk.fsub x (Go.Lk.ffloor x))))))) else (Go.Value.float Go.FloatKind.f64 9221120237041090561))
theorem rWrap_c (x : Nat) (σ : AHeap) : CallR Try.prog false 41 [Value.float .f64 x] σ (rWrap_t x) σ := by
  unfold rWrap_t
  exact (CallR.bif (fun h0 => (CallR.bif (fun h1 => (rWrap_p0 x σ h0 h1)) (fun h1 => (CallR.bif (fun h2 => (CallR.bif (fun h3 => (rWrap_p1 x σ h0 h1 h2 h3)) (fun h3 => (CallR.bif (fun h4 => (rWrap_p2 x σ h0 h1 h2 h3 h4)) (fun h4 => (rWrap_p3 x σ h0 h1 h2 h3 h4)))))) (fun h2 => (CallR.bif (fun h3 => (rWrap_p4 x σ h0 h1 h2 h3)) (fun h3 => (CallR.bif (fun h4 => (rWrap_p5 x σ h0 h1 h2 h3 h4)) (fun h4 => (rWrap_p6 x σ h0 h1 h2 h3 h4)))))))))) (fun h0 => (rWrap_p7 x σ h0)))
def rWrap_0 (x : Nat) : Nat := (bif Go.Lk.feq x x then (bif Go.Lk.fgt (Go.Lk.fabs x) 9218868437227405311 then 9221120237041090561 else (bif Go.Lk.flt x 0 then (bif Go.Lk.fge (Go.Lk.fsub x (Go.Lk.aneg false (Go.Lk.ffloor (Go.Lk.aneg false x)))) 4602678819172646912 then Go.Lk.fsub (Go.Lk.fsub x (Go.Lk.aneg false (Go.Lk.ffloor (Go.Lk.aneg false x)))) 4607182418800017408 else (bif Go.Lk.flt (Go.Lk.fsub x (Go.Lk.aneg false (Go.Lk.ffloor (Go.Lk.aneg false x)))) 13826050856027422720 then Go.Lk.fadd (Go.Lk.fsub x (Go.Lk.aneg false (Go.Lk.ffloor (Go.Lk.aneg false x)))) 4607182418800017408 else Go.Lk.fsub x (Go.Lk.aneg false (Go.Lk.ffloor (Go.Lk.aneg false x))))) else (bif Go.Lk.fge (Go.Lk.fsub x (Go.Lk.ffloor x)) 4602678819172646912 then Go.Lk.fsub (Go.Lk.fsub x (Go.Lk.ffloor x)) 4607182418800017408 else (bif Go.Lk.flt (Go.Lk.fsub x (Go.Lk.ffloor x)) 13826050856027422720 then Go.Lk.fadd (Go.Lk.fsub x (Go.Lk.ffloor x)) 4607182418800017408 else Go.Lk.fsub x (Go.Lk.ffloor x))))) else 9221120237041090561)
theorem rWrap_v (x : Nat) : rWrap_t x = Go.Value.float Go.FloatKind.f64 (rWrap_0 x) := by
  unfold rWrap_t rWrap_0
  cases (Go.Lk.feq x x) with
  | true =>
    cases (Go.Lk.fgt (Go.Lk.fabs x) 9218868437227405311) with
    | true =>
      kernel_rfl
    | false =>
      cases (Go.Lk.flt x 0) with
      | true =>
        cases (Go.Lk.fge (Go.Lk.fsub x (Go.Lk.aneg false (Go.Lk.ffloor (Go.Lk.aneg false x)))) 4602678819172646912) with
        | true =>
          kernel_rfl
        | false =>
          cases (Go.Lk.flt (Go.Lk.fsub x (Go.Lk.aneg false (Go.Lk.ffloor (Go.Lk.aneg false x))))
  13826050856027422720) with
          | true =>
            kernel_rfl
          | false =>
            kernel_rfl
      | false =>
        cases (Go.Lk.fge (Go.Lk.fsub x (Go.Lk.ffloor x)) 4602678819172646912) with
        | true =>
          kernel_rfl
        | false =>
          cases (Go.Lk.flt (Go.Lk.fsub x (Go.Lk.ffloor x)) 13826050856027422720) with
          | true =>
            kernel_rfl
          | false =>
            kernel_rfl
  | false =>
    kernel_rfl
theorem rWrap_ok (x : Nat) (σ : AHeap) : CallR Try.prog false 41 [Value.float .f64
    x] σ (Go.Value.float Go.FloatKind.f64 (rWrap_0 x)) σ := by
  have h := rWrap_c x σ
  rw [rWrap_v] at h
  exact h
end Go.Lk
