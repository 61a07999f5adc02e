import Derived.Test.YtmomainjlncogaaPb5
section
/- Modf, Wrap. -/
namespace Go.Lk
open Go.Proofs
set_option maxRecDepth 100000
set_option linter.unusedVariables false
set_option linter.unusedSimpArgs false
theorem wModf_fok : fnOk (d2) Try.f123 = true := by kernel_rfl
theorem wModf_p0 (x : Nat) (σ : AHeap) (h0 : (isNaN (fsub x (ftrunc x)) || !isNaN x) = true) : CallR Try.prog false 123 [Value.float .f64 x] σ (Value.tuple { toList := [Value.float .f64 (ftrunc x), Value.float .f64 (fcopysign (fsub x (ftrunc x)) x)] }) σ := CallR.of_DO_pure (C := d2) d2_ok Try.func123 wModf_fok (n := 100) (orc := [(19, Item.res (Value.float .f64 (fcopysign (fsub x (ftrunc x)) x)))]) (ps := [(gP (Value.float .f64 (fcopysign (fsub x (ftrunc x)) x)) ([]) (isNaN (fsub x (ftrunc x)) || !isNaN x))]) (σ1 := []) (by kernel_rfl) ⟨gP_true _ _ h0, trivial⟩ rfl rfl
def wModf_t (x : Nat) : Value := (Value.tuple { toList := [Value.float .f64 (ftrunc x), Value.float .f64 (fcopysign (fsub x (ftrunc x)) x)] })
theorem wModf_c (x : Nat) (σ : AHeap) (g0_0 : (isNaN (fsub x (ftrunc x)) ||
  !isNaN x) = true) : CallR Try.prog false 123 [Value.float .f64 x] σ (wModf_t x) σ := by
  unfold wModf_t
  exact (wModf_p0 x σ (g0_0))
def sModf : PureFn
  | [.float .f64 x] => bif feq (fsub x x) 0 then some (.tuple #[.float .f64 (ftrunc x), .float .f64 (fcopysign (fsub x (ftrunc x)) x)]) else none
  | _ => none
theorem sModf_ok : IsPure Try.prog false 123 sModf := by
  intro args v σ h
  unfold sModf at h
  split at h
  · rename_i x
    cases hb : feq (fsub x x) 0
    · rw [hb] at h; cases h
    · rw [hb] at h
      cases h
      refine wModf_c x σ ?_
      have : isNaN x = false := by
        cases hn : isNaN x
        · rfl
        · rw [fsub_nan_l hn, feq_nan_l isNaN_qnan] at hb; cases hb
      rw [this]; simp
  · cases h
theorem feq_self (x : Nat) : feq x x = !isNaN x := by
  rcases three x with h | h | h
  · rw [feq_fin h h, fin_num h]; simp
  · have : isNaN x = false := by rw [isNaN_iff, h]; decide
    rw [this]
    unfold feq Ieee.Format.order
    rw [read_inf h]
    cases sg x <;> rfl
  · rw [feq_nan_l h, h]; rfl
def sBits : PureFn
  | [.float .f64 x] => bif feq x x then some (.int .u64 x) else none
  | _ => none
theorem sBits_ok : IsPure Try.prog false 80 sBits := by
  refine (xBits_ok false b80).of_sub fun args v h => ?_
  unfold sBits at h
  split at h
  · rename_i x
    rw [feq_self] at h
    exact h
  · cases h
noncomputable def t3 : Tab := ((t2.addP 123 sModf).addP 80 sBits)
theorem t3_ok : t3.Ok Try.prog false := (Tab.Ok.addP (Tab.Ok.addP t2_ok sModf_ok) sBits_ok)
noncomputable def L3a : Lib := ⟨Try.prog, false, t3, [(181, Try.f181), (160, Try.f160), (69, Try.f69), (55, Try.f55), (33, Try.f33), (127, Try.f127), (128, Try.f128), (207, Try.f207), (122, Try.f122), (133, Try.f133), (134, Try.f134), (135, Try.f135), (136, Try.f136)], []⟩
theorem L3a_fp : ∀ e, e ∈ L3a.pures → Try.prog.funcs[e.1]? = some e.2 := fs_cons Try.func181 (fs_cons Try.func160 (fs_cons Try.func69 (fs_cons Try.func55 (fs_cons Try.func33 (fs_cons Try.func127 (fs_cons Try.func128 (fs_cons Try.func207 (fs_cons Try.func122 (fs_cons Try.func133 (fs_cons Try.func134 (fs_cons Try.func135 (fs_cons Try.func136 (fs_nil)))))))))))))
theorem L3a_fh : ∀ e, e ∈ L3a.heaps → Try.prog.funcs[e.1]? = some e.2.2 := gs_nil
theorem L3a_p1 (gp : Nat → PureFn) (g : Nat → HeapFn) : (L3a.pures.all fun e => fnOk (L3a.mk' gp g) e.2) = true := by kernel_rfl
theorem L3a_h1 (gp : Nat → PureFn) (g : Nat → HeapFn) : (L3a.heaps.all fun e => fnOk (L3a.mk' gp g) e.2.2 && (!e.2.1 || fnRo (L3a.mk' gp g) e.2.2)) = true := by kernel_rfl
theorem L3a_ok : L3a.Ok := ⟨t3_ok, mixed, L3a_fp, L3a_fh, L3a_p1, L3a_h1⟩
noncomputable def dL3a : Cfg := L3a.cfg 100 4
theorem dL3a_ok : dL3a.Ok := L3a_ok.cfg 100 4

theorem wWrap_fok : fnOk (dL3a) Try.f32 = true := by kernel_rfl
theorem wWrap_p0 (x : Nat) (σ : AHeap) (h0 : (feq (fsub x x) 0) = true) (h1 : (fge (fcopysign (fsub x (ftrunc x)) x) 4602678819172646912) = true) : CallR Try.prog false 32 [Value.float .f64 x] σ (Value.float .f64 (fadd (fsub (fcopysign (fsub x (ftrunc x)) x) 4607182418800017408) 0)) σ := CallR.of_DO_pure (C := dL3a) dL3a_ok Try.func32 wWrap_fok (n := 100) (orc := [(10, Item.br false), (14, Item.res (Value.tuple { toList := [Value.float .f64 (ftrunc x), Value.float .f64 (fcopysign (fsub x (ftrunc x)) x)] })), (31, Item.br true)]) (ps := [(bP (!feq (fsub x x) 0) false), (gP (Value.tuple { toList := [Value.float .f64 (ftrunc x), Value.float .f64 (fcopysign (fsub x (ftrunc x)) x)] }) ([]) (feq (fsub x x) 0)), (bP (fge (fcopysign (fsub x (ftrunc x)) x) 4602678819172646912) true)]) (σ1 := []) (by kernel_rfl) ⟨bP_of (fun x => !x) h0, ⟨gP_true _ _ h0, ⟨bP_of (fun x => x) h1, trivial⟩⟩⟩ rfl rfl
theorem wWrap_p1 (x : Nat) (σ : AHeap) (h0 : (feq (fsub x x) 0) = true) (h1 : (fge (fcopysign (fsub x (ftrunc x)) x) 4602678819172646912) = false) (h2 : (flt (fcopysign (fsub x (ftrunc x)) x) 13826050856027422720) = true) : CallR Try.prog false 32 [Value.float .f64 x] σ (Value.float .f64 (fadd (fadd (fcopysign (fsub x (ftrunc x)) x) 4607182418800017408) 0)) σ := CallR.of_DO_pure (C := dL3a) dL3a_ok Try.func32 wWrap_fok (n := 100) (orc := [(10, Item.br false), (14, Item.res (Value.tuple { toList := [Value.float .f64 (ftrunc x), Value.float .f64 (fcopysign (fsub x (ftrunc x)) x)] })), (31, Item.br false), (38, Item.br true)]) (ps := [(bP (!feq (fsub x x) 0) false), (gP (Value.tuple { toList := [Value.float .f64 (ftrunc x), Value.float .f64 (fcopysign (fsub x (ftrunc x)) x)] }) ([]) (feq (fsub x x) 0)), (bP (fge (fcopysign (fsub x (ftrunc x)) x) 4602678819172646912) false), (bP (flt (fcopysign (fsub x (ftrunc x)) x) 13826050856027422720) true)]) (σ1 := []) (by kernel_rfl) ⟨bP_of (fun x => !x) h0, ⟨gP_true _ _ h0, ⟨bP_of (fun x => x) h1, ⟨bP_of (fun x => x) h2, trivial⟩⟩⟩⟩ rfl rfl
theorem wWrap_p2 (x : Nat) (σ : AHeap) (h0 : (feq (fsub x x) 0) = true) (h1 : (fge (fcopysign (fsub x (ftrunc x)) x) 4602678819172646912) = false) (h2 : (flt (fcopysign (fsub x (ftrunc x)) x) 13826050856027422720) = false) : CallR Try.prog false 32 [Value.float .f64 x] σ (Value.float .f64 (fadd (fcopysign (fsub x (ftrunc x)) x) 0)) σ := CallR.of_DO_pure (C := dL3a) dL3a_ok Try.func32 wWrap_fok (n := 100) (orc := [(10, Item.br false), (14, Item.res (Value.tuple { toList := [Value.float .f64 (ftrunc x), Value.float .f64 (fcopysign (fsub x (ftrunc x)) x)] })), (31, Item.br false), (38, Item.br false)]) (ps := [(bP (!feq (fsub x x) 0) false), (gP (Value.tuple { toList := [Value.float .f64 (ftrunc x), Value.float .f64 (fcopysign (fsub x (ftrunc x)) x)] }) ([]) (feq (fsub x x) 0)), (bP (fge (fcopysign (fsub x (ftrunc x)) x) 4602678819172646912) false), (bP (flt (fcopysign (fsub x (ftrunc x)) x) 13826050856027422720) false)]) (σ1 := []) (by kernel_rfl) ⟨bP_of (fun x => !x) h0, ⟨gP_true _ _ h0, ⟨bP_of (fun x => x) h1, ⟨bP_of (fun x => x) h2, trivial⟩⟩⟩⟩ rfl rfl
theorem wWrap_p3 (x : Nat) (σ : AHeap) (h0 : (feq (fsub x x) 0) = false) : CallR Try.prog false 32 [Value.float .f64 x] σ (Value.float .f64 9221120237041090561) σ := CallR.of_DO_pure (C := dL3a) dL3a_ok Try.func32 wWrap_fok (n := 100) (orc := [(10, Item.br true)]) (ps := [(bP (!feq (fsub x x) 0) true)]) (σ1 := []) (by kernel_rfl) ⟨bP_of (fun x => !x) h0, trivial⟩ rfl rfl
def wWrap_t (x : Nat) : Value := (bif feq (fsub x x) 0 then (bif fge (fcopysign (fsub x (ftrunc x)) x) 4602678819172646912 then (Value.float .f64 (fadd (fsub (fcopysign (fsub x (ftrunc x)) x) 4607182418800017408) 0)) else (bif flt (fcopysign (fsub x (ftrunc x)) x) 13826050856027422720 then (Value.float .f64 (fadd (fadd (fcopysign (fsub x (ftrunc x)) x) 4607182418800017408) 0)) else (Value.float .f64 (fadd (fcopysign (fsub x (ftrunc x)) x) 0)))) else (Value.float .f64 9221120237041090561))
theorem wWrap_c (x : Nat) (σ : AHeap) : CallR Try.prog false 32 [Value.float .f64 x] σ (wWrap_t x) σ := by
  unfold wWrap_t
  exact (CallR.bif (fun h0 => (CallR.bif (fun h1 => (wWrap_p0 x σ h0 h1)) (fun h1 => (CallR.bif (fun h2 => (wWrap_p1 x σ h0 h1 h2)) (fun h2 => (wWrap_p2 x σ h0 h1 h2)))))) (fun h0 => (wWrap_p3 x σ h0)))
def wWrap_0 (x : Nat) : Nat := (bif feq (fsub x x) 0 then (bif fge (fcopysign (fsub x (ftrunc x)) x) 4602678819172646912 then fadd (fsub (fcopysign (fsub x (ftrunc x)) x) 4607182418800017408) 0 else (bif flt (fcopysign (fsub x (ftrunc x)) x) 13826050856027422720 then fadd (fadd (fcopysign (fsub x (ftrunc x)) x) 4607182418800017408) 0 else fadd (fcopysign (fsub x (ftrunc x)) x) 0)) else 9221120237041090561)
theorem wWrap_v (x : Nat) : wWrap_t x = Go.Value.float Go.FloatKind.f64 (wWrap_0 x) := by
  unfold wWrap_t wWrap_0
  cases (feq (fsub x x) 0) with
  | true =>
    cases (fge (fcopysign (fsub x (ftrunc x)) x) 4602678819172646912) with
    | true =>
      kernel_rfl
    | false =>
      cases (flt (fcopysign (fsub x (ftrunc x)) x) 13826050856027422720) with
      | true =>
        kernel_rfl
      | false =>
        kernel_rfl
  | false =>
    kernel_rfl
theorem wWrap_ok (x : Nat) (σ : AHeap) : CallR Try.prog false 32 [Value.float .f64
    x] σ (Go.Value.float Go.FloatKind.f64 (wWrap_0 x)) σ := by
  have h := wWrap_c x σ
  rw [wWrap_v] at h
  exact h
theorem wWrap_eq (x : Nat) : wWrap_0 x = wrapP x := by
  unfold wWrap_0 wrapP wStep half fone mhalf
  cases feq (fsub x x) 0
  · rfl
  · cases fge (fcopysign (fsub x (ftrunc x)) x) 4602678819172646912
    · cases flt (fcopysign (fsub x (ftrunc x)) x) 13826050856027422720 <;> rfl
    · rfl
theorem rIsNaN_fok : fnOk (dL3a) Try.f127 = true := by kernel_rfl
theorem rIsNaN_p0 (x : Nat) (σ : AHeap) : CallR Try.prog false 127 [Value.float .f64 x] σ (Value.bool !feq x x) σ := CallR.of_DO_pure (C := dL3a) dL3a_ok Try.func127 rIsNaN_fok (n := 100) (orc := []) (ps := []) (σ1 := []) (by kernel_rfl) trivial rfl rfl
def rIsNaN_t (x : Nat) : Value := (Value.bool !feq x x)
theorem rIsNaN_c (x : Nat) (σ : AHeap) : CallR Try.prog false 127 [Value.float .f64 x] σ (rIsNaN_t x) σ := by
  unfold rIsNaN_t
  exact (rIsNaN_p0 x σ)
end Go.Lk
end

section
/- Turn, Unit; the document's. -/
namespace Go.Lk
open Go.Proofs
set_option maxRecDepth 100000

set_option maxHeartbeats 0
set_option linter.unusedVariables false
set_option linter.unusedSimpArgs false
def sWrap : PureFn
  | [.float .f64 x] => some (.float .f64 (wrapP x))
  | _ => none
theorem sWrap_ok : IsPure Try.prog false 32 sWrap := by
  intro args v σ h
  unfold sWrap at h
  split at h
  · cases h; rw [← wWrap_eq]; exact wWrap_ok _ σ
  · cases h
def sIsNaN : PureFn
  | [.float .f64 x] => some (.bool (!feq x x))
  | _ => none
theorem sIsNaN_ok : IsPure Try.prog false 127 sIsNaN := by
  intro args v σ h
  unfold sIsNaN at h
  split at h
  · cases h; exact rIsNaN_c _ σ
  · cases h
noncomputable def t4 : Tab := ((t3.addP 32 sWrap).addP 127 sIsNaN)
theorem t4_ok : t4.Ok Try.prog false := (Tab.Ok.addP (Tab.Ok.addP t3_ok sWrap_ok) sIsNaN_ok)
noncomputable def L4 : Lib := ⟨Try.prog, false, t4, [(181, Try.f181), (160, Try.f160), (69, Try.f69), (55, Try.f55), (33, Try.f33), (128, Try.f128), (207, Try.f207), (122, Try.f122), (133, Try.f133), (134, Try.f134), (135, Try.f135), (136, Try.f136)], [(183, true, Try.f183)]⟩
theorem L4_fp : ∀ e, e ∈ L4.pures → Try.prog.funcs[e.1]? = some e.2 := fs_cons Try.func181 (fs_cons Try.func160 (fs_cons Try.func69 (fs_cons Try.func55 (fs_cons Try.func33 (fs_cons Try.func128 (fs_cons Try.func207 (fs_cons Try.func122 (fs_cons Try.func133 (fs_cons Try.func134 (fs_cons Try.func135 (fs_cons Try.func136 (fs_nil))))))))))))
theorem L4_fh : ∀ e, e ∈ L4.heaps → Try.prog.funcs[e.1]? = some e.2.2 := gs_cons Try.func183 (gs_nil)
theorem L4_p1 (gp : Nat → PureFn) (g : Nat → HeapFn) : (L4.pures.all fun e => fnOk (L4.mk' gp g) e.2) = true := by kernel_rfl
theorem L4_h1 (gp : Nat → PureFn) (g : Nat → HeapFn) : (L4.heaps.all fun e => fnOk (L4.mk' gp g) e.2.2 && (!e.2.1 || fnRo (L4.mk' gp g) e.2.2)) = true := by kernel_rfl
theorem L4_ok : L4.Ok := ⟨t4_ok, mixed, L4_fp, L4_fh, L4_p1, L4_h1⟩
noncomputable def dL4 : Cfg := L4.cfg 100 4
theorem dL4_ok : dL4.Ok := L4_ok.cfg 100 4

theorem wEighth_fok : fnOk (dL4) Try.f125 = true := by kernel_rfl
theorem wEighth_p0 (a : Nat) (σ : AHeap) (h0 : (feq a 4593671619917905920) = true) : CallR Try.prog false 125 [Value.float .f64 a] σ (Value.complex .f64 4604544271217802189 4604544271217802189) σ := CallR.of_DO_pure (C := dL4) dL4_ok Try.func125 wEighth_fok (n := 100) (orc := [(6, Item.br true)]) (ps := [(bP (feq a 4593671619917905920) true)]) (σ1 := []) (by kernel_rfl) ⟨bP_of (fun x => x) h0, trivial⟩ rfl rfl
theorem wEighth_p1 (a : Nat) (σ : AHeap) (h0 : (feq a 4593671619917905920) = false) : CallR Try.prog false 125 [Value.float .f64 a] σ (Value.complex .f64 (fadd (fmul (fadd (fmul (fadd (fmul (fadd (fmul (fadd (fmul (fadd (fmul (fadd (fmul (fadd (fmul 4407590220077447199 (fmul (fmul a 4618760256179416344) (fmul a 4618760256179416344))) 13666517717442657437) (fmul (fmul a 4618760256179416344) (fmul a 4618760256179416344))) 4477122120089393304) (fmul (fmul a 4618760256179416344) (fmul a 4618760256179416344))) 13732177094651715420) (fmul (fmul a 4618760256179416344) (fmul a 4618760256179416344))) 4537941361671905306) (fmul (fmul a 4618760256179416344) (fmul a 4618760256179416344))) 13787419979223755799) (fmul (fmul a 4618760256179416344) (fmul a 4618760256179416344))) 4586165620538955093) (fmul (fmul a 4618760256179416344) (fmul a 4618760256179416344))) 13826050856027422720) (fmul (fmul a 4618760256179416344) (fmul a 4618760256179416344))) 4607182418800017408) (fmul (fadd (fmul (fadd (fmul (fadd (fmul (fadd (fmul (fadd (fmul (fadd (fmul (fadd (fmul (fadd (fmul 4389130328383466826 (fmul (fmul a 4618760256179416344) (fmul a 4618760256179416344))) 13648976655441704991) (fmul (fmul a 4618760256179416344) (fmul a 4618760256179416344))) 4460272573143870729) (fmul (fmul a 4618760256179416344) (fmul a 4618760256179416344))) 13716528800881525988) (fmul (fmul a 4618760256179416344) (fmul a 4618760256179416344))) 4523617214285662004) (fmul (fmul a 4618760256179416344) (fmul a 4618760256179416344))) 13774824197408792602) (fmul (fmul a 4618760256179416344) (fmul a 4618760256179416344))) 4575957461383581969) (fmul (fmul a 4618760256179416344) (fmul a 4618760256179416344))) 13818544856648471893) (fmul (fmul a 4618760256179416344) (fmul a 4618760256179416344))) 4607182418800017408) (fmul a 4618760256179416344))) σ := CallR.of_DO_pure (C := dL4) dL4_ok Try.func125 wEighth_fok (n := 100) (orc := [(6, Item.br false)]) (ps := [(bP (feq a 4593671619917905920) false)]) (σ1 := [AObj.row [Value.float .f64 4607182418800017408, Value.float .f64 13818544856648471893, Value.float .f64 4575957461383581969, Value.float .f64 13774824197408792602, Value.float .f64 4523617214285662004, Value.float .f64 13716528800881525988, Value.float .f64 4460272573143870729, Value.float .f64 13648976655441704991, Value.float .f64 4389130328383466826, Value.float .f64 0, Value.float .f64 0, Value.float .f64 0, Value.float .f64 0, Value.float .f64 0, Value.float .f64 0, Value.float .f64 0, Value.float .f64 0, Value.float .f64 0, Value.float .f64 0, Value.float .f64 0, Value.float .f64 0, Value.float .f64 0, Value.float .f64 0, Value.float .f64 0] true none, AObj.row [Value.float .f64 4607182418800017408, Value.float .f64 13826050856027422720, Value.float .f64 4586165620538955093, Value.float .f64 13787419979223755799, Value.float .f64 4537941361671905306, Value.float .f64 13732177094651715420, Value.float .f64 4477122120089393304, Value.float .f64 13666517717442657437, Value.float .f64 4407590220077447199, Value.float .f64 0, Value.float .f64 0, Value.float .f64 0, Value.float .f64 0, Value.float .f64 0, Value.float .f64 0, Value.float .f64 0, Value.float .f64 0, Value.float .f64 0, Value.float .f64 0, Value.float .f64 0, Value.float .f64 0, Value.float .f64 0, Value.float .f64 0, Value.float .f64 0] true none]) (by kernel_rfl) ⟨bP_of (fun x => x) h0, trivial⟩ rfl rfl
def wEighth_t (a : Nat) : Value := (bif feq a 4593671619917905920 then (Value.complex .f64 4604544271217802189 4604544271217802189) else (Value.complex .f64 (fadd (fmul (fadd (fmul (fadd (fmul (fadd (fmul (fadd (fmul (fadd (fmul (fadd (fmul (fadd (fmul 4407590220077447199 (fmul (fmul a 4618760256179416344) (fmul a 4618760256179416344))) 13666517717442657437) (fmul (fmul a 4618760256179416344) (fmul a 4618760256179416344))) 4477122120089393304) (fmul (fmul a 4618760256179416344) (fmul a 4618760256179416344))) 13732177094651715420) (fmul (fmul a 4618760256179416344) (fmul a 4618760256179416344))) 4537941361671905306) (fmul (fmul a 4618760256179416344) (fmul a 4618760256179416344))) 13787419979223755799) (fmul (fmul a 4618760256179416344) (fmul a 4618760256179416344))) 4586165620538955093) (fmul (fmul a 4618760256179416344) (fmul a 4618760256179416344))) 13826050856027422720) (fmul (fmul a 4618760256179416344) (fmul a 4618760256179416344))) 4607182418800017408) (fmul (fadd (fmul (fadd (fmul (fadd (fmul (fadd (fmul (fadd (fmul (fadd (fmul (fadd (fmul (fadd (fmul 4389130328383466826 (fmul (fmul a 4618760256179416344) (fmul a 4618760256179416344))) 13648976655441704991) (fmul (fmul a 4618760256179416344) (fmul a 4618760256179416344))) 4460272573143870729) (fmul (fmul a 4618760256179416344) (fmul a 4618760256179416344))) 13716528800881525988) (fmul (fmul a 4618760256179416344) (fmul a 4618760256179416344))) 4523617214285662004) (fmul (fmul a 4618760256179416344) (fmul a 4618760256179416344))) 13774824197408792602) (fmul (fmul a 4618760256179416344) (fmul a 4618760256179416344))) 4575957461383581969) (fmul (fmul a 4618760256179416344) (fmul a 4618760256179416344))) 13818544856648471893) (fmul (fmul a 4618760256179416344) (fmul a 4618760256179416344))) 4607182418800017408) (fmul a 4618760256179416344))))
theorem wEighth_c (a : Nat) (σ : AHeap) : CallR Try.prog false 125 [Value.float .f64 a] σ (wEighth_t a) σ := by
  unfold wEighth_t
  exact (CallR.bif (fun h0 => (wEighth_p0 a σ h0)) (fun h0 => (wEighth_p1 a σ h0)))
def wEighth_0 (a : Nat) : Nat := (bif feq a 4593671619917905920 then 4604544271217802189 else fadd (fmul (fadd (fmul (fadd (fmul (fadd (fmul (fadd (fmul (fadd (fmul (fadd (fmul (fadd (fmul 4407590220077447199 (fmul (fmul a 4618760256179416344) (fmul a 4618760256179416344))) 13666517717442657437) (fmul (fmul a 4618760256179416344) (fmul a 4618760256179416344))) 4477122120089393304) (fmul (fmul a 4618760256179416344) (fmul a 4618760256179416344))) 13732177094651715420) (fmul (fmul a 4618760256179416344) (fmul a 4618760256179416344))) 4537941361671905306) (fmul (fmul a 4618760256179416344) (fmul a 4618760256179416344))) 13787419979223755799) (fmul (fmul a 4618760256179416344) (fmul a 4618760256179416344))) 4586165620538955093) (fmul (fmul a 4618760256179416344) (fmul a 4618760256179416344))) 13826050856027422720) (fmul (fmul a 4618760256179416344) (fmul a 4618760256179416344))) 4607182418800017408)
def wEighth_1 (a : Nat) : Nat := (bif feq a 4593671619917905920 then 4604544271217802189 else fmul (fadd (fmul (fadd (fmul (fadd (fmul (fadd (fmul (fadd (fmul (fadd (fmul (fadd (fmul (fadd (fmul 4389130328383466826 (fmul (fmul a 4618760256179416344) (fmul a 4618760256179416344))) 13648976655441704991) (fmul (fmul a 4618760256179416344) (fmul a 4618760256179416344))) 4460272573143870729) (fmul (fmul a 4618760256179416344) (fmul a 4618760256179416344))) 13716528800881525988) (fmul (fmul a 4618760256179416344) (fmul a 4618760256179416344))) 4523617214285662004) (fmul (fmul a 4618760256179416344) (fmul a 4618760256179416344))) 13774824197408792602) (fmul (fmul a 4618760256179416344) (fmul a 4618760256179416344))) 4575957461383581969) (fmul (fmul a 4618760256179416344) (fmul a 4618760256179416344))) 13818544856648471893) (fmul (fmul a 4618760256179416344) (fmul a 4618760256179416344))) 4607182418800017408) (fmul a 4618760256179416344))
theorem wEighth_v (a : Nat) : wEighth_t a = Go.Value.complex Go.FloatKind.f64 (wEighth_0 a) (wEighth_1 a) := by
  unfold wEighth_t wEighth_0 wEighth_1
  cases (feq a 4593671619917905920) with
  | true =>
    kernel_rfl
  | false =>
    kernel_rfl
theorem wEighth_ok (a : Nat) (σ : AHeap) : CallR Try.prog false 125 [Value.float .f64
    a] σ (Go.Value.complex Go.FloatKind.f64 (wEighth_0 a) (wEighth_1 a)) σ := by
  have h := wEighth_c a σ
  rw [wEighth_v] at h
  exact h
def sEighth : PureFn
  | [.float .f64 x] => some (.complex .f64 (wEighth_0 x) (wEighth_1 x))
  | _ => none
theorem sEighth_ok : IsPure Try.prog false 125 sEighth := by
  intro args v σ h
  unfold sEighth at h
  split at h
  · cases h; exact wEighth_ok _ σ
  · cases h
noncomputable def t5 : Tab := (t4.addP 125 sEighth)
theorem t5_ok : t5.Ok Try.prog false := (Tab.Ok.addP t4_ok sEighth_ok)
noncomputable def L5 : Lib := ⟨Try.prog, false, t5, [(181, Try.f181), (160, Try.f160), (69, Try.f69), (55, Try.f55), (33, Try.f33), (128, Try.f128), (207, Try.f207), (122, Try.f122), (133, Try.f133), (134, Try.f134), (135, Try.f135), (136, Try.f136)], [(183, true, Try.f183)]⟩
theorem L5_fp : ∀ e, e ∈ L5.pures → Try.prog.funcs[e.1]? = some e.2 := fs_cons Try.func181 (fs_cons Try.func160 (fs_cons Try.func69 (fs_cons Try.func55 (fs_cons Try.func33 (fs_cons Try.func128 (fs_cons Try.func207 (fs_cons Try.func122 (fs_cons Try.func133 (fs_cons Try.func134 (fs_cons Try.func135 (fs_cons Try.func136 (fs_nil))))))))))))
theorem L5_fh : ∀ e, e ∈ L5.heaps → Try.prog.funcs[e.1]? = some e.2.2 := gs_cons Try.func183 (gs_nil)
theorem L5_p1 (gp : Nat → PureFn) (g : Nat → HeapFn) : (L5.pures.all fun e => fnOk (L5.mk' gp g) e.2) = true := by kernel_rfl
theorem L5_h1 (gp : Nat → PureFn) (g : Nat → HeapFn) : (L5.heaps.all fun e => fnOk (L5.mk' gp g) e.2.2 && (!e.2.1 || fnRo (L5.mk' gp g) e.2.2)) = true := by kernel_rfl
theorem L5_ok : L5.Ok := ⟨t5_ok, mixed, L5_fp, L5_fh, L5_p1, L5_h1⟩
noncomputable def dL5 : Cfg := L5.cfg 100 4
theorem dL5_ok : dL5.Ok := L5_ok.cfg 100 4

theorem wTurn_fok : fnOk (dL5) Try.f36 = true := by kernel_rfl
theorem wTurn_p0 (x : Nat) (σ : AHeap) (h0 : (feq (wrapP x) (wrapP x)) = true) (h1 : (fgt (fabs (wrapP x)) 4598175219545276416) = true) (h2 : (fgt (fsub 4602678819172646912 (fabs (wrapP x))) 4593671619917905920) = true) (h3 : (flt (wrapP x) 0) = true) : CallR Try.prog false 36 [Value.float .f64 x] σ (Value.complex .f64 (fadd (aneg false (wEighth_1 (fsub 4598175219545276416 (fsub 4602678819172646912 (fabs (wrapP x)))))) 0) (fadd (aneg false (wEighth_0 (fsub 4598175219545276416 (fsub 4602678819172646912 (fabs (wrapP x)))))) 0)) σ := CallR.of_DO_pure (C := dL5) dL5_ok Try.func36 wTurn_fok (n := 100) (orc := [(14, Item.br false), (29, Item.br true), (44, Item.br true), (59, Item.br true), (74, Item.br true), (93, Item.br true)]) (ps := [(bP (!feq (wrapP x) (wrapP x)) false), (bP (fgt (fabs (wrapP x)) 4598175219545276416) true), (bP (fgt (fsub 4602678819172646912 (fabs (wrapP x))) 4593671619917905920) true), (bP (fgt (fsub 4602678819172646912 (fabs (wrapP x))) 4593671619917905920) true), (bP (fgt (fabs (wrapP x)) 4598175219545276416) true), (bP (flt (wrapP x) 0) true)]) (σ1 := []) (by kernel_rfl) ⟨bP_of (fun x => !x) h0, ⟨bP_of (fun x => x) h1, ⟨bP_of (fun x => x) h2, ⟨bP_of (fun x => x) h2, ⟨bP_of (fun x => x) h1, ⟨bP_of (fun x => x) h3, trivial⟩⟩⟩⟩⟩⟩ rfl rfl
theorem wTurn_p1 (x : Nat) (σ : AHeap) (h0 : (feq (wrapP x) (wrapP x)) = true) (h1 : (fgt (fabs (wrapP x)) 4598175219545276416) = true) (h2 : (fgt (fsub 4602678819172646912 (fabs (wrapP x))) 4593671619917905920) = true) (h3 : (flt (wrapP x) 0) = false) : CallR Try.prog false 36 [Value.float .f64 x] σ (Value.complex .f64 (fadd (aneg false (wEighth_1 (fsub 4598175219545276416 (fsub 4602678819172646912 (fabs (wrapP x)))))) 0) (fadd (wEighth_0 (fsub 4598175219545276416 (fsub 4602678819172646912 (fabs (wrapP x))))) 0)) σ := CallR.of_DO_pure (C := dL5) dL5_ok Try.func36 wTurn_fok (n := 100) (orc := [(14, Item.br false), (29, Item.br true), (44, Item.br true), (59, Item.br true), (74, Item.br true), (93, Item.br false)]) (ps := [(bP (!feq (wrapP x) (wrapP x)) false), (bP (fgt (fabs (wrapP x)) 4598175219545276416) true), (bP (fgt (fsub 4602678819172646912 (fabs (wrapP x))) 4593671619917905920) true), (bP (fgt (fsub 4602678819172646912 (fabs (wrapP x))) 4593671619917905920) true), (bP (fgt (fabs (wrapP x)) 4598175219545276416) true), (bP (flt (wrapP x) 0) false)]) (σ1 := []) (by kernel_rfl) ⟨bP_of (fun x => !x) h0, ⟨bP_of (fun x => x) h1, ⟨bP_of (fun x => x) h2, ⟨bP_of (fun x => x) h2, ⟨bP_of (fun x => x) h1, ⟨bP_of (fun x => x) h3, trivial⟩⟩⟩⟩⟩⟩ rfl rfl
theorem wTurn_p2 (x : Nat) (σ : AHeap) (h0 : (feq (wrapP x) (wrapP x)) = true) (h1 : (fgt (fabs (wrapP x)) 4598175219545276416) = true) (h2 : (fgt (fsub 4602678819172646912 (fabs (wrapP x))) 4593671619917905920) = false) (h3 : (flt (wrapP x) 0) = true) : CallR Try.prog false 36 [Value.float .f64 x] σ (Value.complex .f64 (fadd (aneg false (wEighth_0 (fsub 4602678819172646912 (fabs (wrapP x))))) 0) (fadd (aneg false (wEighth_1 (fsub 4602678819172646912 (fabs (wrapP x))))) 0)) σ := CallR.of_DO_pure (C := dL5) dL5_ok Try.func36 wTurn_fok (n := 100) (orc := [(14, Item.br false), (29, Item.br true), (44, Item.br false), (53, Item.br false), (56, Item.br true), (75, Item.br true)]) (ps := [(bP (!feq (wrapP x) (wrapP x)) false), (bP (fgt (fabs (wrapP x)) 4598175219545276416) true), (bP (fgt (fsub 4602678819172646912 (fabs (wrapP x))) 4593671619917905920) false), (bP (fgt (fsub 4602678819172646912 (fabs (wrapP x))) 4593671619917905920) false), (bP (fgt (fabs (wrapP x)) 4598175219545276416) true), (bP (flt (wrapP x) 0) true)]) (σ1 := []) (by kernel_rfl) ⟨bP_of (fun x => !x) h0, ⟨bP_of (fun x => x) h1, ⟨bP_of (fun x => x) h2, ⟨bP_of (fun x => x) h2, ⟨bP_of (fun x => x) h1, ⟨bP_of (fun x => x) h3, trivial⟩⟩⟩⟩⟩⟩ rfl rfl
theorem wTurn_p3 (x : Nat) (σ : AHeap) (h0 : (feq (wrapP x) (wrapP x)) = true) (h1 : (fgt (fabs (wrapP x)) 4598175219545276416) = true) (h2 : (fgt (fsub 4602678819172646912 (fabs (wrapP x))) 4593671619917905920) = false) (h3 : (flt (wrapP x) 0) = false) : CallR Try.prog false 36 [Value.float .f64 x] σ (Value.complex .f64 (fadd (aneg false (wEighth_0 (fsub 4602678819172646912 (fabs (wrapP x))))) 0) (fadd (wEighth_1 (fsub 4602678819172646912 (fabs (wrapP x)))) 0)) σ := CallR.of_DO_pure (C := dL5) dL5_ok Try.func36 wTurn_fok (n := 100) (orc := [(14, Item.br false), (29, Item.br true), (44, Item.br false), (53, Item.br false), (56, Item.br true), (75, Item.br false)]) (ps := [(bP (!feq (wrapP x) (wrapP x)) false), (bP (fgt (fabs (wrapP x)) 4598175219545276416) true), (bP (fgt (fsub 4602678819172646912 (fabs (wrapP x))) 4593671619917905920) false), (bP (fgt (fsub 4602678819172646912 (fabs (wrapP x))) 4593671619917905920) false), (bP (fgt (fabs (wrapP x)) 4598175219545276416) true), (bP (flt (wrapP x) 0) false)]) (σ1 := []) (by kernel_rfl) ⟨bP_of (fun x => !x) h0, ⟨bP_of (fun x => x) h1, ⟨bP_of (fun x => x) h2, ⟨bP_of (fun x => x) h2, ⟨bP_of (fun x => x) h1, ⟨bP_of (fun x => x) h3, trivial⟩⟩⟩⟩⟩⟩ rfl rfl
theorem wTurn_p4 (x : Nat) (σ : AHeap) (h0 : (feq (wrapP x) (wrapP x)) = true) (h1 : (fgt (fabs (wrapP x)) 4598175219545276416) = false) (h2 : (fgt (fabs (wrapP x)) 4593671619917905920) = true) (h3 : (flt (wrapP x) 0) = true) : CallR Try.prog false 36 [Value.float .f64 x] σ (Value.complex .f64 (fadd (wEighth_1 (fsub 4598175219545276416 (fabs (wrapP x)))) 0) (fadd (aneg false (wEighth_0 (fsub 4598175219545276416 (fabs (wrapP x))))) 0)) σ := CallR.of_DO_pure (C := dL5) dL5_ok Try.func36 wTurn_fok (n := 100) (orc := [(14, Item.br false), (29, Item.br false), (38, Item.br true), (53, Item.br true), (68, Item.br false), (73, Item.br true)]) (ps := [(bP (!feq (wrapP x) (wrapP x)) false), (bP (fgt (fabs (wrapP x)) 4598175219545276416) false), (bP (fgt (fabs (wrapP x)) 4593671619917905920) true), (bP (fgt (fabs (wrapP x)) 4593671619917905920) true), (bP (fgt (fabs (wrapP x)) 4598175219545276416) false), (bP (flt (wrapP x) 0) true)]) (σ1 := []) (by kernel_rfl) ⟨bP_of (fun x => !x) h0, ⟨bP_of (fun x => x) h1, ⟨bP_of (fun x => x) h2, ⟨bP_of (fun x => x) h2, ⟨bP_of (fun x => x) h1, ⟨bP_of (fun x => x) h3, trivial⟩⟩⟩⟩⟩⟩ rfl rfl
theorem wTurn_p5 (x : Nat) (σ : AHeap) (h0 : (feq (wrapP x) (wrapP x)) = true) (h1 : (fgt (fabs (wrapP x)) 4598175219545276416) = false) (h2 : (fgt (fabs (wrapP x)) 4593671619917905920) = true) (h3 : (flt (wrapP x) 0) = false) : CallR Try.prog false 36 [Value.float .f64 x] σ (Value.complex .f64 (fadd (wEighth_1 (fsub 4598175219545276416 (fabs (wrapP x)))) 0) (fadd (wEighth_0 (fsub 4598175219545276416 (fabs (wrapP x)))) 0)) σ := CallR.of_DO_pure (C := dL5) dL5_ok Try.func36 wTurn_fok (n := 100) (orc := [(14, Item.br false), (29, Item.br false), (38, Item.br true), (53, Item.br true), (68, Item.br false), (73, Item.br false)]) (ps := [(bP (!feq (wrapP x) (wrapP x)) false), (bP (fgt (fabs (wrapP x)) 4598175219545276416) false), (bP (fgt (fabs (wrapP x)) 4593671619917905920) true), (bP (fgt (fabs (wrapP x)) 4593671619917905920) true), (bP (fgt (fabs (wrapP x)) 4598175219545276416) false), (bP (flt (wrapP x) 0) false)]) (σ1 := []) (by kernel_rfl) ⟨bP_of (fun x => !x) h0, ⟨bP_of (fun x => x) h1, ⟨bP_of (fun x => x) h2, ⟨bP_of (fun x => x) h2, ⟨bP_of (fun x => x) h1, ⟨bP_of (fun x => x) h3, trivial⟩⟩⟩⟩⟩⟩ rfl rfl
theorem wTurn_p6 (x : Nat) (σ : AHeap) (h0 : (feq (wrapP x) (wrapP x)) = true) (h1 : (fgt (fabs (wrapP x)) 4598175219545276416) = false) (h2 : (fgt (fabs (wrapP x)) 4593671619917905920) = false) (h3 : (flt (wrapP x) 0) = true) : CallR Try.prog false 36 [Value.float .f64 x] σ (Value.complex .f64 (fadd (wEighth_0 (fabs (wrapP x))) 0) (fadd (aneg false (wEighth_1 (fabs (wrapP x)))) 0)) σ := CallR.of_DO_pure (C := dL5) dL5_ok Try.func36 wTurn_fok (n := 100) (orc := [(14, Item.br false), (29, Item.br false), (38, Item.br false), (47, Item.br false), (50, Item.br false), (55, Item.br true)]) (ps := [(bP (!feq (wrapP x) (wrapP x)) false), (bP (fgt (fabs (wrapP x)) 4598175219545276416) false), (bP (fgt (fabs (wrapP x)) 4593671619917905920) false), (bP (fgt (fabs (wrapP x)) 4593671619917905920) false), (bP (fgt (fabs (wrapP x)) 4598175219545276416) false), (bP (flt (wrapP x) 0) true)]) (σ1 := []) (by kernel_rfl) ⟨bP_of (fun x => !x) h0, ⟨bP_of (fun x => x) h1, ⟨bP_of (fun x => x) h2, ⟨bP_of (fun x => x) h2, ⟨bP_of (fun x => x) h1, ⟨bP_of (fun x => x) h3, trivial⟩⟩⟩⟩⟩⟩ rfl rfl
theorem wTurn_p7 (x : Nat) (σ : AHeap) (h0 : (feq (wrapP x) (wrapP x)) = true) (h1 : (fgt (fabs (wrapP x)) 4598175219545276416) = false) (h2 : (fgt (fabs (wrapP x)) 4593671619917905920) = false) (h3 : (flt (wrapP x) 0) = false) : CallR Try.prog false 36 [Value.float .f64 x] σ (Value.complex .f64 (fadd (wEighth_0 (fabs (wrapP x))) 0) (fadd (wEighth_1 (fabs (wrapP x))) 0)) σ := CallR.of_DO_pure (C := dL5) dL5_ok Try.func36 wTurn_fok (n := 100) (orc := [(14, Item.br false), (29, Item.br false), (38, Item.br false), (47, Item.br false), (50, Item.br false), (55, Item.br false)]) (ps := [(bP (!feq (wrapP x) (wrapP x)) false), (bP (fgt (fabs (wrapP x)) 4598175219545276416) false), (bP (fgt (fabs (wrapP x)) 4593671619917905920) false), (bP (fgt (fabs (wrapP x)) 4593671619917905920) false), (bP (fgt (fabs (wrapP x)) 4598175219545276416) false), (bP (flt (wrapP x) 0) false)]) (σ1 := []) (by kernel_rfl) ⟨bP_of (fun x => !x) h0, ⟨bP_of (fun x => x) h1, ⟨bP_of (fun x => x) h2, ⟨bP_of (fun x => x) h2, ⟨bP_of (fun x => x) h1, ⟨bP_of (fun x => x) h3, trivial⟩⟩⟩⟩⟩⟩ rfl rfl
theorem wTurn_p8 (x : Nat) (σ : AHeap) (h0 : (feq (wrapP x) (wrapP x)) = false) : CallR Try.prog false 36 [Value.float .f64 x] σ (Value.complex .f64 (wrapP x) (wrapP x)) σ := CallR.of_DO_pure (C := dL5) dL5_ok Try.func36 wTurn_fok (n := 100) (orc := [(14, Item.br true)]) (ps := [(bP (!feq (wrapP x) (wrapP x)) true)]) (σ1 := []) (by kernel_rfl) ⟨bP_of (fun x => !x) h0, trivial⟩ rfl rfl
def wTurn_t (x : Nat) : Value := (bif feq (wrapP x) (wrapP x) then (bif fgt (fabs (wrapP x)) 4598175219545276416 then (bif fgt (fsub 4602678819172646912 (fabs (wrapP x))) 4593671619917905920 then (bif flt (wrapP x) 0 then (Value.complex .f64 (fadd (aneg false (wEighth_1 (fsub 4598175219545276416 (fsub 4602678819172646912 (fabs (wrapP x)))))) 0) (fadd (aneg false (wEighth_0 (fsub 4598175219545276416 (fsub 4602678819172646912 (fabs (wrapP x)))))) 0)) else (Value.complex .f64 (fadd (aneg false (wEighth_1 (fsub 4598175219545276416 (fsub 4602678819172646912 (fabs (wrapP x)))))) 0) (fadd (wEighth_0 (fsub 4598175219545276416 (fsub 4602678819172646912 (fabs (wrapP x))))) 0))) else (bif flt (wrapP x) 0 then (Value.complex .f64 (fadd (aneg false (wEighth_0 (fsub 4602678819172646912 (fabs (wrapP x))))) 0) (fadd (aneg false (wEighth_1 (fsub 4602678819172646912 (fabs (wrapP x))))) 0)) else (Value.complex .f64 (fadd (aneg false (wEighth_0 (fsub 4602678819172646912 (fabs (wrapP x))))) 0) (fadd (wEighth_1 (fsub 4602678819172646912 (fabs (wrapP x)))) 0)))) else (bif fgt (fabs (wrapP x)) 4593671619917905920 then (bif flt (wrapP x) 0 then (Value.complex .f64 (fadd (wEighth_1 (fsub 4598175219545276416 (fabs (wrapP x)))) 0) (fadd (aneg false (wEighth_0 (fsub 4598175219545276416 (fabs (wrapP x))))) 0)) else (Value.complex .f64 (fadd (wEighth_1 (fsub 4598175219545276416 (fabs (wrapP x)))) 0) (fadd (wEighth_0 (fsub 4598175219545276416 (fabs (wrapP x)))) 0))) else (bif flt (wrapP x) 0 then (Value.complex .f64 (fadd (wEighth_0 (fabs (wrapP x))) 0) (fadd (aneg false (wEighth_1 (fabs (wrapP x)))) 0)) else (Value.complex .f64 (fadd (wEighth_0 (fabs (wrapP x))) 0) (fadd (wEighth_1 (fabs (wrapP x))) 0))))) else (Value.complex .f64 (wrapP x) (wrapP x)))
theorem wTurn_c (x : Nat) (σ : AHeap) : CallR Try.prog false 36 [Value.float .f64 x] σ (wTurn_t x) σ := by
  unfold wTurn_t
  exact (CallR.bif (fun h0 => (CallR.bif (fun h1 => (CallR.bif (fun h2 => (CallR.bif (fun h3 => (wTurn_p0 x σ h0 h1 h2 h3)) (fun h3 => (wTurn_p1 x σ h0 h1 h2 h3)))) (fun h2 => (CallR.bif (fun h3 => (wTurn_p2 x σ h0 h1 h2 h3)) (fun h3 => (wTurn_p3 x σ h0 h1 h2 h3)))))) (fun h1 => (CallR.bif (fun h2 => (CallR.bif (fun h3 => (wTurn_p4 x σ h0 h1 h2 h3)) (fun h3 => (wTurn_p5 x σ h0 h1 h2 h3)))) (fun h2 => (CallR.bif (fun h3 => (wTurn_p6 x σ h0 h1 h2 h3)) (fun h3 => (wTurn_p7 x σ h0 h1 h2 h3)))))))) (fun h0 => (wTurn_p8 x σ h0)))
def wTurn_0 (x : Nat) : Nat := (bif feq (wrapP x) (wrapP x) then (bif fgt (fabs (wrapP x)) 4598175219545276416 then (bif fgt (fsub 4602678819172646912 (fabs (wrapP x))) 4593671619917905920 then (bif flt (wrapP x) 0 then fadd (aneg false (wEighth_1 (fsub 4598175219545276416 (fsub 4602678819172646912 (fabs (wrapP x)))))) 0 else fadd (aneg false (wEighth_1 (fsub 4598175219545276416 (fsub 4602678819172646912 (fabs (wrapP x)))))) 0) else (bif flt (wrapP x) 0 then fadd (aneg false (wEighth_0 (fsub 4602678819172646912 (fabs (wrapP x))))) 0 else fadd (aneg false (wEighth_0 (fsub 4602678819172646912 (fabs (wrapP x))))) 0)) else (bif fgt (fabs (wrapP x)) 4593671619917905920 then (bif flt (wrapP x) 0 then fadd (wEighth_1 (fsub 4598175219545276416 (fabs (wrapP x)))) 0 else fadd (wEighth_1 (fsub 4598175219545276416 (fabs (wrapP x)))) 0) else (bif flt (wrapP x) 0 then fadd (wEighth_0 (fabs (wrapP x))) 0 else fadd (wEighth_0 (fabs (wrapP x))) 0))) else wrapP x)
def wTurn_1 (x : Nat) : Nat := (bif feq (wrapP x) (wrapP x) then (bif fgt (fabs (wrapP x)) 4598175219545276416 then (bif fgt (fsub 4602678819172646912 (fabs (wrapP x))) 4593671619917905920 then (bif flt (wrapP x) 0 then fadd (aneg false (wEighth_0 (fsub 4598175219545276416 (fsub 4602678819172646912 (fabs (wrapP x)))))) 0 else fadd (wEighth_0 (fsub 4598175219545276416 (fsub 4602678819172646912 (fabs (wrapP x))))) 0) else (bif flt (wrapP x) 0 then fadd (aneg false (wEighth_1 (fsub 4602678819172646912 (fabs (wrapP x))))) 0 else fadd (wEighth_1 (fsub 4602678819172646912 (fabs (wrapP x)))) 0)) else (bif fgt (fabs (wrapP x)) 4593671619917905920 then (bif flt (wrapP x) 0 then fadd (aneg false (wEighth_0 (fsub 4598175219545276416 (fabs (wrapP x))))) 0 else fadd (wEighth_0 (fsub 4598175219545276416 (fabs (wrapP x)))) 0) else (bif flt (wrapP x) 0 then fadd (aneg false (wEighth_1 (fabs (wrapP x)))) 0 else fadd (wEighth_1 (fabs (wrapP x))) 0))) else wrapP x)
theorem wTurn_v (x : Nat) : wTurn_t x = Go.Value.complex Go.FloatKind.f64 (wTurn_0 x) (wTurn_1 x) := by
  unfold wTurn_t wTurn_0 wTurn_1
  cases (feq (wrapP x) (wrapP x)) with
  | true =>
    cases (fgt (fabs (wrapP x)) 4598175219545276416) with
    | true =>
      cases (fgt (fsub 4602678819172646912 (fabs (wrapP x))) 4593671619917905920) with
      | true =>
        cases (flt (wrapP x) 0) with
        | true =>
          kernel_rfl
        | false =>
          kernel_rfl
      | false =>
        cases (flt (wrapP x) 0) with
        | true =>
          kernel_rfl
        | false =>
          kernel_rfl
    | false =>
      cases (fgt (fabs (wrapP x)) 4593671619917905920) with
      | true =>
        cases (flt (wrapP x) 0) with
        | true =>
          kernel_rfl
        | false =>
          kernel_rfl
      | false =>
        cases (flt (wrapP x) 0) with
        | true =>
          kernel_rfl
        | false =>
          kernel_rfl
  | false =>
    kernel_rfl
theorem wTurn_ok (x : Nat) (σ : AHeap) : CallR Try.prog false 36 [Value.float .f64
    x] σ (Go.Value.complex Go.FloatKind.f64 (wTurn_0 x) (wTurn_1 x)) σ := by
  have h := wTurn_c x σ
  rw [wTurn_v] at h
  exact h
end Go.Lk
end

section
/- Abs, by itself. -/
namespace Go.Lk
open Go.Proofs
set_option maxRecDepth 100000
set_option maxHeartbeats 0
set_option linter.unusedVariables false
set_option linter.unusedSimpArgs false
noncomputable def LBa : Lib := ⟨Try.prog, false, t2, [(128, Try.f128), (159, Try.f159), (160, Try.f160), (33, Try.f33), (55, Try.f55), (127, Try.f127)], []⟩
theorem LBa_fp : ∀ e, e ∈ LBa.pures → Try.prog.funcs[e.1]? = some e.2 := fs_cons Try.func128 (fs_cons Try.func159 (fs_cons Try.func160 (fs_cons Try.func33 (fs_cons Try.func55 (fs_cons Try.func127 (fs_nil))))))
theorem LBa_fh : ∀ e, e ∈ LBa.heaps → Try.prog.funcs[e.1]? = some e.2.2 := gs_nil
theorem LBa_p1 (gp : Nat → PureFn) (g : Nat → HeapFn) : (LBa.pures.all fun e => fnOk (LBa.mk' gp g) e.2) = true := by kernel_rfl
theorem LBa_h1 (gp : Nat → PureFn) (g : Nat → HeapFn) : (LBa.heaps.all fun e => fnOk (LBa.mk' gp g) e.2.2 && (!e.2.1 || fnRo (LBa.mk' gp g) e.2.2)) = true := by kernel_rfl
theorem LBa_ok : LBa.Ok := ⟨t2_ok, mixed, LBa_fp, LBa_fh, LBa_p1, LBa_h1⟩
noncomputable def dLBa : Cfg := LBa.cfg 100 6
theorem dLBa_ok : dLBa.Ok := LBa_ok.cfg 100 6

theorem bKind_fok : fnOk (dLBa) Try.f159 = true := by kernel_rfl
theorem bKind_p0 (a : Nat) (b : Nat) (σ : AHeap) (h0 : (fgt (fabs a) 9218868437227405311) = true) : CallR Try.prog false 159 [Value.complex .f64 a b] σ (Value.int IntKind.i8 (Int.ofNat 1)) σ := CallR.of_DO_pure (C := dLBa) dLBa_ok Try.func159 bKind_fok (n := 100) (orc := [(10, Item.br true), (11, Item.br true)]) (ps := [(bP (fgt (fabs a) 9218868437227405311) true), (bP (fgt (fabs a) 9218868437227405311) true)]) (σ1 := []) (by kernel_rfl) ⟨bP_of (fun x => x) h0, ⟨bP_of (fun x => x) h0, trivial⟩⟩ rfl rfl
theorem bKind_p1 (a : Nat) (b : Nat) (σ : AHeap) (h0 : (fgt (fabs a) 9218868437227405311) = false) (h1 : (fgt (fabs b) 9218868437227405311) = true) : CallR Try.prog false 159 [Value.complex .f64 a b] σ (Value.int IntKind.i8 (Int.ofNat 1)) σ := CallR.of_DO_pure (C := dLBa) dLBa_ok Try.func159 bKind_fok (n := 100) (orc := [(10, Item.br false), (19, Item.br true)]) (ps := [(bP (fgt (fabs a) 9218868437227405311) false), (bP (fgt (fabs b) 9218868437227405311) true)]) (σ1 := []) (by kernel_rfl) ⟨bP_of (fun x => x) h0, ⟨bP_of (fun x => x) h1, trivial⟩⟩ rfl rfl
theorem bKind_p2 (a : Nat) (b : Nat) (σ : AHeap) (h0 : (fgt (fabs a) 9218868437227405311) = false) (h1 : (fgt (fabs b) 9218868437227405311) = false) (h2 : (feq a a) = true) (h3 : (feq b b) = true) : CallR Try.prog false 159 [Value.complex .f64 a b] σ (Value.int IntKind.i8 (Int.ofNat 0)) σ := CallR.of_DO_pure (C := dLBa) dLBa_ok Try.func159 bKind_fok (n := 100) (orc := [(10, Item.br false), (19, Item.br false), (32, Item.br false), (45, Item.br false)]) (ps := [(bP (fgt (fabs a) 9218868437227405311) false), (bP (fgt (fabs b) 9218868437227405311) false), (bP (!feq a a) false), (bP (!feq b b) false)]) (σ1 := []) (by kernel_rfl) ⟨bP_of (fun x => x) h0, ⟨bP_of (fun x => x) h1, ⟨bP_of (fun x => !x) h2, ⟨bP_of (fun x => !x) h3, trivial⟩⟩⟩⟩ rfl rfl
theorem bKind_p3 (a : Nat) (b : Nat) (σ : AHeap) (h0 : (fgt (fabs a) 9218868437227405311) = false) (h1 : (fgt (fabs b) 9218868437227405311) = false) (h2 : (feq a a) = true) (h3 : (feq b b) = false) : CallR Try.prog false 159 [Value.complex .f64 a b] σ (Value.int IntKind.i8 (Int.ofNat 2)) σ := CallR.of_DO_pure (C := dLBa) dLBa_ok Try.func159 bKind_fok (n := 100) (orc := [(10, Item.br false), (19, Item.br false), (32, Item.br false), (45, Item.br true)]) (ps := [(bP (fgt (fabs a) 9218868437227405311) false), (bP (fgt (fabs b) 9218868437227405311) false), (bP (!feq a a) false), (bP (!feq b b) true)]) (σ1 := []) (by kernel_rfl) ⟨bP_of (fun x => x) h0, ⟨bP_of (fun x => x) h1, ⟨bP_of (fun x => !x) h2, ⟨bP_of (fun x => !x) h3, trivial⟩⟩⟩⟩ rfl rfl
theorem bKind_p4 (a : Nat) (b : Nat) (σ : AHeap) (h0 : (fgt (fabs a) 9218868437227405311) = false) (h1 : (fgt (fabs b) 9218868437227405311) = false) (h2 : (feq a a) = false) : CallR Try.prog false 159 [Value.complex .f64 a b] σ (Value.int IntKind.i8 (Int.ofNat 2)) σ := CallR.of_DO_pure (C := dLBa) dLBa_ok Try.func159 bKind_fok (n := 100) (orc := [(10, Item.br false), (19, Item.br false), (32, Item.br true), (33, Item.br true)]) (ps := [(bP (fgt (fabs a) 9218868437227405311) false), (bP (fgt (fabs b) 9218868437227405311) false), (bP (!feq a a) true), (bP (!feq a a) true)]) (σ1 := []) (by kernel_rfl) ⟨bP_of (fun x => x) h0, ⟨bP_of (fun x => x) h1, ⟨bP_of (fun x => !x) h2, ⟨bP_of (fun x => !x) h2, trivial⟩⟩⟩⟩ rfl rfl
def bKind_t (a : Nat) (b : Nat) : Value := (bif fgt (fabs a) 9218868437227405311 then (Value.int IntKind.i8 (Int.ofNat 1)) else (bif fgt (fabs b) 9218868437227405311 then (Value.int IntKind.i8 (Int.ofNat 1)) else (bif feq a a then (bif feq b b then (Value.int IntKind.i8 (Int.ofNat 0)) else (Value.int IntKind.i8 (Int.ofNat 2))) else (Value.int IntKind.i8 (Int.ofNat 2)))))
theorem bKind_c (a : Nat) (b : Nat) (σ : AHeap) : CallR Try.prog false 159 [Value.complex .f64 a
    b] σ (bKind_t a b) σ := by
  unfold bKind_t
  exact (CallR.bif (fun h0 => (bKind_p0 a b σ h0)) (fun h0 => (CallR.bif (fun h1 => (bKind_p1 a b σ h0 h1)) (fun h1 => (CallR.bif (fun h2 => (CallR.bif (fun h3 => (bKind_p2 a b σ h0 h1 h2 h3)) (fun h3 => (bKind_p3 a b σ h0 h1 h2 h3)))) (fun h2 => (bKind_p4 a b σ h0 h1 h2)))))))
def bKind_0 (a : Nat) (b : Nat) : Int := (bif fgt (fabs a) 9218868437227405311 then Int.ofNat 1 else (bif fgt (fabs b) 9218868437227405311 then Int.ofNat 1 else (bif feq a a then (bif feq b b then Int.ofNat 0 else Int.ofNat 2) else Int.ofNat 2)))
theorem bKind_v (a : Nat) (b : Nat) : bKind_t a b = Go.Value.int Go.IntKind.i8 (bKind_0 a b) := by
  unfold bKind_t bKind_0
  cases (fgt (fabs a) 9218868437227405311) with
  | true =>
    kernel_rfl
  | false =>
    cases (fgt (fabs b) 9218868437227405311) with
    | true =>
      kernel_rfl
    | false =>
      cases (feq a a) with
      | true =>
        cases (feq b b) with
        | true =>
          kernel_rfl
        | false =>
          kernel_rfl
      | false =>
        kernel_rfl
theorem bKind_ok (a : Nat) (b : Nat) (σ : AHeap) : CallR Try.prog false 159 [Value.complex .f64 a
    b] σ (Go.Value.int Go.IntKind.i8 (bKind_0 a b)) σ := by
  have h := bKind_c a b σ
  rw [bKind_v] at h
  exact h
def sBKind : PureFn
  | [.complex .f64 a b] => some (.int .i8 (bKind_0 a b))
  | _ => none
theorem sBKind_ok : IsPure Try.prog false 159 sBKind := by
  intro args v σ h
  unfold sBKind at h
  split at h
  · cases h; exact bKind_ok _ _ σ
  · cases h
noncomputable def tba : Tab := (t2.addP 159 sBKind)
theorem tba_ok : tba.Ok Try.prog false := (Tab.Ok.addP t2_ok sBKind_ok)
noncomputable def LBb : Lib := ⟨Try.prog, false, tba, [(128, Try.f128), (160, Try.f160), (33, Try.f33), (55, Try.f55), (127, Try.f127)], []⟩
theorem LBb_fp : ∀ e, e ∈ LBb.pures → Try.prog.funcs[e.1]? = some e.2 := fs_cons Try.func128 (fs_cons Try.func160 (fs_cons Try.func33 (fs_cons Try.func55 (fs_cons Try.func127 (fs_nil)))))
theorem LBb_fh : ∀ e, e ∈ LBb.heaps → Try.prog.funcs[e.1]? = some e.2.2 := gs_nil
theorem LBb_p1 (gp : Nat → PureFn) (g : Nat → HeapFn) : (LBb.pures.all fun e => fnOk (LBb.mk' gp g) e.2) = true := by kernel_rfl
theorem LBb_h1 (gp : Nat → PureFn) (g : Nat → HeapFn) : (LBb.heaps.all fun e => fnOk (LBb.mk' gp g) e.2.2 && (!e.2.1 || fnRo (LBb.mk' gp g) e.2.2)) = true := by kernel_rfl
theorem LBb_ok : LBb.Ok := ⟨tba_ok, mixed, LBb_fp, LBb_fh, LBb_p1, LBb_h1⟩
noncomputable def dLBb : Cfg := LBb.cfg 100 6
theorem dLBb_ok : dLBb.Ok := LBb_ok.cfg 100 6

theorem bAbs_fok : fnOk (dLBb) Try.f89 = true := by kernel_rfl
theorem bAbs_p0 (a : Nat) (b : Nat) (σ : AHeap) (h0 : (bKind_0 a b == Int.ofNat 1) = true) : CallR Try.prog false 89 [Value.complex .f64 a b] σ (Value.float .f64 9218868437227405312) σ := CallR.of_DO_pure (C := dLBb) dLBb_ok Try.func89 bAbs_fok (n := 100) (orc := [(26, Item.br true)]) (ps := [(bP (bKind_0 a b == Int.ofNat 1) true)]) (σ1 := []) (by kernel_rfl) ⟨bP_of (fun x => x) h0, trivial⟩ rfl rfl
theorem bAbs_p1 (a : Nat) (b : Nat) (σ : AHeap) (h0 : (bKind_0 a b == Int.ofNat 1) = false) (h1 : (bKind_0 a b == Int.ofNat 2) = true) : CallR Try.prog false 89 [Value.complex .f64 a b] σ (Value.float .f64 9221120237041090561) σ := CallR.of_DO_pure (C := dLBb) dLBb_ok Try.func89 bAbs_fok (n := 100) (orc := [(26, Item.br false), (31, Item.br true)]) (ps := [(bP (bKind_0 a b == Int.ofNat 1) false), (bP (bKind_0 a b == Int.ofNat 2) true)]) (σ1 := []) (by kernel_rfl) ⟨bP_of (fun x => x) h0, ⟨bP_of (fun x => x) h1, trivial⟩⟩ rfl rfl
theorem bAbs_p2 (a : Nat) (b : Nat) (σ : AHeap) (h0 : (bKind_0 a b == Int.ofNat 1) = false) (h1 : (bKind_0 a b == Int.ofNat 2) = false) (h2 : (feq (fmax (fabs a) (fabs b)) 0) = true) : CallR Try.prog false 89 [Value.complex .f64 a b] σ (Value.float .f64 0) σ := CallR.of_DO_pure (C := dLBb) dLBb_ok Try.func89 bAbs_fok (n := 100) (orc := [(26, Item.br false), (31, Item.br false), (52, Item.br true)]) (ps := [(bP (bKind_0 a b == Int.ofNat 1) false), (bP (bKind_0 a b == Int.ofNat 2) false), (bP (feq (fmax (fabs a) (fabs b)) 0) true)]) (σ1 := []) (by kernel_rfl) ⟨bP_of (fun x => x) h0, ⟨bP_of (fun x => x) h1, ⟨bP_of (fun x => x) h2, trivial⟩⟩⟩ rfl rfl
theorem bAbs_p3 (a : Nat) (b : Nat) (σ : AHeap) (h0 : (bKind_0 a b == Int.ofNat 1) = false) (h1 : (bKind_0 a b == Int.ofNat 2) = false) (h2 : (feq (fmax (fabs a) (fabs b)) 0) = false) : CallR Try.prog false 89 [Value.complex .f64 a b] σ (Value.float .f64 (fmul (fmax (fabs a) (fabs b)) (fsqrt (fadd 4607182418800017408 (fmul (fdiv (fmin (fabs a) (fabs b)) (fmax (fabs a) (fabs b))) (fdiv (fmin (fabs a) (fabs b)) (fmax (fabs a) (fabs b)))))))) σ := CallR.of_DO_pure (C := dLBb) dLBb_ok Try.func89 bAbs_fok (n := 100) (orc := [(26, Item.br false), (31, Item.br false), (52, Item.br false)]) (ps := [(bP (bKind_0 a b == Int.ofNat 1) false), (bP (bKind_0 a b == Int.ofNat 2) false), (bP (feq (fmax (fabs a) (fabs b)) 0) false)]) (σ1 := []) (by kernel_rfl) ⟨bP_of (fun x => x) h0, ⟨bP_of (fun x => x) h1, ⟨bP_of (fun x => x) h2, trivial⟩⟩⟩ rfl rfl
def bAbs_t (a : Nat) (b : Nat) : Value := (bif bKind_0 a b == Int.ofNat 1 then (Value.float .f64 9218868437227405312) else (bif bKind_0 a b == Int.ofNat 2 then (Value.float .f64 9221120237041090561) else (bif feq (fmax (fabs a) (fabs b)) 0 then (Value.float .f64 0) else (Value.float .f64 (fmul (fmax (fabs a) (fabs b)) (fsqrt (fadd 4607182418800017408 (fmul (fdiv (fmin (fabs a) (fabs b)) (fmax (fabs a) (fabs b))) (fdiv (fmin (fabs a) (fabs b)) (fmax (fabs a) (fabs b)))))))))))
theorem bAbs_c (a : Nat) (b : Nat) (σ : AHeap) : CallR Try.prog false 89 [Value.complex .f64 a b] σ (bAbs_t a b) σ := by
  unfold bAbs_t
  exact (CallR.bif (fun h0 => (bAbs_p0 a b σ h0)) (fun h0 => (CallR.bif (fun h1 => (bAbs_p1 a b σ h0 h1)) (fun h1 => (CallR.bif (fun h2 => (bAbs_p2 a b σ h0 h1 h2)) (fun h2 => (bAbs_p3 a b σ h0 h1 h2)))))))
def bAbs_0 (a : Nat) (b : Nat) : Nat := (bif bKind_0 a b == Int.ofNat 1 then 9218868437227405312 else (bif bKind_0 a b == Int.ofNat 2 then 9221120237041090561 else (bif feq (fmax (fabs a) (fabs b)) 0 then 0 else fmul (fmax (fabs a) (fabs b)) (fsqrt (fadd 4607182418800017408 (fmul (fdiv (fmin (fabs a) (fabs b)) (fmax (fabs a) (fabs b))) (fdiv (fmin (fabs a) (fabs b)) (fmax (fabs a) (fabs b)))))))))
theorem bAbs_v (a : Nat) (b : Nat) : bAbs_t a b = Go.Value.float Go.FloatKind.f64 (bAbs_0 a b) := by
  unfold bAbs_t bAbs_0
  cases (bKind_0 a b == Int.ofNat 1) with
  | true =>
    kernel_rfl
  | false =>
    cases (bKind_0 a b == Int.ofNat 2) with
    | true =>
      kernel_rfl
    | false =>
      cases (feq (fmax (fabs a) (fabs b)) 0) with
      | true =>
        kernel_rfl
      | false =>
        kernel_rfl
theorem bAbs_ok (a : Nat) (b : Nat) (σ : AHeap) : CallR Try.prog false 89 [Value.complex .f64 a
    b] σ (Go.Value.float Go.FloatKind.f64 (bAbs_0 a b)) σ := by
  have h := bAbs_c a b σ
  rw [bAbs_v] at h
  exact h
end Go.Lk
end

section
/- Floats: the kind of what is finite, the greater of two, magnitudes by themselves. -/
namespace Go.Lk
open Ieee (Format Datum)
set_option linter.unusedSimpArgs false
set_option linter.unusedVariables false
set_option maxRecDepth 100000
theorem bAbs_kind {a b : Nat} (ha : isFin a = true) (hb : isFin b = true) : bKind_0 a b = 0 := by
  have key : ∀ {x : Nat}, isFin x = true → feq x x = true ∧ fgt (fabs x) 9218868437227405311 = false := by
    intro x hx
    have e : fabs x = rg x := by unfold fabs; rw [fin_num hx]; rfl
    have hr : rg x < 2047 * 2 ^ 52 := of_decide_eq_true hx
    have hm : isFin 9218868437227405311 = true := by decide
    have hf : isFin (rg x) = true := by unfold isFin; rw [rg_rg]; exact hx
    have hs : sg (rg x) = false := by
      unfold sg; have := rg_lt x
      have : rg x / 2 ^ 63 = 0 := Nat.div_eq_of_lt this
      rw [this]; rfl
    refine ⟨by rw [feq_fin hx hx]; exact decide_eq_true rfl, ?_⟩
    rw [e, fgt_fin hf hm]
    have h1 : fx (rg x) = fxr (rg x) := by unfold fx; rw [hs, rg_rg]; rfl
    have h2 : fx 9218868437227405311 = fxr 9218868437227405311 := rfl
    have h3 : fxr (rg x) ≤ fxr 9218868437227405311 := fxr_le.2 (by omega)
    exact decide_eq_false (by rw [h1, h2]; omega)
  unfold bKind_0
  rw [(key ha).1, (key hb).1, (key ha).2, (key hb).2]
  rfl
theorem max_min {A B : Nat} (hA : isFin A = true) (hB : isFin B = true) (sA : sg A = false) (sB : sg B = false) :
    (fmax A B = A ∧ fmin A B = B ∧ qv B ≤ qv A) ∨ (fmax A B = B ∧ fmin A B = A ∧ qv A ≤ qv B) := by
  have hU := UR_pos
  have le : ∀ {x y : Nat}, fx x ≤ fx y → qv x ≤ qv y := by
    intro x y h
    refine Rat.le_of_mul_le_mul_right (c := UR) ?_ hU
    rw [qv_U, qv_U]; exact Rat.intCast_le_intCast.2 h
  have hneg : (dbl.read A).neg = false := by
    obtain ⟨m, p, e, _⟩ := read_fin hA
    rw [e, sA]; rfl
  unfold fmax fmin
  rw [order_fin hA hB]
  rcases Int.lt_trichotomy (fx A) (fx B) with h | h | h
  · right
    rw [cmp_lt.2 h]
    exact ⟨rfl, rfl, le (by omega)⟩
  · left
    rw [cmp_eq.2 h]
    simp only [hneg]
    exact ⟨rfl, rfl, le (by omega)⟩
  · left
    rw [cmp_gt.2 h]
    exact ⟨rfl, rfl, le (by omega)⟩
/-! ### Magnitudes by themselves -/
theorem rg_sg (x : Nat) : sg (rg x) = false := by
  unfold sg; have := rg_lt x
  have : rg x / 2 ^ 63 = 0 := Nat.div_eq_of_lt this
  rw [this]; rfl
theorem fin_rg {x : Nat} (h : isFin x = true) : isFin (rg x) = true := by unfold isFin; rw [rg_rg]; exact h
theorem fabs_rg {x : Nat} (h : isFin x = true) : fabs x = rg x := by unfold fabs; rw [fin_num h]; rfl
end Go.Lk
end

section
/- A magnitude, reckoned, of what has the magnitude 1 but for a little. -/
namespace Go.Lk
set_option linter.unusedSimpArgs false
set_option linter.unusedVariables false
set_option maxRecDepth 10000
theorem lt_of_sq {x k K : Rat} (hk : 0 ≤ k) (h : x * x ≤ K) (hK : K < k * k) : x < k := by
  refine Rat.not_le.1 fun hx => ?_
  have h1 := Rat.mul_le_mul_of_nonneg_right hx (c := k) hk
  have h2 := Rat.mul_le_mul_of_nonneg_left hx (c := x) (by grind)
  grind
theorem gt_of_sq {x k K : Rat} (hx : 0 ≤ x) (h : K ≤ x * x) (hK : k * k < K) : k < x := by
  refine Rat.not_le.1 fun hk => ?_
  have h1 := Rat.mul_le_mul_of_nonneg_right hk (c := x) hx
  have h2 := Rat.mul_le_mul_of_nonneg_left hk (c := k) (by grind)
  grind
/-- The greater one m and the smaller one n: m √(1 + (n/m)²). -/
theorem abs_core {m n : Nat} (hm : isFin m = true) (hn : isFin n = true) (sm : sg m = false) (sn : sg n = false) (hle : qv n ≤ qv m) (hG : Bd (qv m * qv m + qv n * qv n - 1) (68 / 10 * eta)) :
    isFin (fmul m (fsqrt (fadd 4607182418800017408 (fmul (fdiv n m) (fdiv n m))))) = true ∧ Bd (qv (fmul m (fsqrt (fadd 4607182418800017408 (fmul (fdiv n m) (fdiv n m))))) - 1) (8 * eta) := by
  obtain ⟨t1, t2, t3, t4⟩ := eta_small
  have nm := (qv_nn sm).2
  have nn := (qv_nn sn).2
  obtain ⟨g1, g2⟩ := hG
  have hnn : qv n * qv n ≤ qv m * qv m := by
    have h1 := Rat.mul_le_mul_of_nonneg_right hle (c := qv n) nn
    have h2 := Rat.mul_le_mul_of_nonneg_left hle (c := qv m) nm
    grind
  have hn2 : 0 ≤ qv n * qv n := Rat.mul_nonneg nn nn
  have e68 : 68 / 10 * eta ≤ 1 / 100000 := by decide +kernel
  have mhi : qv m < 10001 / 10000 := lt_of_sq (K := 1 + 1 / 100000) (by decide +kernel) (by grind) (by decide +kernel)
  have mlo : 7 / 10 < qv m := gt_of_sq (K := 1 / 2 - 1 / 100000) nm (by grind) (by decide +kernel)
  have nhi : qv n < 70712 / 100000 := lt_of_sq (K := 1 / 2 + 1 / 100000) (by decide +kernel) (by grind) (by decide +kernel)
  -- the quotient
  obtain ⟨q1, sq, q2⟩ := div_q hn hm sn sm (by grind) hle
  have nq := (qv_nn sq).2
  have q3 : Bd (qv (fdiv n m) * qv m - qv n) (7073 / 10000 * eta) := q2.mono (by
    have h1 := Rat.mul_le_mul_of_nonneg_right (Rat.le_of_lt nhi) (c := eta) t1
    have h2 := Rat.mul_le_mul_of_nonneg_left (Rat.le_of_lt mhi) (c := tau) t3
    have h3 : 70712 / 100000 * eta + tau * (10001 / 10000) ≤ 7073 / 10000 * eta := by decide +kernel
    grind)
  have qhi : qv (fdiv n m) ≤ 10001 / 10000 := by
    refine Rat.not_lt.1 fun h => ?_
    have h1 : (qv (fdiv n m) - 1) * qv m ≤ 7073 / 10000 * eta := by have := q3.2; grind
    have h2 := Rat.mul_le_mul_of_nonneg_left (Rat.le_of_lt mlo) (c := qv (fdiv n m) - 1) (by grind)
    have h3 : 7073 / 10000 * eta < 1 / 10000 * (7 / 10) := by decide +kernel
    grind
  generalize fdiv n m = q at *
  have bq : Bd (qv q) (10001 / 10000) := ⟨by grind, qhi⟩
  have bqq := bq.mul bq
  obtain ⟨p1, p2⟩ := mul_q q1 q1 bqq (by decide +kernel)
  have nqq : 0 ≤ qv q * qv q := Rat.mul_nonneg nq nq
  generalize fmul q q = p at *
  have hone := one_q
  have bp : Bd (qv 4607182418800017408 + qv p) (20004 / 10000) := by
    rw [hone.2]
    have h1 := p2.1; have h2 := p2.2; have h3 := bqq.2
    have h4 : (10001 / 10000 : Rat) * (10001 / 10000) + (10001 / 10000 * (10001 / 10000) * eta + tau) ≤ 10003 / 10000 := by decide +kernel
    have h5 : (10001 / 10000 : Rat) * (10001 / 10000) * eta + tau ≤ 1 / 10000 := by decide +kernel
    constructor <;> grind
  obtain ⟨s1, s2⟩ := add_q hone.1 p1 bp (by decide +kernel)
  generalize fadd 4607182418800017408 p = s at *
  rw [hone.2] at s2
  have e5 : (10001 / 10000 : Rat) * (10001 / 10000) * eta + tau ≤ 10003 / 10000 * eta := by decide +kernel
  have e6 : (20004 / 10000 : Rat) * eta + tau ≤ 20005 / 10000 * eta := by decide +kernel
  have p3 := p2.mono e5
  have s3 := s2.mono e6
  have hS : 9 / 10 ≤ qv s ∧ qv s ≤ 3 := by
    have h1 := s3.1; have h2 := s3.2; have h3 := p3.1; have h4 := p3.2; have h5 := bqq.2
    have h6 : (10003 / 10000 : Rat) * eta ≤ 1 / 100 := by decide +kernel
    have h7 : (20005 / 10000 : Rat) * eta ≤ 1 / 100 := by decide +kernel
    have h8 : (10001 / 10000 : Rat) * (10001 / 10000) ≤ 11 / 10 := by decide +kernel
    constructor <;> grind
  have ssg : sg s = false := by
    have hU := UR_pos
    have h1 : 0 < qv s * UR := Rat.mul_pos (by grind) hU
    rw [qv_U] at h1
    have h2 : 0 < fx s := by exact_mod_cast h1
    rw [sg_fx (by omega)]
    exact decide_eq_false (by omega)
  obtain ⟨r1, sr, l, hl0, hll, hlr, hrl, hsl⟩ := sqrt_q s1 ssg (by grind)
  generalize fsqrt s = r at *
  have nr := (qv_nn sr).2
  -- m² s is near 1
  have bm : Bd (qv m) (10001 / 10000) := ⟨by grind, Rat.le_of_lt mhi⟩
  have bn : Bd (qv n) (70712 / 100000) := ⟨by grind, Rat.le_of_lt nhi⟩
  have k1 : Bd (qv m * qv m * (qv s - (1 + qv p))) (10001 / 10000 * (10001 / 10000) * (20005 / 10000 * eta)) := (bm.mul bm).mul s3
  have k2 : Bd (qv m * qv m * (qv p - qv q * qv q)) (10001 / 10000 * (10001 / 10000) * (10003 / 10000 * eta)) := (bm.mul bm).mul p3
  have k3 := sq_bd q3 bn
  have hK := (((k1.add k2).add k3).add (⟨g1, g2⟩ : Bd _ (68 / 10 * eta))).of_eq (s := qv m * qv m * qv s - 1) (by grind)
  have hK := hK.mono (B := 1081 / 100 * eta) (by decide +kernel)
  obtain ⟨K1, K2⟩ := hK
  have nml : 0 ≤ qv m * l := Rat.mul_nonneg nm hl0
  have nmm : 0 ≤ qv m * qv m := Rat.mul_nonneg nm nm
  -- from above
  have up : qv m * l < 1 + 5406 / 1000 * eta := by
    refine lt_of_sq (K := 1 + 1081 / 100 * eta) (by decide +kernel) ?_ (by decide +kernel)
    have h1 := Rat.mul_le_mul_of_nonneg_left hll (c := qv m * qv m) nmm
    grind
  -- from below
  have hlt0 : 0 ≤ l + l * eta + tau := by
    have := Rat.mul_nonneg hl0 t1
    grind
  have lo : 1 - 5406 / 1000 * eta < qv m * (l + l * eta + tau) := by
    refine gt_of_sq (K := 1 - 1081 / 100 * eta) (Rat.mul_nonneg nm hlt0) ?_ (by decide +kernel)
    have h1 := Rat.mul_le_mul_of_nonneg_left hsl (c := qv m * qv m) nmm
    grind
  have hmr1 := Rat.mul_le_mul_of_nonneg_left hlr (c := qv m) nm
  have hmr2 := Rat.mul_le_mul_of_nonneg_left hrl (c := qv m) nm
  have hτ := Rat.mul_le_mul_of_nonneg_left (Rat.le_of_lt mhi) (c := tau) t3
  have e1 : qv m * (l + l * eta + tau) = qv m * l + qv m * l * eta + tau * qv m := by grind
  have upe := Rat.mul_le_mul_of_nonneg_right (Rat.le_of_lt up) (c := eta) t1
  have n1 : (1 + 5406 / 1000 * eta) + (1 + 5406 / 1000 * eta) * eta + tau * (10001 / 10000) ≤ 1 + 6407 / 1000 * eta := by decide +kernel
  have n2 : (1 + 5406 / 1000 * eta) * eta + tau * (10001 / 10000) ≤ 1001 / 1000 * eta := by decide +kernel
  have MRhi : qv m * qv r ≤ 1 + 6407 / 1000 * eta := by grind
  have MRlo : 1 - 6407 / 1000 * eta ≤ qv m * qv r := by grind
  have n3 : 1 + 6407 / 1000 * eta ≤ 10001 / 10000 := by decide +kernel
  have n4 : 6407 / 1000 * eta ≤ 1 / 10000 := by decide +kernel
  obtain ⟨f1, f2⟩ := mul_q hm r1 (B := 10001 / 10000) ⟨by grind, by grind⟩ (by decide +kernel)
  refine ⟨f1, ?_⟩
  have n5 : 10001 / 10000 * eta + tau + 6407 / 1000 * eta ≤ 8 * eta := by decide +kernel
  have h1 := f2.1
  have h2 := f2.2
  constructor <;> grind
end Go.Lk
end

section
/- The points of the circle have the magnitude 1, but for a little. -/
namespace Go.Lk
open Ieee (Format Datum)
set_option linter.unusedSimpArgs false
set_option linter.unusedVariables false
set_option maxRecDepth 100000
theorem qv_rg_abs {x : Nat} (h : isFin x = true) : qv (rg x) * qv (rg x) = qv x * qv x := by
  have hs : ∀ s (n : Nat), ((sgn s n : Int) : Rat) * ((sgn s n : Int) : Rat) = ((n : Nat) : Rat) * ((n : Nat) : Rat) := by
    intro s n
    cases s
    · rfl
    · show ((-(n : Int) : Int) : Rat) * ((-(n : Int) : Int) : Rat) = _
      rw [Rat.intCast_neg]
      show -((n : Nat) : Rat) * -((n : Nat) : Rat) = _
      grind
  have e1 : ((fx (rg x) : Int) : Rat) * ((fx (rg x) : Int) : Rat) = ((fx x : Int) : Rat) * ((fx x : Int) : Rat) := by
    unfold fx
    rw [hs, hs, rg_rg]
  unfold qv
  rw [Rat.div_def, Rat.div_def]
  have e2 : ∀ a b c : Rat, a * a = b * b → a * c * (a * c) = b * c * (b * c) := by intro a b c h; grind
  exact e2 _ _ _ e1
/-- What a nought added leaves of a magnitude. -/
theorem rg_clean {v : Nat} (hc : Canon v) (hf : isFin v = true) : isFin (fadd v 0) = true ∧ rg (fadd v 0) = rg v := by
  rw [fadd_zero hc]
  cases h : feq v 0
  · exact ⟨hf, rfl⟩
  · rw [feq_fin hf fin_zero, fx_0] at h
    have h0 : fx v = 0 := of_decide_eq_true h
    have : fxr (rg v) = 0 := by have := fx_abs v; omega
    rw [← fxr_zero] at this
    have := fxr_inj this
    exact ⟨fin_zero, by rw [this]; rfl⟩
theorem rg_neg {v : Nat} (hc : Canon v) (hf : isFin v = true) : isFin (aneg false v) = true ∧ rg (aneg false v) = rg v ∧ Canon (aneg false v) := by
  obtain ⟨n1, n2, n3⟩ := fneg_fin hc.lt hf
  have hr : rg v < 2047 * 2 ^ 52 := of_decide_eq_true hf
  refine ⟨n1, ?_, hc.fneg⟩
  have h1 : fneg (wd (sg v) (rg v)) = wd (!sg v) (rg v) := fneg_wd (by omega)
  rw [wd_sg hc.lt] at h1
  show rg (fneg v) = rg v
  rw [h1, rg_wd (by omega)]
/-- Abs of two whose magnitudes are those of E0 and E1, in either order. -/
theorem abs_near {re im E0 E1 : Nat} (hre : isFin re = true) (him : isFin im = true) (h0 : isFin E0 = true) (h1 : isFin E1 = true) (h : (rg re = rg E0 ∧ rg im = rg E1) ∨ (rg re = rg E1 ∧ rg im = rg E0))
    (hG : Bd (qv E0 * qv E0 + qv E1 * qv E1 - 1) (68 / 10 * eta)) : isFin (bAbs_0 re im) = true ∧ Bd (qv (bAbs_0 re im) - 1) (8 * eta) ∧ Bd (qv re * qv re + qv im * qv im - 1) (68 / 10 * eta) := by
  have hG2 : Bd (qv (rg re) * qv (rg re) + qv (rg im) * qv (rg im) - 1) (68 / 10 * eta) := by
    rw [← qv_rg_abs h0, ← qv_rg_abs h1] at hG
    rcases h with ⟨e1, e2⟩ | ⟨e1, e2⟩
    · rw [e1, e2]; exact hG
    · rw [e1, e2]; exact hG.of_eq (by grind)
  rw [← and_assoc]
  refine ⟨?_, by rw [qv_rg_abs hre, qv_rg_abs him] at hG2; exact hG2⟩
  unfold bAbs_0
  rw [bAbs_kind hre him, fabs_rg hre, fabs_rg him]
  have k1 : ((0 : Int) == Int.ofNat 1) = false := by decide
  have k2 : ((0 : Int) == Int.ofNat 2) = false := by decide
  rw [k1, k2, cond_false, cond_false]
  have main : ∀ {m n : Nat}, isFin m = true → isFin n = true → sg m = false → sg n = false → qv n ≤ qv m → Bd (qv m * qv m + qv n * qv n - 1) (68 / 10 * eta) →
      isFin (bif feq m 0 then 0 else fmul m (fsqrt (fadd 4607182418800017408 (fmul (fdiv n m) (fdiv n m))))) = true ∧ Bd (qv (bif feq m 0 then 0 else fmul m (fsqrt (fadd 4607182418800017408 (fmul (fdiv n m) (fdiv n m))))) - 1) (8 * eta) := by
    intro m n fm fn sm sn hle hg
    have hz : feq m 0 = false := by
      rw [feq_fin fm fin_zero, fx_0]
      refine decide_eq_false fun h => ?_
      have e : qv m = 0 := by unfold qv; rw [h]; decide +kernel
      have nn := (qv_nn sn).2
      have e2 : qv n = 0 := by grind
      have := hg.1
      rw [e, e2] at this
      revert this; decide +kernel
    rw [hz, cond_false]
    exact abs_core fm fn sm sn hle hg
  rcases max_min (fin_rg hre) (fin_rg him) (rg_sg re) (rg_sg im) with ⟨e1, e2, e3⟩ | ⟨e1, e2, e3⟩
  · rw [e1, e2]
    exact main (fin_rg hre) (fin_rg him) (rg_sg _) (rg_sg _) e3 hG2
  · rw [e1, e2]
    exact main (fin_rg him) (fin_rg hre) (rg_sg _) (rg_sg _) e3 (hG2.of_eq (by grind))
/-! ### An eighth of a turn -/
theorem half_q : isFin 4604544271217802189 = true ∧ qv 4604544271217802189 = 6369051672525773 / 9007199254740992 := ⟨by decide, (qv_const (n := 6369051672525773) (d := 9007199254740992) (by decide) (by decide +kernel)).trans (by decide +kernel)⟩
theorem eighth_pair {a : Nat} (ha : isFin a = true) (sa : sg a = false) (h8 : qv a ≤ 1 / 8) :
    isFin (wEighth_0 a) = true ∧ isFin (wEighth_1 a) = true ∧ Canon (wEighth_0 a) ∧ Canon (wEighth_1 a) ∧ Bd (qv (wEighth_0 a) * qv (wEighth_0 a) + qv (wEighth_1 a) * qv (wEighth_1 a) - 1) (68 / 10 * eta) := by
  have e0 : wEighth_0 a = bif feq a 4593671619917905920 then 4604544271217802189 else cosE (fmul (fmul a 4618760256179416344) (fmul a 4618760256179416344)) := by kernel_rfl
  have e1 : wEighth_1 a = bif feq a 4593671619917905920 then 4604544271217802189 else fmul (sinE (fmul (fmul a 4618760256179416344) (fmul a 4618760256179416344))) (fmul a 4618760256179416344) := by kernel_rfl
  rw [e0, e1]
  cases feq a 4593671619917905920
  · obtain ⟨h1, h2, h3⟩ := eighth_near ha sa h8
    simp only [cond_false]
    refine ⟨h1, h2, ?_, ?_, h3⟩
    · unfold cosE; exact Canon.fadd _ _
    · exact Canon.fmul _ _
  · obtain ⟨h1, h2⟩ := half_q
    simp only [cond_true]
    refine ⟨h1, h1, ⟨by decide, fun h => ?_⟩, ⟨by decide, fun h => ?_⟩, ?_⟩
    · rw [fin_num h1] at h; cases h
    · rw [fin_num h1] at h; cases h
    · rw [h2]
      exact ⟨by decide +kernel, by decide +kernel⟩
/-- A difference of what is no greater and not below nought. -/
theorem sub_range {c y d : Nat} (hc : isFin c = true) (hy : isFin y = true) (sc : sg c = false) (sy : sg y = false) (hd : rg d < 2047 * 2 ^ 52) (h0 : 0 ≤ fx c - fx y) (h1 : fx c - fx y ≤ (fxr (rg d) : Int)) :
    isFin (fsub c y) = true ∧ sg (fsub c y) = false ∧ fx (fsub c y) ≤ (fxr (rg d) : Int) ∧ 0 ≤ fx (fsub c y) := by
  rw [fsub_fin hc hy]
  obtain ⟨r1, r2⟩ := rnd_le (z := sg c && !sg y) (T := fx c - fx y) hd (by omega)
  have hs : sg (rnd (sg c && !sg y) (fx c - fx y)) = false := by
    rw [sc, Bool.false_and]
    unfold rnd
    split
    · decide
    · rw [sg_wd (rung_lt _)]; exact decide_eq_false (by omega)
  have e := fx_rg hs
  exact ⟨r1, hs, by omega, by omega⟩
theorem qv_le {x : Nat} {n d : Nat} (hd : 0 < d) (h : fx x * d ≤ n * (U : Int)) : qv x ≤ (n : Rat) / (d : Rat) := by
  have hU := UR_pos
  have hd' : (0 : Rat) < (d : Rat) := Rat.natCast_pos.2 hd
  have h1 := Rat.intCast_le_intCast.2 h
  rw [Rat.intCast_mul, Rat.intCast_mul, ← qv_U] at h1
  have h2 : qv x * UR * (d : Rat) ≤ (n : Rat) * UR := h1
  have h3 : qv x * (d : Rat) ≤ (n : Rat) := Rat.le_of_mul_le_mul_right (c := UR) (by grind) hU
  have h4 : (n : Rat) / (d : Rat) * (d : Rat) = n := by grind
  exact Rat.le_of_mul_le_mul_right (c := (d : Rat)) (by grind) hd'
theorem fx_quart : fx 4598175219545276416 * 4 = (U : Int) ∧ fx 4593671619917905920 * 8 = (U : Int) := by decide +kernel
/-- A point of the circle. -/
theorem turn_near {x : Nat} (hc : Canon x) (hf : isFin x = true) : isFin (wTurn_0 x) = true ∧ isFin (wTurn_1 x) = true ∧ isFin (bAbs_0 (wTurn_0 x) (wTurn_1 x)) = true ∧ Bd (qv (bAbs_0 (wTurn_0 x) (wTurn_1 x)) - 1) (8 * eta) ∧ Bd (qv (wTurn_0 x) * qv (wTurn_0 x) + qv (wTurn_1 x) * qv (wTurn_1 x) - 1) (68 / 10 * eta) := by
  obtain ⟨w1, _, w2, w3, _⟩ := wrap_val hc hf
  have hww : feq (wrapP x) (wrapP x) = true := by rw [feq_fin w1 w1]; exact decide_eq_true rfl
  have hh := fx_half
  obtain ⟨hq, h8⟩ := fx_quart
  have f4 : isFin 4598175219545276416 = true := by decide
  have f8 : isFin 4593671619917905920 = true := by decide
  have sh : sg half = false := by decide
  have s4 : sg 4598175219545276416 = false := by decide
  have r4 : (fxr (rg 4598175219545276416) : Int) = fx 4598175219545276416 := rfl
  have r8 : (fxr (rg 4593671619917905920) : Int) = fx 4593671619917905920 := rfl
  have eh : half = 4602678819172646912 := rfl
  have ea := fabs_rg w1
  have fa := fin_rg w1
  have sa := rg_sg (wrapP x)
  have qa : 0 ≤ fx (rg (wrapP x)) ∧ 2 * fx (rg (wrapP x)) ≤ (U : Int) := by
    have e := fx_rg sa
    rw [rg_rg] at e
    have := fx_abs (wrapP x)
    omega
  -- the end of each way
  have fin : ∀ {a re im : Nat}, isFin a = true → sg a = false → fx a ≤ fx 4593671619917905920 →
      (re = fadd (wEighth_0 a) 0 ∨ re = fadd (aneg false (wEighth_0 a)) 0) ∧ (im = fadd (wEighth_1 a) 0 ∨ im = fadd (aneg false (wEighth_1 a)) 0) ∨ (re = fadd (wEighth_1 a) 0 ∨ re = fadd (aneg false (wEighth_1 a)) 0) ∧ (im = fadd (wEighth_0 a) 0 ∨ im = fadd (aneg false (wEighth_0 a)) 0) →
      isFin re = true ∧ isFin im = true ∧ isFin (bAbs_0 re im) = true ∧ Bd (qv (bAbs_0 re im) - 1) (8 * eta) ∧ Bd (qv re * qv re + qv im * qv im - 1) (68 / 10 * eta) := by
    intro a re im ha hs h18 hcase
    obtain ⟨p1, p2, p3, p4, p5⟩ := eighth_pair ha hs (by
      have := qv_le (x := a) (n := 1) (d := 8) (by decide) (by omega)
      exact this)
    have cl : ∀ {v r : Nat}, Canon v → isFin v = true → (r = fadd v 0 ∨ r = fadd (aneg false v) 0) → isFin r = true ∧ rg r = rg v := by
      intro v r hv hfv hr
      rcases hr with rfl | rfl
      · exact rg_clean hv hfv
      · obtain ⟨n1, n2, n3⟩ := rg_neg hv hfv
        obtain ⟨m1, m2⟩ := rg_clean n3 n1
        exact ⟨m1, by rw [m2, n2]⟩
    rcases hcase with ⟨h1, h2⟩ | ⟨h1, h2⟩
    · obtain ⟨a1, a2⟩ := cl p3 p1 h1
      obtain ⟨b1, b2⟩ := cl p4 p2 h2
      exact ⟨a1, b1, abs_near a1 b1 p1 p2 (.inl ⟨a2, b2⟩) p5⟩
    · obtain ⟨a1, a2⟩ := cl p4 p2 h1
      obtain ⟨b1, b2⟩ := cl p3 p1 h2
      exact ⟨a1, b1, abs_near a1 b1 p1 p2 (.inr ⟨a2, b2⟩) p5⟩
  unfold wTurn_0 wTurn_1
  rw [hww, ea, ← eh]
  simp only [cond_true]
  generalize hw : rg (wrapP x) = a at *
  by_cases g1 : fx 4598175219545276416 < fx a
  · have g1' : fgt a 4598175219545276416 = true := by rw [fgt_fin fa f4]; exact decide_eq_true g1
    rw [g1', cond_true, cond_true]
    obtain ⟨b1, b2, b3, b4⟩ := sub_range fin_half fa sh sa (d := 4598175219545276416) (by decide) (by omega) (by omega)
    generalize fsub half a = b at *
    by_cases g2 : fx 4593671619917905920 < fx b
    · have g2' : fgt b 4593671619917905920 = true := by rw [fgt_fin b1 f8]; exact decide_eq_true g2
      rw [g2', cond_true, cond_true]
      obtain ⟨c1, c2, c3, c4⟩ := sub_range f4 b1 s4 b2 (d := 4593671619917905920) (by decide) (by omega) (by omega)
      cases flt (wrapP x) 0
      · exact fin c1 c2 (by omega) (.inr ⟨.inr rfl, .inl rfl⟩)
      · exact fin c1 c2 (by omega) (.inr ⟨.inr rfl, .inr rfl⟩)
    · have g2' : fgt b 4593671619917905920 = false := by rw [fgt_fin b1 f8]; exact decide_eq_false g2
      rw [g2', cond_false, cond_false]
      cases flt (wrapP x) 0
      · exact fin b1 b2 (by omega) (.inl ⟨.inr rfl, .inl rfl⟩)
      · exact fin b1 b2 (by omega) (.inl ⟨.inr rfl, .inr rfl⟩)
  · have g1' : fgt a 4598175219545276416 = false := by rw [fgt_fin fa f4]; exact decide_eq_false g1
    rw [g1', cond_false, cond_false]
    by_cases g2 : fx 4593671619917905920 < fx a
    · have g2' : fgt a 4593671619917905920 = true := by rw [fgt_fin fa f8]; exact decide_eq_true g2
      rw [g2', cond_true, cond_true]
      obtain ⟨c1, c2, c3, c4⟩ := sub_range f4 fa s4 sa (d := 4593671619917905920) (by decide) (by omega) (by omega)
      cases flt (wrapP x) 0
      · exact fin c1 c2 (by omega) (.inr ⟨.inl rfl, .inl rfl⟩)
      · exact fin c1 c2 (by omega) (.inr ⟨.inl rfl, .inr rfl⟩)
    · have g2' : fgt a 4593671619917905920 = false := by rw [fgt_fin fa f8]; exact decide_eq_false g2
      rw [g2', cond_false, cond_false]
      cases flt (wrapP x) 0
      · exact fin fa sa (by omega) (.inl ⟨.inl rfl, .inl rfl⟩)
      · exact fin fa sa (by omega) (.inl ⟨.inl rfl, .inr rfl⟩)
end Go.Lk
end

section
/- Unit; the document's; equal floats. -/
namespace Go.Lk
open Go.Proofs
set_option maxRecDepth 100000
set_option maxHeartbeats 0
set_option linter.unusedVariables false
set_option linter.unusedSimpArgs false
def sTurn : PureFn
  | [.float .f64 x] => some (.complex .f64 (wTurn_0 x) (wTurn_1 x))
  | _ => none
theorem sTurn_ok : IsPure Try.prog false 36 sTurn := by
  intro args v σ h
  unfold sTurn at h
  split at h
  · cases h; exact wTurn_ok _ σ
  · cases h
noncomputable def t6 : Tab := (t5.addP 36 sTurn)
theorem t6_ok : t6.Ok Try.prog false := (Tab.Ok.addP t5_ok sTurn_ok)
noncomputable def t7 : Tab := t6
theorem t7_ok : t7.Ok Try.prog false := t6_ok
noncomputable def t8 : Tab := t7
theorem t8_ok : t8.Ok Try.prog false := t7_ok
end Go.Lk
end

section
/- The sign turned over, by the words. -/
namespace Go.Lk
open Go.Proofs
set_option maxRecDepth 100000
set_option maxHeartbeats 0
set_option linter.unusedVariables false
set_option linter.unusedSimpArgs false
end Go.Lk
end

section
/- Angles, magnitudes; the document's. -/
namespace Go.Lk
open Go.Proofs
set_option maxRecDepth 100000
set_option maxHeartbeats 0
set_option linter.unusedVariables false
set_option linter.unusedSimpArgs false
noncomputable def L9 : Lib := ⟨Try.prog, false, t8, [(181, Try.f181), (160, Try.f160), (69, Try.f69), (55, Try.f55), (33, Try.f33), (128, Try.f128), (207, Try.f207), (122, Try.f122), (133, Try.f133), (134, Try.f134), (135, Try.f135), (136, Try.f136)], [(183, true, Try.f183)]⟩
theorem L9_fp : ∀ e, e ∈ L9.pures → Try.prog.funcs[e.1]? = some e.2 := fs_cons Try.func181 (fs_cons Try.func160 (fs_cons Try.func69 (fs_cons Try.func55 (fs_cons Try.func33 (fs_cons Try.func128 (fs_cons Try.func207 (fs_cons Try.func122 (fs_cons Try.func133 (fs_cons Try.func134 (fs_cons Try.func135 (fs_cons Try.func136 (fs_nil))))))))))))
theorem L9_fh : ∀ e, e ∈ L9.heaps → Try.prog.funcs[e.1]? = some e.2.2 := gs_cons Try.func183 (gs_nil)
theorem L9_p1 (gp : Nat → PureFn) (g : Nat → HeapFn) : (L9.pures.all fun e => fnOk (L9.mk' gp g) e.2) = true := by kernel_rfl
theorem L9_h1 (gp : Nat → PureFn) (g : Nat → HeapFn) : (L9.heaps.all fun e => fnOk (L9.mk' gp g) e.2.2 && (!e.2.1 || fnRo (L9.mk' gp g) e.2.2)) = true := by kernel_rfl
theorem L9_ok : L9.Ok := ⟨t8_ok, mixed, L9_fp, L9_fh, L9_p1, L9_h1⟩
noncomputable def dL9 : Cfg := L9.cfg 100 6
theorem dL9_ok : dL9.Ok := L9_ok.cfg 100 6

theorem wPart_fok : fnOk (dL9) Try.f126 = true := by kernel_rfl
theorem wPart_p0 (q : Nat) (σ : AHeap) (h0 : (fgt q 4601133428098527026) = true) : CallR Try.prog false 126 [Value.float .f64 q] σ (Value.float .f64 (fsub 4593671619917905920 (fdiv (fmul (fadd (fmul (fadd (fmul (fadd (fmul (fadd (fmul (fadd (fmul (fadd (fmul (fadd (fmul (fadd (fmul (fadd (fmul (fadd (fmul (fadd (fmul (fadd (fmul (fadd (fmul (fadd (fmul (fadd (fmul (fadd (fmul (fadd (fmul (fadd (fmul (fadd (fmul (fadd (fmul (fadd (fmul (fadd (fmul (fadd (fmul 13805161819457917015 (fmul (fdiv (fsub 4607182418800017408 q) (fadd 4607182418800017408 q)) (fdiv (fsub 4607182418800017408 q) (fadd 4607182418800017408 q)))) 4582062340878461975) (fmul (fdiv (fsub 4607182418800017408 q) (fadd 4607182418800017408 q)) (fdiv (fsub 4607182418800017408 q) (fadd 4607182418800017408 q)))) 13805732290266727924) (fmul (fdiv (fsub 4607182418800017408 q) (fadd 4607182418800017408 q)) (fdiv (fsub 4607182418800017408 q) (fadd 4607182418800017408 q)))) 4582687230582855930) (fmul (fdiv (fsub 4607182418800017408 q) (fadd 4607182418800017408 q)) (fdiv (fsub 4607182418800017408 q) (fadd 4607182418800017408 q)))) 13806419780728628250) (fmul (fdiv (fsub 4607182418800017408 q) (fadd 4607182418800017408 q)) (fdiv (fsub 4607182418800017408 q) (fadd 4607182418800017408 q)))) 4583447231574686416) (fmul (fdiv (fsub 4607182418800017408 q) (fadd 4607182418800017408 q)) (fdiv (fsub 4607182418800017408 q) (fadd 4607182418800017408 q)))) 13807264411867534365) (fmul (fdiv (fsub 4607182418800017408 q) (fadd 4607182418800017408 q)) (fdiv (fsub 4607182418800017408 q) (fadd 4607182418800017408 q)))) 4584391475231203080) (fmul (fdiv (fsub 4607182418800017408 q) (fadd 4607182418800017408 q)) (fdiv (fsub 4607182418800017408 q) (fadd 4607182418800017408 q)))) 13808181734925275268) (fmul (fdiv (fsub 4607182418800017408 q) (fadd 4607182418800017408 q)) (fdiv (fsub 4607182418800017408 q) (fadd 4607182418800017408 q)))) 4585130310279789462) (fmul (fdiv (fsub 4607182418800017408 q) (fadd 4607182418800017408 q)) (fdiv (fsub 4607182418800017408 q) (fadd 4607182418800017408 q)))) 13808870457448935272) (fmul (fdiv (fsub 4607182418800017408 q) (fadd 4607182418800017408 q)) (fdiv (fsub 4607182418800017408 q) (fadd 4607182418800017408 q)))) 4585925428558828667) (fmul (fdiv (fsub 4607182418800017408 q) (fadd 4607182418800017408 q)) (fdiv (fsub 4607182418800017408 q) (fadd 4607182418800017408 q)))) 13809798735632998756) (fmul (fdiv (fsub 4607182418800017408 q) (fadd 4607182418800017408 q)) (fdiv (fsub 4607182418800017408 q) (fadd 4607182418800017408 q)))) 4587023449039406616) (fmul (fdiv (fsub 4607182418800017408 q) (fadd 4607182418800017408 q)) (fdiv (fsub 4607182418800017408 q) (fadd 4607182418800017408 q)))) 13811117867789299496) (fmul (fdiv (fsub 4607182418800017408 q) (fadd 4607182418800017408 q)) (fdiv (fsub 4607182418800017408 q) (fadd 4607182418800017408 q)))) 4588638185040256542) (fmul (fdiv (fsub 4607182418800017408 q) (fadd 4607182418800017408 q)) (fdiv (fsub 4607182418800017408 q) (fadd 4607182418800017408 q)))) 13812840297120469265) (fmul (fdiv (fsub 4607182418800017408 q) (fadd 4607182418800017408 q)) (fdiv (fsub 4607182418800017408 q) (fadd 4607182418800017408 q)))) 4590207312512236308) (fmul (fdiv (fsub 4607182418800017408 q) (fadd 4607182418800017408 q)) (fdiv (fsub 4607182418800017408 q) (fadd 4607182418800017408 q)))) 13814587147885025094) (fmul (fdiv (fsub 4607182418800017408 q) (fadd 4607182418800017408 q)) (fdiv (fsub 4607182418800017408 q) (fadd 4607182418800017408 q)))) 4592670820000712476) (fmul (fdiv (fsub 4607182418800017408 q) (fadd 4607182418800017408 q)) (fdiv (fsub 4607182418800017408 q) (fadd 4607182418800017408 q)))) 13817687028148020370) (fmul (fdiv (fsub 4607182418800017408 q) (fadd 4607182418800017408 q)) (fdiv (fsub 4607182418800017408 q) (fadd 4607182418800017408 q)))) 4596373779694328218) (fmul (fdiv (fsub 4607182418800017408 q) (fadd 4607182418800017408 q)) (fdiv (fsub 4607182418800017408 q) (fadd 4607182418800017408 q)))) 13823048456275842389) (fmul (fdiv (fsub 4607182418800017408 q) (fadd 4607182418800017408 q)) (fdiv (fsub 4607182418800017408 q) (fadd 4607182418800017408 q)))) 4607182418800017408) (fdiv (fsub 4607182418800017408 q) (fadd 4607182418800017408 q))) 4618760256179416344))) σ := CallR.of_DO_pure (C := dL9) dL9_ok Try.func126 wPart_fok (n := 100) (orc := [(10, Item.br true)]) (ps := [(bP (fgt q 4601133428098527026) true)]) (σ1 := [AObj.row [Value.float .f64 4607182418800017408, Value.float .f64 13823048456275842389, Value.float .f64 4596373779694328218, Value.float .f64 13817687028148020370, Value.float .f64 4592670820000712476, Value.float .f64 13814587147885025094, Value.float .f64 4590207312512236308, Value.float .f64 13812840297120469265, Value.float .f64 4588638185040256542, Value.float .f64 13811117867789299496, Value.float .f64 4587023449039406616, Value.float .f64 13809798735632998756, Value.float .f64 4585925428558828667, Value.float .f64 13808870457448935272, Value.float .f64 4585130310279789462, Value.float .f64 13808181734925275268, Value.float .f64 4584391475231203080, Value.float .f64 13807264411867534365, Value.float .f64 4583447231574686416, Value.float .f64 13806419780728628250, Value.float .f64 4582687230582855930, Value.float .f64 13805732290266727924, Value.float .f64 4582062340878461975, Value.float .f64 13805161819457917015] true none]) (by kernel_rfl) ⟨bP_of (fun x => x) h0, trivial⟩ rfl rfl
theorem wPart_p1 (q : Nat) (σ : AHeap) (h0 : (fgt q 4601133428098527026) = false) : CallR Try.prog false 126 [Value.float .f64 q] σ (Value.float .f64 (fdiv (fmul (fadd (fmul (fadd (fmul (fadd (fmul (fadd (fmul (fadd (fmul (fadd (fmul (fadd (fmul (fadd (fmul (fadd (fmul (fadd (fmul (fadd (fmul (fadd (fmul (fadd (fmul (fadd (fmul (fadd (fmul (fadd (fmul (fadd (fmul (fadd (fmul (fadd (fmul (fadd (fmul (fadd (fmul (fadd (fmul (fadd (fmul 13805161819457917015 (fmul q q)) 4582062340878461975) (fmul q q)) 13805732290266727924) (fmul q q)) 4582687230582855930) (fmul q q)) 13806419780728628250) (fmul q q)) 4583447231574686416) (fmul q q)) 13807264411867534365) (fmul q q)) 4584391475231203080) (fmul q q)) 13808181734925275268) (fmul q q)) 4585130310279789462) (fmul q q)) 13808870457448935272) (fmul q q)) 4585925428558828667) (fmul q q)) 13809798735632998756) (fmul q q)) 4587023449039406616) (fmul q q)) 13811117867789299496) (fmul q q)) 4588638185040256542) (fmul q q)) 13812840297120469265) (fmul q q)) 4590207312512236308) (fmul q q)) 13814587147885025094) (fmul q q)) 4592670820000712476) (fmul q q)) 13817687028148020370) (fmul q q)) 4596373779694328218) (fmul q q)) 13823048456275842389) (fmul q q)) 4607182418800017408) q) 4618760256179416344)) σ := CallR.of_DO_pure (C := dL9) dL9_ok Try.func126 wPart_fok (n := 100) (orc := [(10, Item.br false)]) (ps := [(bP (fgt q 4601133428098527026) false)]) (σ1 := [AObj.row [Value.float .f64 4607182418800017408, Value.float .f64 13823048456275842389, Value.float .f64 4596373779694328218, Value.float .f64 13817687028148020370, Value.float .f64 4592670820000712476, Value.float .f64 13814587147885025094, Value.float .f64 4590207312512236308, Value.float .f64 13812840297120469265, Value.float .f64 4588638185040256542, Value.float .f64 13811117867789299496, Value.float .f64 4587023449039406616, Value.float .f64 13809798735632998756, Value.float .f64 4585925428558828667, Value.float .f64 13808870457448935272, Value.float .f64 4585130310279789462, Value.float .f64 13808181734925275268, Value.float .f64 4584391475231203080, Value.float .f64 13807264411867534365, Value.float .f64 4583447231574686416, Value.float .f64 13806419780728628250, Value.float .f64 4582687230582855930, Value.float .f64 13805732290266727924, Value.float .f64 4582062340878461975, Value.float .f64 13805161819457917015] true none]) (by kernel_rfl) ⟨bP_of (fun x => x) h0, trivial⟩ rfl rfl
def wPart_t (q : Nat) : Value := (bif fgt q 4601133428098527026 then (Value.float .f64 (fsub 4593671619917905920 (fdiv (fmul (fadd (fmul (fadd (fmul (fadd (fmul (fadd (fmul (fadd (fmul (fadd (fmul (fadd (fmul (fadd (fmul (fadd (fmul (fadd (fmul (fadd (fmul (fadd (fmul (fadd (fmul (fadd (fmul (fadd (fmul (fadd (fmul (fadd (fmul (fadd (fmul (fadd (fmul (fadd (fmul (fadd (fmul (fadd (fmul (fadd (fmul 13805161819457917015 (fmul (fdiv (fsub 4607182418800017408 q) (fadd 4607182418800017408 q)) (fdiv (fsub 4607182418800017408 q) (fadd 4607182418800017408 q)))) 4582062340878461975) (fmul (fdiv (fsub 4607182418800017408 q) (fadd 4607182418800017408 q)) (fdiv (fsub 4607182418800017408 q) (fadd 4607182418800017408 q)))) 13805732290266727924) (fmul (fdiv (fsub 4607182418800017408 q) (fadd 4607182418800017408 q)) (fdiv (fsub 4607182418800017408 q) (fadd 4607182418800017408 q)))) 4582687230582855930) (fmul (fdiv (fsub 4607182418800017408 q) (fadd 4607182418800017408 q)) (fdiv (fsub 4607182418800017408 q) (fadd 4607182418800017408 q)))) 13806419780728628250) (fmul (fdiv (fsub 4607182418800017408 q) (fadd 4607182418800017408 q)) (fdiv (fsub 4607182418800017408 q) (fadd 4607182418800017408 q)))) 4583447231574686416) (fmul (fdiv (fsub 4607182418800017408 q) (fadd 4607182418800017408 q)) (fdiv (fsub 4607182418800017408 q) (fadd 4607182418800017408 q)))) 13807264411867534365) (fmul (fdiv (fsub 4607182418800017408 q) (fadd 4607182418800017408 q)) (fdiv (fsub 4607182418800017408 q) (fadd 4607182418800017408 q)))) 4584391475231203080) (fmul (fdiv (fsub 4607182418800017408 q) (fadd 4607182418800017408 q)) (fdiv (fsub 4607182418800017408 q) (fadd 4607182418800017408 q)))) 13808181734925275268) (fmul (fdiv (fsub 4607182418800017408 q) (fadd 4607182418800017408 q)) (fdiv (fsub 4607182418800017408 q) (fadd 4607182418800017408 q)))) 4585130310279789462) (fmul (fdiv (fsub 4607182418800017408 q) (fadd 4607182418800017408 q)) (fdiv (fsub 4607182418800017408 q) (fadd 4607182418800017408 q)))) 13808870457448935272) (fmul (fdiv (fsub 4607182418800017408 q) (fadd 4607182418800017408 q)) (fdiv (fsub 4607182418800017408 q) (fadd 4607182418800017408 q)))) 4585925428558828667) (fmul (fdiv (fsub 4607182418800017408 q) (fadd 4607182418800017408 q)) (fdiv (fsub 4607182418800017408 q) (fadd 4607182418800017408 q)))) 13809798735632998756) (fmul (fdiv (fsub 4607182418800017408 q) (fadd 4607182418800017408 q)) (fdiv (fsub 4607182418800017408 q) (fadd 4607182418800017408 q)))) 4587023449039406616) (fmul (fdiv (fsub 4607182418800017408 q) (fadd 4607182418800017408 q)) (fdiv (fsub 4607182418800017408 q) (fadd 4607182418800017408 q)))) 13811117867789299496) (fmul (fdiv (fsub 4607182418800017408 q) (fadd 4607182418800017408 q)) (fdiv (fsub 4607182418800017408 q) (fadd 4607182418800017408 q)))) 4588638185040256542) (fmul (fdiv (fsub 4607182418800017408 q) (fadd 4607182418800017408 q)) (fdiv (fsub 4607182418800017408 q) (fadd 4607182418800017408 q)))) 13812840297120469265) (fmul (fdiv (fsub 4607182418800017408 q) (fadd 4607182418800017408 q)) (fdiv (fsub 4607182418800017408 q) (fadd 4607182418800017408 q)))) 4590207312512236308) (fmul (fdiv (fsub 4607182418800017408 q) (fadd 4607182418800017408 q)) (fdiv (fsub 4607182418800017408 q) (fadd 4607182418800017408 q)))) 13814587147885025094) (fmul (fdiv (fsub 4607182418800017408 q) (fadd 4607182418800017408 q)) (fdiv (fsub 4607182418800017408 q) (fadd 4607182418800017408 q)))) 4592670820000712476) (fmul (fdiv (fsub 4607182418800017408 q) (fadd 4607182418800017408 q)) (fdiv (fsub 4607182418800017408 q) (fadd 4607182418800017408 q)))) 13817687028148020370) (fmul (fdiv (fsub 4607182418800017408 q) (fadd 4607182418800017408 q)) (fdiv (fsub 4607182418800017408 q) (fadd 4607182418800017408 q)))) 4596373779694328218) (fmul (fdiv (fsub 4607182418800017408 q) (fadd 4607182418800017408 q)) (fdiv (fsub 4607182418800017408 q) (fadd 4607182418800017408 q)))) 13823048456275842389) (fmul (fdiv (fsub 4607182418800017408 q) (fadd 4607182418800017408 q)) (fdiv (fsub 4607182418800017408 q) (fadd 4607182418800017408 q)))) 4607182418800017408) (fdiv (fsub 4607182418800017408 q) (fadd 4607182418800017408 q))) 4618760256179416344))) else (Value.float .f64 (fdiv (fmul (fadd (fmul (fadd (fmul (fadd (fmul (fadd (fmul (fadd (fmul (fadd (fmul (fadd (fmul (fadd (fmul (fadd (fmul (fadd (fmul (fadd (fmul (fadd (fmul (fadd (fmul (fadd (fmul (fadd (fmul (fadd (fmul (fadd (fmul (fadd (fmul (fadd (fmul (fadd (fmul (fadd (fmul (fadd (fmul (fadd (fmul 13805161819457917015 (fmul q q)) 4582062340878461975) (fmul q q)) 13805732290266727924) (fmul q q)) 4582687230582855930) (fmul q q)) 13806419780728628250) (fmul q q)) 4583447231574686416) (fmul q q)) 13807264411867534365) (fmul q q)) 4584391475231203080) (fmul q q)) 13808181734925275268) (fmul q q)) 4585130310279789462) (fmul q q)) 13808870457448935272) (fmul q q)) 4585925428558828667) (fmul q q)) 13809798735632998756) (fmul q q)) 4587023449039406616) (fmul q q)) 13811117867789299496) (fmul q q)) 4588638185040256542) (fmul q q)) 13812840297120469265) (fmul q q)) 4590207312512236308) (fmul q q)) 13814587147885025094) (fmul q q)) 4592670820000712476) (fmul q q)) 13817687028148020370) (fmul q q)) 4596373779694328218) (fmul q q)) 13823048456275842389) (fmul q q)) 4607182418800017408) q) 4618760256179416344)))
theorem wPart_c (q : Nat) (σ : AHeap) : CallR Try.prog false 126 [Value.float .f64 q] σ (wPart_t q) σ := by
  unfold wPart_t
  exact (CallR.bif (fun h0 => (wPart_p0 q σ h0)) (fun h0 => (wPart_p1 q σ h0)))
def wPart_0 (q : Nat) : Nat := (bif fgt q 4601133428098527026 then fsub 4593671619917905920 (fdiv (fmul (fadd (fmul (fadd (fmul (fadd (fmul (fadd (fmul (fadd (fmul (fadd (fmul (fadd (fmul (fadd (fmul (fadd (fmul (fadd (fmul (fadd (fmul (fadd (fmul (fadd (fmul (fadd (fmul (fadd (fmul (fadd (fmul (fadd (fmul (fadd (fmul (fadd (fmul (fadd (fmul (fadd (fmul (fadd (fmul (fadd (fmul 13805161819457917015 (fmul (fdiv (fsub 4607182418800017408 q) (fadd 4607182418800017408 q)) (fdiv (fsub 4607182418800017408 q) (fadd 4607182418800017408 q)))) 4582062340878461975) (fmul (fdiv (fsub 4607182418800017408 q) (fadd 4607182418800017408 q)) (fdiv (fsub 4607182418800017408 q) (fadd 4607182418800017408 q)))) 13805732290266727924) (fmul (fdiv (fsub 4607182418800017408 q) (fadd 4607182418800017408 q)) (fdiv (fsub 4607182418800017408 q) (fadd 4607182418800017408 q)))) 4582687230582855930) (fmul (fdiv (fsub 4607182418800017408 q) (fadd 4607182418800017408 q)) (fdiv (fsub 4607182418800017408 q) (fadd 4607182418800017408 q)))) 13806419780728628250) (fmul (fdiv (fsub 4607182418800017408 q) (fadd 4607182418800017408 q)) (fdiv (fsub 4607182418800017408 q) (fadd 4607182418800017408 q)))) 4583447231574686416) (fmul (fdiv (fsub 4607182418800017408 q) (fadd 4607182418800017408 q)) (fdiv (fsub 4607182418800017408 q) (fadd 4607182418800017408 q)))) 13807264411867534365) (fmul (fdiv (fsub 4607182418800017408 q) (fadd 4607182418800017408 q)) (fdiv (fsub 4607182418800017408 q) (fadd 4607182418800017408 q)))) 4584391475231203080) (fmul (fdiv (fsub 4607182418800017408 q) (fadd 4607182418800017408 q)) (fdiv (fsub 4607182418800017408 q) (fadd 4607182418800017408 q)))) 13808181734925275268) (fmul (fdiv (fsub 4607182418800017408 q) (fadd 4607182418800017408 q)) (fdiv (fsub 4607182418800017408 q) (fadd 4607182418800017408 q)))) 4585130310279789462) (fmul (fdiv (fsub 4607182418800017408 q) (fadd 4607182418800017408 q)) (fdiv (fsub 4607182418800017408 q) (fadd 4607182418800017408 q)))) 13808870457448935272) (fmul (fdiv (fsub 4607182418800017408 q) (fadd 4607182418800017408 q)) (fdiv (fsub 4607182418800017408 q) (fadd 4607182418800017408 q)))) 4585925428558828667) (fmul (fdiv (fsub 4607182418800017408 q) (fadd 4607182418800017408 q)) (fdiv (fsub 4607182418800017408 q) (fadd 4607182418800017408 q)))) 13809798735632998756) (fmul (fdiv (fsub 4607182418800017408 q) (fadd 4607182418800017408 q)) (fdiv (fsub 4607182418800017408 q) (fadd 4607182418800017408 q)))) 4587023449039406616) (fmul (fdiv (fsub 4607182418800017408 q) (fadd 4607182418800017408 q)) (fdiv (fsub 4607182418800017408 q) (fadd 4607182418800017408 q)))) 13811117867789299496) (fmul (fdiv (fsub 4607182418800017408 q) (fadd 4607182418800017408 q)) (fdiv (fsub 4607182418800017408 q) (fadd 4607182418800017408 q)))) 4588638185040256542) (fmul (fdiv (fsub 4607182418800017408 q) (fadd 4607182418800017408 q)) (fdiv (fsub 4607182418800017408 q) (fadd 4607182418800017408 q)))) 13812840297120469265) (fmul (fdiv (fsub 4607182418800017408 q) (fadd 4607182418800017408 q)) (fdiv (fsub 4607182418800017408 q) (fadd 4607182418800017408 q)))) 4590207312512236308) (fmul (fdiv (fsub 4607182418800017408 q) (fadd 4607182418800017408 q)) (fdiv (fsub 4607182418800017408 q) (fadd 4607182418800017408 q)))) 13814587147885025094) (fmul (fdiv (fsub 4607182418800017408 q) (fadd 4607182418800017408 q)) (fdiv (fsub 4607182418800017408 q) (fadd 4607182418800017408 q)))) 4592670820000712476) (fmul (fdiv (fsub 4607182418800017408 q) (fadd 4607182418800017408 q)) (fdiv (fsub 4607182418800017408 q) (fadd 4607182418800017408 q)))) 13817687028148020370) (fmul (fdiv (fsub 4607182418800017408 q) (fadd 4607182418800017408 q)) (fdiv (fsub 4607182418800017408 q) (fadd 4607182418800017408 q)))) 4596373779694328218) (fmul (fdiv (fsub 4607182418800017408 q) (fadd 4607182418800017408 q)) (fdiv (fsub 4607182418800017408 q) (fadd 4607182418800017408 q)))) 13823048456275842389) (fmul (fdiv (fsub 4607182418800017408 q) (fadd 4607182418800017408 q)) (fdiv (fsub 4607182418800017408 q) (fadd 4607182418800017408 q)))) 4607182418800017408) (fdiv (fsub 4607182418800017408 q) (fadd 4607182418800017408 q))) 4618760256179416344) else fdiv (fmul (fadd (fmul (fadd (fmul (fadd (fmul (fadd (fmul (fadd (fmul (fadd (fmul (fadd (fmul (fadd (fmul (fadd (fmul (fadd (fmul (fadd (fmul (fadd (fmul (fadd (fmul (fadd (fmul (fadd (fmul (fadd (fmul (fadd (fmul (fadd (fmul (fadd (fmul (fadd (fmul (fadd (fmul (fadd (fmul (fadd (fmul 13805161819457917015 (fmul q q)) 4582062340878461975) (fmul q q)) 13805732290266727924) (fmul q q)) 4582687230582855930) (fmul q q)) 13806419780728628250) (fmul q q)) 4583447231574686416) (fmul q q)) 13807264411867534365) (fmul q q)) 4584391475231203080) (fmul q q)) 13808181734925275268) (fmul q q)) 4585130310279789462) (fmul q q)) 13808870457448935272) (fmul q q)) 4585925428558828667) (fmul q q)) 13809798735632998756) (fmul q q)) 4587023449039406616) (fmul q q)) 13811117867789299496) (fmul q q)) 4588638185040256542) (fmul q q)) 13812840297120469265) (fmul q q)) 4590207312512236308) (fmul q q)) 13814587147885025094) (fmul q q)) 4592670820000712476) (fmul q q)) 13817687028148020370) (fmul q q)) 4596373779694328218) (fmul q q)) 13823048456275842389) (fmul q q)) 4607182418800017408) q) 4618760256179416344)
theorem wPart_v (q : Nat) : wPart_t q = Go.Value.float Go.FloatKind.f64 (wPart_0 q) := by
  unfold wPart_t wPart_0
  cases (fgt q 4601133428098527026) with
  | true =>
    kernel_rfl
  | false =>
    kernel_rfl
theorem wPart_ok (q : Nat) (σ : AHeap) : CallR Try.prog false 126 [Value.float .f64
    q] σ (Go.Value.float Go.FloatKind.f64 (wPart_0 q)) σ := by
  have h := wPart_c q σ
  rw [wPart_v] at h
  exact h
theorem wKind_fok : fnOk (dL9) Try.f159 = true := by kernel_rfl
theorem wKind_p0 (a : Nat) (b : Nat) (σ : AHeap) (h0 : (fgt (fabs a) 9218868437227405311) = true) : CallR Try.prog false 159 [Value.complex .f64 a b] σ (Value.int IntKind.i8 (Int.ofNat 1)) σ := CallR.of_DO_pure (C := dL9) dL9_ok Try.func159 wKind_fok (n := 100) (orc := [(10, Item.br true), (11, Item.br true)]) (ps := [(bP (fgt (fabs a) 9218868437227405311) true), (bP (fgt (fabs a) 9218868437227405311) true)]) (σ1 := []) (by kernel_rfl) ⟨bP_of (fun x => x) h0, ⟨bP_of (fun x => x) h0, trivial⟩⟩ rfl rfl
theorem wKind_p1 (a : Nat) (b : Nat) (σ : AHeap) (h0 : (fgt (fabs a) 9218868437227405311) = false) (h1 : (fgt (fabs b) 9218868437227405311) = true) : CallR Try.prog false 159 [Value.complex .f64 a b] σ (Value.int IntKind.i8 (Int.ofNat 1)) σ := CallR.of_DO_pure (C := dL9) dL9_ok Try.func159 wKind_fok (n := 100) (orc := [(10, Item.br false), (19, Item.br true)]) (ps := [(bP (fgt (fabs a) 9218868437227405311) false), (bP (fgt (fabs b) 9218868437227405311) true)]) (σ1 := []) (by kernel_rfl) ⟨bP_of (fun x => x) h0, ⟨bP_of (fun x => x) h1, trivial⟩⟩ rfl rfl
theorem wKind_p2 (a : Nat) (b : Nat) (σ : AHeap) (h0 : (fgt (fabs a) 9218868437227405311) = false) (h1 : (fgt (fabs b) 9218868437227405311) = false) (h2 : (feq a a) = true) (h3 : (feq b b) = true) : CallR Try.prog false 159 [Value.complex .f64 a b] σ (Value.int IntKind.i8 (Int.ofNat 0)) σ := CallR.of_DO_pure (C := dL9) dL9_ok Try.func159 wKind_fok (n := 100) (orc := [(10, Item.br false), (19, Item.br false), (32, Item.br false), (45, Item.br false)]) (ps := [(bP (fgt (fabs a) 9218868437227405311) false), (bP (fgt (fabs b) 9218868437227405311) false), (bP (!feq a a) false), (bP (!feq b b) false)]) (σ1 := []) (by kernel_rfl) ⟨bP_of (fun x => x) h0, ⟨bP_of (fun x => x) h1, ⟨bP_of (fun x => !x) h2, ⟨bP_of (fun x => !x) h3, trivial⟩⟩⟩⟩ rfl rfl
theorem wKind_p3 (a : Nat) (b : Nat) (σ : AHeap) (h0 : (fgt (fabs a) 9218868437227405311) = false) (h1 : (fgt (fabs b) 9218868437227405311) = false) (h2 : (feq a a) = true) (h3 : (feq b b) = false) : CallR Try.prog false 159 [Value.complex .f64 a b] σ (Value.int IntKind.i8 (Int.ofNat 2)) σ := CallR.of_DO_pure (C := dL9) dL9_ok Try.func159 wKind_fok (n := 100) (orc := [(10, Item.br false), (19, Item.br false), (32, Item.br false), (45, Item.br true)]) (ps := [(bP (fgt (fabs a) 9218868437227405311) false), (bP (fgt (fabs b) 9218868437227405311) false), (bP (!feq a a) false), (bP (!feq b b) true)]) (σ1 := []) (by kernel_rfl) ⟨bP_of (fun x => x) h0, ⟨bP_of (fun x => x) h1, ⟨bP_of (fun x => !x) h2, ⟨bP_of (fun x => !x) h3, trivial⟩⟩⟩⟩ rfl rfl
theorem wKind_p4 (a : Nat) (b : Nat) (σ : AHeap) (h0 : (fgt (fabs a) 9218868437227405311) = false) (h1 : (fgt (fabs b) 9218868437227405311) = false) (h2 : (feq a a) = false) : CallR Try.prog false 159 [Value.complex .f64 a b] σ (Value.int IntKind.i8 (Int.ofNat 2)) σ := CallR.of_DO_pure (C := dL9) dL9_ok Try.func159 wKind_fok (n := 100) (orc := [(10, Item.br false), (19, Item.br false), (32, Item.br true), (33, Item.br true)]) (ps := [(bP (fgt (fabs a) 9218868437227405311) false), (bP (fgt (fabs b) 9218868437227405311) false), (bP (!feq a a) true), (bP (!feq a a) true)]) (σ1 := []) (by kernel_rfl) ⟨bP_of (fun x => x) h0, ⟨bP_of (fun x => x) h1, ⟨bP_of (fun x => !x) h2, ⟨bP_of (fun x => !x) h2, trivial⟩⟩⟩⟩ rfl rfl
def wKind_t (a : Nat) (b : Nat) : Value := (bif fgt (fabs a) 9218868437227405311 then (Value.int IntKind.i8 (Int.ofNat 1)) else (bif fgt (fabs b) 9218868437227405311 then (Value.int IntKind.i8 (Int.ofNat 1)) else (bif feq a a then (bif feq b b then (Value.int IntKind.i8 (Int.ofNat 0)) else (Value.int IntKind.i8 (Int.ofNat 2))) else (Value.int IntKind.i8 (Int.ofNat 2)))))
theorem wKind_c (a : Nat) (b : Nat) (σ : AHeap) : CallR Try.prog false 159 [Value.complex .f64 a
    b] σ (wKind_t a b) σ := by
  unfold wKind_t
  exact (CallR.bif (fun h0 => (wKind_p0 a b σ h0)) (fun h0 => (CallR.bif (fun h1 => (wKind_p1 a b σ h0 h1)) (fun h1 => (CallR.bif (fun h2 => (CallR.bif (fun h3 => (wKind_p2 a b σ h0 h1 h2 h3)) (fun h3 => (wKind_p3 a b σ h0 h1 h2 h3)))) (fun h2 => (wKind_p4 a b σ h0 h1 h2)))))))
def wKind_0 (a : Nat) (b : Nat) : Int := (bif fgt (fabs a) 9218868437227405311 then Int.ofNat 1 else (bif fgt (fabs b) 9218868437227405311 then Int.ofNat 1 else (bif feq a a then (bif feq b b then Int.ofNat 0 else Int.ofNat 2) else Int.ofNat 2)))
theorem wKind_v (a : Nat) (b : Nat) : wKind_t a b = Go.Value.int Go.IntKind.i8 (wKind_0 a b) := by
  unfold wKind_t wKind_0
  cases (fgt (fabs a) 9218868437227405311) with
  | true =>
    kernel_rfl
  | false =>
    cases (fgt (fabs b) 9218868437227405311) with
    | true =>
      kernel_rfl
    | false =>
      cases (feq a a) with
      | true =>
        cases (feq b b) with
        | true =>
          kernel_rfl
        | false =>
          kernel_rfl
      | false =>
        kernel_rfl
theorem wKind_ok (a : Nat) (b : Nat) (σ : AHeap) : CallR Try.prog false 159 [Value.complex .f64 a
    b] σ (Go.Value.int Go.IntKind.i8 (wKind_0 a b)) σ := by
  have h := wKind_c a b σ
  rw [wKind_v] at h
  exact h
theorem wPos_fok : fnOk (dL9) Try.f132 = true := by kernel_rfl
theorem wPos_p0 (x : Nat) (σ : AHeap) (h0 : (flt x 0) = true) (h1 : (fge (fadd x 4607182418800017408) 4607182418800017408) = true) : CallR Try.prog false 132 [Value.float .f64 x] σ (Value.float .f64 0) σ := CallR.of_DO_pure (C := dL9) dL9_ok Try.func132 wPos_fok (n := 100) (orc := [(6, Item.br true), (17, Item.br true)]) (ps := [(bP (flt x 0) true), (bP (fge (fadd x 4607182418800017408) 4607182418800017408) true)]) (σ1 := []) (by kernel_rfl) ⟨bP_of (fun x => x) h0, ⟨bP_of (fun x => x) h1, trivial⟩⟩ rfl rfl
theorem wPos_p1 (x : Nat) (σ : AHeap) (h0 : (flt x 0) = true) (h1 : (fge (fadd x 4607182418800017408) 4607182418800017408) = false) : CallR Try.prog false 132 [Value.float .f64 x] σ (Value.float .f64 (fadd x 4607182418800017408)) σ := CallR.of_DO_pure (C := dL9) dL9_ok Try.func132 wPos_fok (n := 100) (orc := [(6, Item.br true), (17, Item.br false)]) (ps := [(bP (flt x 0) true), (bP (fge (fadd x 4607182418800017408) 4607182418800017408) false)]) (σ1 := []) (by kernel_rfl) ⟨bP_of (fun x => x) h0, ⟨bP_of (fun x => x) h1, trivial⟩⟩ rfl rfl
theorem wPos_p2 (x : Nat) (σ : AHeap) (h0 : (flt x 0) = false) (h1 : (fge x 4607182418800017408) = true) : CallR Try.prog false 132 [Value.float .f64 x] σ (Value.float .f64 0) σ := CallR.of_DO_pure (C := dL9) dL9_ok Try.func132 wPos_fok (n := 100) (orc := [(6, Item.br false), (11, Item.br true)]) (ps := [(bP (flt x 0) false), (bP (fge x 4607182418800017408) true)]) (σ1 := []) (by kernel_rfl) ⟨bP_of (fun x => x) h0, ⟨bP_of (fun x => x) h1, trivial⟩⟩ rfl rfl
theorem wPos_p3 (x : Nat) (σ : AHeap) (h0 : (flt x 0) = false) (h1 : (fge x 4607182418800017408) = false) : CallR Try.prog false 132 [Value.float .f64 x] σ (Value.float .f64 x) σ := CallR.of_DO_pure (C := dL9) dL9_ok Try.func132 wPos_fok (n := 100) (orc := [(6, Item.br false), (11, Item.br false)]) (ps := [(bP (flt x 0) false), (bP (fge x 4607182418800017408) false)]) (σ1 := []) (by kernel_rfl) ⟨bP_of (fun x => x) h0, ⟨bP_of (fun x => x) h1, trivial⟩⟩ rfl rfl
def wPos_t (x : Nat) : Value := (bif flt x 0 then (bif fge (fadd x 4607182418800017408) 4607182418800017408 then (Value.float .f64 0) else (Value.float .f64 (fadd x 4607182418800017408))) else (bif fge x 4607182418800017408 then (Value.float .f64 0) else (Value.float .f64 x)))
theorem wPos_c (x : Nat) (σ : AHeap) : CallR Try.prog false 132 [Value.float .f64 x] σ (wPos_t x) σ := by
  unfold wPos_t
  exact (CallR.bif (fun h0 => (CallR.bif (fun h1 => (wPos_p0 x σ h0 h1)) (fun h1 => (wPos_p1 x σ h0 h1)))) (fun h0 => (CallR.bif (fun h1 => (wPos_p2 x σ h0 h1)) (fun h1 => (wPos_p3 x σ h0 h1)))))
def wPos_0 (x : Nat) : Nat := (bif flt x 0 then (bif fge (fadd x 4607182418800017408) 4607182418800017408 then 0 else fadd x 4607182418800017408) else (bif fge x 4607182418800017408 then 0 else x))
theorem wPos_v (x : Nat) : wPos_t x = Go.Value.float Go.FloatKind.f64 (wPos_0 x) := by
  unfold wPos_t wPos_0
  cases (flt x 0) with
  | true =>
    cases (fge (fadd x 4607182418800017408) 4607182418800017408) with
    | true =>
      kernel_rfl
    | false =>
      kernel_rfl
  | false =>
    cases (fge x 4607182418800017408) with
    | true =>
      kernel_rfl
    | false =>
      kernel_rfl
theorem wPos_ok (x : Nat) (σ : AHeap) : CallR Try.prog false 132 [Value.float .f64
    x] σ (Go.Value.float Go.FloatKind.f64 (wPos_0 x)) σ := by
  have h := wPos_c x σ
  rw [wPos_v] at h
  exact h
def sPart : PureFn
  | [.float .f64 x] => some (.float .f64 (wPart_0 x))
  | _ => none
theorem sPart_ok : IsPure Try.prog false 126 sPart := by
  intro args v σ h
  unfold sPart at h
  split at h
  · cases h; exact wPart_ok _ σ
  · cases h
def sKind : PureFn
  | [.complex .f64 a b] => some (.int .i8 (wKind_0 a b))
  | _ => none
theorem sKind_ok : IsPure Try.prog false 159 sKind := by
  intro args v σ h
  unfold sKind at h
  split at h
  · cases h; exact wKind_ok _ _ σ
  · cases h
def sPos : PureFn
  | [.float .f64 x] => some (.float .f64 (wPos_0 x))
  | _ => none
theorem sPos_ok : IsPure Try.prog false 132 sPos := by
  intro args v σ h
  unfold sPos at h
  split at h
  · cases h; exact wPos_ok _ σ
  · cases h
noncomputable def t9 : Tab := (((t8.addP 126 sPart).addP 159 sKind).addP 132 sPos)
theorem t9_ok : t9.Ok Try.prog false := (Tab.Ok.addP (Tab.Ok.addP (Tab.Ok.addP t8_ok sPart_ok) sKind_ok) sPos_ok)
end Go.Lk
end

section
/- The program's sine, cosine and arctangent, as floats. -/
namespace Go.Lk
set_option linter.unusedSimpArgs false
set_option linter.unusedVariables false
set_option maxRecDepth 10000
set_option maxHeartbeats 1000000
theorem pe_lip {Z u v e : Rat} (l : List Rat) (h0 : 0 ≤ u) (h1 : u ≤ Z) (k0 : 0 ≤ v) (k1 : v ≤ Z) (h : Bd (u - v) e) : Bd (pe l u - pe l v) (pe ((dl l).map rabs) Z * e) := by
  have hD : 0 ≤ pe ((dl l).map rabs) Z := (pe_bd h0 h1 (dl l)).nonneg
  have go : ∀ {u v : Rat}, 0 ≤ u → v ≤ Z → u ≤ v → Bd (pe l v - pe l u) (pe ((dl l).map rabs) Z * (v - u)) := by
    intro u v h0 k1 huv
    have m := ((Df.id u v).pe l).mean (σ := 0) (ε := pe ((dl l).map rabs) Z) huv (fun w h1 h2 => by
      exact (pe_bd (show 0 ≤ w by grind) (show w ≤ Z by grind) (dl l)).of_eq (by grind))
    exact m.of_eq (by grind)
  rcases Rat.le_total (a := u) (b := v) with huv | huv
  · have h2 := Rat.mul_le_mul_of_nonneg_left (show v - u ≤ e by have := h.1; grind) hD
    exact ((go h0 k1 huv).neg.of_eq (by grind)).mono h2
  · have h2 := Rat.mul_le_mul_of_nonneg_left (show u - v ≤ e by have := h.2; grind) hD
    exact (go k0 h1 huv).mono h2
theorem sg_mul {x y : Nat} (hx : isFin x = true) (hy : isFin y = true) (hs : sg x = sg y) : sg (fmul x y) = false := by
  obtain ⟨r, e, hr⟩ := fmul_near hx hy
  rw [e, sg_wd (by have := hr.1; unfold infR at this; omega), hs, Bool.xor_self]
theorem cir_q : qv 4618760256179416344 = cir := circ_q.2
theorem cir_le : cir ≤ 6283185308 / 1000000000 ∧ 6283185307 / 1000000000 ≤ cir ∧ YY = cir * (1 / 8) ∧ ZZ ≤ 617 / 1000 := by decide +kernel
/-- An eighth: how near its two numbers are. -/
theorem eighth_cs0 {a : Nat} (ha : isFin a = true) (sa : sg a = false) (h8 : qv a ≤ 1 / 8) :
    Bd (qv (cosE (fmul (fmul a 4618760256179416344) (fmul a 4618760256179416344))) - cF (qv a * cir)) (4 * eta) ∧
    Bd (qv (fmul (sinE (fmul (fmul a 4618760256179416344) (fmul a 4618760256179416344))) (fmul a 4618760256179416344)) - sF (qv a * cir)) (4 * eta) := by
  obtain ⟨t1, t2, t3, t4⟩ := eta_small
  obtain ⟨c1, c2⟩ := circ_q
  obtain ⟨r1, r2, r3, r4⟩ := cir_le
  have na := (qv_nn sa).2
  have k1 := Rat.mul_nonneg na (show 0 ≤ cir by grind)
  have k2 := Rat.mul_le_mul_of_nonneg_right h8 (c := cir) (by grind)
  have hYY : qv a * cir ≤ YY := by grind
  have hac : Bd (qv a * qv 4618760256179416344) (785398163398 / 1000000000000) := by
    rw [cir_q]
    have k3 : (1 / 8 : Rat) * cir ≤ 785398163398 / 1000000000000 := by decide +kernel
    constructor <;> grind
  obtain ⟨y1, y2⟩ := mul_q ha c1 hac (by decide +kernel)
  rw [cir_q] at y2 hac
  have sy : sg (fmul a 4618760256179416344) = false := sg_mul ha c1 (by rw [sa]; rfl)
  generalize fmul a 4618760256179416344 = y at *
  have ny := (qv_nn sy).2
  have hy : qv y ≤ 78539817 / 100000000 := by
    have h1 := hac.2
    have h2 := y2.2
    have h3 : 785398163398 / 1000000000000 * eta + tau ≤ 1 / 1000000000 := by decide +kernel
    grind
  have by' : Bd (qv y) (78539817 / 100000000) := ⟨by grind, hy⟩
  have hyy := by'.mul by'
  obtain ⟨z1, z2⟩ := mul_q y1 y1 hyy (by decide +kernel)
  have sz : sg (fmul y y) = false := sg_mul y1 y1 rfl
  generalize fmul y y = z at *
  have nz := (qv_nn sz).2
  have hz : qv z ≤ ZZ := by
    have h1 := hyy.2
    have h2 := z2.2
    have h3 : (78539817 / 100000000 : Rat) * (78539817 / 100000000) + (78539817 / 100000000 * (78539817 / 100000000) * eta + tau) ≤ ZZ := by decide +kernel
    grind
  obtain ⟨C1, C2, C3, C4, C5⟩ := cosE_err z1 nz hz
  obtain ⟨S1, S2, S3, S4, S5⟩ := sinE_err z1 nz hz
  obtain ⟨w1, w2, w3, w4, w5, w6, w7⟩ := cs_range k1 hYY
  generalize qv a * cir = α at *
  -- the squares
  have bα : Bd α (786 / 1000) := ⟨by grind, by have := hac.2; grind⟩
  have hsq : Bd (qv y * qv y - α * α) ((785398163398 / 1000000000000 * eta + tau) * (78539817 / 100000000 + 786 / 1000)) := (y2.mul (by'.add bα)).of_eq (by grind)
  have hdz : Bd (qv z - α * α) (19 / 10 * eta) := ((z2.add hsq).of_eq (by grind)).mono (by decide +kernel)
  have lc := (pe_lip (Z := ZZ) cL nz hz w1 w2 hdz).mono (B := 12 / 10 * eta) (by decide +kernel)
  have ls := (pe_lip (Z := ZZ) sL nz hz w1 w2 hdz).mono (B := 5 / 10 * eta) (by decide +kernel)
  constructor
  · exact ((C2.add lc).of_eq (by show qv (cosE z) - pe cL (qv z) + _ = _; unfold cF; grind)).mono (by grind)
  · have dS : Bd (qv (sinE z) - pe sL (α * α)) (1220 / 1000 * eta + 5 / 10 * eta) := (S2.add ls).of_eq (by show qv (sinE z) - pe sL (qv z) + _ = _; grind)
    have bS0 : Bd (pe sL (qv z)) 1 := ⟨by show -1 ≤ sinR (qv z); grind, S4⟩
    have bS2 : Bd (qv (sinE z)) (1 + 1220 / 1000 * eta) := (bS0.add S2).of_eq (by show pe sL (qv z) + (qv (sinE z) - pe sL (qv z)) = _; grind)
    have bSα : Bd (pe sL (α * α)) (1 + 5 / 10 * eta) := (bS0.sub ls).of_eq (by grind)
    obtain ⟨s1, s2⟩ := mul_q S1 y1 (bS2.mul by') (by decide +kernel)
    have e1 := dS.mul by'
    have e2 := bSα.mul y2
    exact (((s2.add e1).add e2).of_eq (by unfold sF; grind)).mono (by decide +kernel)
theorem YY_near : Bd (6369051672525773 / 9007199254740992 - cF YY) (4 * eta) ∧ Bd (6369051672525773 / 9007199254740992 - sF YY) (4 * eta) := ⟨⟨by decide +kernel, by decide +kernel⟩, ⟨by decide +kernel, by decide +kernel⟩⟩
theorem oct_q : isFin 4593671619917905920 = true ∧ qv 4593671619917905920 = 1 / 8 := ⟨by decide, (qv_const (n := 1) (d := 8) (by decide) (by decide +kernel)).trans (by decide +kernel)⟩
theorem oct_eq {a : Nat} (ha : isFin a = true) (h : feq a 4593671619917905920 = true) : qv a = 1 / 8 := by
  rw [feq_fin ha oct_q.1] at h
  have h1 := of_decide_eq_true h
  have h2 : qv a = qv 4593671619917905920 := congrArg (fun z : Int => (z : Rat) / UR) h1
  exact h2.trans oct_q.2
theorem oct_cir {a : Nat} (h : qv a = 1 / 8) : qv a * cir = YY := by
  have := cir_le.2.2.1
  rw [h, this]; grind
theorem eighth_0 (a : Nat) : wEighth_0 a = bif feq a 4593671619917905920 then 4604544271217802189 else cosE (fmul (fmul a 4618760256179416344) (fmul a 4618760256179416344)) := by kernel_rfl
theorem eighth_1 (a : Nat) : wEighth_1 a = bif feq a 4593671619917905920 then 4604544271217802189 else fmul (sinE (fmul (fmul a 4618760256179416344) (fmul a 4618760256179416344))) (fmul a 4618760256179416344) := by kernel_rfl
theorem eighth_cs {a : Nat} (ha : isFin a = true) (sa : sg a = false) (h8 : qv a ≤ 1 / 8) :
    Bd (qv (wEighth_0 a) - cF (qv a * cir)) (4 * eta) ∧ Bd (qv (wEighth_1 a) - sF (qv a * cir)) (4 * eta) := by
  rw [eighth_0, eighth_1]
  generalize h : feq a 4593671619917905920 = b
  cases b with
  | false =>
    rw [cond_false, cond_false]
    exact eighth_cs0 ha sa h8
  | true =>
    rw [cond_true, cond_true, oct_cir (oct_eq ha h), half_q.2]
    exact YY_near
end Go.Lk
end
