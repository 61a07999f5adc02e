import Derived.Test.YtmomainjlncogaaSq3
import Derived.Test.YtmomainjlncogaaProg
import Derived.Test.YtmomainjlncogaaSq4
section
/- The program: functions without bodies. -/
namespace Go.Lk
open Go.Proofs
set_option linter.unusedSimpArgs false
set_option linter.unusedVariables false
set_option maxRecDepth 100000

theorem b80 : Bare Try.prog 80 Extern.MathFloatBits.float64bits := ⟨_, Try.func80, rfl, by kernel_rfl, by kernel_rfl, by kernel_rfl⟩
theorem b124 : Bare Try.prog 124 Extern.MathFloatBits.float64frombits := ⟨_, Try.func124, rfl, by kernel_rfl, by kernel_rfl, by kernel_rfl⟩
theorem b147 : Bare Try.prog 147 (Extern.MathFloor.toIntegral "math.archFloor" .down) := ⟨_, Try.func147, rfl, by kernel_rfl, by kernel_rfl, by kernel_rfl⟩
theorem b205 : Bare Try.prog 205 (Extern.MathFloor.toIntegral "math.archTrunc" .zero) := ⟨_, Try.func205, rfl, by kernel_rfl, by kernel_rfl, by kernel_rfl⟩
theorem b196 : Bare Try.prog 196 Extern.MathSqrt.sqrt := ⟨_, Try.func196, rfl, by kernel_rfl, by kernel_rfl, by kernel_rfl⟩

noncomputable def t0 (ex : Bool) : Tab := ((((Tab.empty.addP 80 (xBits ex)).addP 124 (xFrom ex)).addP 196 (xSqrt ex)).addP 147 (xFloor ex)).addP 205 (xTrunc ex)
theorem t0_ok (ex : Bool) : (t0 ex).Ok Try.prog ex := by
  have h1 := xBits_ok ex b80
  have h2 := xFrom_ok ex b124
  have h3 := xSqrt_ok ex b196
  have h4 := xFloor_ok ex b147
  have h5 := xTrunc_ok ex b205
  generalize Try.prog = P at *
  exact Tab.Ok.addP (Tab.Ok.addP (Tab.Ok.addP (Tab.Ok.addP (Tab.Ok.addP (Tab.Ok.empty P ex) h1) h2) h3) h4) h5
theorem mixed : Try.prog.follows .mixedOrders = true := by kernel_rfl
noncomputable def c0 (ex : Bool) : Cfg := (t0 ex).cfg Try.prog ex
theorem c0_ok (ex : Bool) : (c0 ex).Ok := (t0_ok ex).cfg mixed

/-! ### Words as they are -/
theorem xAbs (x : Nat) : DFn (c0 true) 100 Try.f51 [.float .f64 x] [] = some (.float .f64 ((IntKind.u64.wrap (BitVec.ofInt 64 x &&& ~~~BitVec.ofInt 64 9223372036854775808).toNat).toNat), []) := by kernel_rfl
theorem xCopysign (x y : Nat) : DFn (c0 true) 100 Try.f35 [.float .f64 x, .float .f64 y] [] = some (.float .f64 (IntKind.u64.wrap (BitVec.ofInt 64 (IntKind.u64.wrap (BitVec.ofInt 64 x &&& ~~~BitVec.ofInt 64 9223372036854775808).toNat) ||| BitVec.ofInt 64 (IntKind.u64.wrap (BitVec.ofInt 64 y &&& BitVec.ofInt 64 9223372036854775808).toNat)).toNat).toNat, []) := by kernel_rfl
end Go.Lk
end

section
/- The rows of sines, cosines and tangents. -/
namespace Go.Lk
open Go.Proofs
set_option maxRecDepth 100000
set_option linter.unusedVariables false

theorem iPure_ok {C : Cfg} (hC : C.Ok) {f : Nat} {fn : Func} (n : Nat) (hf : C.P.funcs[f]? = some fn) (hok : fnOk C fn = true) : IsPure C.P C.ex f (iPure C n fn) := by
  intro args v σ h
  simp only [fnOk, Bool.and_eq_true, Bool.not_eq_true'] at hok
  unfold iPure at h
  cases hfl : args.all plain with
  | false => rw [hfl] at h; cases h
  | true =>
    rw [hfl] at h
    simp only [cond_true] at h
    split at h
    · rename_i v' σ1 hd
      cases hp : plain v' with
      | false => rw [hp] at h; cases h
      | true => rw [hp] at h; cases h; exact CallR.frame hfl (CallR.of_DFn_nil hC hf hok.1 hok.2 hd hp) hp
    · cases h
theorem IsPure.of_sub {P : Program} {ex : Bool} {f : Nat} {s s' : PureFn} (h : IsPure P ex f s') (hs : ∀ args v, s args = some v → s' args = some v) : IsPure P ex f s :=
  fun args v σ hv => h args v σ (hs args v hv)

noncomputable def L0 : Lib := ⟨Try.prog, false, t0 false, [(207, Try.f207), (182, Try.f182)], []⟩
theorem L0_fp : ∀ e, e ∈ L0.pures → Try.prog.funcs[e.1]? = some e.2 := fs_cons Try.func207 (fs_cons Try.func182 (fs_nil))
theorem L0_fh : ∀ e, e ∈ L0.heaps → Try.prog.funcs[e.1]? = some e.2.2 := gs_nil
theorem L0_p1 (gp : Nat → PureFn) (g : Nat → HeapFn) : (L0.pures.all fun e => fnOk (L0.mk' gp g) e.2) = true := by kernel_rfl
theorem L0_h1 (gp : Nat → PureFn) (g : Nat → HeapFn) : (L0.heaps.all fun e => fnOk (L0.mk' gp g) e.2.2 && (!e.2.1 || fnRo (L0.mk' gp g) e.2.2)) = true := by kernel_rfl
theorem L0_ok : L0.Ok := ⟨t0_ok false, mixed, L0_fp, L0_fh, L0_p1, L0_h1⟩

def cosA : Value := .agg #[.float .f64 4607182418800017408, .float .f64 13826050856027422720, .float .f64 4586165620538955093, .float .f64 13787419979223755799, .float .f64 4537941361671905306, .float .f64 13732177094651715420, .float .f64 4477122120089393304, .float .f64 13666517717442657437, .float .f64 4407590220077447199, .float .f64 0, .float .f64 0, .float .f64 0, .float .f64 0, .float .f64 0, .float .f64 0, .float .f64 0, .float .f64 0, .float .f64 0, .float .f64 0, .float .f64 0, .float .f64 0, .float .f64 0, .float .f64 0, .float .f64 0]
def sinA : Value := .agg #[.float .f64 4607182418800017408, .float .f64 13818544856648471893, .float .f64 4575957461383581969, .float .f64 13774824197408792602, .float .f64 4523617214285662004, .float .f64 13716528800881525988, .float .f64 4460272573143870729, .float .f64 13648976655441704991, .float .f64 4389130328383466826, .float .f64 0, .float .f64 0, .float .f64 0, .float .f64 0, .float .f64 0, .float .f64 0, .float .f64 0, .float .f64 0, .float .f64 0, .float .f64 0, .float .f64 0, .float .f64 0, .float .f64 0, .float .f64 0, .float .f64 0]
def sPowers : PureFn
  | [.int .i64 (.ofNat 0)] => some cosA
  | [.int .i64 (.ofNat 1)] => some sinA
  | _ => none
theorem pow0 : iPure (L0.cfg 100 1) 100 Try.f182 [.int .i64 0] = some cosA := by kernel_rfl
theorem pow1 : iPure (L0.cfg 100 1) 100 Try.f182 [.int .i64 1] = some sinA := by kernel_rfl
theorem f182_ok : fnOk (L0.cfg 100 1) Try.f182 = true := by kernel_rfl
theorem sPowers_ok : IsPure Try.prog false 182 sPowers :=
  (iPure_ok (C := L0.cfg 100 1) (L0_ok.cfg 100 1) 100 Try.func182 f182_ok).of_sub fun args v h => by
    unfold sPowers at h
    split at h
    · cases h; exact pow0
    · cases h; exact pow1
    · cases h
noncomputable def t1 : Tab := ((t0 false).addP 182 sPowers)
theorem t1_ok : t1.Ok Try.prog false := (Tab.Ok.addP (t0_ok false) sPowers_ok)
end Go.Lk
end

section
/- Abs, Copysign, Signbit: by the words. -/
namespace Go.Lk
open Go.Proofs
set_option maxRecDepth 100000
set_option linter.unusedSimpArgs false
set_option linter.unusedVariables false

theorem xAbs_call (σ : AHeap) (x : Nat) : CallR Try.prog true 51 [.float .f64 x] σ (.float .f64 ((IntKind.u64.wrap (BitVec.ofInt 64 x &&& ~~~BitVec.ofInt 64 9223372036854775808).toNat).toNat)) σ :=
  CallR.frame rfl (CallR.of_DFn_nil (C := c0 true) (c0_ok true) Try.func51 (by kernel_rfl) (by kernel_rfl) (xAbs x) rfl) rfl
theorem xCopysign_call (σ : AHeap) (x y : Nat) : CallR Try.prog true 35 [.float .f64 x, .float .f64 y] σ (.float .f64 (IntKind.u64.wrap (BitVec.ofInt 64 (IntKind.u64.wrap (BitVec.ofInt 64 x &&& ~~~BitVec.ofInt 64 9223372036854775808).toNat) ||| BitVec.ofInt 64 (IntKind.u64.wrap (BitVec.ofInt 64 y &&& BitVec.ofInt 64 9223372036854775808).toNat)).toNat).toNat) σ :=
  CallR.frame rfl (CallR.of_DFn_nil (C := c0 true) (c0_ok true) Try.func35 (by kernel_rfl) (by kernel_rfl) (xCopysign x y) rfl) rfl
theorem u64_wrap {n : Nat} (h : n < 2 ^ 64) : IntKind.u64.wrap (n : Int) = n := by
  unfold IntKind.wrap
  simp [IntKind.min, IntKind.signed, IntKind.bits]
  omega
theorem ofInt_toNat (x : Nat) : (BitVec.ofInt 64 (x : Int)).toNat = x % 2 ^ 64 := by simp
theorem abs_bits (x : Nat) : (BitVec.ofInt 64 (x : Int) &&& ~~~BitVec.ofInt 64 9223372036854775808).toNat = x % 2 ^ 63 := by
  rw [BitVec.toNat_and, ofInt_toNat]
  have : (~~~BitVec.ofInt 64 9223372036854775808).toNat = 2 ^ 63 - 1 := by decide
  rw [this, Nat.and_two_pow_sub_one_eq_mod]
  omega
theorem sign_bits (y : Nat) : (BitVec.ofInt 64 (y : Int) &&& BitVec.ofInt 64 9223372036854775808).toNat = if sg y then 2 ^ 63 else 0 := by
  rw [BitVec.toNat_and, ofInt_toNat]
  have : (BitVec.ofInt 64 9223372036854775808).toNat = 2 ^ 63 := by decide
  rw [this]
  apply Nat.eq_of_testBit_eq
  intro i
  rw [Nat.testBit_and, Nat.testBit_two_pow, Nat.testBit_mod_two_pow]
  by_cases hi : 63 = i
  · subst hi
    have h1 : y.testBit 63 = sg y := by
      unfold sg
      rw [Nat.testBit_eq_decide_div_mod_eq, Bool.eq_iff_iff]
      simp
    rw [h1]
    cases sg y
    · simp
    · simp only [if_true, Nat.testBit_two_pow_self]; rfl
  · have h1 : decide (63 = i) = false := by simp; exact hi
    rw [h1, Bool.and_false]
    cases sg y
    · simp
    · simp only [if_true, Nat.testBit_two_pow, h1]
theorem abs_word (x : Nat) : (IntKind.u64.wrap (BitVec.ofInt 64 x &&& ~~~BitVec.ofInt 64 9223372036854775808).toNat).toNat = rg x := by
  rw [abs_bits, u64_wrap (by omega)]; rfl
theorem copysign_word (x y : Nat) : (IntKind.u64.wrap (BitVec.ofInt 64 (IntKind.u64.wrap (BitVec.ofInt 64 x &&& ~~~BitVec.ofInt 64 9223372036854775808).toNat) ||| BitVec.ofInt 64 (IntKind.u64.wrap (BitVec.ofInt 64 y &&& BitVec.ofInt 64 9223372036854775808).toNat)).toNat).toNat = wd (sg y) (rg x) := by
  have hs : (if sg y = true then 2 ^ 63 else 0) < 2 ^ 64 := by split <;> omega
  rw [abs_bits, sign_bits, u64_wrap (n := x % 2 ^ 63) (by omega), u64_wrap hs, BitVec.toNat_or, ofInt_toNat, ofInt_toNat]
  have h1 : x % 2 ^ 63 % 2 ^ 64 = x % 2 ^ 63 := by omega
  have h2 : (if sg y = true then 2 ^ 63 else 0) % 2 ^ 64 = if sg y = true then 2 ^ 63 else 0 := by split <;> omega
  rw [h1, h2]
  have key : x % 2 ^ 63 ||| (if sg y = true then 2 ^ 63 else 0) = wd (sg y) (rg x) := by
    unfold wd rg
    cases sg y
    · simp
    · simp only [if_true]
      rw [Nat.or_comm]
      have := Nat.two_pow_add_eq_or_of_lt (i := 63) (b := x % 2 ^ 63) (Nat.mod_lt _ (by decide)) 1
      rw [Nat.mul_one] at this
      exact this.symm
  rw [key, u64_wrap (wd_lt (by unfold rg; omega))]
  simp
theorem rg_rg (x : Nat) : rg (rg x) = rg x := Nat.mod_mod _ _
theorem nan_rg {x y : Nat} (h : rg x = rg y) : isNaN x = isNaN y := by rw [isNaN_iff, isNaN_iff, h]
theorem rg_lt (x : Nat) : rg x < 2 ^ 63 := Nat.mod_lt _ (by decide)

def sAbs : PureFn
  | [.float .f64 x] => some (.float .f64 (fabs x))
  | _ => none
def sCopysign : PureFn
  | [.float .f64 x, .float .f64 y] => bif isNaN x || !isNaN y then some (.float .f64 (fcopysign x y)) else none
  | _ => none
theorem fabs_can (c : Nat) : fabs (can c) = can (rg c) := by
  unfold fabs
  rw [isNaN_can]
  cases h : isNaN c
  · rw [cond_false, can_of_num h, can_of_num (by rw [nan_rg (rg_rg c)]; exact h)]
  · rw [cond_true, can_of_nan (by rw [nan_rg (rg_rg c)]; exact h)]
theorem sAbs_ok : IsPure Try.prog false 51 sAbs := by
  intro args v σ h
  unfold sAbs at h
  split at h
  · rename_i x
    cases h
    refine CallR.of_exact rfl (fun cargs hv => ?_) rfl
    obtain ⟨y, hy, hvr⟩ := hv.one_of
    obtain ⟨c, rfl, rfl⟩ := hvr.float_of
    subst hy
    refine ⟨_, xAbs_call [] c, rfl, ?_⟩
    rw [abs_word]
    have := VR.float (ex := false) (μ := []) .f64 (rg c)
    rw [show cn false (rg c) = can (rg c) from rfl, ← fabs_can] at this
    exact this
  · cases h
theorem fcopysign_can {c d : Nat} (h : isNaN c = true ∨ isNaN d = false) : fcopysign (can c) (can d) = can (wd (sg d) (rg c)) := by
  unfold fcopysign
  rw [isNaN_can]
  have hw : isNaN (wd (sg d) (rg c)) = isNaN c := nan_rg (rg_wd (rg_lt _))
  cases hc : isNaN c
  · rw [hc] at hw h
    rw [cond_false, can_of_num hc, can_of_num hw]
    rcases h with h | h
    · cases h
    · rw [can_of_num h]
  · rw [hc] at hw; rw [cond_true, can_of_nan hw]
theorem sCopysign_ok : IsPure Try.prog false 35 sCopysign := by
  intro args v σ h
  unfold sCopysign at h
  split at h
  · rename_i x y
    cases hb : (isNaN x || !isNaN y)
    · rw [hb] at h; cases h
    rw [hb] at h
    cases h
    refine CallR.of_exact rfl (fun cargs hv => ?_) rfl
    obtain ⟨c', hc', hvr⟩ := hv.2 0 _ rfl
    obtain ⟨d', hd', hvr'⟩ := hv.2 1 _ rfl
    obtain ⟨c, rfl, rfl⟩ := hvr.float_of
    obtain ⟨d, rfl, rfl⟩ := hvr'.float_of
    have hcs : cargs = [.float .f64 c, .float .f64 d] := by
      have hl := hv.1
      match cargs, hl with
      | [a, b], _ => simp at hc' hd'; rw [hc', hd']
    subst hcs
    refine ⟨_, xCopysign_call [] c d, rfl, ?_⟩
    rw [copysign_word]
    have := VR.float (ex := false) (μ := []) .f64 (wd (sg d) (rg c))
    rw [show cn false (wd (sg d) (rg c)) = can (wd (sg d) (rg c)) from rfl, ← fcopysign_can] at this
    · exact this
    · rw [show cn false c = can c from rfl, show cn false d = can d from rfl, isNaN_can, isNaN_can] at hb
      cases h1 : isNaN c
      · right; rw [h1] at hb; simpa using hb
      · left; rfl
  · cases h
noncomputable def t2 : Tab := ((t1.addP 51 sAbs).addP 35 sCopysign)
theorem t2_ok : t2.Ok Try.prog false := (Tab.Ok.addP (Tab.Ok.addP t1_ok sAbs_ok) sCopysign_ok)
noncomputable def c2 : Cfg := t2.cfg Try.prog false
end Go.Lk
end

section
/- The math functions and others without branches, out of their bodies. -/
namespace Go.Lk
open Go.Proofs
set_option maxRecDepth 100000
noncomputable def L2 : Lib := ⟨Try.prog, false, t2, [(181, Try.f181), (160, Try.f160), (69, Try.f69), (55, Try.f55), (123, Try.f123), (33, Try.f33), (127, Try.f127), (128, Try.f128), (207, Try.f207), (122, Try.f122), (135, Try.f135), (136, Try.f136), (109, Try.f109)], []⟩
theorem L2_fp : ∀ e, e ∈ L2.pures → Try.prog.funcs[e.1]? = some e.2 := fs_cons Try.func181 (fs_cons Try.func160 (fs_cons Try.func69 (fs_cons Try.func55 (fs_cons Try.func123 (fs_cons Try.func33 (fs_cons Try.func127 (fs_cons Try.func128 (fs_cons Try.func207 (fs_cons Try.func122 (fs_cons Try.func135 (fs_cons Try.func136 (fs_cons Try.func109 (fs_nil)))))))))))))
theorem L2_fh : ∀ e, e ∈ L2.heaps → Try.prog.funcs[e.1]? = some e.2.2 := gs_nil
theorem L2_p1 (gp : Nat → PureFn) (g : Nat → HeapFn) : (L2.pures.all fun e => fnOk (L2.mk' gp g) e.2) = true := by kernel_rfl
theorem L2_h1 (gp : Nat → PureFn) (g : Nat → HeapFn) : (L2.heaps.all fun e => fnOk (L2.mk' gp g) e.2.2 && (!e.2.1 || fnRo (L2.mk' gp g) e.2.2)) = true := by kernel_rfl
theorem L2_ok : L2.Ok := ⟨t2_ok, mixed, L2_fp, L2_fh, L2_p1, L2_h1⟩

noncomputable def d2 : Cfg := L2.cfg 100 4
theorem d2_ok : d2.Ok := L2_ok.cfg 100 4
end Go.Lk
end

section
/- Modf, Wrap. -/
namespace Go.Lk
open Go.Proofs
set_option maxRecDepth 100000
set_option linter.unusedVariables false
set_option linter.unusedSimpArgs false
theorem wModf_fok : fnOk (d2) Try.f123 = true := by kernel_rfl
theorem wModf_p0 (x : Nat) (σ : AHeap) (h0 : (isNaN (fsub x (ftrunc x)) || !isNaN x) = true) : CallR Try.prog false 123 [Value.float .f64 x] σ (Value.tuple { toList := [Value.float .f64 (ftrunc x), Value.float .f64 (fcopysign (fsub x (ftrunc x)) x)] }) σ := CallR.of_DO_pure (C := d2) d2_ok Try.func123 wModf_fok (n := 100) (orc := [(19, Item.res (Value.float .f64 (fcopysign (fsub x (ftrunc x)) x)))]) (ps := [(gP (Value.float .f64 (fcopysign (fsub x (ftrunc x)) x)) ([]) (isNaN (fsub x (ftrunc x)) || !isNaN x))]) (σ1 := []) (by kernel_rfl) ⟨gP_true _ _ h0, trivial⟩ rfl rfl
def wModf_t (x : Nat) : Value := (Value.tuple { toList := [Value.float .f64 (ftrunc x), Value.float .f64 (fcopysign (fsub x (ftrunc x)) x)] })
theorem wModf_c (x : Nat) (σ : AHeap) (g0_0 : (isNaN (fsub x (ftrunc x)) ||
  !isNaN x) = true) : CallR Try.prog false 123 [Value.float .f64 x] σ (wModf_t x) σ := by
  unfold wModf_t
  exact (wModf_p0 x σ (g0_0))
def sModf : PureFn
  | [.float .f64 x] => bif feq (fsub x x) 0 then some (.tuple #[.float .f64 (ftrunc x), .float .f64 (fcopysign (fsub x (ftrunc x)) x)]) else none
  | _ => none
theorem sModf_ok : IsPure Try.prog false 123 sModf := by
  intro args v σ h
  unfold sModf at h
  split at h
  · rename_i x
    cases hb : feq (fsub x x) 0
    · rw [hb] at h; cases h
    · rw [hb] at h
      cases h
      refine wModf_c x σ ?_
      have : isNaN x = false := by
        cases hn : isNaN x
        · rfl
        · rw [fsub_nan_l hn, feq_nan_l isNaN_qnan] at hb; cases hb
      rw [this]; simp
  · cases h
theorem feq_self (x : Nat) : feq x x = !isNaN x := by
  rcases three x with h | h | h
  · rw [feq_fin h h, fin_num h]; simp
  · have : isNaN x = false := by rw [isNaN_iff, h]; decide
    rw [this]
    unfold feq Ieee.Format.order
    rw [read_inf h]
    cases sg x <;> rfl
  · rw [feq_nan_l h, h]; rfl
def sBits : PureFn
  | [.float .f64 x] => bif feq x x then some (.int .u64 x) else none
  | _ => none
theorem sBits_ok : IsPure Try.prog false 80 sBits := by
  refine (xBits_ok false b80).of_sub fun args v h => ?_
  unfold sBits at h
  split at h
  · rename_i x
    rw [feq_self] at h
    exact h
  · cases h
noncomputable def t3 : Tab := ((t2.addP 123 sModf).addP 80 sBits)
theorem t3_ok : t3.Ok Try.prog false := (Tab.Ok.addP (Tab.Ok.addP t2_ok sModf_ok) sBits_ok)
noncomputable def L3a : Lib := ⟨Try.prog, false, t3, [(181, Try.f181), (160, Try.f160), (69, Try.f69), (55, Try.f55), (33, Try.f33), (127, Try.f127), (128, Try.f128), (207, Try.f207), (122, Try.f122), (135, Try.f135), (136, Try.f136), (109, Try.f109)], []⟩
theorem L3a_fp : ∀ e, e ∈ L3a.pures → Try.prog.funcs[e.1]? = some e.2 := fs_cons Try.func181 (fs_cons Try.func160 (fs_cons Try.func69 (fs_cons Try.func55 (fs_cons Try.func33 (fs_cons Try.func127 (fs_cons Try.func128 (fs_cons Try.func207 (fs_cons Try.func122 (fs_cons Try.func135 (fs_cons Try.func136 (fs_cons Try.func109 (fs_nil))))))))))))
theorem L3a_fh : ∀ e, e ∈ L3a.heaps → Try.prog.funcs[e.1]? = some e.2.2 := gs_nil
theorem L3a_p1 (gp : Nat → PureFn) (g : Nat → HeapFn) : (L3a.pures.all fun e => fnOk (L3a.mk' gp g) e.2) = true := by kernel_rfl
theorem L3a_h1 (gp : Nat → PureFn) (g : Nat → HeapFn) : (L3a.heaps.all fun e => fnOk (L3a.mk' gp g) e.2.2 && (!e.2.1 || fnRo (L3a.mk' gp g) e.2.2)) = true := by kernel_rfl
theorem L3a_ok : L3a.Ok := ⟨t3_ok, mixed, L3a_fp, L3a_fh, L3a_p1, L3a_h1⟩
noncomputable def dL3a : Cfg := L3a.cfg 100 4
theorem dL3a_ok : dL3a.Ok := L3a_ok.cfg 100 4

theorem wWrap_fok : fnOk (dL3a) Try.f32 = true := by kernel_rfl
theorem wWrap_p0 (x : Nat) (σ : AHeap) (h0 : (feq (fsub x x) 0) = true) (h1 : (fge (fcopysign (fsub x (ftrunc x)) x) 4602678819172646912) = true) : CallR Try.prog false 32 [Value.float .f64 x] σ (Value.float .f64 (fadd (fsub (fcopysign (fsub x (ftrunc x)) x) 4607182418800017408) 0)) σ := CallR.of_DO_pure (C := dL3a) dL3a_ok Try.func32 wWrap_fok (n := 100) (orc := [(10, Item.br false), (14, Item.res (Value.tuple { toList := [Value.float .f64 (ftrunc x), Value.float .f64 (fcopysign (fsub x (ftrunc x)) x)] })), (31, Item.br true)]) (ps := [(bP (!feq (fsub x x) 0) false), (gP (Value.tuple { toList := [Value.float .f64 (ftrunc x), Value.float .f64 (fcopysign (fsub x (ftrunc x)) x)] }) ([]) (feq (fsub x x) 0)), (bP (fge (fcopysign (fsub x (ftrunc x)) x) 4602678819172646912) true)]) (σ1 := []) (by kernel_rfl) ⟨bP_of (fun x => !x) h0, ⟨gP_true _ _ h0, ⟨bP_of (fun x => x) h1, trivial⟩⟩⟩ rfl rfl
theorem wWrap_p1 (x : Nat) (σ : AHeap) (h0 : (feq (fsub x x) 0) = true) (h1 : (fge (fcopysign (fsub x (ftrunc x)) x) 4602678819172646912) = false) (h2 : (flt (fcopysign (fsub x (ftrunc x)) x) 13826050856027422720) = true) : CallR Try.prog false 32 [Value.float .f64 x] σ (Value.float .f64 (fadd (fadd (fcopysign (fsub x (ftrunc x)) x) 4607182418800017408) 0)) σ := CallR.of_DO_pure (C := dL3a) dL3a_ok Try.func32 wWrap_fok (n := 100) (orc := [(10, Item.br false), (14, Item.res (Value.tuple { toList := [Value.float .f64 (ftrunc x), Value.float .f64 (fcopysign (fsub x (ftrunc x)) x)] })), (31, Item.br false), (38, Item.br true)]) (ps := [(bP (!feq (fsub x x) 0) false), (gP (Value.tuple { toList := [Value.float .f64 (ftrunc x), Value.float .f64 (fcopysign (fsub x (ftrunc x)) x)] }) ([]) (feq (fsub x x) 0)), (bP (fge (fcopysign (fsub x (ftrunc x)) x) 4602678819172646912) false), (bP (flt (fcopysign (fsub x (ftrunc x)) x) 13826050856027422720) true)]) (σ1 := []) (by kernel_rfl) ⟨bP_of (fun x => !x) h0, ⟨gP_true _ _ h0, ⟨bP_of (fun x => x) h1, ⟨bP_of (fun x => x) h2, trivial⟩⟩⟩⟩ rfl rfl
theorem wWrap_p2 (x : Nat) (σ : AHeap) (h0 : (feq (fsub x x) 0) = true) (h1 : (fge (fcopysign (fsub x (ftrunc x)) x) 4602678819172646912) = false) (h2 : (flt (fcopysign (fsub x (ftrunc x)) x) 13826050856027422720) = false) : CallR Try.prog false 32 [Value.float .f64 x] σ (Value.float .f64 (fadd (fcopysign (fsub x (ftrunc x)) x) 0)) σ := CallR.of_DO_pure (C := dL3a) dL3a_ok Try.func32 wWrap_fok (n := 100) (orc := [(10, Item.br false), (14, Item.res (Value.tuple { toList := [Value.float .f64 (ftrunc x), Value.float .f64 (fcopysign (fsub x (ftrunc x)) x)] })), (31, Item.br false), (38, Item.br false)]) (ps := [(bP (!feq (fsub x x) 0) false), (gP (Value.tuple { toList := [Value.float .f64 (ftrunc x), Value.float .f64 (fcopysign (fsub x (ftrunc x)) x)] }) ([]) (feq (fsub x x) 0)), (bP (fge (fcopysign (fsub x (ftrunc x)) x) 4602678819172646912) false), (bP (flt (fcopysign (fsub x (ftrunc x)) x) 13826050856027422720) false)]) (σ1 := []) (by kernel_rfl) ⟨bP_of (fun x => !x) h0, ⟨gP_true _ _ h0, ⟨bP_of (fun x => x) h1, ⟨bP_of (fun x => x) h2, trivial⟩⟩⟩⟩ rfl rfl
theorem wWrap_p3 (x : Nat) (σ : AHeap) (h0 : (feq (fsub x x) 0) = false) : CallR Try.prog false 32 [Value.float .f64 x] σ (Value.float .f64 9221120237041090561) σ := CallR.of_DO_pure (C := dL3a) dL3a_ok Try.func32 wWrap_fok (n := 100) (orc := [(10, Item.br true)]) (ps := [(bP (!feq (fsub x x) 0) true)]) (σ1 := []) (by kernel_rfl) ⟨bP_of (fun x => !x) h0, trivial⟩ rfl rfl
def wWrap_t (x : Nat) : Value := (bif feq (fsub x x) 0 then (bif fge (fcopysign (fsub x (ftrunc x)) x) 4602678819172646912 then (Value.float .f64 (fadd (fsub (fcopysign (fsub x (ftrunc x)) x) 4607182418800017408) 0)) else (bif flt (fcopysign (fsub x (ftrunc x)) x) 13826050856027422720 then (Value.float .f64 (fadd (fadd (fcopysign (fsub x (ftrunc x)) x) 4607182418800017408) 0)) else (Value.float .f64 (fadd (fcopysign (fsub x (ftrunc x)) x) 0)))) else (Value.float .f64 9221120237041090561))
theorem wWrap_c (x : Nat) (σ : AHeap) : CallR Try.prog false 32 [Value.float .f64 x] σ (wWrap_t x) σ := by
  unfold wWrap_t
  exact (CallR.bif (fun h0 => (CallR.bif (fun h1 => (wWrap_p0 x σ h0 h1)) (fun h1 => (CallR.bif (fun h2 => (wWrap_p1 x σ h0 h1 h2)) (fun h2 => (wWrap_p2 x σ h0 h1 h2)))))) (fun h0 => (wWrap_p3 x σ h0)))
def wWrap_0 (x : Nat) : Nat := (bif feq (fsub x x) 0 then (bif fge (fcopysign (fsub x (ftrunc x)) x) 4602678819172646912 then fadd (fsub (fcopysign (fsub x (ftrunc x)) x) 4607182418800017408) 0 else (bif flt (fcopysign (fsub x (ftrunc x)) x) 13826050856027422720 then fadd (fadd (fcopysign (fsub x (ftrunc x)) x) 4607182418800017408) 0 else fadd (fcopysign (fsub x (ftrunc x)) x) 0)) else 9221120237041090561)
theorem wWrap_v (x : Nat) : wWrap_t x = Go.Value.float Go.FloatKind.f64 (wWrap_0 x) := by
  unfold wWrap_t wWrap_0
  cases (feq (fsub x x) 0) with
  | true =>
    cases (fge (fcopysign (fsub x (ftrunc x)) x) 4602678819172646912) with
    | true =>
      kernel_rfl
    | false =>
      cases (flt (fcopysign (fsub x (ftrunc x)) x) 13826050856027422720) with
      | true =>
        kernel_rfl
      | false =>
        kernel_rfl
  | false =>
    kernel_rfl
theorem wWrap_ok (x : Nat) (σ : AHeap) : CallR Try.prog false 32 [Value.float .f64
    x] σ (Go.Value.float Go.FloatKind.f64 (wWrap_0 x)) σ := by
  have h := wWrap_c x σ
  rw [wWrap_v] at h
  exact h
theorem wWrap_eq (x : Nat) : wWrap_0 x = wrapP x := by
  unfold wWrap_0 wrapP wStep half fone mhalf
  cases feq (fsub x x) 0
  · rfl
  · cases fge (fcopysign (fsub x (ftrunc x)) x) 4602678819172646912
    · cases flt (fcopysign (fsub x (ftrunc x)) x) 13826050856027422720 <;> rfl
    · rfl
theorem rIsNaN_fok : fnOk (dL3a) Try.f127 = true := by kernel_rfl
theorem rIsNaN_p0 (x : Nat) (σ : AHeap) : CallR Try.prog false 127 [Value.float .f64 x] σ (Value.bool !feq x x) σ := CallR.of_DO_pure (C := dL3a) dL3a_ok Try.func127 rIsNaN_fok (n := 100) (orc := []) (ps := []) (σ1 := []) (by kernel_rfl) trivial rfl rfl
def rIsNaN_t (x : Nat) : Value := (Value.bool !feq x x)
theorem rIsNaN_c (x : Nat) (σ : AHeap) : CallR Try.prog false 127 [Value.float .f64 x] σ (rIsNaN_t x) σ := by
  unfold rIsNaN_t
  exact (rIsNaN_p0 x σ)
end Go.Lk
end

section
/- Turn, Unit; the document's. -/
namespace Go.Lk
open Go.Proofs
set_option maxRecDepth 100000

set_option maxHeartbeats 0
set_option linter.unusedVariables false
set_option linter.unusedSimpArgs false
def sWrap : PureFn
  | [.float .f64 x] => some (.float .f64 (wrapP x))
  | _ => none
theorem sWrap_ok : IsPure Try.prog false 32 sWrap := by
  intro args v σ h
  unfold sWrap at h
  split at h
  · cases h; rw [← wWrap_eq]; exact wWrap_ok _ σ
  · cases h
def sIsNaN : PureFn
  | [.float .f64 x] => some (.bool (!feq x x))
  | _ => none
theorem sIsNaN_ok : IsPure Try.prog false 127 sIsNaN := by
  intro args v σ h
  unfold sIsNaN at h
  split at h
  · cases h; exact rIsNaN_c _ σ
  · cases h
noncomputable def t4 : Tab := ((t3.addP 32 sWrap).addP 127 sIsNaN)
theorem t4_ok : t4.Ok Try.prog false := (Tab.Ok.addP (Tab.Ok.addP t3_ok sWrap_ok) sIsNaN_ok)
noncomputable def L4 : Lib := ⟨Try.prog, false, t4, [(181, Try.f181), (160, Try.f160), (69, Try.f69), (55, Try.f55), (33, Try.f33), (128, Try.f128), (207, Try.f207), (122, Try.f122), (135, Try.f135), (136, Try.f136), (109, Try.f109)], [(183, true, Try.f183)]⟩
theorem L4_fp : ∀ e, e ∈ L4.pures → Try.prog.funcs[e.1]? = some e.2 := fs_cons Try.func181 (fs_cons Try.func160 (fs_cons Try.func69 (fs_cons Try.func55 (fs_cons Try.func33 (fs_cons Try.func128 (fs_cons Try.func207 (fs_cons Try.func122 (fs_cons Try.func135 (fs_cons Try.func136 (fs_cons Try.func109 (fs_nil)))))))))))
theorem L4_fh : ∀ e, e ∈ L4.heaps → Try.prog.funcs[e.1]? = some e.2.2 := gs_cons Try.func183 (gs_nil)
theorem L4_p1 (gp : Nat → PureFn) (g : Nat → HeapFn) : (L4.pures.all fun e => fnOk (L4.mk' gp g) e.2) = true := by kernel_rfl
theorem L4_h1 (gp : Nat → PureFn) (g : Nat → HeapFn) : (L4.heaps.all fun e => fnOk (L4.mk' gp g) e.2.2 && (!e.2.1 || fnRo (L4.mk' gp g) e.2.2)) = true := by kernel_rfl
theorem L4_ok : L4.Ok := ⟨t4_ok, mixed, L4_fp, L4_fh, L4_p1, L4_h1⟩
noncomputable def dL4 : Cfg := L4.cfg 100 4
theorem dL4_ok : dL4.Ok := L4_ok.cfg 100 4

theorem wEighth_fok : fnOk (dL4) Try.f125 = true := by kernel_rfl
theorem wEighth_p0 (a : Nat) (σ : AHeap) (h0 : (feq a 4593671619917905920) = true) : CallR Try.prog false 125 [Value.float .f64 a] σ (Value.complex .f64 4604544271217802189 4604544271217802189) σ := CallR.of_DO_pure (C := dL4) dL4_ok Try.func125 wEighth_fok (n := 100) (orc := [(6, Item.br true)]) (ps := [(bP (feq a 4593671619917905920) true)]) (σ1 := []) (by kernel_rfl) ⟨bP_of (fun x => x) h0, trivial⟩ rfl rfl
theorem wEighth_p1 (a : Nat) (σ : AHeap) (h0 : (feq a 4593671619917905920) = false) : CallR Try.prog false 125 [Value.float .f64 a] σ (Value.complex .f64 (fadd (fmul (fadd (fmul (fadd (fmul (fadd (fmul (fadd (fmul (fadd (fmul (fadd (fmul (fadd (fmul 4407590220077447199 (fmul (fmul a 4618760256179416344) (fmul a 4618760256179416344))) 13666517717442657437) (fmul (fmul a 4618760256179416344) (fmul a 4618760256179416344))) 4477122120089393304) (fmul (fmul a 4618760256179416344) (fmul a 4618760256179416344))) 13732177094651715420) (fmul (fmul a 4618760256179416344) (fmul a 4618760256179416344))) 4537941361671905306) (fmul (fmul a 4618760256179416344) (fmul a 4618760256179416344))) 13787419979223755799) (fmul (fmul a 4618760256179416344) (fmul a 4618760256179416344))) 4586165620538955093) (fmul (fmul a 4618760256179416344) (fmul a 4618760256179416344))) 13826050856027422720) (fmul (fmul a 4618760256179416344) (fmul a 4618760256179416344))) 4607182418800017408) (fmul (fadd (fmul (fadd (fmul (fadd (fmul (fadd (fmul (fadd (fmul (fadd (fmul (fadd (fmul (fadd (fmul 4389130328383466826 (fmul (fmul a 4618760256179416344) (fmul a 4618760256179416344))) 13648976655441704991) (fmul (fmul a 4618760256179416344) (fmul a 4618760256179416344))) 4460272573143870729) (fmul (fmul a 4618760256179416344) (fmul a 4618760256179416344))) 13716528800881525988) (fmul (fmul a 4618760256179416344) (fmul a 4618760256179416344))) 4523617214285662004) (fmul (fmul a 4618760256179416344) (fmul a 4618760256179416344))) 13774824197408792602) (fmul (fmul a 4618760256179416344) (fmul a 4618760256179416344))) 4575957461383581969) (fmul (fmul a 4618760256179416344) (fmul a 4618760256179416344))) 13818544856648471893) (fmul (fmul a 4618760256179416344) (fmul a 4618760256179416344))) 4607182418800017408) (fmul a 4618760256179416344))) σ := CallR.of_DO_pure (C := dL4) dL4_ok Try.func125 wEighth_fok (n := 100) (orc := [(6, Item.br false)]) (ps := [(bP (feq a 4593671619917905920) false)]) (σ1 := [AObj.row [Value.float .f64 4607182418800017408, Value.float .f64 13818544856648471893, Value.float .f64 4575957461383581969, Value.float .f64 13774824197408792602, Value.float .f64 4523617214285662004, Value.float .f64 13716528800881525988, Value.float .f64 4460272573143870729, Value.float .f64 13648976655441704991, Value.float .f64 4389130328383466826, Value.float .f64 0, Value.float .f64 0, Value.float .f64 0, Value.float .f64 0, Value.float .f64 0, Value.float .f64 0, Value.float .f64 0, Value.float .f64 0, Value.float .f64 0, Value.float .f64 0, Value.float .f64 0, Value.float .f64 0, Value.float .f64 0, Value.float .f64 0, Value.float .f64 0] true none, AObj.row [Value.float .f64 4607182418800017408, Value.float .f64 13826050856027422720, Value.float .f64 4586165620538955093, Value.float .f64 13787419979223755799, Value.float .f64 4537941361671905306, Value.float .f64 13732177094651715420, Value.float .f64 4477122120089393304, Value.float .f64 13666517717442657437, Value.float .f64 4407590220077447199, Value.float .f64 0, Value.float .f64 0, Value.float .f64 0, Value.float .f64 0, Value.float .f64 0, Value.float .f64 0, Value.float .f64 0, Value.float .f64 0, Value.float .f64 0, Value.float .f64 0, Value.float .f64 0, Value.float .f64 0, Value.float .f64 0, Value.float .f64 0, Value.float .f64 0] true none]) (by kernel_rfl) ⟨bP_of (fun x => x) h0, trivial⟩ rfl rfl
def wEighth_t (a : Nat) : Value := (bif feq a 4593671619917905920 then (Value.complex .f64 4604544271217802189 4604544271217802189) else (Value.complex .f64 (fadd (fmul (fadd (fmul (fadd (fmul (fadd (fmul (fadd (fmul (fadd (fmul (fadd (fmul (fadd (fmul 4407590220077447199 (fmul (fmul a 4618760256179416344) (fmul a 4618760256179416344))) 13666517717442657437) (fmul (fmul a 4618760256179416344) (fmul a 4618760256179416344))) 4477122120089393304) (fmul (fmul a 4618760256179416344) (fmul a 4618760256179416344))) 13732177094651715420) (fmul (fmul a 4618760256179416344) (fmul a 4618760256179416344))) 4537941361671905306) (fmul (fmul a 4618760256179416344) (fmul a 4618760256179416344))) 13787419979223755799) (fmul (fmul a 4618760256179416344) (fmul a 4618760256179416344))) 4586165620538955093) (fmul (fmul a 4618760256179416344) (fmul a 4618760256179416344))) 13826050856027422720) (fmul (fmul a 4618760256179416344) (fmul a 4618760256179416344))) 4607182418800017408) (fmul (fadd (fmul (fadd (fmul (fadd (fmul (fadd (fmul (fadd (fmul (fadd (fmul (fadd (fmul (fadd (fmul 4389130328383466826 (fmul (fmul a 4618760256179416344) (fmul a 4618760256179416344))) 13648976655441704991) (fmul (fmul a 4618760256179416344) (fmul a 4618760256179416344))) 4460272573143870729) (fmul (fmul a 4618760256179416344) (fmul a 4618760256179416344))) 13716528800881525988) (fmul (fmul a 4618760256179416344) (fmul a 4618760256179416344))) 4523617214285662004) (fmul (fmul a 4618760256179416344) (fmul a 4618760256179416344))) 13774824197408792602) (fmul (fmul a 4618760256179416344) (fmul a 4618760256179416344))) 4575957461383581969) (fmul (fmul a 4618760256179416344) (fmul a 4618760256179416344))) 13818544856648471893) (fmul (fmul a 4618760256179416344) (fmul a 4618760256179416344))) 4607182418800017408) (fmul a 4618760256179416344))))
theorem wEighth_c (a : Nat) (σ : AHeap) : CallR Try.prog false 125 [Value.float .f64 a] σ (wEighth_t a) σ := by
  unfold wEighth_t
  exact (CallR.bif (fun h0 => (wEighth_p0 a σ h0)) (fun h0 => (wEighth_p1 a σ h0)))
def wEighth_0 (a : Nat) : Nat := (bif feq a 4593671619917905920 then 4604544271217802189 else fadd (fmul (fadd (fmul (fadd (fmul (fadd (fmul (fadd (fmul (fadd (fmul (fadd (fmul (fadd (fmul 4407590220077447199 (fmul (fmul a 4618760256179416344) (fmul a 4618760256179416344))) 13666517717442657437) (fmul (fmul a 4618760256179416344) (fmul a 4618760256179416344))) 4477122120089393304) (fmul (fmul a 4618760256179416344) (fmul a 4618760256179416344))) 13732177094651715420) (fmul (fmul a 4618760256179416344) (fmul a 4618760256179416344))) 4537941361671905306) (fmul (fmul a 4618760256179416344) (fmul a 4618760256179416344))) 13787419979223755799) (fmul (fmul a 4618760256179416344) (fmul a 4618760256179416344))) 4586165620538955093) (fmul (fmul a 4618760256179416344) (fmul a 4618760256179416344))) 13826050856027422720) (fmul (fmul a 4618760256179416344) (fmul a 4618760256179416344))) 4607182418800017408)
def wEighth_1 (a : Nat) : Nat := (bif feq a 4593671619917905920 then 4604544271217802189 else fmul (fadd (fmul (fadd (fmul (fadd (fmul (fadd (fmul (fadd (fmul (fadd (fmul (fadd (fmul (fadd (fmul 4389130328383466826 (fmul (fmul a 4618760256179416344) (fmul a 4618760256179416344))) 13648976655441704991) (fmul (fmul a 4618760256179416344) (fmul a 4618760256179416344))) 4460272573143870729) (fmul (fmul a 4618760256179416344) (fmul a 4618760256179416344))) 13716528800881525988) (fmul (fmul a 4618760256179416344) (fmul a 4618760256179416344))) 4523617214285662004) (fmul (fmul a 4618760256179416344) (fmul a 4618760256179416344))) 13774824197408792602) (fmul (fmul a 4618760256179416344) (fmul a 4618760256179416344))) 4575957461383581969) (fmul (fmul a 4618760256179416344) (fmul a 4618760256179416344))) 13818544856648471893) (fmul (fmul a 4618760256179416344) (fmul a 4618760256179416344))) 4607182418800017408) (fmul a 4618760256179416344))
theorem wEighth_v (a : Nat) : wEighth_t a = Go.Value.complex Go.FloatKind.f64 (wEighth_0 a) (wEighth_1 a) := by
  unfold wEighth_t wEighth_0 wEighth_1
  cases (feq a 4593671619917905920) with
  | true =>
    kernel_rfl
  | false =>
    kernel_rfl
theorem wEighth_ok (a : Nat) (σ : AHeap) : CallR Try.prog false 125 [Value.float .f64
    a] σ (Go.Value.complex Go.FloatKind.f64 (wEighth_0 a) (wEighth_1 a)) σ := by
  have h := wEighth_c a σ
  rw [wEighth_v] at h
  exact h
def sEighth : PureFn
  | [.float .f64 x] => some (.complex .f64 (wEighth_0 x) (wEighth_1 x))
  | _ => none
theorem sEighth_ok : IsPure Try.prog false 125 sEighth := by
  intro args v σ h
  unfold sEighth at h
  split at h
  · cases h; exact wEighth_ok _ σ
  · cases h
noncomputable def t5 : Tab := (t4.addP 125 sEighth)
theorem t5_ok : t5.Ok Try.prog false := (Tab.Ok.addP t4_ok sEighth_ok)
noncomputable def L5 : Lib := ⟨Try.prog, false, t5, [(181, Try.f181), (160, Try.f160), (69, Try.f69), (55, Try.f55), (33, Try.f33), (128, Try.f128), (207, Try.f207), (122, Try.f122), (135, Try.f135), (136, Try.f136), (109, Try.f109)], [(183, true, Try.f183)]⟩
theorem L5_fp : ∀ e, e ∈ L5.pures → Try.prog.funcs[e.1]? = some e.2 := fs_cons Try.func181 (fs_cons Try.func160 (fs_cons Try.func69 (fs_cons Try.func55 (fs_cons Try.func33 (fs_cons Try.func128 (fs_cons Try.func207 (fs_cons Try.func122 (fs_cons Try.func135 (fs_cons Try.func136 (fs_cons Try.func109 (fs_nil)))))))))))
theorem L5_fh : ∀ e, e ∈ L5.heaps → Try.prog.funcs[e.1]? = some e.2.2 := gs_cons Try.func183 (gs_nil)
theorem L5_p1 (gp : Nat → PureFn) (g : Nat → HeapFn) : (L5.pures.all fun e => fnOk (L5.mk' gp g) e.2) = true := by kernel_rfl
theorem L5_h1 (gp : Nat → PureFn) (g : Nat → HeapFn) : (L5.heaps.all fun e => fnOk (L5.mk' gp g) e.2.2 && (!e.2.1 || fnRo (L5.mk' gp g) e.2.2)) = true := by kernel_rfl
theorem L5_ok : L5.Ok := ⟨t5_ok, mixed, L5_fp, L5_fh, L5_p1, L5_h1⟩
noncomputable def dL5 : Cfg := L5.cfg 100 4
theorem dL5_ok : dL5.Ok := L5_ok.cfg 100 4

theorem wTurn_fok : fnOk (dL5) Try.f36 = true := by kernel_rfl
theorem wTurn_p0 (x : Nat) (σ : AHeap) (h0 : (feq (wrapP x) (wrapP x)) = true) (h1 : (fgt (fabs (wrapP x)) 4598175219545276416) = true) (h2 : (fgt (fsub 4602678819172646912 (fabs (wrapP x))) 4593671619917905920) = true) (h3 : (flt (wrapP x) 0) = true) : CallR Try.prog false 36 [Value.float .f64 x] σ (Value.complex .f64 (fadd (aneg false (wEighth_1 (fsub 4598175219545276416 (fsub 4602678819172646912 (fabs (wrapP x)))))) 0) (fadd (aneg false (wEighth_0 (fsub 4598175219545276416 (fsub 4602678819172646912 (fabs (wrapP x)))))) 0)) σ := CallR.of_DO_pure (C := dL5) dL5_ok Try.func36 wTurn_fok (n := 100) (orc := [(14, Item.br false), (29, Item.br true), (44, Item.br true), (59, Item.br true), (74, Item.br true), (93, Item.br true)]) (ps := [(bP (!feq (wrapP x) (wrapP x)) false), (bP (fgt (fabs (wrapP x)) 4598175219545276416) true), (bP (fgt (fsub 4602678819172646912 (fabs (wrapP x))) 4593671619917905920) true), (bP (fgt (fsub 4602678819172646912 (fabs (wrapP x))) 4593671619917905920) true), (bP (fgt (fabs (wrapP x)) 4598175219545276416) true), (bP (flt (wrapP x) 0) true)]) (σ1 := []) (by kernel_rfl) ⟨bP_of (fun x => !x) h0, ⟨bP_of (fun x => x) h1, ⟨bP_of (fun x => x) h2, ⟨bP_of (fun x => x) h2, ⟨bP_of (fun x => x) h1, ⟨bP_of (fun x => x) h3, trivial⟩⟩⟩⟩⟩⟩ rfl rfl
theorem wTurn_p1 (x : Nat) (σ : AHeap) (h0 : (feq (wrapP x) (wrapP x)) = true) (h1 : (fgt (fabs (wrapP x)) 4598175219545276416) = true) (h2 : (fgt (fsub 4602678819172646912 (fabs (wrapP x))) 4593671619917905920) = true) (h3 : (flt (wrapP x) 0) = false) : CallR Try.prog false 36 [Value.float .f64 x] σ (Value.complex .f64 (fadd (aneg false (wEighth_1 (fsub 4598175219545276416 (fsub 4602678819172646912 (fabs (wrapP x)))))) 0) (fadd (wEighth_0 (fsub 4598175219545276416 (fsub 4602678819172646912 (fabs (wrapP x))))) 0)) σ := CallR.of_DO_pure (C := dL5) dL5_ok Try.func36 wTurn_fok (n := 100) (orc := [(14, Item.br false), (29, Item.br true), (44, Item.br true), (59, Item.br true), (74, Item.br true), (93, Item.br false)]) (ps := [(bP (!feq (wrapP x) (wrapP x)) false), (bP (fgt (fabs (wrapP x)) 4598175219545276416) true), (bP (fgt (fsub 4602678819172646912 (fabs (wrapP x))) 4593671619917905920) true), (bP (fgt (fsub 4602678819172646912 (fabs (wrapP x))) 4593671619917905920) true), (bP (fgt (fabs (wrapP x)) 4598175219545276416) true), (bP (flt (wrapP x) 0) false)]) (σ1 := []) (by kernel_rfl) ⟨bP_of (fun x => !x) h0, ⟨bP_of (fun x => x) h1, ⟨bP_of (fun x => x) h2, ⟨bP_of (fun x => x) h2, ⟨bP_of (fun x => x) h1, ⟨bP_of (fun x => x) h3, trivial⟩⟩⟩⟩⟩⟩ rfl rfl
theorem wTurn_p2 (x : Nat) (σ : AHeap) (h0 : (feq (wrapP x) (wrapP x)) = true) (h1 : (fgt (fabs (wrapP x)) 4598175219545276416) = true) (h2 : (fgt (fsub 4602678819172646912 (fabs (wrapP x))) 4593671619917905920) = false) (h3 : (flt (wrapP x) 0) = true) : CallR Try.prog false 36 [Value.float .f64 x] σ (Value.complex .f64 (fadd (aneg false (wEighth_0 (fsub 4602678819172646912 (fabs (wrapP x))))) 0) (fadd (aneg false (wEighth_1 (fsub 4602678819172646912 (fabs (wrapP x))))) 0)) σ := CallR.of_DO_pure (C := dL5) dL5_ok Try.func36 wTurn_fok (n := 100) (orc := [(14, Item.br false), (29, Item.br true), (44, Item.br false), (53, Item.br false), (56, Item.br true), (75, Item.br true)]) (ps := [(bP (!feq (wrapP x) (wrapP x)) false), (bP (fgt (fabs (wrapP x)) 4598175219545276416) true), (bP (fgt (fsub 4602678819172646912 (fabs (wrapP x))) 4593671619917905920) false), (bP (fgt (fsub 4602678819172646912 (fabs (wrapP x))) 4593671619917905920) false), (bP (fgt (fabs (wrapP x)) 4598175219545276416) true), (bP (flt (wrapP x) 0) true)]) (σ1 := []) (by kernel_rfl) ⟨bP_of (fun x => !x) h0, ⟨bP_of (fun x => x) h1, ⟨bP_of (fun x => x) h2, ⟨bP_of (fun x => x) h2, ⟨bP_of (fun x => x) h1, ⟨bP_of (fun x => x) h3, trivial⟩⟩⟩⟩⟩⟩ rfl rfl
theorem wTurn_p3 (x : Nat) (σ : AHeap) (h0 : (feq (wrapP x) (wrapP x)) = true) (h1 : (fgt (fabs (wrapP x)) 4598175219545276416) = true) (h2 : (fgt (fsub 4602678819172646912 (fabs (wrapP x))) 4593671619917905920) = false) (h3 : (flt (wrapP x) 0) = false) : CallR Try.prog false 36 [Value.float .f64 x] σ (Value.complex .f64 (fadd (aneg false (wEighth_0 (fsub 4602678819172646912 (fabs (wrapP x))))) 0) (fadd (wEighth_1 (fsub 4602678819172646912 (fabs (wrapP x)))) 0)) σ := CallR.of_DO_pure (C := dL5) dL5_ok Try.func36 wTurn_fok (n := 100) (orc := [(14, Item.br false), (29, Item.br true), (44, Item.br false), (53, Item.br false), (56, Item.br true), (75, Item.br false)]) (ps := [(bP (!feq (wrapP x) (wrapP x)) false), (bP (fgt (fabs (wrapP x)) 4598175219545276416) true), (bP (fgt (fsub 4602678819172646912 (fabs (wrapP x))) 4593671619917905920) false), (bP (fgt (fsub 4602678819172646912 (fabs (wrapP x))) 4593671619917905920) false), (bP (fgt (fabs (wrapP x)) 4598175219545276416) true), (bP (flt (wrapP x) 0) false)]) (σ1 := []) (by kernel_rfl) ⟨bP_of (fun x => !x) h0, ⟨bP_of (fun x => x) h1, ⟨bP_of (fun x => x) h2, ⟨bP_of (fun x => x) h2, ⟨bP_of (fun x => x) h1, ⟨bP_of (fun x => x) h3, trivial⟩⟩⟩⟩⟩⟩ rfl rfl
theorem wTurn_p4 (x : Nat) (σ : AHeap) (h0 : (feq (wrapP x) (wrapP x)) = true) (h1 : (fgt (fabs (wrapP x)) 4598175219545276416) = false) (h2 : (fgt (fabs (wrapP x)) 4593671619917905920) = true) (h3 : (flt (wrapP x) 0) = true) : CallR Try.prog false 36 [Value.float .f64 x] σ (Value.complex .f64 (fadd (wEighth_1 (fsub 4598175219545276416 (fabs (wrapP x)))) 0) (fadd (aneg false (wEighth_0 (fsub 4598175219545276416 (fabs (wrapP x))))) 0)) σ := CallR.of_DO_pure (C := dL5) dL5_ok Try.func36 wTurn_fok (n := 100) (orc := [(14, Item.br false), (29, Item.br false), (38, Item.br true), (53, Item.br true), (68, Item.br false), (73, Item.br true)]) (ps := [(bP (!feq (wrapP x) (wrapP x)) false), (bP (fgt (fabs (wrapP x)) 4598175219545276416) false), (bP (fgt (fabs (wrapP x)) 4593671619917905920) true), (bP (fgt (fabs (wrapP x)) 4593671619917905920) true), (bP (fgt (fabs (wrapP x)) 4598175219545276416) false), (bP (flt (wrapP x) 0) true)]) (σ1 := []) (by kernel_rfl) ⟨bP_of (fun x => !x) h0, ⟨bP_of (fun x => x) h1, ⟨bP_of (fun x => x) h2, ⟨bP_of (fun x => x) h2, ⟨bP_of (fun x => x) h1, ⟨bP_of (fun x => x) h3, trivial⟩⟩⟩⟩⟩⟩ rfl rfl
theorem wTurn_p5 (x : Nat) (σ : AHeap) (h0 : (feq (wrapP x) (wrapP x)) = true) (h1 : (fgt (fabs (wrapP x)) 4598175219545276416) = false) (h2 : (fgt (fabs (wrapP x)) 4593671619917905920) = true) (h3 : (flt (wrapP x) 0) = false) : CallR Try.prog false 36 [Value.float .f64 x] σ (Value.complex .f64 (fadd (wEighth_1 (fsub 4598175219545276416 (fabs (wrapP x)))) 0) (fadd (wEighth_0 (fsub 4598175219545276416 (fabs (wrapP x)))) 0)) σ := CallR.of_DO_pure (C := dL5) dL5_ok Try.func36 wTurn_fok (n := 100) (orc := [(14, Item.br false), (29, Item.br false), (38, Item.br true), (53, Item.br true), (68, Item.br false), (73, Item.br false)]) (ps := [(bP (!feq (wrapP x) (wrapP x)) false), (bP (fgt (fabs (wrapP x)) 4598175219545276416) false), (bP (fgt (fabs (wrapP x)) 4593671619917905920) true), (bP (fgt (fabs (wrapP x)) 4593671619917905920) true), (bP (fgt (fabs (wrapP x)) 4598175219545276416) false), (bP (flt (wrapP x) 0) false)]) (σ1 := []) (by kernel_rfl) ⟨bP_of (fun x => !x) h0, ⟨bP_of (fun x => x) h1, ⟨bP_of (fun x => x) h2, ⟨bP_of (fun x => x) h2, ⟨bP_of (fun x => x) h1, ⟨bP_of (fun x => x) h3, trivial⟩⟩⟩⟩⟩⟩ rfl rfl
theorem wTurn_p6 (x : Nat) (σ : AHeap) (h0 : (feq (wrapP x) (wrapP x)) = true) (h1 : (fgt (fabs (wrapP x)) 4598175219545276416) = false) (h2 : (fgt (fabs (wrapP x)) 4593671619917905920) = false) (h3 : (flt (wrapP x) 0) = true) : CallR Try.prog false 36 [Value.float .f64 x] σ (Value.complex .f64 (fadd (wEighth_0 (fabs (wrapP x))) 0) (fadd (aneg false (wEighth_1 (fabs (wrapP x)))) 0)) σ := CallR.of_DO_pure (C := dL5) dL5_ok Try.func36 wTurn_fok (n := 100) (orc := [(14, Item.br false), (29, Item.br false), (38, Item.br false), (47, Item.br false), (50, Item.br false), (55, Item.br true)]) (ps := [(bP (!feq (wrapP x) (wrapP x)) false), (bP (fgt (fabs (wrapP x)) 4598175219545276416) false), (bP (fgt (fabs (wrapP x)) 4593671619917905920) false), (bP (fgt (fabs (wrapP x)) 4593671619917905920) false), (bP (fgt (fabs (wrapP x)) 4598175219545276416) false), (bP (flt (wrapP x) 0) true)]) (σ1 := []) (by kernel_rfl) ⟨bP_of (fun x => !x) h0, ⟨bP_of (fun x => x) h1, ⟨bP_of (fun x => x) h2, ⟨bP_of (fun x => x) h2, ⟨bP_of (fun x => x) h1, ⟨bP_of (fun x => x) h3, trivial⟩⟩⟩⟩⟩⟩ rfl rfl
theorem wTurn_p7 (x : Nat) (σ : AHeap) (h0 : (feq (wrapP x) (wrapP x)) = true) (h1 : (fgt (fabs (wrapP x)) 4598175219545276416) = false) (h2 : (fgt (fabs (wrapP x)) 4593671619917905920) = false) (h3 : (flt (wrapP x) 0) = false) : CallR Try.prog false 36 [Value.float .f64 x] σ (Value.complex .f64 (fadd (wEighth_0 (fabs (wrapP x))) 0) (fadd (wEighth_1 (fabs (wrapP x))) 0)) σ := CallR.of_DO_pure (C := dL5) dL5_ok Try.func36 wTurn_fok (n := 100) (orc := [(14, Item.br false), (29, Item.br false), (38, Item.br false), (47, Item.br false), (50, Item.br false), (55, Item.br false)]) (ps := [(bP (!feq (wrapP x) (wrapP x)) false), (bP (fgt (fabs (wrapP x)) 4598175219545276416) false), (bP (fgt (fabs (wrapP x)) 4593671619917905920) false), (bP (fgt (fabs (wrapP x)) 4593671619917905920) false), (bP (fgt (fabs (wrapP x)) 4598175219545276416) false), (bP (flt (wrapP x) 0) false)]) (σ1 := []) (by kernel_rfl) ⟨bP_of (fun x => !x) h0, ⟨bP_of (fun x => x) h1, ⟨bP_of (fun x => x) h2, ⟨bP_of (fun x => x) h2, ⟨bP_of (fun x => x) h1, ⟨bP_of (fun x => x) h3, trivial⟩⟩⟩⟩⟩⟩ rfl rfl
theorem wTurn_p8 (x : Nat) (σ : AHeap) (h0 : (feq (wrapP x) (wrapP x)) = false) : CallR Try.prog false 36 [Value.float .f64 x] σ (Value.complex .f64 (wrapP x) (wrapP x)) σ := CallR.of_DO_pure (C := dL5) dL5_ok Try.func36 wTurn_fok (n := 100) (orc := [(14, Item.br true)]) (ps := [(bP (!feq (wrapP x) (wrapP x)) true)]) (σ1 := []) (by kernel_rfl) ⟨bP_of (fun x => !x) h0, trivial⟩ rfl rfl
def wTurn_t (x : Nat) : Value := (bif feq (wrapP x) (wrapP x) then (bif fgt (fabs (wrapP x)) 4598175219545276416 then (bif fgt (fsub 4602678819172646912 (fabs (wrapP x))) 4593671619917905920 then (bif flt (wrapP x) 0 then (Value.complex .f64 (fadd (aneg false (wEighth_1 (fsub 4598175219545276416 (fsub 4602678819172646912 (fabs (wrapP x)))))) 0) (fadd (aneg false (wEighth_0 (fsub 4598175219545276416 (fsub 4602678819172646912 (fabs (wrapP x)))))) 0)) else (Value.complex .f64 (fadd (aneg false (wEighth_1 (fsub 4598175219545276416 (fsub 4602678819172646912 (fabs (wrapP x)))))) 0) (fadd (wEighth_0 (fsub 4598175219545276416 (fsub 4602678819172646912 (fabs (wrapP x))))) 0))) else (bif flt (wrapP x) 0 then (Value.complex .f64 (fadd (aneg false (wEighth_0 (fsub 4602678819172646912 (fabs (wrapP x))))) 0) (fadd (aneg false (wEighth_1 (fsub 4602678819172646912 (fabs (wrapP x))))) 0)) else (Value.complex .f64 (fadd (aneg false (wEighth_0 (fsub 4602678819172646912 (fabs (wrapP x))))) 0) (fadd (wEighth_1 (fsub 4602678819172646912 (fabs (wrapP x)))) 0)))) else (bif fgt (fabs (wrapP x)) 4593671619917905920 then (bif flt (wrapP x) 0 then (Value.complex .f64 (fadd (wEighth_1 (fsub 4598175219545276416 (fabs (wrapP x)))) 0) (fadd (aneg false (wEighth_0 (fsub 4598175219545276416 (fabs (wrapP x))))) 0)) else (Value.complex .f64 (fadd (wEighth_1 (fsub 4598175219545276416 (fabs (wrapP x)))) 0) (fadd (wEighth_0 (fsub 4598175219545276416 (fabs (wrapP x)))) 0))) else (bif flt (wrapP x) 0 then (Value.complex .f64 (fadd (wEighth_0 (fabs (wrapP x))) 0) (fadd (aneg false (wEighth_1 (fabs (wrapP x)))) 0)) else (Value.complex .f64 (fadd (wEighth_0 (fabs (wrapP x))) 0) (fadd (wEighth_1 (fabs (wrapP x))) 0))))) else (Value.complex .f64 (wrapP x) (wrapP x)))
theorem wTurn_c (x : Nat) (σ : AHeap) : CallR Try.prog false 36 [Value.float .f64 x] σ (wTurn_t x) σ := by
  unfold wTurn_t
  exact (CallR.bif (fun h0 => (CallR.bif (fun h1 => (CallR.bif (fun h2 => (CallR.bif (fun h3 => (wTurn_p0 x σ h0 h1 h2 h3)) (fun h3 => (wTurn_p1 x σ h0 h1 h2 h3)))) (fun h2 => (CallR.bif (fun h3 => (wTurn_p2 x σ h0 h1 h2 h3)) (fun h3 => (wTurn_p3 x σ h0 h1 h2 h3)))))) (fun h1 => (CallR.bif (fun h2 => (CallR.bif (fun h3 => (wTurn_p4 x σ h0 h1 h2 h3)) (fun h3 => (wTurn_p5 x σ h0 h1 h2 h3)))) (fun h2 => (CallR.bif (fun h3 => (wTurn_p6 x σ h0 h1 h2 h3)) (fun h3 => (wTurn_p7 x σ h0 h1 h2 h3)))))))) (fun h0 => (wTurn_p8 x σ h0)))
def wTurn_0 (x : Nat) : Nat := (bif feq (wrapP x) (wrapP x) then (bif fgt (fabs (wrapP x)) 4598175219545276416 then (bif fgt (fsub 4602678819172646912 (fabs (wrapP x))) 4593671619917905920 then (bif flt (wrapP x) 0 then fadd (aneg false (wEighth_1 (fsub 4598175219545276416 (fsub 4602678819172646912 (fabs (wrapP x)))))) 0 else fadd (aneg false (wEighth_1 (fsub 4598175219545276416 (fsub 4602678819172646912 (fabs (wrapP x)))))) 0) else (bif flt (wrapP x) 0 then fadd (aneg false (wEighth_0 (fsub 4602678819172646912 (fabs (wrapP x))))) 0 else fadd (aneg false (wEighth_0 (fsub 4602678819172646912 (fabs (wrapP x))))) 0)) else (bif fgt (fabs (wrapP x)) 4593671619917905920 then (bif flt (wrapP x) 0 then fadd (wEighth_1 (fsub 4598175219545276416 (fabs (wrapP x)))) 0 else fadd (wEighth_1 (fsub 4598175219545276416 (fabs (wrapP x)))) 0) else (bif flt (wrapP x) 0 then fadd (wEighth_0 (fabs (wrapP x))) 0 else fadd (wEighth_0 (fabs (wrapP x))) 0))) else wrapP x)
def wTurn_1 (x : Nat) : Nat := (bif feq (wrapP x) (wrapP x) then (bif fgt (fabs (wrapP x)) 4598175219545276416 then (bif fgt (fsub 4602678819172646912 (fabs (wrapP x))) 4593671619917905920 then (bif flt (wrapP x) 0 then fadd (aneg false (wEighth_0 (fsub 4598175219545276416 (fsub 4602678819172646912 (fabs (wrapP x)))))) 0 else fadd (wEighth_0 (fsub 4598175219545276416 (fsub 4602678819172646912 (fabs (wrapP x))))) 0) else (bif flt (wrapP x) 0 then fadd (aneg false (wEighth_1 (fsub 4602678819172646912 (fabs (wrapP x))))) 0 else fadd (wEighth_1 (fsub 4602678819172646912 (fabs (wrapP x)))) 0)) else (bif fgt (fabs (wrapP x)) 4593671619917905920 then (bif flt (wrapP x) 0 then fadd (aneg false (wEighth_0 (fsub 4598175219545276416 (fabs (wrapP x))))) 0 else fadd (wEighth_0 (fsub 4598175219545276416 (fabs (wrapP x)))) 0) else (bif flt (wrapP x) 0 then fadd (aneg false (wEighth_1 (fabs (wrapP x)))) 0 else fadd (wEighth_1 (fabs (wrapP x))) 0))) else wrapP x)
theorem wTurn_v (x : Nat) : wTurn_t x = Go.Value.complex Go.FloatKind.f64 (wTurn_0 x) (wTurn_1 x) := by
  unfold wTurn_t wTurn_0 wTurn_1
  cases (feq (wrapP x) (wrapP x)) with
  | true =>
    cases (fgt (fabs (wrapP x)) 4598175219545276416) with
    | true =>
      cases (fgt (fsub 4602678819172646912 (fabs (wrapP x))) 4593671619917905920) with
      | true =>
        cases (flt (wrapP x) 0) with
        | true =>
          kernel_rfl
        | false =>
          kernel_rfl
      | false =>
        cases (flt (wrapP x) 0) with
        | true =>
          kernel_rfl
        | false =>
          kernel_rfl
    | false =>
      cases (fgt (fabs (wrapP x)) 4593671619917905920) with
      | true =>
        cases (flt (wrapP x) 0) with
        | true =>
          kernel_rfl
        | false =>
          kernel_rfl
      | false =>
        cases (flt (wrapP x) 0) with
        | true =>
          kernel_rfl
        | false =>
          kernel_rfl
  | false =>
    kernel_rfl
theorem wTurn_ok (x : Nat) (σ : AHeap) : CallR Try.prog false 36 [Value.float .f64
    x] σ (Go.Value.complex Go.FloatKind.f64 (wTurn_0 x) (wTurn_1 x)) σ := by
  have h := wTurn_c x σ
  rw [wTurn_v] at h
  exact h
end Go.Lk
end

section
/- Unit; the document's; equal floats. -/
namespace Go.Lk
open Go.Proofs
set_option maxRecDepth 100000
set_option maxHeartbeats 0
set_option linter.unusedVariables false
set_option linter.unusedSimpArgs false
def sTurn : PureFn
  | [.float .f64 x] => some (.complex .f64 (wTurn_0 x) (wTurn_1 x))
  | _ => none
theorem sTurn_ok : IsPure Try.prog false 36 sTurn := by
  intro args v σ h
  unfold sTurn at h
  split at h
  · cases h; exact wTurn_ok _ σ
  · cases h
noncomputable def t6 : Tab := (t5.addP 36 sTurn)
theorem t6_ok : t6.Ok Try.prog false := (Tab.Ok.addP t5_ok sTurn_ok)
noncomputable def t7 : Tab := t6
theorem t7_ok : t7.Ok Try.prog false := t6_ok
noncomputable def t8 : Tab := t7
end Go.Lk
end

section
/- Of: numbers as two floats. -/
namespace Go.Lk
open Go.Proofs
set_option maxRecDepth 100000
set_option maxHeartbeats 0
set_option linter.unusedVariables false
set_option linter.unusedSimpArgs false
end Go.Lk
end

section
/- Of's contract; SameList. -/
namespace Go.Lk
open Go.Proofs
set_option maxRecDepth 100000
set_option maxHeartbeats 0
set_option linter.unusedVariables false
set_option linter.unusedSimpArgs false
noncomputable def t9o : Tab := t8
end Go.Lk
end

section
/- SameList. -/
namespace Go.Lk
open Go.Proofs
set_option maxRecDepth 100000
set_option maxHeartbeats 0
set_option linter.unusedVariables false
set_option linter.unusedSimpArgs false
noncomputable def t9p : Tab := t9o
end Go.Lk
end

section
/- same. -/
namespace Go.Lk
open Go.Proofs
set_option maxRecDepth 100000
set_option maxHeartbeats 0
set_option linter.unusedVariables false
set_option linter.unusedSimpArgs false
noncomputable def LS : Lib := ⟨Try.prog, false, t9p, [], []⟩
noncomputable def t9q : Tab := t9p
end Go.Lk
end

section
/- told: what its contract says, in any heap. -/
namespace Go.Lk
open Go.Proofs
set_option maxRecDepth 100000
set_option linter.unusedVariables false
set_option linter.unusedSimpArgs false
end Go.Lk
end

section
/- told, of rows with room. -/
namespace Go.Lk
open Go.Proofs
set_option maxRecDepth 100000
set_option maxHeartbeats 0
set_option linter.unusedVariables false
set_option linter.unusedSimpArgs false
end Go.Lk
end

section
/- The sign turned over, by the words. -/
namespace Go.Lk
open Go.Proofs
set_option maxRecDepth 100000
set_option maxHeartbeats 0
set_option linter.unusedVariables false
set_option linter.unusedSimpArgs false
end Go.Lk
end

section
/- Null: what its parts tell. -/
namespace Go.Lk
open Go.Proofs
set_option maxRecDepth 100000
set_option maxHeartbeats 0
set_option linter.unusedVariables false
set_option linter.unusedSimpArgs false
noncomputable def n0 : Tab := t9q
def nMul_0 (a : Nat) (b : Nat) (c : Nat) (d : Nat) : Nat := fsub (fmul a c) (fmul b d)
def nMul_1 (a : Nat) (b : Nat) (c : Nat) (d : Nat) : Nat := fadd (fmul a d) (fmul b c)
def nCj_0 (a : Nat) (b : Nat) : Nat := aneg false b
def sMul : PureFn
  | [.complex .f64 a b, .complex .f64 c d] => some (.complex .f64 (nMul_0 a b c d) (nMul_1 a b c d))
  | _ => none
def sCj : PureFn
  | [.complex .f64 a b] => some (.complex .f64 a (nCj_0 a b))
  | _ => none
noncomputable def n1 : Tab := ((n0.addP 135 sMul).addP 122 sCj)
end Go.Lk
end

section
/- finite, of any row. -/
namespace Go.Lk
open Go.Proofs
set_option maxRecDepth 100000
set_option maxHeartbeats 0
set_option linter.unusedVariables false
set_option linter.unusedSimpArgs false
/-! ### Rows of floats -/
noncomputable def n2 : Tab := n1
noncomputable def n3 : Tab := n2
end Go.Lk
end

section
/- Steer, by itself. -/
namespace Go.Lk
open Go.Proofs
set_option maxRecDepth 100000
set_option maxHeartbeats 0
set_option linter.unusedVariables false
set_option linter.unusedSimpArgs false
end Go.Lk
end

section
/- Wakes22: reckoned. -/
namespace Go.Lk
open Go.Proofs
set_option maxRecDepth 100000
end Go.Lk
end

section
/- Steer, by itself: its contract. -/
namespace Go.Lk
open Go.Proofs
set_option maxRecDepth 100000
set_option maxHeartbeats 0
set_option linter.unusedVariables false
set_option linter.unusedSimpArgs false
end Go.Lk
end

section
/- A call that is shown by itself, as an entry of a table. -/
namespace Go.Lk
open Go.Proofs
noncomputable def oneF (f : Nat) (A : List Value) (H : AHeap) (V : Value) (H' : AHeap) : HeapFn := fun args σ =>
  open Classical in if args = A ∧ σ = H ∧ CallR Try.prog false f A H V H' ∧ H.length ≤ H'.length then some (V, H') else none
theorem oneF_ok (f : Nat) (A : List Value) (H : AHeap) (V : Value) (H' : AHeap) : IsHeap Try.prog false f false (oneF f A H V H') := by
  have key : ∀ args σ v σ', oneF f A H V H' args σ = some (v, σ') → CallR Try.prog false f args σ v σ' ∧ σ.length ≤ σ'.length := by
    intro args σ v σ' h
    unfold oneF at h
    split at h
    · rename_i hc
      obtain ⟨rfl, rfl, h1, h2⟩ := hc
      cases h; exact ⟨h1, h2⟩
    · cases h
  exact ⟨fun _ _ _ _ h => (key _ _ _ _ h).1, (by intro h; cases h), fun _ _ _ _ h => (key _ _ _ _ h).2⟩
theorem oneF_at {f : Nat} {A : List Value} {H : AHeap} {V : Value} {H' : AHeap} (h : CallR Try.prog false f A H V H') (hl : H.length ≤ H'.length) : oneF f A H V H' A H = some (V, H') := by
  unfold oneF
  rw [if_pos ⟨rfl, rfl, h, hl⟩]
end Go.Lk
end

section
/- The document's turns are the program's. -/
namespace Go.Lk
open Go.Proofs
set_option maxRecDepth 100000
set_option linter.unusedSimpArgs false
set_option linter.unusedVariables false

theorem Canon.aneg {x : Nat} (h : Canon x) : Canon (aneg false x) := h.fneg
theorem Canon.fabs {x : Nat} : Canon (fabs x) := by
  unfold Lk.fabs
  cases h : isNaN x
  · exact ⟨Nat.lt_trans (rg_lt x) (by decide), fun h' => by rw [cond_false, nan_rg (rg_rg x), h] at h'; cases h'⟩
  · exact Canon.qnan
end Go.Lk
end

section
/- Scene: small functions. -/
namespace Go.Lk
open Go.Proofs
set_option maxRecDepth 100000
set_option maxHeartbeats 0
set_option linter.unusedVariables false
set_option linter.unusedSimpArgs false
noncomputable def LIa : Lib := ⟨Try.prog, false, t7, [(127, Try.f127), (128, Try.f128), (209, Try.f209)], []⟩
theorem LIa_fp : ∀ e, e ∈ LIa.pures → Try.prog.funcs[e.1]? = some e.2 := fs_cons Try.func127 (fs_cons Try.func128 (fs_cons Try.func209 (fs_nil)))
theorem LIa_fh : ∀ e, e ∈ LIa.heaps → Try.prog.funcs[e.1]? = some e.2.2 := gs_nil
theorem LIa_p1 (gp : Nat → PureFn) (g : Nat → HeapFn) : (LIa.pures.all fun e => fnOk (LIa.mk' gp g) e.2) = true := by kernel_rfl
theorem LIa_h1 (gp : Nat → PureFn) (g : Nat → HeapFn) : (LIa.heaps.all fun e => fnOk (LIa.mk' gp g) e.2.2 && (!e.2.1 || fnRo (LIa.mk' gp g) e.2.2)) = true := by kernel_rfl
theorem LIa_ok : LIa.Ok := ⟨t7_ok, mixed, LIa_fp, LIa_fh, LIa_p1, LIa_h1⟩
noncomputable def dLIa : Cfg := LIa.cfg 100 4
theorem dLIa_ok : dLIa.Ok := LIa_ok.cfg 100 4

theorem iaCheck_fok : fnOk (dLIa) Try.f197 = true := by kernel_rfl
theorem iaCheck_p0 (c : Nat) (w : Nat) (r : Nat) (e : Int) (p : Int) (σ : AHeap) (h0 : (fgt c 0) = true) (h1 : (feq (fsub c c) 0) = true) (h2 : (fgt w 0) = true) (h3 : (feq (fsub w w) 0) = true) (h4 : (fgt r 0) = true) (h5 : (feq (fsub r r) 0) = true) (h6 : (decide (e < 1)) = true) : CallR Try.prog false 197 [.agg #[.float .f64 c, .float .f64 w, .float .f64 r, .int .i64 e, .int .i64 p]] σ (Value.int .i64 (Int.ofNat 80)) σ := CallR.of_DO_pure (C := dLIa) dLIa_ok Try.func197 iaCheck_fok (n := 100) (orc := [(35, Item.br true), (37, Item.br true), (39, Item.br true), (42, Item.res (Value.bool !feq (fsub c c) 0)), (43, Item.br false), (63, Item.br true), (65, Item.br true), (67, Item.br true), (70, Item.res (Value.bool !feq (fsub w w) 0)), (71, Item.br false), (91, Item.br true), (93, Item.br true), (95, Item.br true), (98, Item.res (Value.bool !feq (fsub r r) 0)), (99, Item.br false), (115, Item.br true), (116, Item.br true)]) (ps := [(bP ((!fgt c 0) == false) true), (bP ((!fgt c 0) == false) true), (bP ((!fgt c 0) == false) true), (pP (some (Value.bool true)) (some (Value.bool !feq (fsub c c) 0)) ([AObj.row [Value.float .f64 c, Value.float .f64 w, Value.float .f64 r, Value.int .i64 e, Value.int .i64 p] true none]) (!fgt c 0) (Value.bool !feq (fsub c c) 0)), (bP (!feq (fsub c c) 0) false), (bP ((!fgt w 0) == false) true), (bP ((!fgt w 0) == false) true), (bP ((!fgt w 0) == false) true), (pP (some (Value.bool true)) (some (Value.bool !feq (fsub w w) 0)) ([AObj.row [Value.float .f64 c, Value.float .f64 w, Value.float .f64 r, Value.int .i64 e, Value.int .i64 p] true none]) (!fgt w 0) (Value.bool !feq (fsub w w) 0)), (bP (!feq (fsub w w) 0) false), (bP ((!fgt r 0) == false) true), (bP ((!fgt r 0) == false) true), (bP ((!fgt r 0) == false) true), (pP (some (Value.bool true)) (some (Value.bool !feq (fsub r r) 0)) ([AObj.row [Value.float .f64 c, Value.float .f64 w, Value.float .f64 r, Value.int .i64 e, Value.int .i64 p] true none]) (!fgt r 0) (Value.bool !feq (fsub r r) 0)), (bP (!feq (fsub r r) 0) false), (bP (decide (e < 1)) true), (bP (decide (e < 1)) true)]) (σ1 := [AObj.row [Value.float .f64 c, Value.float .f64 w, Value.float .f64 r, Value.int .i64 e, Value.int .i64 p] true none]) (by kernel_rfl) ⟨bP_of (fun x => (!x) == false) h0, ⟨bP_of (fun x => (!x) == false) h0, ⟨bP_of (fun x => (!x) == false) h0, ⟨pP_f _ _ _ (congrArg (fun bb => (!bb)) h0), ⟨bP_of (fun x => !x) h1, ⟨bP_of (fun x => (!x) == false) h2, ⟨bP_of (fun x => (!x) == false) h2, ⟨bP_of (fun x => (!x) == false) h2, ⟨pP_f _ _ _ (congrArg (fun bb => (!bb)) h2), ⟨bP_of (fun x => !x) h3, ⟨bP_of (fun x => (!x) == false) h4, ⟨bP_of (fun x => (!x) == false) h4, ⟨bP_of (fun x => (!x) == false) h4, ⟨pP_f _ _ _ (congrArg (fun bb => (!bb)) h4), ⟨bP_of (fun x => !x) h5, ⟨bP_of (fun x => x) h6, ⟨bP_of (fun x => x) h6, trivial⟩⟩⟩⟩⟩⟩⟩⟩⟩⟩⟩⟩⟩⟩⟩⟩⟩ rfl rfl
theorem iaCheck_p1 (c : Nat) (w : Nat) (r : Nat) (e : Int) (p : Int) (σ : AHeap) (h0 : (fgt c 0) = true) (h1 : (feq (fsub c c) 0) = true) (h2 : (fgt w 0) = true) (h3 : (feq (fsub w w) 0) = true) (h4 : (fgt r 0) = true) (h5 : (feq (fsub r r) 0) = true) (h6 : (decide (e < 1)) = false) (h7 : (decide (e > 16384)) = true) : CallR Try.prog false 197 [.agg #[.float .f64 c, .float .f64 w, .float .f64 r, .int .i64 e, .int .i64 p]] σ (Value.int .i64 (Int.ofNat 80)) σ := CallR.of_DO_pure (C := dLIa) dLIa_ok Try.func197 iaCheck_fok (n := 100) (orc := [(35, Item.br true), (37, Item.br true), (39, Item.br true), (42, Item.res (Value.bool !feq (fsub c c) 0)), (43, Item.br false), (63, Item.br true), (65, Item.br true), (67, Item.br true), (70, Item.res (Value.bool !feq (fsub w w) 0)), (71, Item.br false), (91, Item.br true), (93, Item.br true), (95, Item.br true), (98, Item.res (Value.bool !feq (fsub r r) 0)), (99, Item.br false), (115, Item.br false), (124, Item.br true), (125, Item.br true)]) (ps := [(bP ((!fgt c 0) == false) true), (bP ((!fgt c 0) == false) true), (bP ((!fgt c 0) == false) true), (pP (some (Value.bool true)) (some (Value.bool !feq (fsub c c) 0)) ([AObj.row [Value.float .f64 c, Value.float .f64 w, Value.float .f64 r, Value.int .i64 e, Value.int .i64 p] true none]) (!fgt c 0) (Value.bool !feq (fsub c c) 0)), (bP (!feq (fsub c c) 0) false), (bP ((!fgt w 0) == false) true), (bP ((!fgt w 0) == false) true), (bP ((!fgt w 0) == false) true), (pP (some (Value.bool true)) (some (Value.bool !feq (fsub w w) 0)) ([AObj.row [Value.float .f64 c, Value.float .f64 w, Value.float .f64 r, Value.int .i64 e, Value.int .i64 p] true none]) (!fgt w 0) (Value.bool !feq (fsub w w) 0)), (bP (!feq (fsub w w) 0) false), (bP ((!fgt r 0) == false) true), (bP ((!fgt r 0) == false) true), (bP ((!fgt r 0) == false) true), (pP (some (Value.bool true)) (some (Value.bool !feq (fsub r r) 0)) ([AObj.row [Value.float .f64 c, Value.float .f64 w, Value.float .f64 r, Value.int .i64 e, Value.int .i64 p] true none]) (!fgt r 0) (Value.bool !feq (fsub r r) 0)), (bP (!feq (fsub r r) 0) false), (bP (decide (e < 1)) false), (bP (decide (e > 16384)) true), (bP (decide (e > 16384)) true)]) (σ1 := [AObj.row [Value.float .f64 c, Value.float .f64 w, Value.float .f64 r, Value.int .i64 e, Value.int .i64 p] true none]) (by kernel_rfl) ⟨bP_of (fun x => (!x) == false) h0, ⟨bP_of (fun x => (!x) == false) h0, ⟨bP_of (fun x => (!x) == false) h0, ⟨pP_f _ _ _ (congrArg (fun bb => (!bb)) h0), ⟨bP_of (fun x => !x) h1, ⟨bP_of (fun x => (!x) == false) h2, ⟨bP_of (fun x => (!x) == false) h2, ⟨bP_of (fun x => (!x) == false) h2, ⟨pP_f _ _ _ (congrArg (fun bb => (!bb)) h2), ⟨bP_of (fun x => !x) h3, ⟨bP_of (fun x => (!x) == false) h4, ⟨bP_of (fun x => (!x) == false) h4, ⟨bP_of (fun x => (!x) == false) h4, ⟨pP_f _ _ _ (congrArg (fun bb => (!bb)) h4), ⟨bP_of (fun x => !x) h5, ⟨bP_of (fun x => x) h6, ⟨bP_of (fun x => x) h7, ⟨bP_of (fun x => x) h7, trivial⟩⟩⟩⟩⟩⟩⟩⟩⟩⟩⟩⟩⟩⟩⟩⟩⟩⟩ rfl rfl
theorem iaCheck_p2 (c : Nat) (w : Nat) (r : Nat) (e : Int) (p : Int) (σ : AHeap) (h0 : (fgt c 0) = true) (h1 : (feq (fsub c c) 0) = true) (h2 : (fgt w 0) = true) (h3 : (feq (fsub w w) 0) = true) (h4 : (fgt r 0) = true) (h5 : (feq (fsub r r) 0) = true) (h6 : (decide (e < 1)) = false) (h7 : (decide (e > 16384)) = false) (h8 : (decide (p < 1)) = true) : CallR Try.prog false 197 [.agg #[.float .f64 c, .float .f64 w, .float .f64 r, .int .i64 e, .int .i64 p]] σ (Value.int .i64 (Int.ofNat 80)) σ := CallR.of_DO_pure (C := dLIa) dLIa_ok Try.func197 iaCheck_fok (n := 100) (orc := [(35, Item.br true), (37, Item.br true), (39, Item.br true), (42, Item.res (Value.bool !feq (fsub c c) 0)), (43, Item.br false), (63, Item.br true), (65, Item.br true), (67, Item.br true), (70, Item.res (Value.bool !feq (fsub w w) 0)), (71, Item.br false), (91, Item.br true), (93, Item.br true), (95, Item.br true), (98, Item.res (Value.bool !feq (fsub r r) 0)), (99, Item.br false), (115, Item.br false), (124, Item.br false), (133, Item.br true), (134, Item.br true)]) (ps := [(bP ((!fgt c 0) == false) true), (bP ((!fgt c 0) == false) true), (bP ((!fgt c 0) == false) true), (pP (some (Value.bool true)) (some (Value.bool !feq (fsub c c) 0)) ([AObj.row [Value.float .f64 c, Value.float .f64 w, Value.float .f64 r, Value.int .i64 e, Value.int .i64 p] true none]) (!fgt c 0) (Value.bool !feq (fsub c c) 0)), (bP (!feq (fsub c c) 0) false), (bP ((!fgt w 0) == false) true), (bP ((!fgt w 0) == false) true), (bP ((!fgt w 0) == false) true), (pP (some (Value.bool true)) (some (Value.bool !feq (fsub w w) 0)) ([AObj.row [Value.float .f64 c, Value.float .f64 w, Value.float .f64 r, Value.int .i64 e, Value.int .i64 p] true none]) (!fgt w 0) (Value.bool !feq (fsub w w) 0)), (bP (!feq (fsub w w) 0) false), (bP ((!fgt r 0) == false) true), (bP ((!fgt r 0) == false) true), (bP ((!fgt r 0) == false) true), (pP (some (Value.bool true)) (some (Value.bool !feq (fsub r r) 0)) ([AObj.row [Value.float .f64 c, Value.float .f64 w, Value.float .f64 r, Value.int .i64 e, Value.int .i64 p] true none]) (!fgt r 0) (Value.bool !feq (fsub r r) 0)), (bP (!feq (fsub r r) 0) false), (bP (decide (e < 1)) false), (bP (decide (e > 16384)) false), (bP (decide (p < 1)) true), (bP (decide (p < 1)) true)]) (σ1 := [AObj.row [Value.float .f64 c, Value.float .f64 w, Value.float .f64 r, Value.int .i64 e, Value.int .i64 p] true none]) (by kernel_rfl) ⟨bP_of (fun x => (!x) == false) h0, ⟨bP_of (fun x => (!x) == false) h0, ⟨bP_of (fun x => (!x) == false) h0, ⟨pP_f _ _ _ (congrArg (fun bb => (!bb)) h0), ⟨bP_of (fun x => !x) h1, ⟨bP_of (fun x => (!x) == false) h2, ⟨bP_of (fun x => (!x) == false) h2, ⟨bP_of (fun x => (!x) == false) h2, ⟨pP_f _ _ _ (congrArg (fun bb => (!bb)) h2), ⟨bP_of (fun x => !x) h3, ⟨bP_of (fun x => (!x) == false) h4, ⟨bP_of (fun x => (!x) == false) h4, ⟨bP_of (fun x => (!x) == false) h4, ⟨pP_f _ _ _ (congrArg (fun bb => (!bb)) h4), ⟨bP_of (fun x => !x) h5, ⟨bP_of (fun x => x) h6, ⟨bP_of (fun x => x) h7, ⟨bP_of (fun x => x) h8, ⟨bP_of (fun x => x) h8, trivial⟩⟩⟩⟩⟩⟩⟩⟩⟩⟩⟩⟩⟩⟩⟩⟩⟩⟩⟩ rfl rfl
theorem iaCheck_p3 (c : Nat) (w : Nat) (r : Nat) (e : Int) (p : Int) (σ : AHeap) (h0 : (fgt c 0) = true) (h1 : (feq (fsub c c) 0) = true) (h2 : (fgt w 0) = true) (h3 : (feq (fsub w w) 0) = true) (h4 : (fgt r 0) = true) (h5 : (feq (fsub r r) 0) = true) (h6 : (decide (e < 1)) = false) (h7 : (decide (e > 16384)) = false) (h8 : (decide (p < 1)) = false) (h9 : (decide (p > 256)) = true) : CallR Try.prog false 197 [.agg #[.float .f64 c, .float .f64 w, .float .f64 r, .int .i64 e, .int .i64 p]] σ (Value.int .i64 (Int.ofNat 80)) σ := CallR.of_DO_pure (C := dLIa) dLIa_ok Try.func197 iaCheck_fok (n := 100) (orc := [(35, Item.br true), (37, Item.br true), (39, Item.br true), (42, Item.res (Value.bool !feq (fsub c c) 0)), (43, Item.br false), (63, Item.br true), (65, Item.br true), (67, Item.br true), (70, Item.res (Value.bool !feq (fsub w w) 0)), (71, Item.br false), (91, Item.br true), (93, Item.br true), (95, Item.br true), (98, Item.res (Value.bool !feq (fsub r r) 0)), (99, Item.br false), (115, Item.br false), (124, Item.br false), (133, Item.br false), (142, Item.br true)]) (ps := [(bP ((!fgt c 0) == false) true), (bP ((!fgt c 0) == false) true), (bP ((!fgt c 0) == false) true), (pP (some (Value.bool true)) (some (Value.bool !feq (fsub c c) 0)) ([AObj.row [Value.float .f64 c, Value.float .f64 w, Value.float .f64 r, Value.int .i64 e, Value.int .i64 p] true none]) (!fgt c 0) (Value.bool !feq (fsub c c) 0)), (bP (!feq (fsub c c) 0) false), (bP ((!fgt w 0) == false) true), (bP ((!fgt w 0) == false) true), (bP ((!fgt w 0) == false) true), (pP (some (Value.bool true)) (some (Value.bool !feq (fsub w w) 0)) ([AObj.row [Value.float .f64 c, Value.float .f64 w, Value.float .f64 r, Value.int .i64 e, Value.int .i64 p] true none]) (!fgt w 0) (Value.bool !feq (fsub w w) 0)), (bP (!feq (fsub w w) 0) false), (bP ((!fgt r 0) == false) true), (bP ((!fgt r 0) == false) true), (bP ((!fgt r 0) == false) true), (pP (some (Value.bool true)) (some (Value.bool !feq (fsub r r) 0)) ([AObj.row [Value.float .f64 c, Value.float .f64 w, Value.float .f64 r, Value.int .i64 e, Value.int .i64 p] true none]) (!fgt r 0) (Value.bool !feq (fsub r r) 0)), (bP (!feq (fsub r r) 0) false), (bP (decide (e < 1)) false), (bP (decide (e > 16384)) false), (bP (decide (p < 1)) false), (bP (decide (p > 256)) true)]) (σ1 := [AObj.row [Value.float .f64 c, Value.float .f64 w, Value.float .f64 r, Value.int .i64 e, Value.int .i64 p] true none]) (by kernel_rfl) ⟨bP_of (fun x => (!x) == false) h0, ⟨bP_of (fun x => (!x) == false) h0, ⟨bP_of (fun x => (!x) == false) h0, ⟨pP_f _ _ _ (congrArg (fun bb => (!bb)) h0), ⟨bP_of (fun x => !x) h1, ⟨bP_of (fun x => (!x) == false) h2, ⟨bP_of (fun x => (!x) == false) h2, ⟨bP_of (fun x => (!x) == false) h2, ⟨pP_f _ _ _ (congrArg (fun bb => (!bb)) h2), ⟨bP_of (fun x => !x) h3, ⟨bP_of (fun x => (!x) == false) h4, ⟨bP_of (fun x => (!x) == false) h4, ⟨bP_of (fun x => (!x) == false) h4, ⟨pP_f _ _ _ (congrArg (fun bb => (!bb)) h4), ⟨bP_of (fun x => !x) h5, ⟨bP_of (fun x => x) h6, ⟨bP_of (fun x => x) h7, ⟨bP_of (fun x => x) h8, ⟨bP_of (fun x => x) h9, trivial⟩⟩⟩⟩⟩⟩⟩⟩⟩⟩⟩⟩⟩⟩⟩⟩⟩⟩⟩ rfl rfl
theorem iaCheck_p4 (c : Nat) (w : Nat) (r : Nat) (e : Int) (p : Int) (σ : AHeap) (h0 : (fgt c 0) = true) (h1 : (feq (fsub c c) 0) = true) (h2 : (fgt w 0) = true) (h3 : (feq (fsub w w) 0) = true) (h4 : (fgt r 0) = true) (h5 : (feq (fsub r r) 0) = true) (h6 : (decide (e < 1)) = false) (h7 : (decide (e > 16384)) = false) (h8 : (decide (p < 1)) = false) (h9 : (decide (p > 256)) = false) (h10 : (decide (IntKind.i64.wrap (e * p) > 262144)) = true) : CallR Try.prog false 197 [.agg #[.float .f64 c, .float .f64 w, .float .f64 r, .int .i64 e, .int .i64 p]] σ (Value.int .i64 (Int.ofNat 3)) σ := CallR.of_DO_pure (C := dLIa) dLIa_ok Try.func197 iaCheck_fok (n := 100) (orc := [(35, Item.br true), (37, Item.br true), (39, Item.br true), (42, Item.res (Value.bool !feq (fsub c c) 0)), (43, Item.br false), (63, Item.br true), (65, Item.br true), (67, Item.br true), (70, Item.res (Value.bool !feq (fsub w w) 0)), (71, Item.br false), (91, Item.br true), (93, Item.br true), (95, Item.br true), (98, Item.res (Value.bool !feq (fsub r r) 0)), (99, Item.br false), (115, Item.br false), (124, Item.br false), (133, Item.br false), (142, Item.br false), (157, Item.br true)]) (ps := [(bP ((!fgt c 0) == false) true), (bP ((!fgt c 0) == false) true), (bP ((!fgt c 0) == false) true), (pP (some (Value.bool true)) (some (Value.bool !feq (fsub c c) 0)) ([AObj.row [Value.float .f64 c, Value.float .f64 w, Value.float .f64 r, Value.int .i64 e, Value.int .i64 p] true none]) (!fgt c 0) (Value.bool !feq (fsub c c) 0)), (bP (!feq (fsub c c) 0) false), (bP ((!fgt w 0) == false) true), (bP ((!fgt w 0) == false) true), (bP ((!fgt w 0) == false) true), (pP (some (Value.bool true)) (some (Value.bool !feq (fsub w w) 0)) ([AObj.row [Value.float .f64 c, Value.float .f64 w, Value.float .f64 r, Value.int .i64 e, Value.int .i64 p] true none]) (!fgt w 0) (Value.bool !feq (fsub w w) 0)), (bP (!feq (fsub w w) 0) false), (bP ((!fgt r 0) == false) true), (bP ((!fgt r 0) == false) true), (bP ((!fgt r 0) == false) true), (pP (some (Value.bool true)) (some (Value.bool !feq (fsub r r) 0)) ([AObj.row [Value.float .f64 c, Value.float .f64 w, Value.float .f64 r, Value.int .i64 e, Value.int .i64 p] true none]) (!fgt r 0) (Value.bool !feq (fsub r r) 0)), (bP (!feq (fsub r r) 0) false), (bP (decide (e < 1)) false), (bP (decide (e > 16384)) false), (bP (decide (p < 1)) false), (bP (decide (p > 256)) false), (bP (decide (IntKind.i64.wrap (e * p) > 262144)) true)]) (σ1 := [AObj.row [Value.float .f64 c, Value.float .f64 w, Value.float .f64 r, Value.int .i64 e, Value.int .i64 p] true none]) (by kernel_rfl) ⟨bP_of (fun x => (!x) == false) h0, ⟨bP_of (fun x => (!x) == false) h0, ⟨bP_of (fun x => (!x) == false) h0, ⟨pP_f _ _ _ (congrArg (fun bb => (!bb)) h0), ⟨bP_of (fun x => !x) h1, ⟨bP_of (fun x => (!x) == false) h2, ⟨bP_of (fun x => (!x) == false) h2, ⟨bP_of (fun x => (!x) == false) h2, ⟨pP_f _ _ _ (congrArg (fun bb => (!bb)) h2), ⟨bP_of (fun x => !x) h3, ⟨bP_of (fun x => (!x) == false) h4, ⟨bP_of (fun x => (!x) == false) h4, ⟨bP_of (fun x => (!x) == false) h4, ⟨pP_f _ _ _ (congrArg (fun bb => (!bb)) h4), ⟨bP_of (fun x => !x) h5, ⟨bP_of (fun x => x) h6, ⟨bP_of (fun x => x) h7, ⟨bP_of (fun x => x) h8, ⟨bP_of (fun x => x) h9, ⟨bP_of (fun x => x) h10, trivial⟩⟩⟩⟩⟩⟩⟩⟩⟩⟩⟩⟩⟩⟩⟩⟩⟩⟩⟩⟩ rfl rfl
theorem iaCheck_p5 (c : Nat) (w : Nat) (r : Nat) (e : Int) (p : Int) (σ : AHeap) (h0 : (fgt c 0) = true) (h1 : (feq (fsub c c) 0) = true) (h2 : (fgt w 0) = true) (h3 : (feq (fsub w w) 0) = true) (h4 : (fgt r 0) = true) (h5 : (feq (fsub r r) 0) = true) (h6 : (decide (e < 1)) = false) (h7 : (decide (e > 16384)) = false) (h8 : (decide (p < 1)) = false) (h9 : (decide (p > 256)) = false) (h10 : (decide (IntKind.i64.wrap (e * p) > 262144)) = false) : CallR Try.prog false 197 [.agg #[.float .f64 c, .float .f64 w, .float .f64 r, .int .i64 e, .int .i64 p]] σ (Value.int .i64 (Int.ofNat 0)) σ := CallR.of_DO_pure (C := dLIa) dLIa_ok Try.func197 iaCheck_fok (n := 100) (orc := [(35, Item.br true), (37, Item.br true), (39, Item.br true), (42, Item.res (Value.bool !feq (fsub c c) 0)), (43, Item.br false), (63, Item.br true), (65, Item.br true), (67, Item.br true), (70, Item.res (Value.bool !feq (fsub w w) 0)), (71, Item.br false), (91, Item.br true), (93, Item.br true), (95, Item.br true), (98, Item.res (Value.bool !feq (fsub r r) 0)), (99, Item.br false), (115, Item.br false), (124, Item.br false), (133, Item.br false), (142, Item.br false), (157, Item.br false)]) (ps := [(bP ((!fgt c 0) == false) true), (bP ((!fgt c 0) == false) true), (bP ((!fgt c 0) == false) true), (pP (some (Value.bool true)) (some (Value.bool !feq (fsub c c) 0)) ([AObj.row [Value.float .f64 c, Value.float .f64 w, Value.float .f64 r, Value.int .i64 e, Value.int .i64 p] true none]) (!fgt c 0) (Value.bool !feq (fsub c c) 0)), (bP (!feq (fsub c c) 0) false), (bP ((!fgt w 0) == false) true), (bP ((!fgt w 0) == false) true), (bP ((!fgt w 0) == false) true), (pP (some (Value.bool true)) (some (Value.bool !feq (fsub w w) 0)) ([AObj.row [Value.float .f64 c, Value.float .f64 w, Value.float .f64 r, Value.int .i64 e, Value.int .i64 p] true none]) (!fgt w 0) (Value.bool !feq (fsub w w) 0)), (bP (!feq (fsub w w) 0) false), (bP ((!fgt r 0) == false) true), (bP ((!fgt r 0) == false) true), (bP ((!fgt r 0) == false) true), (pP (some (Value.bool true)) (some (Value.bool !feq (fsub r r) 0)) ([AObj.row [Value.float .f64 c, Value.float .f64 w, Value.float .f64 r, Value.int .i64 e, Value.int .i64 p] true none]) (!fgt r 0) (Value.bool !feq (fsub r r) 0)), (bP (!feq (fsub r r) 0) false), (bP (decide (e < 1)) false), (bP (decide (e > 16384)) false), (bP (decide (p < 1)) false), (bP (decide (p > 256)) false), (bP (decide (IntKind.i64.wrap (e * p) > 262144)) false)]) (σ1 := [AObj.row [Value.float .f64 c, Value.float .f64 w, Value.float .f64 r, Value.int .i64 e, Value.int .i64 p] true none]) (by kernel_rfl) ⟨bP_of (fun x => (!x) == false) h0, ⟨bP_of (fun x => (!x) == false) h0, ⟨bP_of (fun x => (!x) == false) h0, ⟨pP_f _ _ _ (congrArg (fun bb => (!bb)) h0), ⟨bP_of (fun x => !x) h1, ⟨bP_of (fun x => (!x) == false) h2, ⟨bP_of (fun x => (!x) == false) h2, ⟨bP_of (fun x => (!x) == false) h2, ⟨pP_f _ _ _ (congrArg (fun bb => (!bb)) h2), ⟨bP_of (fun x => !x) h3, ⟨bP_of (fun x => (!x) == false) h4, ⟨bP_of (fun x => (!x) == false) h4, ⟨bP_of (fun x => (!x) == false) h4, ⟨pP_f _ _ _ (congrArg (fun bb => (!bb)) h4), ⟨bP_of (fun x => !x) h5, ⟨bP_of (fun x => x) h6, ⟨bP_of (fun x => x) h7, ⟨bP_of (fun x => x) h8, ⟨bP_of (fun x => x) h9, ⟨bP_of (fun x => x) h10, trivial⟩⟩⟩⟩⟩⟩⟩⟩⟩⟩⟩⟩⟩⟩⟩⟩⟩⟩⟩⟩ rfl rfl
theorem iaCheck_p6 (c : Nat) (w : Nat) (r : Nat) (e : Int) (p : Int) (σ : AHeap) (h0 : (fgt c 0) = true) (h1 : (feq (fsub c c) 0) = true) (h2 : (fgt w 0) = true) (h3 : (feq (fsub w w) 0) = true) (h4 : (fgt r 0) = true) (h5 : (feq (fsub r r) 0) = false) : CallR Try.prog false 197 [.agg #[.float .f64 c, .float .f64 w, .float .f64 r, .int .i64 e, .int .i64 p]] σ (Value.int .i64 (Int.ofNat 80)) σ := CallR.of_DO_pure (C := dLIa) dLIa_ok Try.func197 iaCheck_fok (n := 100) (orc := [(35, Item.br true), (37, Item.br true), (39, Item.br true), (42, Item.res (Value.bool !feq (fsub c c) 0)), (43, Item.br false), (63, Item.br true), (65, Item.br true), (67, Item.br true), (70, Item.res (Value.bool !feq (fsub w w) 0)), (71, Item.br false), (91, Item.br true), (93, Item.br true), (95, Item.br true), (98, Item.res (Value.bool !feq (fsub r r) 0)), (99, Item.br true)]) (ps := [(bP ((!fgt c 0) == false) true), (bP ((!fgt c 0) == false) true), (bP ((!fgt c 0) == false) true), (pP (some (Value.bool true)) (some (Value.bool !feq (fsub c c) 0)) ([AObj.row [Value.float .f64 c, Value.float .f64 w, Value.float .f64 r, Value.int .i64 e, Value.int .i64 p] true none]) (!fgt c 0) (Value.bool !feq (fsub c c) 0)), (bP (!feq (fsub c c) 0) false), (bP ((!fgt w 0) == false) true), (bP ((!fgt w 0) == false) true), (bP ((!fgt w 0) == false) true), (pP (some (Value.bool true)) (some (Value.bool !feq (fsub w w) 0)) ([AObj.row [Value.float .f64 c, Value.float .f64 w, Value.float .f64 r, Value.int .i64 e, Value.int .i64 p] true none]) (!fgt w 0) (Value.bool !feq (fsub w w) 0)), (bP (!feq (fsub w w) 0) false), (bP ((!fgt r 0) == false) true), (bP ((!fgt r 0) == false) true), (bP ((!fgt r 0) == false) true), (pP (some (Value.bool true)) (some (Value.bool !feq (fsub r r) 0)) ([AObj.row [Value.float .f64 c, Value.float .f64 w, Value.float .f64 r, Value.int .i64 e, Value.int .i64 p] true none]) (!fgt r 0) (Value.bool !feq (fsub r r) 0)), (bP (!feq (fsub r r) 0) true)]) (σ1 := [AObj.row [Value.float .f64 c, Value.float .f64 w, Value.float .f64 r, Value.int .i64 e, Value.int .i64 p] true none]) (by kernel_rfl) ⟨bP_of (fun x => (!x) == false) h0, ⟨bP_of (fun x => (!x) == false) h0, ⟨bP_of (fun x => (!x) == false) h0, ⟨pP_f _ _ _ (congrArg (fun bb => (!bb)) h0), ⟨bP_of (fun x => !x) h1, ⟨bP_of (fun x => (!x) == false) h2, ⟨bP_of (fun x => (!x) == false) h2, ⟨bP_of (fun x => (!x) == false) h2, ⟨pP_f _ _ _ (congrArg (fun bb => (!bb)) h2), ⟨bP_of (fun x => !x) h3, ⟨bP_of (fun x => (!x) == false) h4, ⟨bP_of (fun x => (!x) == false) h4, ⟨bP_of (fun x => (!x) == false) h4, ⟨pP_f _ _ _ (congrArg (fun bb => (!bb)) h4), ⟨bP_of (fun x => !x) h5, trivial⟩⟩⟩⟩⟩⟩⟩⟩⟩⟩⟩⟩⟩⟩⟩ rfl rfl
theorem iaCheck_p7 (c : Nat) (w : Nat) (r : Nat) (e : Int) (p : Int) (σ : AHeap) (h0 : (fgt c 0) = true) (h1 : (feq (fsub c c) 0) = true) (h2 : (fgt w 0) = true) (h3 : (feq (fsub w w) 0) = true) (h4 : (fgt r 0) = false) : CallR Try.prog false 197 [.agg #[.float .f64 c, .float .f64 w, .float .f64 r, .int .i64 e, .int .i64 p]] σ (Value.int .i64 (Int.ofNat 80)) σ := CallR.of_DO_pure (C := dLIa) dLIa_ok Try.func197 iaCheck_fok (n := 100) (orc := [(35, Item.br true), (37, Item.br true), (39, Item.br true), (42, Item.res (Value.bool !feq (fsub c c) 0)), (43, Item.br false), (63, Item.br true), (65, Item.br true), (67, Item.br true), (70, Item.res (Value.bool !feq (fsub w w) 0)), (71, Item.br false), (91, Item.br false), (93, Item.br false), (95, Item.br false), (98, Item.res (Value.bool true))]) (ps := [(bP ((!fgt c 0) == false) true), (bP ((!fgt c 0) == false) true), (bP ((!fgt c 0) == false) true), (pP (some (Value.bool true)) (some (Value.bool !feq (fsub c c) 0)) ([AObj.row [Value.float .f64 c, Value.float .f64 w, Value.float .f64 r, Value.int .i64 e, Value.int .i64 p] true none]) (!fgt c 0) (Value.bool !feq (fsub c c) 0)), (bP (!feq (fsub c c) 0) false), (bP ((!fgt w 0) == false) true), (bP ((!fgt w 0) == false) true), (bP ((!fgt w 0) == false) true), (pP (some (Value.bool true)) (some (Value.bool !feq (fsub w w) 0)) ([AObj.row [Value.float .f64 c, Value.float .f64 w, Value.float .f64 r, Value.int .i64 e, Value.int .i64 p] true none]) (!fgt w 0) (Value.bool !feq (fsub w w) 0)), (bP (!feq (fsub w w) 0) false), (bP ((!fgt r 0) == false) false), (bP ((!fgt r 0) == false) false), (bP ((!fgt r 0) == false) false), (pP (some (Value.bool true)) (none) ([AObj.row [Value.float .f64 c, Value.float .f64 w, Value.float .f64 r, Value.int .i64 e, Value.int .i64 p] true none]) (!fgt r 0) (Value.bool true))]) (σ1 := [AObj.row [Value.float .f64 c, Value.float .f64 w, Value.float .f64 r, Value.int .i64 e, Value.int .i64 p] true none]) (by kernel_rfl) ⟨bP_of (fun x => (!x) == false) h0, ⟨bP_of (fun x => (!x) == false) h0, ⟨bP_of (fun x => (!x) == false) h0, ⟨pP_f _ _ _ (congrArg (fun bb => (!bb)) h0), ⟨bP_of (fun x => !x) h1, ⟨bP_of (fun x => (!x) == false) h2, ⟨bP_of (fun x => (!x) == false) h2, ⟨bP_of (fun x => (!x) == false) h2, ⟨pP_f _ _ _ (congrArg (fun bb => (!bb)) h2), ⟨bP_of (fun x => !x) h3, ⟨bP_of (fun x => (!x) == false) h4, ⟨bP_of (fun x => (!x) == false) h4, ⟨bP_of (fun x => (!x) == false) h4, ⟨pP_t _ _ _ (congrArg (fun bb => (!bb)) h4), trivial⟩⟩⟩⟩⟩⟩⟩⟩⟩⟩⟩⟩⟩⟩ rfl rfl
theorem iaCheck_p8 (c : Nat) (w : Nat) (r : Nat) (e : Int) (p : Int) (σ : AHeap) (h0 : (fgt c 0) = true) (h1 : (feq (fsub c c) 0) = true) (h2 : (fgt w 0) = true) (h3 : (feq (fsub w w) 0) = false) : CallR Try.prog false 197 [.agg #[.float .f64 c, .float .f64 w, .float .f64 r, .int .i64 e, .int .i64 p]] σ (Value.int .i64 (Int.ofNat 80)) σ := CallR.of_DO_pure (C := dLIa) dLIa_ok Try.func197 iaCheck_fok (n := 100) (orc := [(35, Item.br true), (37, Item.br true), (39, Item.br true), (42, Item.res (Value.bool !feq (fsub c c) 0)), (43, Item.br false), (63, Item.br true), (65, Item.br true), (67, Item.br true), (70, Item.res (Value.bool !feq (fsub w w) 0)), (71, Item.br true)]) (ps := [(bP ((!fgt c 0) == false) true), (bP ((!fgt c 0) == false) true), (bP ((!fgt c 0) == false) true), (pP (some (Value.bool true)) (some (Value.bool !feq (fsub c c) 0)) ([AObj.row [Value.float .f64 c, Value.float .f64 w, Value.float .f64 r, Value.int .i64 e, Value.int .i64 p] true none]) (!fgt c 0) (Value.bool !feq (fsub c c) 0)), (bP (!feq (fsub c c) 0) false), (bP ((!fgt w 0) == false) true), (bP ((!fgt w 0) == false) true), (bP ((!fgt w 0) == false) true), (pP (some (Value.bool true)) (some (Value.bool !feq (fsub w w) 0)) ([AObj.row [Value.float .f64 c, Value.float .f64 w, Value.float .f64 r, Value.int .i64 e, Value.int .i64 p] true none]) (!fgt w 0) (Value.bool !feq (fsub w w) 0)), (bP (!feq (fsub w w) 0) true)]) (σ1 := [AObj.row [Value.float .f64 c, Value.float .f64 w, Value.float .f64 r, Value.int .i64 e, Value.int .i64 p] true none]) (by kernel_rfl) ⟨bP_of (fun x => (!x) == false) h0, ⟨bP_of (fun x => (!x) == false) h0, ⟨bP_of (fun x => (!x) == false) h0, ⟨pP_f _ _ _ (congrArg (fun bb => (!bb)) h0), ⟨bP_of (fun x => !x) h1, ⟨bP_of (fun x => (!x) == false) h2, ⟨bP_of (fun x => (!x) == false) h2, ⟨bP_of (fun x => (!x) == false) h2, ⟨pP_f _ _ _ (congrArg (fun bb => (!bb)) h2), ⟨bP_of (fun x => !x) h3, trivial⟩⟩⟩⟩⟩⟩⟩⟩⟩⟩ rfl rfl
theorem iaCheck_p9 (c : Nat) (w : Nat) (r : Nat) (e : Int) (p : Int) (σ : AHeap) (h0 : (fgt c 0) = true) (h1 : (feq (fsub c c) 0) = true) (h2 : (fgt w 0) = false) : CallR Try.prog false 197 [.agg #[.float .f64 c, .float .f64 w, .float .f64 r, .int .i64 e, .int .i64 p]] σ (Value.int .i64 (Int.ofNat 80)) σ := CallR.of_DO_pure (C := dLIa) dLIa_ok Try.func197 iaCheck_fok (n := 100) (orc := [(35, Item.br true), (37, Item.br true), (39, Item.br true), (42, Item.res (Value.bool !feq (fsub c c) 0)), (43, Item.br false), (63, Item.br false), (65, Item.br false), (67, Item.br false), (70, Item.res (Value.bool true))]) (ps := [(bP ((!fgt c 0) == false) true), (bP ((!fgt c 0) == false) true), (bP ((!fgt c 0) == false) true), (pP (some (Value.bool true)) (some (Value.bool !feq (fsub c c) 0)) ([AObj.row [Value.float .f64 c, Value.float .f64 w, Value.float .f64 r, Value.int .i64 e, Value.int .i64 p] true none]) (!fgt c 0) (Value.bool !feq (fsub c c) 0)), (bP (!feq (fsub c c) 0) false), (bP ((!fgt w 0) == false) false), (bP ((!fgt w 0) == false) false), (bP ((!fgt w 0) == false) false), (pP (some (Value.bool true)) (none) ([AObj.row [Value.float .f64 c, Value.float .f64 w, Value.float .f64 r, Value.int .i64 e, Value.int .i64 p] true none]) (!fgt w 0) (Value.bool true))]) (σ1 := [AObj.row [Value.float .f64 c, Value.float .f64 w, Value.float .f64 r, Value.int .i64 e, Value.int .i64 p] true none]) (by kernel_rfl) ⟨bP_of (fun x => (!x) == false) h0, ⟨bP_of (fun x => (!x) == false) h0, ⟨bP_of (fun x => (!x) == false) h0, ⟨pP_f _ _ _ (congrArg (fun bb => (!bb)) h0), ⟨bP_of (fun x => !x) h1, ⟨bP_of (fun x => (!x) == false) h2, ⟨bP_of (fun x => (!x) == false) h2, ⟨bP_of (fun x => (!x) == false) h2, ⟨pP_t _ _ _ (congrArg (fun bb => (!bb)) h2), trivial⟩⟩⟩⟩⟩⟩⟩⟩⟩ rfl rfl
theorem iaCheck_p10 (c : Nat) (w : Nat) (r : Nat) (e : Int) (p : Int) (σ : AHeap) (h0 : (fgt c 0) = true) (h1 : (feq (fsub c c) 0) = false) : CallR Try.prog false 197 [.agg #[.float .f64 c, .float .f64 w, .float .f64 r, .int .i64 e, .int .i64 p]] σ (Value.int .i64 (Int.ofNat 80)) σ := CallR.of_DO_pure (C := dLIa) dLIa_ok Try.func197 iaCheck_fok (n := 100) (orc := [(35, Item.br true), (37, Item.br true), (39, Item.br true), (42, Item.res (Value.bool !feq (fsub c c) 0)), (43, Item.br true)]) (ps := [(bP ((!fgt c 0) == false) true), (bP ((!fgt c 0) == false) true), (bP ((!fgt c 0) == false) true), (pP (some (Value.bool true)) (some (Value.bool !feq (fsub c c) 0)) ([AObj.row [Value.float .f64 c, Value.float .f64 w, Value.float .f64 r, Value.int .i64 e, Value.int .i64 p] true none]) (!fgt c 0) (Value.bool !feq (fsub c c) 0)), (bP (!feq (fsub c c) 0) true)]) (σ1 := [AObj.row [Value.float .f64 c, Value.float .f64 w, Value.float .f64 r, Value.int .i64 e, Value.int .i64 p] true none]) (by kernel_rfl) ⟨bP_of (fun x => (!x) == false) h0, ⟨bP_of (fun x => (!x) == false) h0, ⟨bP_of (fun x => (!x) == false) h0, ⟨pP_f _ _ _ (congrArg (fun bb => (!bb)) h0), ⟨bP_of (fun x => !x) h1, trivial⟩⟩⟩⟩⟩ rfl rfl
theorem iaCheck_p11 (c : Nat) (w : Nat) (r : Nat) (e : Int) (p : Int) (σ : AHeap) (h0 : (fgt c 0) = false) : CallR Try.prog false 197 [.agg #[.float .f64 c, .float .f64 w, .float .f64 r, .int .i64 e, .int .i64 p]] σ (Value.int .i64 (Int.ofNat 80)) σ := CallR.of_DO_pure (C := dLIa) dLIa_ok Try.func197 iaCheck_fok (n := 100) (orc := [(35, Item.br false), (37, Item.br false), (39, Item.br false), (42, Item.res (Value.bool true))]) (ps := [(bP ((!fgt c 0) == false) false), (bP ((!fgt c 0) == false) false), (bP ((!fgt c 0) == false) false), (pP (some (Value.bool true)) (none) ([AObj.row [Value.float .f64 c, Value.float .f64 w, Value.float .f64 r, Value.int .i64 e, Value.int .i64 p] true none]) (!fgt c 0) (Value.bool true))]) (σ1 := [AObj.row [Value.float .f64 c, Value.float .f64 w, Value.float .f64 r, Value.int .i64 e, Value.int .i64 p] true none]) (by kernel_rfl) ⟨bP_of (fun x => (!x) == false) h0, ⟨bP_of (fun x => (!x) == false) h0, ⟨bP_of (fun x => (!x) == false) h0, ⟨pP_t _ _ _ (congrArg (fun bb => (!bb)) h0), trivial⟩⟩⟩⟩ rfl rfl
def iaCheck_t (c : Nat) (w : Nat) (r : Nat) (e : Int) (p : Int) : Value := (bif fgt c 0 then (bif feq (fsub c c) 0 then (bif fgt w 0 then (bif feq (fsub w w) 0 then (bif fgt r 0 then (bif feq (fsub r r) 0 then (bif decide (e < 1) then (Value.int .i64 (Int.ofNat 80)) else (bif decide (e > 16384) then (Value.int .i64 (Int.ofNat 80)) else (bif decide (p < 1) then (Value.int .i64 (Int.ofNat 80)) else (bif decide (p > 256) then (Value.int .i64 (Int.ofNat 80)) else (bif decide (IntKind.i64.wrap (e * p) > 262144) then (Value.int .i64 (Int.ofNat 3)) else (Value.int .i64 (Int.ofNat 0))))))) else (Value.int .i64 (Int.ofNat 80))) else (Value.int .i64 (Int.ofNat 80))) else (Value.int .i64 (Int.ofNat 80))) else (Value.int .i64 (Int.ofNat 80))) else (Value.int .i64 (Int.ofNat 80))) else (Value.int .i64 (Int.ofNat 80)))
theorem iaCheck_c (c : Nat) (w : Nat) (r : Nat) (e : Int) (p : Int) (σ : AHeap) : CallR Try.prog false 197 [.agg
    #[.float .f64 c, .float .f64 w, .float .f64 r, .int .i64 e, .int .i64 p]] σ (iaCheck_t c w r e p) σ := by
  unfold iaCheck_t
  exact (CallR.bif (fun h0 => (CallR.bif (fun h1 => (CallR.bif (fun h2 => (CallR.bif (fun h3 => (CallR.bif (fun h4 => (CallR.bif (fun h5 => (CallR.bif (fun h6 => (iaCheck_p0 c w r e p σ h0 h1 h2 h3 h4 h5 h6)) (fun h6 => (CallR.bif (fun h7 => (iaCheck_p1 c w r e p σ h0 h1 h2 h3 h4 h5 h6 h7)) (fun h7 => (CallR.bif (fun h8 => (iaCheck_p2 c w r e p σ h0 h1 h2 h3 h4 h5 h6 h7 h8)) (fun h8 => (CallR.bif (fun h9 => (iaCheck_p3 c w r e p σ h0 h1 h2 h3 h4 h5 h6 h7 h8 h9)) (fun h9 => (CallR.bif (fun h10 => (iaCheck_p4 c w r e p σ h0 h1 h2 h3 h4 h5 h6 h7 h8 h9 h10)) (fun h10 => (iaCheck_p5 c w r e p σ h0 h1 h2 h3 h4 h5 h6 h7 h8 h9 h10)))))))))))) (fun h5 => (iaCheck_p6 c w r e p σ h0 h1 h2 h3 h4 h5)))) (fun h4 => (iaCheck_p7 c w r e p σ h0 h1 h2 h3 h4)))) (fun h3 => (iaCheck_p8 c w r e p σ h0 h1 h2 h3)))) (fun h2 => (iaCheck_p9 c w r e p σ h0 h1 h2)))) (fun h1 => (iaCheck_p10 c w r e p σ h0 h1)))) (fun h0 => (iaCheck_p11 c w r e p σ h0)))
def iaCheck_0 (c : Nat) (w : Nat) (r : Nat) (e : Int) (p : Int) : Int := (bif fgt c 0 then (bif feq (fsub c c) 0 then (bif fgt w 0 then (bif feq (fsub w w) 0 then (bif fgt r 0 then (bif feq (fsub r r) 0 then (bif decide (e < 1) then Int.ofNat 80 else (bif decide (e > 16384) then Int.ofNat 80 else (bif decide (p < 1) then Int.ofNat 80 else (bif decide (p > 256) then Int.ofNat 80 else (bif decide (IntKind.i64.wrap (e * p) > 262144) then Int.ofNat 3 else Int.ofNat 0))))) else Int.ofNat 80) else Int.ofNat 80) else Int.ofNat 80) else Int.ofNat 80) else Int.ofNat 80) else Int.ofNat 80)
theorem iaCheck_v (c : Nat) (w : Nat) (r : Nat) (e : Int) (p : Int) : iaCheck_t c w r e p = Go.Value.int Go.IntKind.i64 (iaCheck_0 c w r e p) := by
  unfold iaCheck_t iaCheck_0
  cases (fgt c 0) with
  | true =>
    cases (feq (fsub c c) 0) with
    | true =>
      cases (fgt w 0) with
      | true =>
        cases (feq (fsub w w) 0) with
        | true =>
          cases (fgt r 0) with
          | true =>
            cases (feq (fsub r r) 0) with
            | true =>
              cases (decide (e < 1)) with
              | true =>
                kernel_rfl
              | false =>
                cases (decide (e > 16384)) with
                | true =>
                  kernel_rfl
                | false =>
                  cases (decide (p < 1)) with
                  | true =>
                    kernel_rfl
                  | false =>
                    cases (decide (p > 256)) with
                    | true =>
                      kernel_rfl
                    | false =>
                      cases (decide (IntKind.i64.wrap (e * p) > 262144)) with
                      | true =>
                        kernel_rfl
                      | false =>
                        kernel_rfl
            | false =>
              kernel_rfl
          | false =>
            kernel_rfl
        | false =>
          kernel_rfl
      | false =>
        kernel_rfl
    | false =>
      kernel_rfl
  | false =>
    kernel_rfl
theorem iaCheck_ok (c : Nat) (w : Nat) (r : Nat) (e : Int) (p : Int) (σ : AHeap) : CallR Try.prog false 197 [.agg
    #[.float .f64 c, .float .f64 w, .float .f64 r, .int .i64 e,
      .int .i64 p]] σ (Go.Value.int Go.IntKind.i64 (iaCheck_0 c w r e p)) σ := by
  have h := iaCheck_c c w r e p σ
  rw [iaCheck_v] at h
  exact h
theorem iaAt_fok : fnOk (dLIa) Try.f172 = true := by kernel_rfl
theorem iaAt_p0 (r : Nat) (s : Nat) (a : Nat) (t : Nat) (b : Nat) (x : Nat) (σ : AHeap) : CallR Try.prog false 172 [.agg #[.float .f64 r, .float .f64 s, .float .f64 a, .float .f64 t, .float .f64 b], .float .f64 x] σ (Value.float .f64 (fadd r (fmul s x))) σ := CallR.of_DO_pure (C := dLIa) dLIa_ok Try.func172 iaAt_fok (n := 100) (orc := []) (ps := []) (σ1 := [AObj.row [Value.float .f64 r, Value.float .f64 s, Value.float .f64 a, Value.float .f64 t, Value.float .f64 b] true none]) (by kernel_rfl) trivial rfl rfl
def iaAt_t (r : Nat) (s : Nat) (a : Nat) (t : Nat) (b : Nat) (x : Nat) : Value := (Value.float .f64 (fadd r (fmul s x)))
theorem iaAt_c (r : Nat) (s : Nat) (a : Nat) (t : Nat) (b : Nat) (x : Nat) (σ : AHeap) : CallR Try.prog false 172 [.agg
    #[.float .f64 r, .float .f64 s, .float .f64 a, .float .f64 t, .float .f64 b],
  .float .f64 x] σ (iaAt_t r s a t b x) σ := by
  unfold iaAt_t
  exact (iaAt_p0 r s a t b x σ)
def iaAt_0 (r : Nat) (s : Nat) (a : Nat) (t : Nat) (b : Nat) (x : Nat) : Nat := fadd r (fmul s x)
theorem iaAt_v (r : Nat) (s : Nat) (a : Nat) (t : Nat) (b : Nat) (x : Nat) : iaAt_t r s a t b x = Go.Value.float Go.FloatKind.f64 (iaAt_0 r s a t b x) := by
  unfold iaAt_t iaAt_0
  kernel_rfl
theorem iaAt_ok (r : Nat) (s : Nat) (a : Nat) (t : Nat) (b : Nat) (x : Nat) (σ : AHeap) : CallR Try.prog false 172 [.agg
    #[.float .f64 r, .float .f64 s, .float .f64 a, .float .f64 t, .float .f64 b],
  .float .f64 x] σ (Go.Value.float Go.FloatKind.f64 (iaAt_0 r s a t b x)) σ := by
  have h := iaAt_c r s a t b x σ
  rw [iaAt_v] at h
  exact h
theorem iaScale_fok : fnOk (dLIa) Try.f136 = true := by kernel_rfl
theorem iaScale_p0 (a : Nat) (b : Nat) (x : Nat) (σ : AHeap) : CallR Try.prog false 136 [.complex .f64 a b, .float .f64 x] σ (Value.complex .f64 (fmul a x) (fmul b x)) σ := CallR.of_DO_pure (C := dLIa) dLIa_ok Try.func136 iaScale_fok (n := 100) (orc := []) (ps := []) (σ1 := []) (by kernel_rfl) trivial rfl rfl
def iaScale_t (a : Nat) (b : Nat) (x : Nat) : Value := (Value.complex .f64 (fmul a x) (fmul b x))
theorem iaScale_c (a : Nat) (b : Nat) (x : Nat) (σ : AHeap) : CallR Try.prog false 136 [.complex .f64 a b,
  .float .f64 x] σ (iaScale_t a b x) σ := by
  unfold iaScale_t
  exact (iaScale_p0 a b x σ)
def iaScale_0 (a : Nat) (b : Nat) (x : Nat) : Nat := fmul a x
def iaScale_1 (a : Nat) (b : Nat) (x : Nat) : Nat := fmul b x
theorem iaScale_v (a : Nat) (b : Nat) (x : Nat) : iaScale_t a b x = Go.Value.complex Go.FloatKind.f64 (iaScale_0 a b x) (iaScale_1 a b x) := by
  unfold iaScale_t iaScale_0 iaScale_1
  kernel_rfl
theorem iaScale_ok (a : Nat) (b : Nat) (x : Nat) (σ : AHeap) : CallR Try.prog false 136 [.complex .f64 a b,
  .float .f64 x] σ (Go.Value.complex Go.FloatKind.f64 (iaScale_0 a b x) (iaScale_1 a b x)) σ := by
  have h := iaScale_c a b x σ
  rw [iaScale_v] at h
  exact h
end Go.Lk
end
