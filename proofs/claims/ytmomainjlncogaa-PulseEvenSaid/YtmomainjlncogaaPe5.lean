import Derived.Test.YtmomainjlncogaaPe3
import Derived.Test.YtmomainjlncogaaProg
import Derived.Test.YtmomainjlncogaaPe4
section
/- The program: functions without bodies. -/
namespace Go.Lk
open Go.Proofs
set_option linter.unusedSimpArgs false
set_option linter.unusedVariables false
set_option maxRecDepth 100000

theorem b80 : Bare Try.prog 80 Extern.MathFloatBits.float64bits := ⟨_, Try.func80, rfl, by kernel_rfl, by kernel_rfl, by kernel_rfl⟩
theorem b124 : Bare Try.prog 124 Extern.MathFloatBits.float64frombits := ⟨_, Try.func124, rfl, by kernel_rfl, by kernel_rfl, by kernel_rfl⟩
theorem b147 : Bare Try.prog 147 (Extern.MathFloor.toIntegral "math.archFloor" .down) := ⟨_, Try.func147, rfl, by kernel_rfl, by kernel_rfl, by kernel_rfl⟩
theorem b205 : Bare Try.prog 205 (Extern.MathFloor.toIntegral "math.archTrunc" .zero) := ⟨_, Try.func205, rfl, by kernel_rfl, by kernel_rfl, by kernel_rfl⟩
theorem b196 : Bare Try.prog 196 Extern.MathSqrt.sqrt := ⟨_, Try.func196, rfl, by kernel_rfl, by kernel_rfl, by kernel_rfl⟩

noncomputable def t0 (ex : Bool) : Tab := ((((Tab.empty.addP 80 (xBits ex)).addP 124 (xFrom ex)).addP 196 (xSqrt ex)).addP 147 (xFloor ex)).addP 205 (xTrunc ex)
theorem t0_ok (ex : Bool) : (t0 ex).Ok Try.prog ex := by
  have h1 := xBits_ok ex b80
  have h2 := xFrom_ok ex b124
  have h3 := xSqrt_ok ex b196
  have h4 := xFloor_ok ex b147
  have h5 := xTrunc_ok ex b205
  generalize Try.prog = P at *
  exact Tab.Ok.addP (Tab.Ok.addP (Tab.Ok.addP (Tab.Ok.addP (Tab.Ok.addP (Tab.Ok.empty P ex) h1) h2) h3) h4) h5
theorem mixed : Try.prog.follows .mixedOrders = true := by kernel_rfl
noncomputable def c0 (ex : Bool) : Cfg := (t0 ex).cfg Try.prog ex
theorem c0_ok (ex : Bool) : (c0 ex).Ok := (t0_ok ex).cfg mixed

/-! ### Words as they are -/
theorem xAbs (x : Nat) : DFn (c0 true) 100 Try.f51 [.float .f64 x] [] = some (.float .f64 ((IntKind.u64.wrap (BitVec.ofInt 64 x &&& ~~~BitVec.ofInt 64 9223372036854775808).toNat).toNat), []) := by kernel_rfl
theorem xCopysign (x y : Nat) : DFn (c0 true) 100 Try.f35 [.float .f64 x, .float .f64 y] [] = some (.float .f64 (IntKind.u64.wrap (BitVec.ofInt 64 (IntKind.u64.wrap (BitVec.ofInt 64 x &&& ~~~BitVec.ofInt 64 9223372036854775808).toNat) ||| BitVec.ofInt 64 (IntKind.u64.wrap (BitVec.ofInt 64 y &&& BitVec.ofInt 64 9223372036854775808).toNat)).toNat).toNat, []) := by kernel_rfl
end Go.Lk
end

section
/- The rows of sines, cosines and tangents. -/
namespace Go.Lk
open Go.Proofs
set_option maxRecDepth 100000
set_option linter.unusedVariables false

theorem iPure_ok {C : Cfg} (hC : C.Ok) {f : Nat} {fn : Func} (n : Nat) (hf : C.P.funcs[f]? = some fn) (hok : fnOk C fn = true) : IsPure C.P C.ex f (iPure C n fn) := by
  intro args v σ h
  simp only [fnOk, Bool.and_eq_true, Bool.not_eq_true'] at hok
  unfold iPure at h
  cases hfl : args.all plain with
  | false => rw [hfl] at h; cases h
  | true =>
    rw [hfl] at h
    simp only [cond_true] at h
    split at h
    · rename_i v' σ1 hd
      cases hp : plain v' with
      | false => rw [hp] at h; cases h
      | true => rw [hp] at h; cases h; exact CallR.frame hfl (CallR.of_DFn_nil hC hf hok.1 hok.2 hd hp) hp
    · cases h
theorem IsPure.of_sub {P : Program} {ex : Bool} {f : Nat} {s s' : PureFn} (h : IsPure P ex f s') (hs : ∀ args v, s args = some v → s' args = some v) : IsPure P ex f s :=
  fun args v σ hv => h args v σ (hs args v hv)

noncomputable def L0 : Lib := ⟨Try.prog, false, t0 false, [(207, Try.f207), (182, Try.f182)], []⟩
theorem L0_fp : ∀ e, e ∈ L0.pures → Try.prog.funcs[e.1]? = some e.2 := fs_cons Try.func207 (fs_cons Try.func182 (fs_nil))
theorem L0_fh : ∀ e, e ∈ L0.heaps → Try.prog.funcs[e.1]? = some e.2.2 := gs_nil
theorem L0_p1 (gp : Nat → PureFn) (g : Nat → HeapFn) : (L0.pures.all fun e => fnOk (L0.mk' gp g) e.2) = true := by kernel_rfl
theorem L0_h1 (gp : Nat → PureFn) (g : Nat → HeapFn) : (L0.heaps.all fun e => fnOk (L0.mk' gp g) e.2.2 && (!e.2.1 || fnRo (L0.mk' gp g) e.2.2)) = true := by kernel_rfl
theorem L0_ok : L0.Ok := ⟨t0_ok false, mixed, L0_fp, L0_fh, L0_p1, L0_h1⟩

def cosA : Value := .agg #[.float .f64 4607182418800017408, .float .f64 13826050856027422720, .float .f64 4586165620538955093, .float .f64 13787419979223755799, .float .f64 4537941361671905306, .float .f64 13732177094651715420, .float .f64 4477122120089393304, .float .f64 13666517717442657437, .float .f64 4407590220077447199, .float .f64 0, .float .f64 0, .float .f64 0, .float .f64 0, .float .f64 0, .float .f64 0, .float .f64 0, .float .f64 0, .float .f64 0, .float .f64 0, .float .f64 0, .float .f64 0, .float .f64 0, .float .f64 0, .float .f64 0]
def sinA : Value := .agg #[.float .f64 4607182418800017408, .float .f64 13818544856648471893, .float .f64 4575957461383581969, .float .f64 13774824197408792602, .float .f64 4523617214285662004, .float .f64 13716528800881525988, .float .f64 4460272573143870729, .float .f64 13648976655441704991, .float .f64 4389130328383466826, .float .f64 0, .float .f64 0, .float .f64 0, .float .f64 0, .float .f64 0, .float .f64 0, .float .f64 0, .float .f64 0, .float .f64 0, .float .f64 0, .float .f64 0, .float .f64 0, .float .f64 0, .float .f64 0, .float .f64 0]
def sPowers : PureFn
  | [.int .i64 (.ofNat 0)] => some cosA
  | [.int .i64 (.ofNat 1)] => some sinA
  | _ => none
theorem pow0 : iPure (L0.cfg 100 1) 100 Try.f182 [.int .i64 0] = some cosA := by kernel_rfl
theorem pow1 : iPure (L0.cfg 100 1) 100 Try.f182 [.int .i64 1] = some sinA := by kernel_rfl
theorem f182_ok : fnOk (L0.cfg 100 1) Try.f182 = true := by kernel_rfl
theorem sPowers_ok : IsPure Try.prog false 182 sPowers :=
  (iPure_ok (C := L0.cfg 100 1) (L0_ok.cfg 100 1) 100 Try.func182 f182_ok).of_sub fun args v h => by
    unfold sPowers at h
    split at h
    · cases h; exact pow0
    · cases h; exact pow1
    · cases h
noncomputable def t1 : Tab := ((t0 false).addP 182 sPowers)
theorem t1_ok : t1.Ok Try.prog false := (Tab.Ok.addP (t0_ok false) sPowers_ok)
end Go.Lk
end

section
/- Abs, Copysign, Signbit: by the words. -/
namespace Go.Lk
open Go.Proofs
set_option maxRecDepth 100000
set_option linter.unusedSimpArgs false
set_option linter.unusedVariables false

theorem xAbs_call (σ : AHeap) (x : Nat) : CallR Try.prog true 51 [.float .f64 x] σ (.float .f64 ((IntKind.u64.wrap (BitVec.ofInt 64 x &&& ~~~BitVec.ofInt 64 9223372036854775808).toNat).toNat)) σ :=
  CallR.frame rfl (CallR.of_DFn_nil (C := c0 true) (c0_ok true) Try.func51 (by kernel_rfl) (by kernel_rfl) (xAbs x) rfl) rfl
theorem xCopysign_call (σ : AHeap) (x y : Nat) : CallR Try.prog true 35 [.float .f64 x, .float .f64 y] σ (.float .f64 (IntKind.u64.wrap (BitVec.ofInt 64 (IntKind.u64.wrap (BitVec.ofInt 64 x &&& ~~~BitVec.ofInt 64 9223372036854775808).toNat) ||| BitVec.ofInt 64 (IntKind.u64.wrap (BitVec.ofInt 64 y &&& BitVec.ofInt 64 9223372036854775808).toNat)).toNat).toNat) σ :=
  CallR.frame rfl (CallR.of_DFn_nil (C := c0 true) (c0_ok true) Try.func35 (by kernel_rfl) (by kernel_rfl) (xCopysign x y) rfl) rfl
theorem u64_wrap {n : Nat} (h : n < 2 ^ 64) : IntKind.u64.wrap (n : Int) = n := by
  unfold IntKind.wrap
  simp [IntKind.min, IntKind.signed, IntKind.bits]
  omega
theorem ofInt_toNat (x : Nat) : (BitVec.ofInt 64 (x : Int)).toNat = x % 2 ^ 64 := by simp
theorem abs_bits (x : Nat) : (BitVec.ofInt 64 (x : Int) &&& ~~~BitVec.ofInt 64 9223372036854775808).toNat = x % 2 ^ 63 := by
  rw [BitVec.toNat_and, ofInt_toNat]
  have : (~~~BitVec.ofInt 64 9223372036854775808).toNat = 2 ^ 63 - 1 := by decide
  rw [this, Nat.and_two_pow_sub_one_eq_mod]
  omega
theorem sign_bits (y : Nat) : (BitVec.ofInt 64 (y : Int) &&& BitVec.ofInt 64 9223372036854775808).toNat = if sg y then 2 ^ 63 else 0 := by
  rw [BitVec.toNat_and, ofInt_toNat]
  have : (BitVec.ofInt 64 9223372036854775808).toNat = 2 ^ 63 := by decide
  rw [this]
  apply Nat.eq_of_testBit_eq
  intro i
  rw [Nat.testBit_and, Nat.testBit_two_pow, Nat.testBit_mod_two_pow]
  by_cases hi : 63 = i
  · subst hi
    have h1 : y.testBit 63 = sg y := by
      unfold sg
      rw [Nat.testBit_eq_decide_div_mod_eq, Bool.eq_iff_iff]
      simp
    rw [h1]
    cases sg y
    · simp
    · simp only [if_true, Nat.testBit_two_pow_self]; rfl
  · have h1 : decide (63 = i) = false := by simp; exact hi
    rw [h1, Bool.and_false]
    cases sg y
    · simp
    · simp only [if_true, Nat.testBit_two_pow, h1]
theorem abs_word (x : Nat) : (IntKind.u64.wrap (BitVec.ofInt 64 x &&& ~~~BitVec.ofInt 64 9223372036854775808).toNat).toNat = rg x := by
  rw [abs_bits, u64_wrap (by omega)]; rfl
theorem copysign_word (x y : Nat) : (IntKind.u64.wrap (BitVec.ofInt 64 (IntKind.u64.wrap (BitVec.ofInt 64 x &&& ~~~BitVec.ofInt 64 9223372036854775808).toNat) ||| BitVec.ofInt 64 (IntKind.u64.wrap (BitVec.ofInt 64 y &&& BitVec.ofInt 64 9223372036854775808).toNat)).toNat).toNat = wd (sg y) (rg x) := by
  have hs : (if sg y = true then 2 ^ 63 else 0) < 2 ^ 64 := by split <;> omega
  rw [abs_bits, sign_bits, u64_wrap (n := x % 2 ^ 63) (by omega), u64_wrap hs, BitVec.toNat_or, ofInt_toNat, ofInt_toNat]
  have h1 : x % 2 ^ 63 % 2 ^ 64 = x % 2 ^ 63 := by omega
  have h2 : (if sg y = true then 2 ^ 63 else 0) % 2 ^ 64 = if sg y = true then 2 ^ 63 else 0 := by split <;> omega
  rw [h1, h2]
  have key : x % 2 ^ 63 ||| (if sg y = true then 2 ^ 63 else 0) = wd (sg y) (rg x) := by
    unfold wd rg
    cases sg y
    · simp
    · simp only [if_true]
      rw [Nat.or_comm]
      have := Nat.two_pow_add_eq_or_of_lt (i := 63) (b := x % 2 ^ 63) (Nat.mod_lt _ (by decide)) 1
      rw [Nat.mul_one] at this
      exact this.symm
  rw [key, u64_wrap (wd_lt (by unfold rg; omega))]
  simp
theorem rg_rg (x : Nat) : rg (rg x) = rg x := Nat.mod_mod _ _
theorem nan_rg {x y : Nat} (h : rg x = rg y) : isNaN x = isNaN y := by rw [isNaN_iff, isNaN_iff, h]
theorem rg_lt (x : Nat) : rg x < 2 ^ 63 := Nat.mod_lt _ (by decide)

def sAbs : PureFn
  | [.float .f64 x] => some (.float .f64 (fabs x))
  | _ => none
def sCopysign : PureFn
  | [.float .f64 x, .float .f64 y] => bif isNaN x || !isNaN y then some (.float .f64 (fcopysign x y)) else none
  | _ => none
theorem fabs_can (c : Nat) : fabs (can c) = can (rg c) := by
  unfold fabs
  rw [isNaN_can]
  cases h : isNaN c
  · rw [cond_false, can_of_num h, can_of_num (by rw [nan_rg (rg_rg c)]; exact h)]
  · rw [cond_true, can_of_nan (by rw [nan_rg (rg_rg c)]; exact h)]
theorem sAbs_ok : IsPure Try.prog false 51 sAbs := by
  intro args v σ h
  unfold sAbs at h
  split at h
  · rename_i x
    cases h
    refine CallR.of_exact rfl (fun cargs hv => ?_) rfl
    obtain ⟨y, hy, hvr⟩ := hv.one_of
    obtain ⟨c, rfl, rfl⟩ := hvr.float_of
    subst hy
    refine ⟨_, xAbs_call [] c, rfl, ?_⟩
    rw [abs_word]
    have := VR.float (ex := false) (μ := []) .f64 (rg c)
    rw [show cn false (rg c) = can (rg c) from rfl, ← fabs_can] at this
    exact this
  · cases h
theorem fcopysign_can {c d : Nat} (h : isNaN c = true ∨ isNaN d = false) : fcopysign (can c) (can d) = can (wd (sg d) (rg c)) := by
  unfold fcopysign
  rw [isNaN_can]
  have hw : isNaN (wd (sg d) (rg c)) = isNaN c := nan_rg (rg_wd (rg_lt _))
  cases hc : isNaN c
  · rw [hc] at hw h
    rw [cond_false, can_of_num hc, can_of_num hw]
    rcases h with h | h
    · cases h
    · rw [can_of_num h]
  · rw [hc] at hw; rw [cond_true, can_of_nan hw]
theorem sCopysign_ok : IsPure Try.prog false 35 sCopysign := by
  intro args v σ h
  unfold sCopysign at h
  split at h
  · rename_i x y
    cases hb : (isNaN x || !isNaN y)
    · rw [hb] at h; cases h
    rw [hb] at h
    cases h
    refine CallR.of_exact rfl (fun cargs hv => ?_) rfl
    obtain ⟨c', hc', hvr⟩ := hv.2 0 _ rfl
    obtain ⟨d', hd', hvr'⟩ := hv.2 1 _ rfl
    obtain ⟨c, rfl, rfl⟩ := hvr.float_of
    obtain ⟨d, rfl, rfl⟩ := hvr'.float_of
    have hcs : cargs = [.float .f64 c, .float .f64 d] := by
      have hl := hv.1
      match cargs, hl with
      | [a, b], _ => simp at hc' hd'; rw [hc', hd']
    subst hcs
    refine ⟨_, xCopysign_call [] c d, rfl, ?_⟩
    rw [copysign_word]
    have := VR.float (ex := false) (μ := []) .f64 (wd (sg d) (rg c))
    rw [show cn false (wd (sg d) (rg c)) = can (wd (sg d) (rg c)) from rfl, ← fcopysign_can] at this
    · exact this
    · rw [show cn false c = can c from rfl, show cn false d = can d from rfl, isNaN_can, isNaN_can] at hb
      cases h1 : isNaN c
      · right; rw [h1] at hb; simpa using hb
      · left; rfl
  · cases h
noncomputable def t2 : Tab := ((t1.addP 51 sAbs).addP 35 sCopysign)
theorem t2_ok : t2.Ok Try.prog false := (Tab.Ok.addP (Tab.Ok.addP t1_ok sAbs_ok) sCopysign_ok)
noncomputable def c2 : Cfg := t2.cfg Try.prog false
end Go.Lk
end

section
/- The math functions and others without branches, out of their bodies. -/
namespace Go.Lk
open Go.Proofs
set_option maxRecDepth 100000
noncomputable def L2 : Lib := ⟨Try.prog, false, t2, [(181, Try.f181), (160, Try.f160), (55, Try.f55), (123, Try.f123), (33, Try.f33), (127, Try.f127), (128, Try.f128), (207, Try.f207), (122, Try.f122), (135, Try.f135)], []⟩
theorem L2_fp : ∀ e, e ∈ L2.pures → Try.prog.funcs[e.1]? = some e.2 := fs_cons Try.func181 (fs_cons Try.func160 (fs_cons Try.func55 (fs_cons Try.func123 (fs_cons Try.func33 (fs_cons Try.func127 (fs_cons Try.func128 (fs_cons Try.func207 (fs_cons Try.func122 (fs_cons Try.func135 (fs_nil))))))))))
theorem L2_fh : ∀ e, e ∈ L2.heaps → Try.prog.funcs[e.1]? = some e.2.2 := gs_nil
theorem L2_p1 (gp : Nat → PureFn) (g : Nat → HeapFn) : (L2.pures.all fun e => fnOk (L2.mk' gp g) e.2) = true := by kernel_rfl
theorem L2_h1 (gp : Nat → PureFn) (g : Nat → HeapFn) : (L2.heaps.all fun e => fnOk (L2.mk' gp g) e.2.2 && (!e.2.1 || fnRo (L2.mk' gp g) e.2.2)) = true := by kernel_rfl
theorem L2_ok : L2.Ok := ⟨t2_ok, mixed, L2_fp, L2_fh, L2_p1, L2_h1⟩

noncomputable def d2 : Cfg := L2.cfg 100 4
theorem d2_ok : d2.Ok := L2_ok.cfg 100 4
end Go.Lk
end

section
/- Modf, Wrap. -/
namespace Go.Lk
open Go.Proofs
set_option maxRecDepth 100000
set_option linter.unusedVariables false
set_option linter.unusedSimpArgs false
theorem wModf_fok : fnOk (d2) Try.f123 = true := by kernel_rfl
theorem wModf_p0 (x : Nat) (σ : AHeap) (h0 : (isNaN (fsub x (ftrunc x)) || !isNaN x) = true) : CallR Try.prog false 123 [Value.float .f64 x] σ (Value.tuple { toList := [Value.float .f64 (ftrunc x), Value.float .f64 (fcopysign (fsub x (ftrunc x)) x)] }) σ := CallR.of_DO_pure (C := d2) d2_ok Try.func123 wModf_fok (n := 100) (orc := [(19, Item.res (Value.float .f64 (fcopysign (fsub x (ftrunc x)) x)))]) (ps := [(gP (Value.float .f64 (fcopysign (fsub x (ftrunc x)) x)) ([]) (isNaN (fsub x (ftrunc x)) || !isNaN x))]) (σ1 := []) (by kernel_rfl) ⟨gP_true _ _ h0, trivial⟩ rfl rfl
def wModf_t (x : Nat) : Value := (Value.tuple { toList := [Value.float .f64 (ftrunc x), Value.float .f64 (fcopysign (fsub x (ftrunc x)) x)] })
theorem wModf_c (x : Nat) (σ : AHeap) (g0_0 : (isNaN (fsub x (ftrunc x)) ||
  !isNaN x) = true) : CallR Try.prog false 123 [Value.float .f64 x] σ (wModf_t x) σ := by
  unfold wModf_t
  exact (wModf_p0 x σ (g0_0))
def sModf : PureFn
  | [.float .f64 x] => bif feq (fsub x x) 0 then some (.tuple #[.float .f64 (ftrunc x), .float .f64 (fcopysign (fsub x (ftrunc x)) x)]) else none
  | _ => none
theorem sModf_ok : IsPure Try.prog false 123 sModf := by
  intro args v σ h
  unfold sModf at h
  split at h
  · rename_i x
    cases hb : feq (fsub x x) 0
    · rw [hb] at h; cases h
    · rw [hb] at h
      cases h
      refine wModf_c x σ ?_
      have : isNaN x = false := by
        cases hn : isNaN x
        · rfl
        · rw [fsub_nan_l hn, feq_nan_l isNaN_qnan] at hb; cases hb
      rw [this]; simp
  · cases h
theorem feq_self (x : Nat) : feq x x = !isNaN x := by
  rcases three x with h | h | h
  · rw [feq_fin h h, fin_num h]; simp
  · have : isNaN x = false := by rw [isNaN_iff, h]; decide
    rw [this]
    unfold feq Ieee.Format.order
    rw [read_inf h]
    cases sg x <;> rfl
  · rw [feq_nan_l h, h]; rfl
def sBits : PureFn
  | [.float .f64 x] => bif feq x x then some (.int .u64 x) else none
  | _ => none
theorem sBits_ok : IsPure Try.prog false 80 sBits := by
  refine (xBits_ok false b80).of_sub fun args v h => ?_
  unfold sBits at h
  split at h
  · rename_i x
    rw [feq_self] at h
    exact h
  · cases h
noncomputable def t3 : Tab := ((t2.addP 123 sModf).addP 80 sBits)
theorem t3_ok : t3.Ok Try.prog false := (Tab.Ok.addP (Tab.Ok.addP t2_ok sModf_ok) sBits_ok)
noncomputable def L3a : Lib := ⟨Try.prog, false, t3, [(181, Try.f181), (160, Try.f160), (55, Try.f55), (33, Try.f33), (127, Try.f127), (128, Try.f128), (207, Try.f207), (122, Try.f122), (135, Try.f135)], []⟩
theorem L3a_fp : ∀ e, e ∈ L3a.pures → Try.prog.funcs[e.1]? = some e.2 := fs_cons Try.func181 (fs_cons Try.func160 (fs_cons Try.func55 (fs_cons Try.func33 (fs_cons Try.func127 (fs_cons Try.func128 (fs_cons Try.func207 (fs_cons Try.func122 (fs_cons Try.func135 (fs_nil)))))))))
theorem L3a_fh : ∀ e, e ∈ L3a.heaps → Try.prog.funcs[e.1]? = some e.2.2 := gs_nil
theorem L3a_p1 (gp : Nat → PureFn) (g : Nat → HeapFn) : (L3a.pures.all fun e => fnOk (L3a.mk' gp g) e.2) = true := by kernel_rfl
theorem L3a_h1 (gp : Nat → PureFn) (g : Nat → HeapFn) : (L3a.heaps.all fun e => fnOk (L3a.mk' gp g) e.2.2 && (!e.2.1 || fnRo (L3a.mk' gp g) e.2.2)) = true := by kernel_rfl
theorem L3a_ok : L3a.Ok := ⟨t3_ok, mixed, L3a_fp, L3a_fh, L3a_p1, L3a_h1⟩
noncomputable def dL3a : Cfg := L3a.cfg 100 4
theorem dL3a_ok : dL3a.Ok := L3a_ok.cfg 100 4

theorem wWrap_fok : fnOk (dL3a) Try.f32 = true := by kernel_rfl
theorem wWrap_p0 (x : Nat) (σ : AHeap) (h0 : (feq (fsub x x) 0) = true) (h1 : (fge (fcopysign (fsub x (ftrunc x)) x) 4602678819172646912) = true) : CallR Try.prog false 32 [Value.float .f64 x] σ (Value.float .f64 (fadd (fsub (fcopysign (fsub x (ftrunc x)) x) 4607182418800017408) 0)) σ := CallR.of_DO_pure (C := dL3a) dL3a_ok Try.func32 wWrap_fok (n := 100) (orc := [(10, Item.br false), (14, Item.res (Value.tuple { toList := [Value.float .f64 (ftrunc x), Value.float .f64 (fcopysign (fsub x (ftrunc x)) x)] })), (31, Item.br true)]) (ps := [(bP (!feq (fsub x x) 0) false), (gP (Value.tuple { toList := [Value.float .f64 (ftrunc x), Value.float .f64 (fcopysign (fsub x (ftrunc x)) x)] }) ([]) (feq (fsub x x) 0)), (bP (fge (fcopysign (fsub x (ftrunc x)) x) 4602678819172646912) true)]) (σ1 := []) (by kernel_rfl) ⟨bP_of (fun x => !x) h0, ⟨gP_true _ _ h0, ⟨bP_of (fun x => x) h1, trivial⟩⟩⟩ rfl rfl
theorem wWrap_p1 (x : Nat) (σ : AHeap) (h0 : (feq (fsub x x) 0) = true) (h1 : (fge (fcopysign (fsub x (ftrunc x)) x) 4602678819172646912) = false) (h2 : (flt (fcopysign (fsub x (ftrunc x)) x) 13826050856027422720) = true) : CallR Try.prog false 32 [Value.float .f64 x] σ (Value.float .f64 (fadd (fadd (fcopysign (fsub x (ftrunc x)) x) 4607182418800017408) 0)) σ := CallR.of_DO_pure (C := dL3a) dL3a_ok Try.func32 wWrap_fok (n := 100) (orc := [(10, Item.br false), (14, Item.res (Value.tuple { toList := [Value.float .f64 (ftrunc x), Value.float .f64 (fcopysign (fsub x (ftrunc x)) x)] })), (31, Item.br false), (38, Item.br true)]) (ps := [(bP (!feq (fsub x x) 0) false), (gP (Value.tuple { toList := [Value.float .f64 (ftrunc x), Value.float .f64 (fcopysign (fsub x (ftrunc x)) x)] }) ([]) (feq (fsub x x) 0)), (bP (fge (fcopysign (fsub x (ftrunc x)) x) 4602678819172646912) false), (bP (flt (fcopysign (fsub x (ftrunc x)) x) 13826050856027422720) true)]) (σ1 := []) (by kernel_rfl) ⟨bP_of (fun x => !x) h0, ⟨gP_true _ _ h0, ⟨bP_of (fun x => x) h1, ⟨bP_of (fun x => x) h2, trivial⟩⟩⟩⟩ rfl rfl
theorem wWrap_p2 (x : Nat) (σ : AHeap) (h0 : (feq (fsub x x) 0) = true) (h1 : (fge (fcopysign (fsub x (ftrunc x)) x) 4602678819172646912) = false) (h2 : (flt (fcopysign (fsub x (ftrunc x)) x) 13826050856027422720) = false) : CallR Try.prog false 32 [Value.float .f64 x] σ (Value.float .f64 (fadd (fcopysign (fsub x (ftrunc x)) x) 0)) σ := CallR.of_DO_pure (C := dL3a) dL3a_ok Try.func32 wWrap_fok (n := 100) (orc := [(10, Item.br false), (14, Item.res (Value.tuple { toList := [Value.float .f64 (ftrunc x), Value.float .f64 (fcopysign (fsub x (ftrunc x)) x)] })), (31, Item.br false), (38, Item.br false)]) (ps := [(bP (!feq (fsub x x) 0) false), (gP (Value.tuple { toList := [Value.float .f64 (ftrunc x), Value.float .f64 (fcopysign (fsub x (ftrunc x)) x)] }) ([]) (feq (fsub x x) 0)), (bP (fge (fcopysign (fsub x (ftrunc x)) x) 4602678819172646912) false), (bP (flt (fcopysign (fsub x (ftrunc x)) x) 13826050856027422720) false)]) (σ1 := []) (by kernel_rfl) ⟨bP_of (fun x => !x) h0, ⟨gP_true _ _ h0, ⟨bP_of (fun x => x) h1, ⟨bP_of (fun x => x) h2, trivial⟩⟩⟩⟩ rfl rfl
theorem wWrap_p3 (x : Nat) (σ : AHeap) (h0 : (feq (fsub x x) 0) = false) : CallR Try.prog false 32 [Value.float .f64 x] σ (Value.float .f64 9221120237041090561) σ := CallR.of_DO_pure (C := dL3a) dL3a_ok Try.func32 wWrap_fok (n := 100) (orc := [(10, Item.br true)]) (ps := [(bP (!feq (fsub x x) 0) true)]) (σ1 := []) (by kernel_rfl) ⟨bP_of (fun x => !x) h0, trivial⟩ rfl rfl
def wWrap_t (x : Nat) : Value := (bif feq (fsub x x) 0 then (bif fge (fcopysign (fsub x (ftrunc x)) x) 4602678819172646912 then (Value.float .f64 (fadd (fsub (fcopysign (fsub x (ftrunc x)) x) 4607182418800017408) 0)) else (bif flt (fcopysign (fsub x (ftrunc x)) x) 13826050856027422720 then (Value.float .f64 (fadd (fadd (fcopysign (fsub x (ftrunc x)) x) 4607182418800017408) 0)) else (Value.float .f64 (fadd (fcopysign (fsub x (ftrunc x)) x) 0)))) else (Value.float .f64 9221120237041090561))
theorem wWrap_c (x : Nat) (σ : AHeap) : CallR Try.prog false 32 [Value.float .f64 x] σ (wWrap_t x) σ := by
  unfold wWrap_t
  exact (CallR.bif (fun h0 => (CallR.bif (fun h1 => (wWrap_p0 x σ h0 h1)) (fun h1 => (CallR.bif (fun h2 => (wWrap_p1 x σ h0 h1 h2)) (fun h2 => (wWrap_p2 x σ h0 h1 h2)))))) (fun h0 => (wWrap_p3 x σ h0)))
def wWrap_0 (x : Nat) : Nat := (bif feq (fsub x x) 0 then (bif fge (fcopysign (fsub x (ftrunc x)) x) 4602678819172646912 then fadd (fsub (fcopysign (fsub x (ftrunc x)) x) 4607182418800017408) 0 else (bif flt (fcopysign (fsub x (ftrunc x)) x) 13826050856027422720 then fadd (fadd (fcopysign (fsub x (ftrunc x)) x) 4607182418800017408) 0 else fadd (fcopysign (fsub x (ftrunc x)) x) 0)) else 9221120237041090561)
theorem wWrap_v (x : Nat) : wWrap_t x = Go.Value.float Go.FloatKind.f64 (wWrap_0 x) := by
  unfold wWrap_t wWrap_0
  cases (feq (fsub x x) 0) with
  | true =>
    cases (fge (fcopysign (fsub x (ftrunc x)) x) 4602678819172646912) with
    | true =>
      kernel_rfl
    | false =>
      cases (flt (fcopysign (fsub x (ftrunc x)) x) 13826050856027422720) with
      | true =>
        kernel_rfl
      | false =>
        kernel_rfl
  | false =>
    kernel_rfl
theorem wWrap_ok (x : Nat) (σ : AHeap) : CallR Try.prog false 32 [Value.float .f64
    x] σ (Go.Value.float Go.FloatKind.f64 (wWrap_0 x)) σ := by
  have h := wWrap_c x σ
  rw [wWrap_v] at h
  exact h
theorem wWrap_eq (x : Nat) : wWrap_0 x = wrapP x := by
  unfold wWrap_0 wrapP wStep half fone mhalf
  cases feq (fsub x x) 0
  · rfl
  · cases fge (fcopysign (fsub x (ftrunc x)) x) 4602678819172646912
    · cases flt (fcopysign (fsub x (ftrunc x)) x) 13826050856027422720 <;> rfl
    · rfl
theorem rIsNaN_fok : fnOk (dL3a) Try.f127 = true := by kernel_rfl
theorem rIsNaN_p0 (x : Nat) (σ : AHeap) : CallR Try.prog false 127 [Value.float .f64 x] σ (Value.bool !feq x x) σ := CallR.of_DO_pure (C := dL3a) dL3a_ok Try.func127 rIsNaN_fok (n := 100) (orc := []) (ps := []) (σ1 := []) (by kernel_rfl) trivial rfl rfl
def rIsNaN_t (x : Nat) : Value := (Value.bool !feq x x)
theorem rIsNaN_c (x : Nat) (σ : AHeap) : CallR Try.prog false 127 [Value.float .f64 x] σ (rIsNaN_t x) σ := by
  unfold rIsNaN_t
  exact (rIsNaN_p0 x σ)
end Go.Lk
end

section
/- Turn, Unit; the document's. -/
namespace Go.Lk
open Go.Proofs
set_option maxRecDepth 100000

set_option maxHeartbeats 0
set_option linter.unusedVariables false
set_option linter.unusedSimpArgs false
def sWrap : PureFn
  | [.float .f64 x] => some (.float .f64 (wrapP x))
  | _ => none
theorem sWrap_ok : IsPure Try.prog false 32 sWrap := by
  intro args v σ h
  unfold sWrap at h
  split at h
  · cases h; rw [← wWrap_eq]; exact wWrap_ok _ σ
  · cases h
def sIsNaN : PureFn
  | [.float .f64 x] => some (.bool (!feq x x))
  | _ => none
theorem sIsNaN_ok : IsPure Try.prog false 127 sIsNaN := by
  intro args v σ h
  unfold sIsNaN at h
  split at h
  · cases h; exact rIsNaN_c _ σ
  · cases h
noncomputable def t4 : Tab := ((t3.addP 32 sWrap).addP 127 sIsNaN)
theorem t4_ok : t4.Ok Try.prog false := (Tab.Ok.addP (Tab.Ok.addP t3_ok sWrap_ok) sIsNaN_ok)
noncomputable def L4 : Lib := ⟨Try.prog, false, t4, [(181, Try.f181), (160, Try.f160), (55, Try.f55), (33, Try.f33), (128, Try.f128), (207, Try.f207), (122, Try.f122), (135, Try.f135)], [(183, true, Try.f183)]⟩
theorem L4_fp : ∀ e, e ∈ L4.pures → Try.prog.funcs[e.1]? = some e.2 := fs_cons Try.func181 (fs_cons Try.func160 (fs_cons Try.func55 (fs_cons Try.func33 (fs_cons Try.func128 (fs_cons Try.func207 (fs_cons Try.func122 (fs_cons Try.func135 (fs_nil))))))))
theorem L4_fh : ∀ e, e ∈ L4.heaps → Try.prog.funcs[e.1]? = some e.2.2 := gs_cons Try.func183 (gs_nil)
theorem L4_p1 (gp : Nat → PureFn) (g : Nat → HeapFn) : (L4.pures.all fun e => fnOk (L4.mk' gp g) e.2) = true := by kernel_rfl
theorem L4_h1 (gp : Nat → PureFn) (g : Nat → HeapFn) : (L4.heaps.all fun e => fnOk (L4.mk' gp g) e.2.2 && (!e.2.1 || fnRo (L4.mk' gp g) e.2.2)) = true := by kernel_rfl
theorem L4_ok : L4.Ok := ⟨t4_ok, mixed, L4_fp, L4_fh, L4_p1, L4_h1⟩
noncomputable def dL4 : Cfg := L4.cfg 100 4
theorem dL4_ok : dL4.Ok := L4_ok.cfg 100 4

theorem wEighth_fok : fnOk (dL4) Try.f125 = true := by kernel_rfl
theorem wEighth_p0 (a : Nat) (σ : AHeap) (h0 : (feq a 4593671619917905920) = true) : CallR Try.prog false 125 [Value.float .f64 a] σ (Value.complex .f64 4604544271217802189 4604544271217802189) σ := CallR.of_DO_pure (C := dL4) dL4_ok Try.func125 wEighth_fok (n := 100) (orc := [(6, Item.br true)]) (ps := [(bP (feq a 4593671619917905920) true)]) (σ1 := []) (by kernel_rfl) ⟨bP_of (fun x => x) h0, trivial⟩ rfl rfl
theorem wEighth_p1 (a : Nat) (σ : AHeap) (h0 : (feq a 4593671619917905920) = false) : CallR Try.prog false 125 [Value.float .f64 a] σ (Value.complex .f64 (fadd (fmul (fadd (fmul (fadd (fmul (fadd (fmul (fadd (fmul (fadd (fmul (fadd (fmul (fadd (fmul 4407590220077447199 (fmul (fmul a 4618760256179416344) (fmul a 4618760256179416344))) 13666517717442657437) (fmul (fmul a 4618760256179416344) (fmul a 4618760256179416344))) 4477122120089393304) (fmul (fmul a 4618760256179416344) (fmul a 4618760256179416344))) 13732177094651715420) (fmul (fmul a 4618760256179416344) (fmul a 4618760256179416344))) 4537941361671905306) (fmul (fmul a 4618760256179416344) (fmul a 4618760256179416344))) 13787419979223755799) (fmul (fmul a 4618760256179416344) (fmul a 4618760256179416344))) 4586165620538955093) (fmul (fmul a 4618760256179416344) (fmul a 4618760256179416344))) 13826050856027422720) (fmul (fmul a 4618760256179416344) (fmul a 4618760256179416344))) 4607182418800017408) (fmul (fadd (fmul (fadd (fmul (fadd (fmul (fadd (fmul (fadd (fmul (fadd (fmul (fadd (fmul (fadd (fmul 4389130328383466826 (fmul (fmul a 4618760256179416344) (fmul a 4618760256179416344))) 13648976655441704991) (fmul (fmul a 4618760256179416344) (fmul a 4618760256179416344))) 4460272573143870729) (fmul (fmul a 4618760256179416344) (fmul a 4618760256179416344))) 13716528800881525988) (fmul (fmul a 4618760256179416344) (fmul a 4618760256179416344))) 4523617214285662004) (fmul (fmul a 4618760256179416344) (fmul a 4618760256179416344))) 13774824197408792602) (fmul (fmul a 4618760256179416344) (fmul a 4618760256179416344))) 4575957461383581969) (fmul (fmul a 4618760256179416344) (fmul a 4618760256179416344))) 13818544856648471893) (fmul (fmul a 4618760256179416344) (fmul a 4618760256179416344))) 4607182418800017408) (fmul a 4618760256179416344))) σ := CallR.of_DO_pure (C := dL4) dL4_ok Try.func125 wEighth_fok (n := 100) (orc := [(6, Item.br false)]) (ps := [(bP (feq a 4593671619917905920) false)]) (σ1 := [AObj.row [Value.float .f64 4607182418800017408, Value.float .f64 13818544856648471893, Value.float .f64 4575957461383581969, Value.float .f64 13774824197408792602, Value.float .f64 4523617214285662004, Value.float .f64 13716528800881525988, Value.float .f64 4460272573143870729, Value.float .f64 13648976655441704991, Value.float .f64 4389130328383466826, Value.float .f64 0, Value.float .f64 0, Value.float .f64 0, Value.float .f64 0, Value.float .f64 0, Value.float .f64 0, Value.float .f64 0, Value.float .f64 0, Value.float .f64 0, Value.float .f64 0, Value.float .f64 0, Value.float .f64 0, Value.float .f64 0, Value.float .f64 0, Value.float .f64 0] true none, AObj.row [Value.float .f64 4607182418800017408, Value.float .f64 13826050856027422720, Value.float .f64 4586165620538955093, Value.float .f64 13787419979223755799, Value.float .f64 4537941361671905306, Value.float .f64 13732177094651715420, Value.float .f64 4477122120089393304, Value.float .f64 13666517717442657437, Value.float .f64 4407590220077447199, Value.float .f64 0, Value.float .f64 0, Value.float .f64 0, Value.float .f64 0, Value.float .f64 0, Value.float .f64 0, Value.float .f64 0, Value.float .f64 0, Value.float .f64 0, Value.float .f64 0, Value.float .f64 0, Value.float .f64 0, Value.float .f64 0, Value.float .f64 0, Value.float .f64 0] true none]) (by kernel_rfl) ⟨bP_of (fun x => x) h0, trivial⟩ rfl rfl
def wEighth_t (a : Nat) : Value := (bif feq a 4593671619917905920 then (Value.complex .f64 4604544271217802189 4604544271217802189) else (Value.complex .f64 (fadd (fmul (fadd (fmul (fadd (fmul (fadd (fmul (fadd (fmul (fadd (fmul (fadd (fmul (fadd (fmul 4407590220077447199 (fmul (fmul a 4618760256179416344) (fmul a 4618760256179416344))) 13666517717442657437) (fmul (fmul a 4618760256179416344) (fmul a 4618760256179416344))) 4477122120089393304) (fmul (fmul a 4618760256179416344) (fmul a 4618760256179416344))) 13732177094651715420) (fmul (fmul a 4618760256179416344) (fmul a 4618760256179416344))) 4537941361671905306) (fmul (fmul a 4618760256179416344) (fmul a 4618760256179416344))) 13787419979223755799) (fmul (fmul a 4618760256179416344) (fmul a 4618760256179416344))) 4586165620538955093) (fmul (fmul a 4618760256179416344) (fmul a 4618760256179416344))) 13826050856027422720) (fmul (fmul a 4618760256179416344) (fmul a 4618760256179416344))) 4607182418800017408) (fmul (fadd (fmul (fadd (fmul (fadd (fmul (fadd (fmul (fadd (fmul (fadd (fmul (fadd (fmul (fadd (fmul 4389130328383466826 (fmul (fmul a 4618760256179416344) (fmul a 4618760256179416344))) 13648976655441704991) (fmul (fmul a 4618760256179416344) (fmul a 4618760256179416344))) 4460272573143870729) (fmul (fmul a 4618760256179416344) (fmul a 4618760256179416344))) 13716528800881525988) (fmul (fmul a 4618760256179416344) (fmul a 4618760256179416344))) 4523617214285662004) (fmul (fmul a 4618760256179416344) (fmul a 4618760256179416344))) 13774824197408792602) (fmul (fmul a 4618760256179416344) (fmul a 4618760256179416344))) 4575957461383581969) (fmul (fmul a 4618760256179416344) (fmul a 4618760256179416344))) 13818544856648471893) (fmul (fmul a 4618760256179416344) (fmul a 4618760256179416344))) 4607182418800017408) (fmul a 4618760256179416344))))
theorem wEighth_c (a : Nat) (σ : AHeap) : CallR Try.prog false 125 [Value.float .f64 a] σ (wEighth_t a) σ := by
  unfold wEighth_t
  exact (CallR.bif (fun h0 => (wEighth_p0 a σ h0)) (fun h0 => (wEighth_p1 a σ h0)))
def wEighth_0 (a : Nat) : Nat := (bif feq a 4593671619917905920 then 4604544271217802189 else fadd (fmul (fadd (fmul (fadd (fmul (fadd (fmul (fadd (fmul (fadd (fmul (fadd (fmul (fadd (fmul 4407590220077447199 (fmul (fmul a 4618760256179416344) (fmul a 4618760256179416344))) 13666517717442657437) (fmul (fmul a 4618760256179416344) (fmul a 4618760256179416344))) 4477122120089393304) (fmul (fmul a 4618760256179416344) (fmul a 4618760256179416344))) 13732177094651715420) (fmul (fmul a 4618760256179416344) (fmul a 4618760256179416344))) 4537941361671905306) (fmul (fmul a 4618760256179416344) (fmul a 4618760256179416344))) 13787419979223755799) (fmul (fmul a 4618760256179416344) (fmul a 4618760256179416344))) 4586165620538955093) (fmul (fmul a 4618760256179416344) (fmul a 4618760256179416344))) 13826050856027422720) (fmul (fmul a 4618760256179416344) (fmul a 4618760256179416344))) 4607182418800017408)
def wEighth_1 (a : Nat) : Nat := (bif feq a 4593671619917905920 then 4604544271217802189 else fmul (fadd (fmul (fadd (fmul (fadd (fmul (fadd (fmul (fadd (fmul (fadd (fmul (fadd (fmul (fadd (fmul 4389130328383466826 (fmul (fmul a 4618760256179416344) (fmul a 4618760256179416344))) 13648976655441704991) (fmul (fmul a 4618760256179416344) (fmul a 4618760256179416344))) 4460272573143870729) (fmul (fmul a 4618760256179416344) (fmul a 4618760256179416344))) 13716528800881525988) (fmul (fmul a 4618760256179416344) (fmul a 4618760256179416344))) 4523617214285662004) (fmul (fmul a 4618760256179416344) (fmul a 4618760256179416344))) 13774824197408792602) (fmul (fmul a 4618760256179416344) (fmul a 4618760256179416344))) 4575957461383581969) (fmul (fmul a 4618760256179416344) (fmul a 4618760256179416344))) 13818544856648471893) (fmul (fmul a 4618760256179416344) (fmul a 4618760256179416344))) 4607182418800017408) (fmul a 4618760256179416344))
theorem wEighth_v (a : Nat) : wEighth_t a = Go.Value.complex Go.FloatKind.f64 (wEighth_0 a) (wEighth_1 a) := by
  unfold wEighth_t wEighth_0 wEighth_1
  cases (feq a 4593671619917905920) with
  | true =>
    kernel_rfl
  | false =>
    kernel_rfl
theorem wEighth_ok (a : Nat) (σ : AHeap) : CallR Try.prog false 125 [Value.float .f64
    a] σ (Go.Value.complex Go.FloatKind.f64 (wEighth_0 a) (wEighth_1 a)) σ := by
  have h := wEighth_c a σ
  rw [wEighth_v] at h
  exact h
def sEighth : PureFn
  | [.float .f64 x] => some (.complex .f64 (wEighth_0 x) (wEighth_1 x))
  | _ => none
theorem sEighth_ok : IsPure Try.prog false 125 sEighth := by
  intro args v σ h
  unfold sEighth at h
  split at h
  · cases h; exact wEighth_ok _ σ
  · cases h
noncomputable def t5 : Tab := (t4.addP 125 sEighth)
theorem t5_ok : t5.Ok Try.prog false := (Tab.Ok.addP t4_ok sEighth_ok)
noncomputable def L5 : Lib := ⟨Try.prog, false, t5, [(181, Try.f181), (160, Try.f160), (55, Try.f55), (33, Try.f33), (128, Try.f128), (207, Try.f207), (122, Try.f122), (135, Try.f135)], [(183, true, Try.f183)]⟩
theorem L5_fp : ∀ e, e ∈ L5.pures → Try.prog.funcs[e.1]? = some e.2 := fs_cons Try.func181 (fs_cons Try.func160 (fs_cons Try.func55 (fs_cons Try.func33 (fs_cons Try.func128 (fs_cons Try.func207 (fs_cons Try.func122 (fs_cons Try.func135 (fs_nil))))))))
theorem L5_fh : ∀ e, e ∈ L5.heaps → Try.prog.funcs[e.1]? = some e.2.2 := gs_cons Try.func183 (gs_nil)
theorem L5_p1 (gp : Nat → PureFn) (g : Nat → HeapFn) : (L5.pures.all fun e => fnOk (L5.mk' gp g) e.2) = true := by kernel_rfl
theorem L5_h1 (gp : Nat → PureFn) (g : Nat → HeapFn) : (L5.heaps.all fun e => fnOk (L5.mk' gp g) e.2.2 && (!e.2.1 || fnRo (L5.mk' gp g) e.2.2)) = true := by kernel_rfl
theorem L5_ok : L5.Ok := ⟨t5_ok, mixed, L5_fp, L5_fh, L5_p1, L5_h1⟩
noncomputable def dL5 : Cfg := L5.cfg 100 4
theorem dL5_ok : dL5.Ok := L5_ok.cfg 100 4

theorem wTurn_fok : fnOk (dL5) Try.f36 = true := by kernel_rfl
theorem wTurn_p0 (x : Nat) (σ : AHeap) (h0 : (feq (wrapP x) (wrapP x)) = true) (h1 : (fgt (fabs (wrapP x)) 4598175219545276416) = true) (h2 : (fgt (fsub 4602678819172646912 (fabs (wrapP x))) 4593671619917905920) = true) (h3 : (flt (wrapP x) 0) = true) : CallR Try.prog false 36 [Value.float .f64 x] σ (Value.complex .f64 (fadd (aneg false (wEighth_1 (fsub 4598175219545276416 (fsub 4602678819172646912 (fabs (wrapP x)))))) 0) (fadd (aneg false (wEighth_0 (fsub 4598175219545276416 (fsub 4602678819172646912 (fabs (wrapP x)))))) 0)) σ := CallR.of_DO_pure (C := dL5) dL5_ok Try.func36 wTurn_fok (n := 100) (orc := [(14, Item.br false), (29, Item.br true), (44, Item.br true), (59, Item.br true), (74, Item.br true), (93, Item.br true)]) (ps := [(bP (!feq (wrapP x) (wrapP x)) false), (bP (fgt (fabs (wrapP x)) 4598175219545276416) true), (bP (fgt (fsub 4602678819172646912 (fabs (wrapP x))) 4593671619917905920) true), (bP (fgt (fsub 4602678819172646912 (fabs (wrapP x))) 4593671619917905920) true), (bP (fgt (fabs (wrapP x)) 4598175219545276416) true), (bP (flt (wrapP x) 0) true)]) (σ1 := []) (by kernel_rfl) ⟨bP_of (fun x => !x) h0, ⟨bP_of (fun x => x) h1, ⟨bP_of (fun x => x) h2, ⟨bP_of (fun x => x) h2, ⟨bP_of (fun x => x) h1, ⟨bP_of (fun x => x) h3, trivial⟩⟩⟩⟩⟩⟩ rfl rfl
theorem wTurn_p1 (x : Nat) (σ : AHeap) (h0 : (feq (wrapP x) (wrapP x)) = true) (h1 : (fgt (fabs (wrapP x)) 4598175219545276416) = true) (h2 : (fgt (fsub 4602678819172646912 (fabs (wrapP x))) 4593671619917905920) = true) (h3 : (flt (wrapP x) 0) = false) : CallR Try.prog false 36 [Value.float .f64 x] σ (Value.complex .f64 (fadd (aneg false (wEighth_1 (fsub 4598175219545276416 (fsub 4602678819172646912 (fabs (wrapP x)))))) 0) (fadd (wEighth_0 (fsub 4598175219545276416 (fsub 4602678819172646912 (fabs (wrapP x))))) 0)) σ := CallR.of_DO_pure (C := dL5) dL5_ok Try.func36 wTurn_fok (n := 100) (orc := [(14, Item.br false), (29, Item.br true), (44, Item.br true), (59, Item.br true), (74, Item.br true), (93, Item.br false)]) (ps := [(bP (!feq (wrapP x) (wrapP x)) false), (bP (fgt (fabs (wrapP x)) 4598175219545276416) true), (bP (fgt (fsub 4602678819172646912 (fabs (wrapP x))) 4593671619917905920) true), (bP (fgt (fsub 4602678819172646912 (fabs (wrapP x))) 4593671619917905920) true), (bP (fgt (fabs (wrapP x)) 4598175219545276416) true), (bP (flt (wrapP x) 0) false)]) (σ1 := []) (by kernel_rfl) ⟨bP_of (fun x => !x) h0, ⟨bP_of (fun x => x) h1, ⟨bP_of (fun x => x) h2, ⟨bP_of (fun x => x) h2, ⟨bP_of (fun x => x) h1, ⟨bP_of (fun x => x) h3, trivial⟩⟩⟩⟩⟩⟩ rfl rfl
theorem wTurn_p2 (x : Nat) (σ : AHeap) (h0 : (feq (wrapP x) (wrapP x)) = true) (h1 : (fgt (fabs (wrapP x)) 4598175219545276416) = true) (h2 : (fgt (fsub 4602678819172646912 (fabs (wrapP x))) 4593671619917905920) = false) (h3 : (flt (wrapP x) 0) = true) : CallR Try.prog false 36 [Value.float .f64 x] σ (Value.complex .f64 (fadd (aneg false (wEighth_0 (fsub 4602678819172646912 (fabs (wrapP x))))) 0) (fadd (aneg false (wEighth_1 (fsub 4602678819172646912 (fabs (wrapP x))))) 0)) σ := CallR.of_DO_pure (C := dL5) dL5_ok Try.func36 wTurn_fok (n := 100) (orc := [(14, Item.br false), (29, Item.br true), (44, Item.br false), (53, Item.br false), (56, Item.br true), (75, Item.br true)]) (ps := [(bP (!feq (wrapP x) (wrapP x)) false), (bP (fgt (fabs (wrapP x)) 4598175219545276416) true), (bP (fgt (fsub 4602678819172646912 (fabs (wrapP x))) 4593671619917905920) false), (bP (fgt (fsub 4602678819172646912 (fabs (wrapP x))) 4593671619917905920) false), (bP (fgt (fabs (wrapP x)) 4598175219545276416) true), (bP (flt (wrapP x) 0) true)]) (σ1 := []) (by kernel_rfl) ⟨bP_of (fun x => !x) h0, ⟨bP_of (fun x => x) h1, ⟨bP_of (fun x => x) h2, ⟨bP_of (fun x => x) h2, ⟨bP_of (fun x => x) h1, ⟨bP_of (fun x => x) h3, trivial⟩⟩⟩⟩⟩⟩ rfl rfl
theorem wTurn_p3 (x : Nat) (σ : AHeap) (h0 : (feq (wrapP x) (wrapP x)) = true) (h1 : (fgt (fabs (wrapP x)) 4598175219545276416) = true) (h2 : (fgt (fsub 4602678819172646912 (fabs (wrapP x))) 4593671619917905920) = false) (h3 : (flt (wrapP x) 0) = false) : CallR Try.prog false 36 [Value.float .f64 x] σ (Value.complex .f64 (fadd (aneg false (wEighth_0 (fsub 4602678819172646912 (fabs (wrapP x))))) 0) (fadd (wEighth_1 (fsub 4602678819172646912 (fabs (wrapP x)))) 0)) σ := CallR.of_DO_pure (C := dL5) dL5_ok Try.func36 wTurn_fok (n := 100) (orc := [(14, Item.br false), (29, Item.br true), (44, Item.br false), (53, Item.br false), (56, Item.br true), (75, Item.br false)]) (ps := [(bP (!feq (wrapP x) (wrapP x)) false), (bP (fgt (fabs (wrapP x)) 4598175219545276416) true), (bP (fgt (fsub 4602678819172646912 (fabs (wrapP x))) 4593671619917905920) false), (bP (fgt (fsub 4602678819172646912 (fabs (wrapP x))) 4593671619917905920) false), (bP (fgt (fabs (wrapP x)) 4598175219545276416) true), (bP (flt (wrapP x) 0) false)]) (σ1 := []) (by kernel_rfl) ⟨bP_of (fun x => !x) h0, ⟨bP_of (fun x => x) h1, ⟨bP_of (fun x => x) h2, ⟨bP_of (fun x => x) h2, ⟨bP_of (fun x => x) h1, ⟨bP_of (fun x => x) h3, trivial⟩⟩⟩⟩⟩⟩ rfl rfl
theorem wTurn_p4 (x : Nat) (σ : AHeap) (h0 : (feq (wrapP x) (wrapP x)) = true) (h1 : (fgt (fabs (wrapP x)) 4598175219545276416) = false) (h2 : (fgt (fabs (wrapP x)) 4593671619917905920) = true) (h3 : (flt (wrapP x) 0) = true) : CallR Try.prog false 36 [Value.float .f64 x] σ (Value.complex .f64 (fadd (wEighth_1 (fsub 4598175219545276416 (fabs (wrapP x)))) 0) (fadd (aneg false (wEighth_0 (fsub 4598175219545276416 (fabs (wrapP x))))) 0)) σ := CallR.of_DO_pure (C := dL5) dL5_ok Try.func36 wTurn_fok (n := 100) (orc := [(14, Item.br false), (29, Item.br false), (38, Item.br true), (53, Item.br true), (68, Item.br false), (73, Item.br true)]) (ps := [(bP (!feq (wrapP x) (wrapP x)) false), (bP (fgt (fabs (wrapP x)) 4598175219545276416) false), (bP (fgt (fabs (wrapP x)) 4593671619917905920) true), (bP (fgt (fabs (wrapP x)) 4593671619917905920) true), (bP (fgt (fabs (wrapP x)) 4598175219545276416) false), (bP (flt (wrapP x) 0) true)]) (σ1 := []) (by kernel_rfl) ⟨bP_of (fun x => !x) h0, ⟨bP_of (fun x => x) h1, ⟨bP_of (fun x => x) h2, ⟨bP_of (fun x => x) h2, ⟨bP_of (fun x => x) h1, ⟨bP_of (fun x => x) h3, trivial⟩⟩⟩⟩⟩⟩ rfl rfl
theorem wTurn_p5 (x : Nat) (σ : AHeap) (h0 : (feq (wrapP x) (wrapP x)) = true) (h1 : (fgt (fabs (wrapP x)) 4598175219545276416) = false) (h2 : (fgt (fabs (wrapP x)) 4593671619917905920) = true) (h3 : (flt (wrapP x) 0) = false) : CallR Try.prog false 36 [Value.float .f64 x] σ (Value.complex .f64 (fadd (wEighth_1 (fsub 4598175219545276416 (fabs (wrapP x)))) 0) (fadd (wEighth_0 (fsub 4598175219545276416 (fabs (wrapP x)))) 0)) σ := CallR.of_DO_pure (C := dL5) dL5_ok Try.func36 wTurn_fok (n := 100) (orc := [(14, Item.br false), (29, Item.br false), (38, Item.br true), (53, Item.br true), (68, Item.br false), (73, Item.br false)]) (ps := [(bP (!feq (wrapP x) (wrapP x)) false), (bP (fgt (fabs (wrapP x)) 4598175219545276416) false), (bP (fgt (fabs (wrapP x)) 4593671619917905920) true), (bP (fgt (fabs (wrapP x)) 4593671619917905920) true), (bP (fgt (fabs (wrapP x)) 4598175219545276416) false), (bP (flt (wrapP x) 0) false)]) (σ1 := []) (by kernel_rfl) ⟨bP_of (fun x => !x) h0, ⟨bP_of (fun x => x) h1, ⟨bP_of (fun x => x) h2, ⟨bP_of (fun x => x) h2, ⟨bP_of (fun x => x) h1, ⟨bP_of (fun x => x) h3, trivial⟩⟩⟩⟩⟩⟩ rfl rfl
theorem wTurn_p6 (x : Nat) (σ : AHeap) (h0 : (feq (wrapP x) (wrapP x)) = true) (h1 : (fgt (fabs (wrapP x)) 4598175219545276416) = false) (h2 : (fgt (fabs (wrapP x)) 4593671619917905920) = false) (h3 : (flt (wrapP x) 0) = true) : CallR Try.prog false 36 [Value.float .f64 x] σ (Value.complex .f64 (fadd (wEighth_0 (fabs (wrapP x))) 0) (fadd (aneg false (wEighth_1 (fabs (wrapP x)))) 0)) σ := CallR.of_DO_pure (C := dL5) dL5_ok Try.func36 wTurn_fok (n := 100) (orc := [(14, Item.br false), (29, Item.br false), (38, Item.br false), (47, Item.br false), (50, Item.br false), (55, Item.br true)]) (ps := [(bP (!feq (wrapP x) (wrapP x)) false), (bP (fgt (fabs (wrapP x)) 4598175219545276416) false), (bP (fgt (fabs (wrapP x)) 4593671619917905920) false), (bP (fgt (fabs (wrapP x)) 4593671619917905920) false), (bP (fgt (fabs (wrapP x)) 4598175219545276416) false), (bP (flt (wrapP x) 0) true)]) (σ1 := []) (by kernel_rfl) ⟨bP_of (fun x => !x) h0, ⟨bP_of (fun x => x) h1, ⟨bP_of (fun x => x) h2, ⟨bP_of (fun x => x) h2, ⟨bP_of (fun x => x) h1, ⟨bP_of (fun x => x) h3, trivial⟩⟩⟩⟩⟩⟩ rfl rfl
theorem wTurn_p7 (x : Nat) (σ : AHeap) (h0 : (feq (wrapP x) (wrapP x)) = true) (h1 : (fgt (fabs (wrapP x)) 4598175219545276416) = false) (h2 : (fgt (fabs (wrapP x)) 4593671619917905920) = false) (h3 : (flt (wrapP x) 0) = false) : CallR Try.prog false 36 [Value.float .f64 x] σ (Value.complex .f64 (fadd (wEighth_0 (fabs (wrapP x))) 0) (fadd (wEighth_1 (fabs (wrapP x))) 0)) σ := CallR.of_DO_pure (C := dL5) dL5_ok Try.func36 wTurn_fok (n := 100) (orc := [(14, Item.br false), (29, Item.br false), (38, Item.br false), (47, Item.br false), (50, Item.br false), (55, Item.br false)]) (ps := [(bP (!feq (wrapP x) (wrapP x)) false), (bP (fgt (fabs (wrapP x)) 4598175219545276416) false), (bP (fgt (fabs (wrapP x)) 4593671619917905920) false), (bP (fgt (fabs (wrapP x)) 4593671619917905920) false), (bP (fgt (fabs (wrapP x)) 4598175219545276416) false), (bP (flt (wrapP x) 0) false)]) (σ1 := []) (by kernel_rfl) ⟨bP_of (fun x => !x) h0, ⟨bP_of (fun x => x) h1, ⟨bP_of (fun x => x) h2, ⟨bP_of (fun x => x) h2, ⟨bP_of (fun x => x) h1, ⟨bP_of (fun x => x) h3, trivial⟩⟩⟩⟩⟩⟩ rfl rfl
theorem wTurn_p8 (x : Nat) (σ : AHeap) (h0 : (feq (wrapP x) (wrapP x)) = false) : CallR Try.prog false 36 [Value.float .f64 x] σ (Value.complex .f64 (wrapP x) (wrapP x)) σ := CallR.of_DO_pure (C := dL5) dL5_ok Try.func36 wTurn_fok (n := 100) (orc := [(14, Item.br true)]) (ps := [(bP (!feq (wrapP x) (wrapP x)) true)]) (σ1 := []) (by kernel_rfl) ⟨bP_of (fun x => !x) h0, trivial⟩ rfl rfl
def wTurn_t (x : Nat) : Value := (bif feq (wrapP x) (wrapP x) then (bif fgt (fabs (wrapP x)) 4598175219545276416 then (bif fgt (fsub 4602678819172646912 (fabs (wrapP x))) 4593671619917905920 then (bif flt (wrapP x) 0 then (Value.complex .f64 (fadd (aneg false (wEighth_1 (fsub 4598175219545276416 (fsub 4602678819172646912 (fabs (wrapP x)))))) 0) (fadd (aneg false (wEighth_0 (fsub 4598175219545276416 (fsub 4602678819172646912 (fabs (wrapP x)))))) 0)) else (Value.complex .f64 (fadd (aneg false (wEighth_1 (fsub 4598175219545276416 (fsub 4602678819172646912 (fabs (wrapP x)))))) 0) (fadd (wEighth_0 (fsub 4598175219545276416 (fsub 4602678819172646912 (fabs (wrapP x))))) 0))) else (bif flt (wrapP x) 0 then (Value.complex .f64 (fadd (aneg false (wEighth_0 (fsub 4602678819172646912 (fabs (wrapP x))))) 0) (fadd (aneg false (wEighth_1 (fsub 4602678819172646912 (fabs (wrapP x))))) 0)) else (Value.complex .f64 (fadd (aneg false (wEighth_0 (fsub 4602678819172646912 (fabs (wrapP x))))) 0) (fadd (wEighth_1 (fsub 4602678819172646912 (fabs (wrapP x)))) 0)))) else (bif fgt (fabs (wrapP x)) 4593671619917905920 then (bif flt (wrapP x) 0 then (Value.complex .f64 (fadd (wEighth_1 (fsub 4598175219545276416 (fabs (wrapP x)))) 0) (fadd (aneg false (wEighth_0 (fsub 4598175219545276416 (fabs (wrapP x))))) 0)) else (Value.complex .f64 (fadd (wEighth_1 (fsub 4598175219545276416 (fabs (wrapP x)))) 0) (fadd (wEighth_0 (fsub 4598175219545276416 (fabs (wrapP x)))) 0))) else (bif flt (wrapP x) 0 then (Value.complex .f64 (fadd (wEighth_0 (fabs (wrapP x))) 0) (fadd (aneg false (wEighth_1 (fabs (wrapP x)))) 0)) else (Value.complex .f64 (fadd (wEighth_0 (fabs (wrapP x))) 0) (fadd (wEighth_1 (fabs (wrapP x))) 0))))) else (Value.complex .f64 (wrapP x) (wrapP x)))
theorem wTurn_c (x : Nat) (σ : AHeap) : CallR Try.prog false 36 [Value.float .f64 x] σ (wTurn_t x) σ := by
  unfold wTurn_t
  exact (CallR.bif (fun h0 => (CallR.bif (fun h1 => (CallR.bif (fun h2 => (CallR.bif (fun h3 => (wTurn_p0 x σ h0 h1 h2 h3)) (fun h3 => (wTurn_p1 x σ h0 h1 h2 h3)))) (fun h2 => (CallR.bif (fun h3 => (wTurn_p2 x σ h0 h1 h2 h3)) (fun h3 => (wTurn_p3 x σ h0 h1 h2 h3)))))) (fun h1 => (CallR.bif (fun h2 => (CallR.bif (fun h3 => (wTurn_p4 x σ h0 h1 h2 h3)) (fun h3 => (wTurn_p5 x σ h0 h1 h2 h3)))) (fun h2 => (CallR.bif (fun h3 => (wTurn_p6 x σ h0 h1 h2 h3)) (fun h3 => (wTurn_p7 x σ h0 h1 h2 h3)))))))) (fun h0 => (wTurn_p8 x σ h0)))
def wTurn_0 (x : Nat) : Nat := (bif feq (wrapP x) (wrapP x) then (bif fgt (fabs (wrapP x)) 4598175219545276416 then (bif fgt (fsub 4602678819172646912 (fabs (wrapP x))) 4593671619917905920 then (bif flt (wrapP x) 0 then fadd (aneg false (wEighth_1 (fsub 4598175219545276416 (fsub 4602678819172646912 (fabs (wrapP x)))))) 0 else fadd (aneg false (wEighth_1 (fsub 4598175219545276416 (fsub 4602678819172646912 (fabs (wrapP x)))))) 0) else (bif flt (wrapP x) 0 then fadd (aneg false (wEighth_0 (fsub 4602678819172646912 (fabs (wrapP x))))) 0 else fadd (aneg false (wEighth_0 (fsub 4602678819172646912 (fabs (wrapP x))))) 0)) else (bif fgt (fabs (wrapP x)) 4593671619917905920 then (bif flt (wrapP x) 0 then fadd (wEighth_1 (fsub 4598175219545276416 (fabs (wrapP x)))) 0 else fadd (wEighth_1 (fsub 4598175219545276416 (fabs (wrapP x)))) 0) else (bif flt (wrapP x) 0 then fadd (wEighth_0 (fabs (wrapP x))) 0 else fadd (wEighth_0 (fabs (wrapP x))) 0))) else wrapP x)
def wTurn_1 (x : Nat) : Nat := (bif feq (wrapP x) (wrapP x) then (bif fgt (fabs (wrapP x)) 4598175219545276416 then (bif fgt (fsub 4602678819172646912 (fabs (wrapP x))) 4593671619917905920 then (bif flt (wrapP x) 0 then fadd (aneg false (wEighth_0 (fsub 4598175219545276416 (fsub 4602678819172646912 (fabs (wrapP x)))))) 0 else fadd (wEighth_0 (fsub 4598175219545276416 (fsub 4602678819172646912 (fabs (wrapP x))))) 0) else (bif flt (wrapP x) 0 then fadd (aneg false (wEighth_1 (fsub 4602678819172646912 (fabs (wrapP x))))) 0 else fadd (wEighth_1 (fsub 4602678819172646912 (fabs (wrapP x)))) 0)) else (bif fgt (fabs (wrapP x)) 4593671619917905920 then (bif flt (wrapP x) 0 then fadd (aneg false (wEighth_0 (fsub 4598175219545276416 (fabs (wrapP x))))) 0 else fadd (wEighth_0 (fsub 4598175219545276416 (fabs (wrapP x)))) 0) else (bif flt (wrapP x) 0 then fadd (aneg false (wEighth_1 (fabs (wrapP x)))) 0 else fadd (wEighth_1 (fabs (wrapP x))) 0))) else wrapP x)
theorem wTurn_v (x : Nat) : wTurn_t x = Go.Value.complex Go.FloatKind.f64 (wTurn_0 x) (wTurn_1 x) := by
  unfold wTurn_t wTurn_0 wTurn_1
  cases (feq (wrapP x) (wrapP x)) with
  | true =>
    cases (fgt (fabs (wrapP x)) 4598175219545276416) with
    | true =>
      cases (fgt (fsub 4602678819172646912 (fabs (wrapP x))) 4593671619917905920) with
      | true =>
        cases (flt (wrapP x) 0) with
        | true =>
          kernel_rfl
        | false =>
          kernel_rfl
      | false =>
        cases (flt (wrapP x) 0) with
        | true =>
          kernel_rfl
        | false =>
          kernel_rfl
    | false =>
      cases (fgt (fabs (wrapP x)) 4593671619917905920) with
      | true =>
        cases (flt (wrapP x) 0) with
        | true =>
          kernel_rfl
        | false =>
          kernel_rfl
      | false =>
        cases (flt (wrapP x) 0) with
        | true =>
          kernel_rfl
        | false =>
          kernel_rfl
  | false =>
    kernel_rfl
theorem wTurn_ok (x : Nat) (σ : AHeap) : CallR Try.prog false 36 [Value.float .f64
    x] σ (Go.Value.complex Go.FloatKind.f64 (wTurn_0 x) (wTurn_1 x)) σ := by
  have h := wTurn_c x σ
  rw [wTurn_v] at h
  exact h
end Go.Lk
end

section
/- Abs, by itself. -/
namespace Go.Lk
open Go.Proofs
set_option maxRecDepth 100000
set_option maxHeartbeats 0
set_option linter.unusedVariables false
set_option linter.unusedSimpArgs false
noncomputable def LBa : Lib := ⟨Try.prog, false, t2, [(128, Try.f128), (159, Try.f159), (160, Try.f160), (33, Try.f33), (55, Try.f55), (127, Try.f127)], []⟩
theorem LBa_fp : ∀ e, e ∈ LBa.pures → Try.prog.funcs[e.1]? = some e.2 := fs_cons Try.func128 (fs_cons Try.func159 (fs_cons Try.func160 (fs_cons Try.func33 (fs_cons Try.func55 (fs_cons Try.func127 (fs_nil))))))
theorem LBa_fh : ∀ e, e ∈ LBa.heaps → Try.prog.funcs[e.1]? = some e.2.2 := gs_nil
theorem LBa_p1 (gp : Nat → PureFn) (g : Nat → HeapFn) : (LBa.pures.all fun e => fnOk (LBa.mk' gp g) e.2) = true := by kernel_rfl
theorem LBa_h1 (gp : Nat → PureFn) (g : Nat → HeapFn) : (LBa.heaps.all fun e => fnOk (LBa.mk' gp g) e.2.2 && (!e.2.1 || fnRo (LBa.mk' gp g) e.2.2)) = true := by kernel_rfl
theorem LBa_ok : LBa.Ok := ⟨t2_ok, mixed, LBa_fp, LBa_fh, LBa_p1, LBa_h1⟩
noncomputable def dLBa : Cfg := LBa.cfg 100 6
theorem dLBa_ok : dLBa.Ok := LBa_ok.cfg 100 6

theorem bKind_fok : fnOk (dLBa) Try.f159 = true := by kernel_rfl
theorem bKind_p0 (a : Nat) (b : Nat) (σ : AHeap) (h0 : (fgt (fabs a) 9218868437227405311) = true) : CallR Try.prog false 159 [Value.complex .f64 a b] σ (Value.int IntKind.i8 (Int.ofNat 1)) σ := CallR.of_DO_pure (C := dLBa) dLBa_ok Try.func159 bKind_fok (n := 100) (orc := [(10, Item.br true), (11, Item.br true)]) (ps := [(bP (fgt (fabs a) 9218868437227405311) true), (bP (fgt (fabs a) 9218868437227405311) true)]) (σ1 := []) (by kernel_rfl) ⟨bP_of (fun x => x) h0, ⟨bP_of (fun x => x) h0, trivial⟩⟩ rfl rfl
theorem bKind_p1 (a : Nat) (b : Nat) (σ : AHeap) (h0 : (fgt (fabs a) 9218868437227405311) = false) (h1 : (fgt (fabs b) 9218868437227405311) = true) : CallR Try.prog false 159 [Value.complex .f64 a b] σ (Value.int IntKind.i8 (Int.ofNat 1)) σ := CallR.of_DO_pure (C := dLBa) dLBa_ok Try.func159 bKind_fok (n := 100) (orc := [(10, Item.br false), (19, Item.br true)]) (ps := [(bP (fgt (fabs a) 9218868437227405311) false), (bP (fgt (fabs b) 9218868437227405311) true)]) (σ1 := []) (by kernel_rfl) ⟨bP_of (fun x => x) h0, ⟨bP_of (fun x => x) h1, trivial⟩⟩ rfl rfl
theorem bKind_p2 (a : Nat) (b : Nat) (σ : AHeap) (h0 : (fgt (fabs a) 9218868437227405311) = false) (h1 : (fgt (fabs b) 9218868437227405311) = false) (h2 : (feq a a) = true) (h3 : (feq b b) = true) : CallR Try.prog false 159 [Value.complex .f64 a b] σ (Value.int IntKind.i8 (Int.ofNat 0)) σ := CallR.of_DO_pure (C := dLBa) dLBa_ok Try.func159 bKind_fok (n := 100) (orc := [(10, Item.br false), (19, Item.br false), (32, Item.br false), (45, Item.br false)]) (ps := [(bP (fgt (fabs a) 9218868437227405311) false), (bP (fgt (fabs b) 9218868437227405311) false), (bP (!feq a a) false), (bP (!feq b b) false)]) (σ1 := []) (by kernel_rfl) ⟨bP_of (fun x => x) h0, ⟨bP_of (fun x => x) h1, ⟨bP_of (fun x => !x) h2, ⟨bP_of (fun x => !x) h3, trivial⟩⟩⟩⟩ rfl rfl
theorem bKind_p3 (a : Nat) (b : Nat) (σ : AHeap) (h0 : (fgt (fabs a) 9218868437227405311) = false) (h1 : (fgt (fabs b) 9218868437227405311) = false) (h2 : (feq a a) = true) (h3 : (feq b b) = false) : CallR Try.prog false 159 [Value.complex .f64 a b] σ (Value.int IntKind.i8 (Int.ofNat 2)) σ := CallR.of_DO_pure (C := dLBa) dLBa_ok Try.func159 bKind_fok (n := 100) (orc := [(10, Item.br false), (19, Item.br false), (32, Item.br false), (45, Item.br true)]) (ps := [(bP (fgt (fabs a) 9218868437227405311) false), (bP (fgt (fabs b) 9218868437227405311) false), (bP (!feq a a) false), (bP (!feq b b) true)]) (σ1 := []) (by kernel_rfl) ⟨bP_of (fun x => x) h0, ⟨bP_of (fun x => x) h1, ⟨bP_of (fun x => !x) h2, ⟨bP_of (fun x => !x) h3, trivial⟩⟩⟩⟩ rfl rfl
theorem bKind_p4 (a : Nat) (b : Nat) (σ : AHeap) (h0 : (fgt (fabs a) 9218868437227405311) = false) (h1 : (fgt (fabs b) 9218868437227405311) = false) (h2 : (feq a a) = false) : CallR Try.prog false 159 [Value.complex .f64 a b] σ (Value.int IntKind.i8 (Int.ofNat 2)) σ := CallR.of_DO_pure (C := dLBa) dLBa_ok Try.func159 bKind_fok (n := 100) (orc := [(10, Item.br false), (19, Item.br false), (32, Item.br true), (33, Item.br true)]) (ps := [(bP (fgt (fabs a) 9218868437227405311) false), (bP (fgt (fabs b) 9218868437227405311) false), (bP (!feq a a) true), (bP (!feq a a) true)]) (σ1 := []) (by kernel_rfl) ⟨bP_of (fun x => x) h0, ⟨bP_of (fun x => x) h1, ⟨bP_of (fun x => !x) h2, ⟨bP_of (fun x => !x) h2, trivial⟩⟩⟩⟩ rfl rfl
def bKind_t (a : Nat) (b : Nat) : Value := (bif fgt (fabs a) 9218868437227405311 then (Value.int IntKind.i8 (Int.ofNat 1)) else (bif fgt (fabs b) 9218868437227405311 then (Value.int IntKind.i8 (Int.ofNat 1)) else (bif feq a a then (bif feq b b then (Value.int IntKind.i8 (Int.ofNat 0)) else (Value.int IntKind.i8 (Int.ofNat 2))) else (Value.int IntKind.i8 (Int.ofNat 2)))))
theorem bKind_c (a : Nat) (b : Nat) (σ : AHeap) : CallR Try.prog false 159 [Value.complex .f64 a
    b] σ (bKind_t a b) σ := by
  unfold bKind_t
  exact (CallR.bif (fun h0 => (bKind_p0 a b σ h0)) (fun h0 => (CallR.bif (fun h1 => (bKind_p1 a b σ h0 h1)) (fun h1 => (CallR.bif (fun h2 => (CallR.bif (fun h3 => (bKind_p2 a b σ h0 h1 h2 h3)) (fun h3 => (bKind_p3 a b σ h0 h1 h2 h3)))) (fun h2 => (bKind_p4 a b σ h0 h1 h2)))))))
def bKind_0 (a : Nat) (b : Nat) : Int := (bif fgt (fabs a) 9218868437227405311 then Int.ofNat 1 else (bif fgt (fabs b) 9218868437227405311 then Int.ofNat 1 else (bif feq a a then (bif feq b b then Int.ofNat 0 else Int.ofNat 2) else Int.ofNat 2)))
theorem bKind_v (a : Nat) (b : Nat) : bKind_t a b = Go.Value.int Go.IntKind.i8 (bKind_0 a b) := by
  unfold bKind_t bKind_0
  cases (fgt (fabs a) 9218868437227405311) with
  | true =>
    kernel_rfl
  | false =>
    cases (fgt (fabs b) 9218868437227405311) with
    | true =>
      kernel_rfl
    | false =>
      cases (feq a a) with
      | true =>
        cases (feq b b) with
        | true =>
          kernel_rfl
        | false =>
          kernel_rfl
      | false =>
        kernel_rfl
theorem bKind_ok (a : Nat) (b : Nat) (σ : AHeap) : CallR Try.prog false 159 [Value.complex .f64 a
    b] σ (Go.Value.int Go.IntKind.i8 (bKind_0 a b)) σ := by
  have h := bKind_c a b σ
  rw [bKind_v] at h
  exact h
def sBKind : PureFn
  | [.complex .f64 a b] => some (.int .i8 (bKind_0 a b))
  | _ => none
theorem sBKind_ok : IsPure Try.prog false 159 sBKind := by
  intro args v σ h
  unfold sBKind at h
  split at h
  · cases h; exact bKind_ok _ _ σ
  · cases h
noncomputable def tba : Tab := (t2.addP 159 sBKind)
theorem tba_ok : tba.Ok Try.prog false := (Tab.Ok.addP t2_ok sBKind_ok)
noncomputable def LBb : Lib := ⟨Try.prog, false, tba, [(128, Try.f128), (160, Try.f160), (33, Try.f33), (55, Try.f55), (127, Try.f127)], []⟩
theorem LBb_fp : ∀ e, e ∈ LBb.pures → Try.prog.funcs[e.1]? = some e.2 := fs_cons Try.func128 (fs_cons Try.func160 (fs_cons Try.func33 (fs_cons Try.func55 (fs_cons Try.func127 (fs_nil)))))
theorem LBb_fh : ∀ e, e ∈ LBb.heaps → Try.prog.funcs[e.1]? = some e.2.2 := gs_nil
theorem LBb_p1 (gp : Nat → PureFn) (g : Nat → HeapFn) : (LBb.pures.all fun e => fnOk (LBb.mk' gp g) e.2) = true := by kernel_rfl
theorem LBb_h1 (gp : Nat → PureFn) (g : Nat → HeapFn) : (LBb.heaps.all fun e => fnOk (LBb.mk' gp g) e.2.2 && (!e.2.1 || fnRo (LBb.mk' gp g) e.2.2)) = true := by kernel_rfl
theorem LBb_ok : LBb.Ok := ⟨tba_ok, mixed, LBb_fp, LBb_fh, LBb_p1, LBb_h1⟩
noncomputable def dLBb : Cfg := LBb.cfg 100 6
theorem dLBb_ok : dLBb.Ok := LBb_ok.cfg 100 6

theorem bAbs_fok : fnOk (dLBb) Try.f89 = true := by kernel_rfl
theorem bAbs_p0 (a : Nat) (b : Nat) (σ : AHeap) (h0 : (bKind_0 a b == Int.ofNat 1) = true) : CallR Try.prog false 89 [Value.complex .f64 a b] σ (Value.float .f64 9218868437227405312) σ := CallR.of_DO_pure (C := dLBb) dLBb_ok Try.func89 bAbs_fok (n := 100) (orc := [(26, Item.br true)]) (ps := [(bP (bKind_0 a b == Int.ofNat 1) true)]) (σ1 := []) (by kernel_rfl) ⟨bP_of (fun x => x) h0, trivial⟩ rfl rfl
theorem bAbs_p1 (a : Nat) (b : Nat) (σ : AHeap) (h0 : (bKind_0 a b == Int.ofNat 1) = false) (h1 : (bKind_0 a b == Int.ofNat 2) = true) : CallR Try.prog false 89 [Value.complex .f64 a b] σ (Value.float .f64 9221120237041090561) σ := CallR.of_DO_pure (C := dLBb) dLBb_ok Try.func89 bAbs_fok (n := 100) (orc := [(26, Item.br false), (31, Item.br true)]) (ps := [(bP (bKind_0 a b == Int.ofNat 1) false), (bP (bKind_0 a b == Int.ofNat 2) true)]) (σ1 := []) (by kernel_rfl) ⟨bP_of (fun x => x) h0, ⟨bP_of (fun x => x) h1, trivial⟩⟩ rfl rfl
theorem bAbs_p2 (a : Nat) (b : Nat) (σ : AHeap) (h0 : (bKind_0 a b == Int.ofNat 1) = false) (h1 : (bKind_0 a b == Int.ofNat 2) = false) (h2 : (feq (fmax (fabs a) (fabs b)) 0) = true) : CallR Try.prog false 89 [Value.complex .f64 a b] σ (Value.float .f64 0) σ := CallR.of_DO_pure (C := dLBb) dLBb_ok Try.func89 bAbs_fok (n := 100) (orc := [(26, Item.br false), (31, Item.br false), (52, Item.br true)]) (ps := [(bP (bKind_0 a b == Int.ofNat 1) false), (bP (bKind_0 a b == Int.ofNat 2) false), (bP (feq (fmax (fabs a) (fabs b)) 0) true)]) (σ1 := []) (by kernel_rfl) ⟨bP_of (fun x => x) h0, ⟨bP_of (fun x => x) h1, ⟨bP_of (fun x => x) h2, trivial⟩⟩⟩ rfl rfl
theorem bAbs_p3 (a : Nat) (b : Nat) (σ : AHeap) (h0 : (bKind_0 a b == Int.ofNat 1) = false) (h1 : (bKind_0 a b == Int.ofNat 2) = false) (h2 : (feq (fmax (fabs a) (fabs b)) 0) = false) : CallR Try.prog false 89 [Value.complex .f64 a b] σ (Value.float .f64 (fmul (fmax (fabs a) (fabs b)) (fsqrt (fadd 4607182418800017408 (fmul (fdiv (fmin (fabs a) (fabs b)) (fmax (fabs a) (fabs b))) (fdiv (fmin (fabs a) (fabs b)) (fmax (fabs a) (fabs b)))))))) σ := CallR.of_DO_pure (C := dLBb) dLBb_ok Try.func89 bAbs_fok (n := 100) (orc := [(26, Item.br false), (31, Item.br false), (52, Item.br false)]) (ps := [(bP (bKind_0 a b == Int.ofNat 1) false), (bP (bKind_0 a b == Int.ofNat 2) false), (bP (feq (fmax (fabs a) (fabs b)) 0) false)]) (σ1 := []) (by kernel_rfl) ⟨bP_of (fun x => x) h0, ⟨bP_of (fun x => x) h1, ⟨bP_of (fun x => x) h2, trivial⟩⟩⟩ rfl rfl
def bAbs_t (a : Nat) (b : Nat) : Value := (bif bKind_0 a b == Int.ofNat 1 then (Value.float .f64 9218868437227405312) else (bif bKind_0 a b == Int.ofNat 2 then (Value.float .f64 9221120237041090561) else (bif feq (fmax (fabs a) (fabs b)) 0 then (Value.float .f64 0) else (Value.float .f64 (fmul (fmax (fabs a) (fabs b)) (fsqrt (fadd 4607182418800017408 (fmul (fdiv (fmin (fabs a) (fabs b)) (fmax (fabs a) (fabs b))) (fdiv (fmin (fabs a) (fabs b)) (fmax (fabs a) (fabs b)))))))))))
theorem bAbs_c (a : Nat) (b : Nat) (σ : AHeap) : CallR Try.prog false 89 [Value.complex .f64 a b] σ (bAbs_t a b) σ := by
  unfold bAbs_t
  exact (CallR.bif (fun h0 => (bAbs_p0 a b σ h0)) (fun h0 => (CallR.bif (fun h1 => (bAbs_p1 a b σ h0 h1)) (fun h1 => (CallR.bif (fun h2 => (bAbs_p2 a b σ h0 h1 h2)) (fun h2 => (bAbs_p3 a b σ h0 h1 h2)))))))
def bAbs_0 (a : Nat) (b : Nat) : Nat := (bif bKind_0 a b == Int.ofNat 1 then 9218868437227405312 else (bif bKind_0 a b == Int.ofNat 2 then 9221120237041090561 else (bif feq (fmax (fabs a) (fabs b)) 0 then 0 else fmul (fmax (fabs a) (fabs b)) (fsqrt (fadd 4607182418800017408 (fmul (fdiv (fmin (fabs a) (fabs b)) (fmax (fabs a) (fabs b))) (fdiv (fmin (fabs a) (fabs b)) (fmax (fabs a) (fabs b)))))))))
theorem bAbs_v (a : Nat) (b : Nat) : bAbs_t a b = Go.Value.float Go.FloatKind.f64 (bAbs_0 a b) := by
  unfold bAbs_t bAbs_0
  cases (bKind_0 a b == Int.ofNat 1) with
  | true =>
    kernel_rfl
  | false =>
    cases (bKind_0 a b == Int.ofNat 2) with
    | true =>
      kernel_rfl
    | false =>
      cases (feq (fmax (fabs a) (fabs b)) 0) with
      | true =>
        kernel_rfl
      | false =>
        kernel_rfl
theorem bAbs_ok (a : Nat) (b : Nat) (σ : AHeap) : CallR Try.prog false 89 [Value.complex .f64 a
    b] σ (Go.Value.float Go.FloatKind.f64 (bAbs_0 a b)) σ := by
  have h := bAbs_c a b σ
  rw [bAbs_v] at h
  exact h
end Go.Lk
end

section
/- Whole numbers as floats: sums and products are exact below 2^53. -/
namespace Go.Lk
open Ieee (Format Datum Toward)
set_option linter.unusedSimpArgs false
set_option linter.unusedVariables false
/-- The float x is the whole number z. -/
def IsW (x : Nat) (z : Int) : Prop := isFin x = true ∧ fx x = z * (U : Int)
theorem U_form : ∃ u, U = 2 ^ u := by obtain ⟨u, _, h⟩ := U_spec; exact ⟨u, h⟩
theorem rnd_w {s : Bool} {z : Int} (h : z.natAbs < 2 ^ 53) : IsW (rnd s (z * (U : Int))) z := by
  obtain ⟨u, hu⟩ := U_form
  obtain ⟨r1, r2, _⟩ := rnd_exact (z := s) (T := z * (U : Int)) (R := 4850376798678024192) (by decide) (by
    rw [Int.natAbs_mul, Int.natAbs_natCast, fxr_big]
    exact Nat.mul_le_mul_right _ (by omega)) ⟨z.natAbs, u, by rw [Int.natAbs_mul, Int.natAbs_natCast, hu], h⟩
  exact ⟨r1, r2⟩
theorem IsW.add {x y : Nat} {a b : Int} (hx : IsW x a) (hy : IsW y b) (h : (a + b).natAbs < 2 ^ 53) : IsW (fadd x y) (a + b) := by
  rw [fadd_fin hx.1 hy.1, hx.2, hy.2, ← Int.add_mul]
  exact rnd_w h
theorem IsW.sub {x y : Nat} {a b : Int} (hx : IsW x a) (hy : IsW y b) (h : (a - b).natAbs < 2 ^ 53) : IsW (fsub x y) (a - b) := by
  rw [fsub_fin hx.1 hy.1, hx.2, hy.2, ← Int.sub_mul]
  exact rnd_w h
theorem IsW.abs {x : Nat} {a : Int} (hx : IsW x a) : fxr (rg x) = a.natAbs * U := by
  have := fx_abs x
  rw [hx.2, Int.natAbs_mul, Int.natAbs_natCast] at this
  exact this.symm
theorem IsW.sg_of {x : Nat} {a : Int} (hx : IsW x a) (h : a ≠ 0) : sg x = decide (a < 0) := by
  have hU := U_pos
  have h1 : fx x ≠ 0 := by rw [hx.2]; exact Int.mul_ne_zero h (by omega)
  rw [sg_fx h1, hx.2]
  by_cases h0 : a < 0
  · rw [decide_eq_true h0]
    exact decide_eq_true (Int.mul_neg_of_neg_of_pos h0 (by omega))
  · rw [decide_eq_false h0]
    refine decide_eq_false fun h2 => ?_
    have : 0 ≤ a * (U : Int) := Int.mul_nonneg (by omega) (by omega)
    omega
theorem IsW.mul {x y : Nat} {a b : Int} (hx : IsW x a) (hy : IsW y b) (h : (a * b).natAbs < 2 ^ 53) : IsW (fmul x y) (a * b) := by
  obtain ⟨r, e, hr⟩ := fmul_near hx.1 hy.1
  have hU := U_pos
  obtain ⟨u, hu⟩ := U_form
  rw [hx.abs, hy.abs] at hr
  obtain ⟨l1, l2⟩ := rung_small (T := (a * b).natAbs * U) (r := 4850376798678024192) (by rw [fxr_big]; exact Nat.mul_le_mul_right _ (by omega)) (by decide) ⟨(a * b).natAbs, u, by rw [hu], h⟩
  have key : fxr (rung ((a * b).natAbs * U)) * U = a.natAbs * U * (b.natAbs * U) := by
    rw [l2, Int.natAbs_mul, Nat.mul_assoc, Nat.mul_assoc, Nat.mul_assoc, ← Nat.mul_assoc U, Nat.mul_comm U b.natAbs, Nat.mul_assoc]
  have e1 := hr.le_of (R := rung ((a * b).natAbs * U)) (by unfold infR; omega) (by omega)
  have e2 := hr.ge_of (R := rung ((a * b).natAbs * U)) (by unfold infR; omega) (by omega)
  have er : r = rung ((a * b).natAbs * U) := by omega
  rw [e, er]
  refine ⟨fin_wd l1, ?_⟩
  rw [fx_wd (rung_lt _), l2, sgn_mul]
  have hs : sgn (sg x ^^ sg y) (a * b).natAbs = a * b := by
    by_cases ha : a = 0
    · subst ha; simp [sgn]
    · by_cases hb : b = 0
      · subst hb; simp [sgn]
      · rw [hx.sg_of ha, hy.sg_of hb]
        unfold sgn
        rcases Int.lt_or_le a 0 with h1 | h1
        · rcases Int.lt_or_le b 0 with h2 | h2
          · rw [decide_eq_true h1, decide_eq_true h2]
            have : 0 < a * b := Int.mul_pos_of_neg_of_neg h1 h2
            simp; omega
          · rw [decide_eq_true h1, decide_eq_false (by omega)]
            have : a * b < 0 := Int.mul_neg_of_neg_of_pos h1 (by omega)
            simp; omega
        · rcases Int.lt_or_le b 0 with h2 | h2
          · rw [decide_eq_false (by omega), decide_eq_true h2]
            have : a * b < 0 := Int.mul_neg_of_pos_of_neg (by omega) h2
            simp; omega
          · rw [decide_eq_false (by omega), decide_eq_false (by omega)]
            have : 0 ≤ a * b := Int.mul_nonneg h1 h2
            simp; omega
  rw [hs]
theorem IsW.neg {x : Nat} {a : Int} (hl : x < 2 ^ 64) (hx : IsW x a) : IsW (fneg x) (-a) := by
  obtain ⟨n1, n2, _⟩ := fneg_fin hl hx.1
  exact ⟨n1, by rw [n2, hx.2, Int.neg_mul]⟩
theorem isW_near {n : Int} (h : n.natAbs < 2 ^ 53) : IsW (FloatKind.f64.nearest n) n := ⟨(near_fx h).1, (near_fx h).2.1⟩
/-- Its magnitude. -/
theorem IsW.fabs_of {x : Nat} {a : Int} (hx : IsW x a) : IsW (fabs x) (a.natAbs : Int) := by
  have e : Lk.fabs x = rg x := by unfold Lk.fabs; rw [fin_num hx.1]; rfl
  have hs : Lk.sg (rg x) = false := by
    unfold Lk.sg; have := rg_lt x
    have : rg x / 2 ^ 63 = 0 := Nat.div_eq_of_lt this
    rw [this]; rfl
  rw [e]
  refine ⟨by unfold isFin; rw [rg_rg]; exact hx.1, ?_⟩
  unfold fx
  rw [hs, rg_rg, hx.abs, ← Int.natCast_mul]
  rfl
/-! ### Sums -/
end Go.Lk
end

section
/- Floats as rational numbers: how far a result is from what it stands for. -/
namespace Go.Lk
set_option linter.unusedSimpArgs false
set_option linter.unusedVariables false

def UR : Rat := ((U : Nat) : Rat)
theorem UR_pos : 0 < UR := Rat.natCast_pos.2 U_pos
def eta : Rat := 1 / 4503599627370496
def tau : Rat := 1 / 1267650600228229401496703205376
theorem UR_big : (1267650600228229401496703205376 : Rat) ≤ UR := by
  obtain ⟨H, h1, _, _, Q, h2, _, h3, _⟩ := U_half
  have h4 : 1267650600228229401496703205376 ≤ U := by
    have : (2 : Nat) ^ 100 = 1267650600228229401496703205376 := by decide
    omega
  unfold UR
  exact_mod_cast h4
/-- What a float stands for. -/
def qv (x : Nat) : Rat := ((fx x : Int) : Rat) / UR
theorem qv_U (x : Nat) : qv x * UR = ((fx x : Int) : Rat) := by
  unfold qv
  exact Rat.div_mul_cancel (fun h => by have := UR_pos; rw [h] at this; exact absurd this (by decide))
/-- Between -A and A. -/
def Bd (r A : Rat) : Prop := -A ≤ r ∧ r ≤ A
theorem Bd.mono {r A B : Rat} (h : Bd r A) (hAB : A ≤ B) : Bd r B := ⟨by have := h.1; grind, by have := h.2; grind⟩
theorem Bd.add {r s A B : Rat} (h : Bd r A) (k : Bd s B) : Bd (r + s) (A + B) := ⟨by have := h.1; have := k.1; grind, by have := h.2; have := k.2; grind⟩
theorem Bd.sub {r s A B : Rat} (h : Bd r A) (k : Bd s B) : Bd (r - s) (A + B) := ⟨by have := h.1; have := k.2; grind, by have := h.2; have := k.1; grind⟩
theorem Bd.neg {r A : Rat} (h : Bd r A) : Bd (-r) A := ⟨by have := h.2; grind, by have := h.1; grind⟩
theorem Bd.nonneg {r A : Rat} (h : Bd r A) : 0 ≤ A := by have := h.1; have := h.2; grind
theorem Bd.mul {r s A B : Rat} (h : Bd r A) (k : Bd s B) : Bd (r * s) (A * B) := by
  obtain ⟨h1, h2⟩ := h
  obtain ⟨h3, h4⟩ := k
  have k1 := Rat.mul_nonneg (a := A - r) (b := B - s) (by grind) (by grind)
  have k2 := Rat.mul_nonneg (a := A + r) (b := B + s) (by grind) (by grind)
  have k3 := Rat.mul_nonneg (a := A - r) (b := B + s) (by grind) (by grind)
  have k4 := Rat.mul_nonneg (a := A + r) (b := B - s) (by grind) (by grind)
  constructor <;> grind
theorem Bd.of_eq {r s A : Rat} (h : Bd r A) (e : r = s) : Bd s A := e ▸ h
theorem Bd.zero : Bd 0 0 := ⟨by decide, by decide⟩
/-! ### Rounding, as whole multiples -/
theorem rnd_err {s : Bool} {T : Int} {R : Nat} (hR : R < 2047 * 2 ^ 52) (h : T.natAbs ≤ fxr R) :
    isFin (rnd s T) = true ∧ 4503599627370496 * (fx (rnd s T) - T).natAbs ≤ 4503599627370496 + T.natAbs := by
  refine ⟨(rnd_le hR h).1, ?_⟩
  unfold rnd
  split
  · rename_i h0
    subst h0
    have : fx (wd s 0) = 0 := by rw [fx_wd (by decide), fxr_zero, sgn_zero]
    rw [this]; decide
  · rename_i h0
    have hr : rung T.natAbs < infR := by have := rung_le_of h; unfold infR; omega
    obtain ⟨e1, e2⟩ := (near_rung T.natAbs).err (by decide) hr
    have hfx : (fx (wd (decide (T < 0)) (rung T.natAbs)) - T).natAbs ≤ fxr (rung T.natAbs) - T.natAbs + (T.natAbs - fxr (rung T.natAbs)) := by
      rw [fx_wd (rung_lt _)]
      unfold sgn
      by_cases hT : T < 0
      · rw [decide_eq_true hT, if_pos rfl]; omega
      · rw [decide_eq_false hT, if_neg (by decide)]; omega
    omega
/-- A sum of finite ones that is not too great. -/
theorem big54 {T : Int} {B : Rat} (hB : B ≤ 1125899906842624) (h : Bd (((T : Int) : Rat)) (B * UR)) : T.natAbs ≤ fxr 4850376798678024192 := by
  have hU := UR_pos
  have h1 : B * UR ≤ 1125899906842624 * UR := Rat.mul_le_mul_of_nonneg_right hB (by grind)
  have h2 : ((T : Int) : Rat) ≤ 1125899906842624 * UR := by have := h.2; grind
  have h3 : -(1125899906842624 * UR) ≤ ((T : Int) : Rat) := by have := h.1; grind
  have h4 : T ≤ 1125899906842624 * (U : Int) := by
    refine Rat.intCast_le_intCast.1 ?_
    rw [Rat.intCast_mul]
    exact h2
  have h5 : -(1125899906842624 * (U : Int)) ≤ T := by
    refine Rat.intCast_le_intCast.1 ?_
    rw [Rat.intCast_neg, Rat.intCast_mul]
    exact h3
  rw [fxr_big]
  have : (2 : Nat) ^ 54 = 18014398509481984 := by decide
  rw [this]
  have h6 : ((18014398509481984 * U : Nat) : Int) = 18014398509481984 * (U : Int) := by rw [Int.natCast_mul]; rfl
  omega
theorem abs_cast {T : Int} {B : Rat} (h : Bd (((T : Int) : Rat)) B) : ((T.natAbs : Nat) : Rat) ≤ B := by
  rcases Int.le_total 0 T with h0 | h0
  · have e : ((T.natAbs : Nat) : Int) = T := by omega
    have : ((T.natAbs : Nat) : Rat) = ((T : Int) : Rat) := by rw [← e]; rfl
    rw [this]; exact h.2
  · have e : ((T.natAbs : Nat) : Int) = -T := by omega
    have : ((T.natAbs : Nat) : Rat) = -((T : Int) : Rat) := by
      have : ((((T.natAbs : Nat) : Int)) : Rat) = ((-T : Int) : Rat) := by rw [e]
      rw [Rat.intCast_neg] at this
      exact this
    rw [this]; have := h.1; grind
theorem rnd_q {s : Bool} {T : Int} {v B : Rat} (hv : v * UR = ((T : Int) : Rat)) (h : Bd v B) (hB : B ≤ 1125899906842624) :
    isFin (rnd s T) = true ∧ Bd (qv (rnd s T) - v) (B * eta + tau) := by
  have hU := UR_pos
  have hT : Bd ((T : Int) : Rat) (B * UR) := by
    rw [← hv]
    exact ⟨by have := Rat.mul_le_mul_of_nonneg_right h.1 (c := UR) (by grind); grind, Rat.mul_le_mul_of_nonneg_right h.2 (by grind)⟩
  obtain ⟨h1, h2⟩ := rnd_err (s := s) (R := 4850376798678024192) (by decide) (big54 hB hT)
  refine ⟨h1, ?_⟩
  have h3 : ((4503599627370496 * (fx (rnd s T) - T).natAbs : Nat) : Rat) ≤ ((4503599627370496 + T.natAbs : Nat) : Rat) := Rat.natCast_le_natCast.2 h2
  have h4 := abs_cast hT
  rw [Rat.natCast_mul, Rat.natCast_add] at h3
  have hb := UR_big
  have hq := qv_U (rnd s T)
  have key : ∀ r : Rat, r ≤ (((fx (rnd s T) - T).natAbs : Nat) : Rat) → r ≤ (B * eta + tau) * UR := by
    intro r hr
    have e1 : (B * eta) * UR * 4503599627370496 = B * UR := by unfold eta; grind
    have e2 : (1 : Rat) ≤ tau * UR := by unfold tau; grind
    have e3 : ((4503599627370496 : Nat) : Rat) = 4503599627370496 := by rfl
    rw [e3] at h3
    grind
  have hd : (qv (rnd s T) - v) * UR = ((fx (rnd s T) - T : Int) : Rat) := by
    rw [Rat.intCast_sub, ← hq, ← hv]; grind
  have n1 : ((fx (rnd s T) - T : Int) : Rat) ≤ (((fx (rnd s T) - T).natAbs : Nat) : Rat) := by
    have : (fx (rnd s T) - T) ≤ (((fx (rnd s T) - T).natAbs : Nat) : Int) := by omega
    exact Rat.intCast_le_intCast.2 this
  have n2 : -((fx (rnd s T) - T : Int) : Rat) ≤ (((fx (rnd s T) - T).natAbs : Nat) : Rat) := by
    have : -(fx (rnd s T) - T) ≤ (((fx (rnd s T) - T).natAbs : Nat) : Int) := by omega
    have := Rat.intCast_le_intCast.2 this
    rw [Rat.intCast_neg] at this
    exact this
  constructor
  · refine Rat.le_of_mul_le_mul_right (c := UR) ?_ hU
    have := key _ n2
    rw [← hd] at this
    grind
  · refine Rat.le_of_mul_le_mul_right (c := UR) ?_ hU
    rw [hd]
    exact key _ n1
theorem add_q {x y : Nat} {B : Rat} (hx : isFin x = true) (hy : isFin y = true) (h : Bd (qv x + qv y) B) (hB : B ≤ 1125899906842624) : isFin (fadd x y) = true ∧ Bd (qv (fadd x y) - (qv x + qv y)) (B * eta + tau) := by
  rw [fadd_fin hx hy]
  refine rnd_q ?_ h hB
  rw [Rat.intCast_add, ← qv_U x, ← qv_U y]; grind
theorem sub_q {x y : Nat} {B : Rat} (hx : isFin x = true) (hy : isFin y = true) (h : Bd (qv x - qv y) B) (hB : B ≤ 1125899906842624) : isFin (fsub x y) = true ∧ Bd (qv (fsub x y) - (qv x - qv y)) (B * eta + tau) := by
  rw [fsub_fin hx hy]
  refine rnd_q ?_ h hB
  rw [Rat.intCast_sub, ← qv_U x, ← qv_U y]; grind
/-! ### Products -/
theorem mul_err {x y : Nat} (hx : isFin x = true) (hy : isFin y = true) (h : fxr (rg x) * fxr (rg y) ≤ fxr 4850376798678024192 * U) :
    isFin (fmul x y) = true ∧ 4503599627370496 * (fx (fmul x y) * (U : Int) - fx x * fx y).natAbs ≤ 4503599627370496 * U + fxr (rg x) * fxr (rg y) := by
  obtain ⟨r, e, hr⟩ := fmul_near hx hy
  have hr54 : r ≤ 4850376798678024192 := hr.le_of (by decide) h
  have hU := U_pos
  obtain ⟨e1, e2⟩ := hr.err hU (by unfold infR; omega)
  rw [e]
  refine ⟨fin_wd (by omega), ?_⟩
  have hs : fx (wd (sg x ^^ sg y) r) * (U : Int) - fx x * fx y = sgn (sg x ^^ sg y) (fxr r * U) - sgn (sg x ^^ sg y) (fxr (rg x) * fxr (rg y)) := by
    rw [fx_wd (by omega), sgn_mul]
    congr 1
    unfold fx
    generalize fxr (rg x) = a
    generalize fxr (rg y) = b
    cases sg x <;> cases sg y <;> simp [sgn, Int.neg_mul, Int.mul_neg]
  have hn : (sgn (sg x ^^ sg y) (fxr r * U) - sgn (sg x ^^ sg y) (fxr (rg x) * fxr (rg y))).natAbs ≤ fxr r * U - fxr (rg x) * fxr (rg y) + (fxr (rg x) * fxr (rg y) - fxr r * U) := by
    unfold sgn
    generalize fxr r * U = a
    generalize fxr (rg x) * fxr (rg y) = b
    cases (sg x ^^ sg y) <;> simp <;> omega
  rw [hs]
  have : (2 : Nat) ^ 52 = 4503599627370496 := by decide
  rw [this] at e1 e2
  generalize fxr r * U = a at *
  generalize fxr (rg x) * fxr (rg y) = b at *
  omega
theorem mul_q {x y : Nat} {B : Rat} (hx : isFin x = true) (hy : isFin y = true) (h : Bd (qv x * qv y) B) (hB : B ≤ 1125899906842624) : isFin (fmul x y) = true ∧ Bd (qv (fmul x y) - qv x * qv y) (B * eta + tau) := by
  have hU := UR_pos
  have hUU : 0 < UR * UR := Rat.mul_pos hU hU
  have hp : qv x * qv y * (UR * UR) = ((fx x * fx y : Int) : Rat) := by
    rw [Rat.intCast_mul, ← qv_U x, ← qv_U y]; grind
  have hT : Bd ((fx x * fx y : Int) : Rat) (B * (UR * UR)) := by
    rw [← hp]
    exact ⟨by have := Rat.mul_le_mul_of_nonneg_right h.1 (c := UR * UR) (by grind); grind, Rat.mul_le_mul_of_nonneg_right h.2 (by grind)⟩
  have hab := abs_cast hT
  have hna : (fx x * fx y).natAbs = fxr (rg x) * fxr (rg y) := by rw [Int.natAbs_mul, fx_abs, fx_abs]
  rw [hna] at hab
  have hle : fxr (rg x) * fxr (rg y) ≤ fxr 4850376798678024192 * U := by
    refine Rat.natCast_le_natCast.1 ?_
    refine Rat.le_trans hab ?_
    have h1 : B * (UR * UR) ≤ 1125899906842624 * (UR * UR) := Rat.mul_le_mul_of_nonneg_right hB (by grind)
    have h2 : 1125899906842624 * (UR * UR) ≤ 18014398509481984 * (UR * UR) := by grind
    refine Rat.le_trans h1 (Rat.le_trans h2 ?_)
    rw [fxr_big, show (2 : Nat) ^ 54 = 18014398509481984 by decide, Rat.natCast_mul, Rat.natCast_mul]
    have e3 : ((18014398509481984 : Nat) : Rat) = 18014398509481984 := by rfl
    rw [e3]
    show 18014398509481984 * (UR * UR) ≤ 18014398509481984 * UR * UR
    grind
  obtain ⟨f1, f2⟩ := mul_err hx hy hle
  refine ⟨f1, ?_⟩
  have h3 := Rat.natCast_le_natCast.2 f2
  rw [Rat.natCast_mul, Rat.natCast_add, Rat.natCast_mul] at h3
  have hq := qv_U (fmul x y)
  have hd : (qv (fmul x y) - qv x * qv y) * (UR * UR) = ((fx (fmul x y) * (U : Int) - fx x * fx y : Int) : Rat) := by
    rw [Rat.intCast_sub, Rat.intCast_mul, ← hq, ← hp]
    show _ = qv (fmul x y) * UR * UR - _
    grind
  generalize hD : fx (fmul x y) * (U : Int) - fx x * fx y = D at *
  have hb := UR_big
  have key : ∀ r : Rat, r ≤ ((D.natAbs : Nat) : Rat) → r ≤ (B * eta + tau) * (UR * UR) := by
    intro r hr
    have e1 : (B * eta) * (UR * UR) * 4503599627370496 = B * (UR * UR) := by unfold eta; grind
    have e2 : UR ≤ tau * (UR * UR) := by
      have : 1 ≤ tau * UR := by unfold tau; grind
      have := Rat.mul_le_mul_of_nonneg_right this (c := UR) (by grind)
      grind
    have e3 : ((4503599627370496 : Nat) : Rat) = 4503599627370496 := by rfl
    have e4 : ((U : Nat) : Rat) = UR := rfl
    rw [e3, e4] at h3
    grind
  have n1 : ((D : Int) : Rat) ≤ ((D.natAbs : Nat) : Rat) := by
    have : D ≤ ((D.natAbs : Nat) : Int) := by omega
    exact Rat.intCast_le_intCast.2 this
  have n2 : -((D : Int) : Rat) ≤ ((D.natAbs : Nat) : Rat) := by
    have : -D ≤ ((D.natAbs : Nat) : Int) := by omega
    have := Rat.intCast_le_intCast.2 this
    rw [Rat.intCast_neg] at this
    exact this
  constructor
  · refine Rat.le_of_mul_le_mul_right (c := UR * UR) ?_ hUU
    have := key _ n2
    rw [← hd] at this
    grind
  · refine Rat.le_of_mul_le_mul_right (c := UR * UR) ?_ hUU
    rw [hd]
    exact key _ n1
end Go.Lk
end

section
/- Quotients and roots as rational numbers; polynomials. -/
namespace Go.Lk
set_option linter.unusedSimpArgs false
set_option linter.unusedVariables false

theorem qv_nn {x : Nat} (h : sg x = false) : qv x * UR = ((fxr (rg x) : Nat) : Rat) ∧ 0 ≤ qv x := by
  have hU := UR_pos
  have e : qv x * UR = ((fxr (rg x) : Nat) : Rat) := by rw [qv_U, fx_rg h]; rfl
  refine ⟨e, ?_⟩
  refine Rat.le_of_mul_le_mul_right (c := UR) ?_ hU
  rw [e, Rat.zero_mul]
  exact Rat.natCast_nonneg
theorem tau_UR : 1 ≤ tau * UR := by have := UR_big; unfold tau; grind
/-- A quotient of what is not below nought. -/
theorem div_q {x y : Nat} (hx : isFin x = true) (hy : isFin y = true) (sx : sg x = false) (sy : sg y = false) (h0 : 0 < qv y) (hle : qv x ≤ qv y) :
    isFin (fdiv x y) = true ∧ sg (fdiv x y) = false ∧ Bd (qv (fdiv x y) * qv y - qv x) (qv x * eta + tau * qv y) := by
  have hU := UR_pos
  obtain ⟨ex, nx⟩ := qv_nn sx
  obtain ⟨ey, ny⟩ := qv_nn sy
  have hY : fxr (rg y) ≠ 0 := by
    intro h
    rw [h] at ey
    have : qv y * UR = 0 := ey
    rcases Rat.mul_eq_zero.1 this with h1 | h1 <;> grind
  obtain ⟨r, e, hr⟩ := fdiv_near hx hy hY
  rw [sx, sy] at e
  have hXY : fxr (rg x) ≤ fxr (rg y) := by
    refine Rat.natCast_le_natCast.1 ?_
    rw [← ex, ← ey]
    exact Rat.mul_le_mul_of_nonneg_right hle (by grind)
  have hone : r ≤ rg fone := hr.le_of (by have := rg_one_lt; unfold infR; omega) (by rw [fxr_one, Nat.mul_comm U]; exact Nat.mul_le_mul_right _ hXY)
  have ho := rg_one_lt
  obtain ⟨e1, e2⟩ := hr.err (by omega) (by unfold infR; omega)
  have hf : isFin (wd false r) = true := fin_wd (by omega)
  have hsg : sg (wd false r) = false := sg_wd (by omega)
  simp only [Bool.xor_self] at e
  rw [e]
  refine ⟨hf, hsg, ?_⟩
  obtain ⟨er, nr⟩ := qv_nn hsg
  rw [rg_wd (by omega)] at er
  have h52 : (2 : Nat) ^ 52 = 4503599627370496 := by decide
  rw [h52] at e1 e2
  have m1 : max (4503599627370496 * fxr (rg y)) (fxr (rg x) * U) ≤ 4503599627370496 * fxr (rg y) + fxr (rg x) * U := by omega
  have k1 : 4503599627370496 * (fxr r * fxr (rg y)) ≤ 4503599627370496 * (fxr (rg x) * U) + (4503599627370496 * fxr (rg y) + fxr (rg x) * U) := by omega
  have k2 : 4503599627370496 * (fxr (rg x) * U) ≤ 4503599627370496 * (fxr r * fxr (rg y)) + (4503599627370496 * fxr (rg y) + fxr (rg x) * U) := by omega
  have k1 := Rat.natCast_le_natCast.2 k1
  have k2 := Rat.natCast_le_natCast.2 k2
  simp only [Rat.natCast_mul, Rat.natCast_add] at k1 k2
  rw [← er, ← ex, ← ey] at k1 k2
  have e3 : ((4503599627370496 : Nat) : Rat) = 4503599627370496 := by rfl
  have e4 : ((U : Nat) : Rat) = UR := rfl
  rw [e3, e4] at k1 k2
  have ht := tau_UR
  have ht2 : qv y * UR ≤ tau * qv y * (UR * UR) := by
    have := Rat.mul_le_mul_of_nonneg_right ht (c := qv y * UR) (Rat.mul_nonneg ny (by grind))
    grind
  have e5 : qv x * eta * (UR * UR) * 4503599627370496 = qv x * (UR * UR) := by unfold eta; grind
  have hUU : 0 < UR * UR := Rat.mul_pos hU hU
  generalize qv (wd false r) = q at *
  constructor
  · refine Rat.le_of_mul_le_mul_right (c := UR * UR) ?_ hUU
    grind
  · refine Rat.le_of_mul_le_mul_right (c := UR * UR) ?_ hUU
    grind
/-- A root of what is not below nought, and not great. -/
theorem sqrt_q {x : Nat} (hx : isFin x = true) (sx : sg x = false) (hB : qv x ≤ 1048576) : isFin (fsqrt x) = true ∧ sg (fsqrt x) = false ∧ ∃ l : Rat, 0 ≤ l ∧ l * l ≤ qv x ∧ l ≤ qv (fsqrt x) ∧ qv (fsqrt x) ≤ l + l * eta + tau ∧ qv x ≤ (l + l * eta + tau) * (l + l * eta + tau) := by
  have hU := UR_pos
  obtain ⟨ex, nx⟩ := qv_nn sx
  obtain ⟨r, e, hr, hbr⟩ := fsqrt_near hx sx
  have hXU : ((fxr (rg x) * U : Nat) : Rat) = qv x * UR * UR := by rw [Rat.natCast_mul, ← ex]; rfl
  have hbig : fxr (rg x) * U < fxr 4850376798678024192 * fxr 4850376798678024192 := by
    have h1 : fxr (rg x) ≤ 1048576 * U := by
      refine Rat.natCast_le_natCast.1 ?_
      rw [← ex, Rat.natCast_mul]
      exact Rat.mul_le_mul_of_nonneg_right hB (by grind)
    have hU0 := U_pos
    rw [fxr_big]
    calc fxr (rg x) * U ≤ 1048576 * U * U := Nat.mul_le_mul_right _ h1
      _ < 2 ^ 54 * U * (2 ^ 54 * U) := by
        rw [show 2 ^ 54 * U * (2 ^ 54 * U) = 2 ^ 108 * (U * U) by rw [show (2 : Nat) ^ 108 = 2 ^ 54 * 2 ^ 54 by decide, Nat.mul_mul_mul_comm], Nat.mul_assoc]
        exact Nat.mul_lt_mul_of_pos_right (by decide) (Nat.mul_pos hU0 hU0)
  have hr54 : r ≤ 4850376798678024192 := (hbr _ (by decide)).2 (Nat.le_of_lt hbig)
  have hf : isFin (wd false r) = true := fin_wd (by omega)
  have hsg : sg (wd false r) = false := sg_wd (by omega)
  rw [e]
  refine ⟨hf, hsg, ?_⟩
  -- the greatest L with fxr L * fxr L ≤ XU
  have key : ∀ k, k ≤ 4850376798678024192 → fxr (4850376798678024192 - k) * fxr (4850376798678024192 - k) ≤ fxr (rg x) * U → ∃ L, L < 4850376798678024192 ∧ fxr L * fxr L ≤ fxr (rg x) * U ∧ fxr (rg x) * U < fxr (L + 1) * fxr (L + 1) := by
    intro k
    induction k with
    | zero => intro _ k; rw [Nat.sub_zero] at k; omega
    | succ k ih =>
      intro hk hL
      rcases Nat.lt_or_ge (fxr (rg x) * U) (fxr (4850376798678024192 - k) * fxr (4850376798678024192 - k)) with h1 | h1
      · refine ⟨4850376798678024192 - (k + 1), by omega, hL, ?_⟩
        rw [show 4850376798678024192 - (k + 1) + 1 = 4850376798678024192 - k by omega]
        exact h1
      · exact ih (by omega) h1
  obtain ⟨L, hL, h1, h2⟩ := key 4850376798678024192 (Nat.le_refl _) (by rw [Nat.sub_self, fxr_zero]; omega)
  have hge := (hbr L (by unfold infR; omega)).1 h1
  have hle := (hbr (L + 1) (by unfold infR; omega)).2 (Nat.le_of_lt h2)
  have hg := fxr_gap L
  have m1 : max (2 ^ 52) (fxr L) ≤ 2 ^ 52 + fxr L := by omega
  have hg2 : 4503599627370496 * fxr (L + 1) ≤ 4503599627370496 * fxr L + (4503599627370496 + fxr L) := by
    have h52 : (2 : Nat) ^ 52 = 4503599627370496 := by decide
    rw [h52] at hg m1; omega
  obtain ⟨er, nr⟩ := qv_nn hsg
  rw [rg_wd (by omega)] at er
  have a1 : fxr L ≤ fxr r := fxr_le.2 hge
  have a2 : fxr r ≤ fxr (L + 1) := fxr_le.2 hle
  -- as rational numbers
  have hl : ((fxr L : Nat) : Rat) / UR * UR = ((fxr L : Nat) : Rat) := by grind
  have hl' : ((fxr (L + 1) : Nat) : Rat) / UR * UR = ((fxr (L + 1) : Nat) : Rat) := by grind
  have hl0 : 0 ≤ ((fxr L : Nat) : Rat) / UR := by
    refine Rat.le_of_mul_le_mul_right (c := UR) ?_ hU
    rw [hl, Rat.zero_mul]; exact Rat.natCast_nonneg
  have b1 := Rat.natCast_le_natCast.2 h1
  have b2 := Rat.natCast_le_natCast.2 (Nat.le_of_lt h2)
  have b3 := Rat.natCast_le_natCast.2 hg2
  have b4 := Rat.natCast_le_natCast.2 a1
  have b5 := Rat.natCast_le_natCast.2 a2
  rw [hXU, Rat.natCast_mul] at b1 b2
  simp only [Rat.natCast_mul, Rat.natCast_add] at b3
  have e3 : ((4503599627370496 : Nat) : Rat) = 4503599627370496 := by rfl
  rw [e3] at b3
  rw [← hl, ← hl'] at b3
  rw [← hl] at b1 b4
  rw [← hl'] at b2 b5
  rw [← er] at b4 b5
  generalize ((fxr L : Nat) : Rat) / UR = l at *
  generalize ((fxr (L + 1) : Nat) : Rat) / UR = l2 at *
  have ht := tau_UR
  have hUU : 0 < UR * UR := Rat.mul_pos hU hU
  have c1 : l ≤ qv (wd false r) := Rat.le_of_mul_le_mul_right b4 hU
  have c2 : qv (wd false r) ≤ l2 := Rat.le_of_mul_le_mul_right b5 hU
  have c3 : l2 ≤ l + l * eta + tau := by
    refine Rat.le_of_mul_le_mul_right (c := UR) ?_ hU
    have e5 : l * eta * UR * 4503599627370496 = l * UR := by unfold eta; grind
    grind
  have c4 : l * l ≤ qv x := by
    refine Rat.le_of_mul_le_mul_right (c := UR * UR) ?_ hUU
    grind
  have c5 : qv x ≤ l2 * l2 := by
    refine Rat.le_of_mul_le_mul_right (c := UR * UR) ?_ hUU
    grind
  have c6 : 0 ≤ l2 := by grind
  refine ⟨l, hl0, c4, c1, by grind, Rat.le_trans c5 ?_⟩
  have d1 := Rat.mul_le_mul_of_nonneg_right c3 (c := l2) c6
  have d2 := Rat.mul_le_mul_of_nonneg_left c3 (c := l + l * eta + tau) (by grind)
  exact Rat.le_trans d1 d2
/-! ### Polynomials -/
def pe : List Rat → Rat → Rat
  | [], _ => 0
  | c :: l, z => c + z * pe l z
def padd : List Rat → List Rat → List Rat
  | [], m => m
  | l, [] => l
  | a :: l, b :: m => (a + b) :: padd l m
def pscale (k : Rat) : List Rat → List Rat
  | [] => []
  | a :: l => k * a :: pscale k l
def pmul : List Rat → List Rat → List Rat
  | [], _ => []
  | a :: l, m => padd (pscale a m) (0 :: pmul l m)
theorem pe_add (z : Rat) : ∀ l m, pe (padd l m) z = pe l z + pe m z
  | [], m => by simp only [padd, pe]; grind
  | a :: l, [] => by simp only [padd, pe]; grind
  | a :: l, b :: m => by simp only [padd, pe, pe_add z l m]; grind
theorem pe_scale (z k : Rat) : ∀ l, pe (pscale k l) z = k * pe l z
  | [] => by simp only [pscale, pe]; grind
  | a :: l => by simp only [pscale, pe, pe_scale z k l]; grind
theorem pe_mul (z : Rat) : ∀ l m, pe (pmul l m) z = pe l z * pe m z
  | [], m => by simp only [pmul, pe]; grind
  | a :: l, m => by simp only [pmul, pe, pe_add, pe_scale, pe_mul z l m]; grind
def rabs (r : Rat) : Rat := if r < 0 then -r else r
theorem bd_rabs (r : Rat) : Bd r (rabs r) := by
  unfold rabs Bd
  by_cases h : r < 0
  · rw [if_pos h]; constructor <;> grind
  · rw [if_neg h]; constructor <;> grind
theorem pe_bd {z Z : Rat} (h0 : 0 ≤ z) (h1 : z ≤ Z) : ∀ l, Bd (pe l z) (pe (l.map rabs) Z)
  | [] => Bd.zero
  | a :: l => (bd_rabs a).add (Bd.mul (⟨by grind, h1⟩ : Bd z Z) (pe_bd h0 h1 l))
end Go.Lk
end

section
/- Floats: the kind of what is finite, the greater of two, magnitudes by themselves. -/
namespace Go.Lk
open Ieee (Format Datum)
set_option linter.unusedSimpArgs false
set_option linter.unusedVariables false
set_option maxRecDepth 100000
theorem bAbs_kind {a b : Nat} (ha : isFin a = true) (hb : isFin b = true) : bKind_0 a b = 0 := by
  have key : ∀ {x : Nat}, isFin x = true → feq x x = true ∧ fgt (fabs x) 9218868437227405311 = false := by
    intro x hx
    have e : fabs x = rg x := by unfold fabs; rw [fin_num hx]; rfl
    have hr : rg x < 2047 * 2 ^ 52 := of_decide_eq_true hx
    have hm : isFin 9218868437227405311 = true := by decide
    have hf : isFin (rg x) = true := by unfold isFin; rw [rg_rg]; exact hx
    have hs : sg (rg x) = false := by
      unfold sg; have := rg_lt x
      have : rg x / 2 ^ 63 = 0 := Nat.div_eq_of_lt this
      rw [this]; rfl
    refine ⟨by rw [feq_fin hx hx]; exact decide_eq_true rfl, ?_⟩
    rw [e, fgt_fin hf hm]
    have h1 : fx (rg x) = fxr (rg x) := by unfold fx; rw [hs, rg_rg]; rfl
    have h2 : fx 9218868437227405311 = fxr 9218868437227405311 := rfl
    have h3 : fxr (rg x) ≤ fxr 9218868437227405311 := fxr_le.2 (by omega)
    exact decide_eq_false (by rw [h1, h2]; omega)
  unfold bKind_0
  rw [(key ha).1, (key hb).1, (key ha).2, (key hb).2]
  rfl
theorem max_min {A B : Nat} (hA : isFin A = true) (hB : isFin B = true) (sA : sg A = false) (sB : sg B = false) :
    (fmax A B = A ∧ fmin A B = B ∧ qv B ≤ qv A) ∨ (fmax A B = B ∧ fmin A B = A ∧ qv A ≤ qv B) := by
  have hU := UR_pos
  have le : ∀ {x y : Nat}, fx x ≤ fx y → qv x ≤ qv y := by
    intro x y h
    refine Rat.le_of_mul_le_mul_right (c := UR) ?_ hU
    rw [qv_U, qv_U]; exact Rat.intCast_le_intCast.2 h
  have hneg : (dbl.read A).neg = false := by
    obtain ⟨m, p, e, _⟩ := read_fin hA
    rw [e, sA]; rfl
  unfold fmax fmin
  rw [order_fin hA hB]
  rcases Int.lt_trichotomy (fx A) (fx B) with h | h | h
  · right
    rw [cmp_lt.2 h]
    exact ⟨rfl, rfl, le (by omega)⟩
  · left
    rw [cmp_eq.2 h]
    simp only [hneg]
    exact ⟨rfl, rfl, le (by omega)⟩
  · left
    rw [cmp_gt.2 h]
    exact ⟨rfl, rfl, le (by omega)⟩
/-! ### Magnitudes by themselves -/
theorem rg_sg (x : Nat) : sg (rg x) = false := by
  unfold sg; have := rg_lt x
  have : rg x / 2 ^ 63 = 0 := Nat.div_eq_of_lt this
  rw [this]; rfl
theorem fin_rg {x : Nat} (h : isFin x = true) : isFin (rg x) = true := by unfold isFin; rw [rg_rg]; exact h
theorem fabs_rg {x : Nat} (h : isFin x = true) : fabs x = rg x := by unfold fabs; rw [fin_num h]; rfl
end Go.Lk
end

section
/- The program's sine and cosine of an eighth of a turn: their squares' sum is near 1; magnitudes near 1. -/
namespace Go.Lk
set_option linter.unusedSimpArgs false
set_option linter.unusedVariables false
set_option maxRecDepth 10000

theorem qv_const {x : Nat} {n d : Int} (hd : d ≠ 0) (h : fx x * d = n * (U : Int)) : qv x = (n : Rat) / (d : Rat) := by
  have hU := UR_pos
  have h1 : ((fx x * d : Int) : Rat) = ((n * (U : Int) : Int) : Rat) := by rw [h]
  rw [Rat.intCast_mul, Rat.intCast_mul, ← qv_U] at h1
  have hd' : ((d : Int) : Rat) ≠ 0 := fun h => hd (by exact_mod_cast h)
  have h2 : qv x * UR * (d : Rat) = (n : Rat) * UR := h1
  have h3 : qv x * (d : Rat) * UR = (n : Rat) * UR := by grind
  have h4 : (qv x * (d : Rat) - n) * UR = 0 := by grind
  rcases Rat.mul_eq_zero.1 h4 with h5 | h5
  · have h6 : qv x * (d : Rat) = n := by grind
    rw [← h6, Rat.div_def, Rat.mul_assoc, Rat.mul_inv_cancel _ hd', Rat.mul_one]
  · rw [h5] at hU; exact absurd hU (by decide)
/-! ### Horner's way -/
def hn (z : Nat) : List Nat → Nat → Nat
  | [], p => p
  | c :: l, p => hn z l (fadd (fmul p z) c)
def hP (ζ : Rat) : List Rat → Rat → Rat
  | [], P => P
  | κ :: l, P => hP ζ l (κ + ζ * P)
def eStep (Z e A A' : Rat) : Rat := e * Z + (A + e) * Z * eta + tau + (A' + e * Z + (A + e) * Z * eta + tau) * eta + tau
def hE (Z : Rat) : List Rat → Rat → Rat → Option (Rat × Rat)
  | [], e, A => some (e, A)
  | κ :: l, e, A => if A + e ≤ 1000 ∧ rabs κ ≤ 1000 then hE Z l (eStep Z e A (rabs κ + Z * A)) (rabs κ + Z * A) else none
theorem eta_small : 0 ≤ eta ∧ eta ≤ 1 / 1000000 ∧ 0 ≤ tau ∧ tau ≤ eta / 1000000000000 := by decide +kernel
theorem h_step {p z c : Nat} {P e κ A A' Z : Rat} (hp : isFin p = true) (hz : isFin z = true) (hc : isFin c = true) (hκ : qv c = κ) (h0 : 0 ≤ qv z) (h1 : qv z ≤ Z) (hZ : Z ≤ 1) (hpe : Bd (qv p - P) e) (hA : Bd P A) (hA' : Bd (κ + qv z * P) A') (hAe : A + e ≤ 1000) (hA2 : A' ≤ 2000) :
    isFin (fadd (fmul p z) c) = true ∧ Bd (qv (fadd (fmul p z) c) - (κ + qv z * P)) (eStep Z e A A') := by
  obtain ⟨t1, t2, t3, t4⟩ := eta_small
  have hz' : Bd (qv z) Z := ⟨by grind, h1⟩
  have hp' : Bd (qv p) (A + e) := (hA.add hpe).of_eq (by grind)
  have hAe0 := hp'.nonneg
  have hZ0 : 0 ≤ Z := by grind
  have hpz : Bd (qv p * qv z) ((A + e) * Z) := hp'.mul hz'
  have hAZ : (A + e) * Z ≤ (A + e) * 1 := Rat.mul_le_mul_of_nonneg_left hZ hAe0
  obtain ⟨m1, m2⟩ := mul_q hp hz hpz (by grind)
  have he1 : Bd ((qv p - P) * qv z) (e * Z) := hpe.mul hz'
  have hd : Bd (qv (fmul p z) - qv z * P) (e * Z + ((A + e) * Z * eta + tau)) := (he1.add m2).of_eq (by grind)
  have hs : Bd (qv (fmul p z) + qv c) (A' + (e * Z + ((A + e) * Z * eta + tau))) := (hA'.add hd).of_eq (by rw [hκ]; grind)
  have he0 := hpe.nonneg
  have heZ : e * Z ≤ e * 1 := Rat.mul_le_mul_of_nonneg_left hZ he0
  have hAZ0 : 0 ≤ (A + e) * Z := Rat.mul_nonneg hAe0 hZ0
  have hAZe : (A + e) * Z * eta ≤ 1000 * (1 / 1000000) := by
    have h5 : (A + e) * Z * eta ≤ (A + e) * Z * (1 / 1000000) := Rat.mul_le_mul_of_nonneg_left t2 hAZ0
    grind
  have hA0 := hA.nonneg
  obtain ⟨s1, s2⟩ := add_q m1 hc hs (by grind)
  refine ⟨s1, ((hd.add s2).of_eq (by rw [hκ]; grind)).mono ?_⟩
  unfold eStep
  grind
theorem hn_err {z : Nat} {Z : Rat} (hz : isFin z = true) (h0 : 0 ≤ qv z) (h1 : qv z ≤ Z) (hZ : Z ≤ 1) : ∀ (l : List (Nat × Rat)) (p : Nat) (P e A e' A' : Rat), isFin p = true → Bd (qv p - P) e → Bd P A → (∀ c ∈ l, isFin c.1 = true ∧ qv c.1 = c.2) → hE Z (l.map (·.2)) e A = some (e', A') →
    isFin (hn z (l.map (·.1)) p) = true ∧ Bd (qv (hn z (l.map (·.1)) p) - hP (qv z) (l.map (·.2)) P) e' ∧ Bd (hP (qv z) (l.map (·.2)) P) A'
  | [], p, P, e, A, e', A', hp, hpe, hA, hl, h => by
    cases h; exact ⟨hp, hpe, hA⟩
  | (c, κ) :: l, p, P, e, A, e', A', hp, hpe, hA, hl, h => by
    simp only [List.map_cons, hE] at h
    split at h
    · rename_i hc
      obtain ⟨c1, c2⟩ := hl (c, κ) (by simp)
      have hA2 : Bd (κ + qv z * P) (rabs κ + Z * A) := (bd_rabs κ).add (Bd.mul ⟨by grind, h1⟩ hA)
      have hA0 := hA.nonneg
      have he0 := hpe.nonneg
      have hZA : Z * A ≤ 1 * A := Rat.mul_le_mul_of_nonneg_right hZ hA0
      obtain ⟨s1, s2⟩ := h_step hp hz c1 c2 h0 h1 hZ hpe hA hA2 hc.1 (by have := hc.1; have := hc.2; grind)
      exact hn_err hz h0 h1 hZ l _ _ _ _ _ _ s1 s2 hA2 (fun c hc => hl c (by simp [hc])) h
    · cases h
def ZZ : Rat := 6169 / 10000
def cosW : List Nat := [13666517717442657437, 4477122120089393304, 13732177094651715420, 4537941361671905306, 13787419979223755799, 4586165620538955093, 13826050856027422720]
def sinW : List Nat := [13648976655441704991, 4460272573143870729, 13716528800881525988, 4523617214285662004, 13774824197408792602, 4575957461383581969, 13818544856648471893]
def cosP (z : Nat) : Nat := hn z cosW 4407590220077447199
def sinP (z : Nat) : Nat := hn z sinW 4389130328383466826
def cosT : List Rat := [(-1 / 2), (6004799503160661 / 144115188075855872), (-6405119470038039 / 4611686018427387904), (3660068268593165 / 147573952589676412928), (-1301357606610903 / 4722366482869645213696), (630961263811347 / 302231454903657293676544), (-7100047627943069 / 618970019642690137449562112), (7573384136472607 / 158456325028528675187087900672)]
def sinT : List Rat := [(-6004799503160661 / 36028797018963968), (4803839602528529 / 576460752303423488), (-3660068268593165 / 18446744073709551616), (1626697008263629 / 590295810358705651712), (-1892883791434041 / 75557863725914323419136), (6212541674450185 / 38685626227668133590597632), (-7573384136472607 / 9903520314283042199192993792), (3563945475987109 / 1267650600228229401496703205376)]
def cosL : List (Nat × Rat) := [(13666517717442657437, (-7100047627943069 / 618970019642690137449562112)), (4477122120089393304, (630961263811347 / 302231454903657293676544)), (13732177094651715420, (-1301357606610903 / 4722366482869645213696)), (4537941361671905306, (3660068268593165 / 147573952589676412928)), (13787419979223755799, (-6405119470038039 / 4611686018427387904)), (4586165620538955093, (6004799503160661 / 144115188075855872)), (13826050856027422720, (-1 / 2))]
def cos8 : Rat := (7573384136472607 / 158456325028528675187087900672)
theorem cos_q0 : isFin 4407590220077447199 = true ∧ qv 4407590220077447199 = (7573384136472607 / 158456325028528675187087900672) := ⟨by decide, (qv_const (n := 7573384136472607) (d := 158456325028528675187087900672) (by decide) (by decide +kernel)).trans (by decide +kernel)⟩
theorem cos_q1 : isFin 13666517717442657437 = true ∧ qv 13666517717442657437 = (-7100047627943069 / 618970019642690137449562112) := ⟨by decide, (qv_const (n := -7100047627943069) (d := 618970019642690137449562112) (by decide) (by decide +kernel)).trans (by decide +kernel)⟩
theorem cos_q2 : isFin 4477122120089393304 = true ∧ qv 4477122120089393304 = (630961263811347 / 302231454903657293676544) := ⟨by decide, (qv_const (n := 630961263811347) (d := 302231454903657293676544) (by decide) (by decide +kernel)).trans (by decide +kernel)⟩
theorem cos_q3 : isFin 13732177094651715420 = true ∧ qv 13732177094651715420 = (-1301357606610903 / 4722366482869645213696) := ⟨by decide, (qv_const (n := -1301357606610903) (d := 4722366482869645213696) (by decide) (by decide +kernel)).trans (by decide +kernel)⟩
theorem cos_q4 : isFin 4537941361671905306 = true ∧ qv 4537941361671905306 = (3660068268593165 / 147573952589676412928) := ⟨by decide, (qv_const (n := 3660068268593165) (d := 147573952589676412928) (by decide) (by decide +kernel)).trans (by decide +kernel)⟩
theorem cos_q5 : isFin 13787419979223755799 = true ∧ qv 13787419979223755799 = (-6405119470038039 / 4611686018427387904) := ⟨by decide, (qv_const (n := -6405119470038039) (d := 4611686018427387904) (by decide) (by decide +kernel)).trans (by decide +kernel)⟩
theorem cos_q6 : isFin 4586165620538955093 = true ∧ qv 4586165620538955093 = (6004799503160661 / 144115188075855872) := ⟨by decide, (qv_const (n := 6004799503160661) (d := 144115188075855872) (by decide) (by decide +kernel)).trans (by decide +kernel)⟩
theorem cos_q7 : isFin 13826050856027422720 = true ∧ qv 13826050856027422720 = (-1 / 2) := ⟨by decide, (qv_const (n := -1) (d := 2) (by decide) (by decide +kernel)).trans (by decide +kernel)⟩
theorem cosL_ok : ∀ c ∈ cosL, isFin c.1 = true ∧ qv c.1 = c.2 := by
  intro c hc
  simp only [cosL, List.mem_cons, List.not_mem_nil, or_false] at hc
  rcases hc with rfl | rfl | rfl | rfl | rfl | rfl | rfl
  · exact cos_q1
  · exact cos_q2
  · exact cos_q3
  · exact cos_q4
  · exact cos_q5
  · exact cos_q6
  · exact cos_q7
def sinL : List (Nat × Rat) := [(13648976655441704991, (-7573384136472607 / 9903520314283042199192993792)), (4460272573143870729, (6212541674450185 / 38685626227668133590597632)), (13716528800881525988, (-1892883791434041 / 75557863725914323419136)), (4523617214285662004, (1626697008263629 / 590295810358705651712)), (13774824197408792602, (-3660068268593165 / 18446744073709551616)), (4575957461383581969, (4803839602528529 / 576460752303423488)), (13818544856648471893, (-6004799503160661 / 36028797018963968))]
def sin8 : Rat := (3563945475987109 / 1267650600228229401496703205376)
theorem sin_q0 : isFin 4389130328383466826 = true ∧ qv 4389130328383466826 = (3563945475987109 / 1267650600228229401496703205376) := ⟨by decide, (qv_const (n := 3563945475987109) (d := 1267650600228229401496703205376) (by decide) (by decide +kernel)).trans (by decide +kernel)⟩
theorem sin_q1 : isFin 13648976655441704991 = true ∧ qv 13648976655441704991 = (-7573384136472607 / 9903520314283042199192993792) := ⟨by decide, (qv_const (n := -7573384136472607) (d := 9903520314283042199192993792) (by decide) (by decide +kernel)).trans (by decide +kernel)⟩
theorem sin_q2 : isFin 4460272573143870729 = true ∧ qv 4460272573143870729 = (6212541674450185 / 38685626227668133590597632) := ⟨by decide, (qv_const (n := 6212541674450185) (d := 38685626227668133590597632) (by decide) (by decide +kernel)).trans (by decide +kernel)⟩
theorem sin_q3 : isFin 13716528800881525988 = true ∧ qv 13716528800881525988 = (-1892883791434041 / 75557863725914323419136) := ⟨by decide, (qv_const (n := -1892883791434041) (d := 75557863725914323419136) (by decide) (by decide +kernel)).trans (by decide +kernel)⟩
theorem sin_q4 : isFin 4523617214285662004 = true ∧ qv 4523617214285662004 = (1626697008263629 / 590295810358705651712) := ⟨by decide, (qv_const (n := 1626697008263629) (d := 590295810358705651712) (by decide) (by decide +kernel)).trans (by decide +kernel)⟩
theorem sin_q5 : isFin 13774824197408792602 = true ∧ qv 13774824197408792602 = (-3660068268593165 / 18446744073709551616) := ⟨by decide, (qv_const (n := -3660068268593165) (d := 18446744073709551616) (by decide) (by decide +kernel)).trans (by decide +kernel)⟩
theorem sin_q6 : isFin 4575957461383581969 = true ∧ qv 4575957461383581969 = (4803839602528529 / 576460752303423488) := ⟨by decide, (qv_const (n := 4803839602528529) (d := 576460752303423488) (by decide) (by decide +kernel)).trans (by decide +kernel)⟩
theorem sin_q7 : isFin 13818544856648471893 = true ∧ qv 13818544856648471893 = (-6004799503160661 / 36028797018963968) := ⟨by decide, (qv_const (n := -6004799503160661) (d := 36028797018963968) (by decide) (by decide +kernel)).trans (by decide +kernel)⟩
theorem sinL_ok : ∀ c ∈ sinL, isFin c.1 = true ∧ qv c.1 = c.2 := by
  intro c hc
  simp only [sinL, List.mem_cons, List.not_mem_nil, or_false] at hc
  rcases hc with rfl | rfl | rfl | rfl | rfl | rfl | rfl
  · exact sin_q1
  · exact sin_q2
  · exact sin_q3
  · exact sin_q4
  · exact sin_q5
  · exact sin_q6
  · exact sin_q7
theorem circ_q : isFin 4618760256179416344 = true ∧ qv 4618760256179416344 = 884279719003555 / 140737488355328 := ⟨by decide, (qv_const (n := 884279719003555) (d := 140737488355328) (by decide) (by decide +kernel)).trans (by decide +kernel)⟩
theorem one_q : isFin 4607182418800017408 = true ∧ qv 4607182418800017408 = 1 := ⟨by decide, (qv_const (n := 1) (d := 1) (by decide) (by decide +kernel)).trans (by decide +kernel)⟩
theorem cosP_err {z : Nat} (hz : isFin z = true) (h0 : 0 ≤ qv z) (h1 : qv z ≤ ZZ) : isFin (cosP z) = true ∧ Bd (qv (cosP z) - pe cosT (qv z)) ((58 / 100) * eta) ∧ Bd (pe cosT (qv z)) (527 / 1000) := by
  obtain ⟨p1, p2⟩ := cos_q0
  have hE0 : ∃ e A, hE ZZ (cosL.map (·.2)) 0 (rabs cos8) = some (e, A) ∧ e ≤ (58 / 100) * eta ∧ A ≤ 527 / 1000 := by
    have h : (match hE ZZ (cosL.map (·.2)) 0 (rabs cos8) with | some (e, A) => decide (e ≤ (58 / 100) * eta ∧ A ≤ 527 / 1000) | none => false) = true := by decide +kernel
    split at h
    · rename_i e A he
      exact ⟨e, A, he, of_decide_eq_true h⟩
    · cases h
  obtain ⟨e, A, he, hle, hA⟩ := hE0
  obtain ⟨r1, r2, r3⟩ := hn_err hz h0 h1 (by decide +kernel) cosL 4407590220077447199 cos8 0 (rabs cos8) e A p1 (by rw [p2]; show Bd (cos8 - cos8) 0; rw [Rat.sub_self]; exact Bd.zero) (bd_rabs _) cosL_ok he
  have hpe : hP (qv z) (cosL.map (·.2)) cos8 = pe cosT (qv z) := by
    simp only [cosL, List.map_cons, List.map_nil, hP, cosT, pe, cos8]
    grind
  rw [hpe] at r2 r3
  exact ⟨r1, r2.mono hle, r3.mono hA⟩
theorem sinP_err {z : Nat} (hz : isFin z = true) (h0 : 0 ≤ qv z) (h1 : qv z ≤ ZZ) : isFin (sinP z) = true ∧ Bd (qv (sinP z) - pe sinT (qv z)) ((183 / 1000) * eta) ∧ Bd (pe sinT (qv z)) (172 / 1000) := by
  obtain ⟨p1, p2⟩ := sin_q0
  have hE0 : ∃ e A, hE ZZ (sinL.map (·.2)) 0 (rabs sin8) = some (e, A) ∧ e ≤ (183 / 1000) * eta ∧ A ≤ 172 / 1000 := by
    have h : (match hE ZZ (sinL.map (·.2)) 0 (rabs sin8) with | some (e, A) => decide (e ≤ (183 / 1000) * eta ∧ A ≤ 172 / 1000) | none => false) = true := by decide +kernel
    split at h
    · rename_i e A he
      exact ⟨e, A, he, of_decide_eq_true h⟩
    · cases h
  obtain ⟨e, A, he, hle, hA⟩ := hE0
  obtain ⟨r1, r2, r3⟩ := hn_err hz h0 h1 (by decide +kernel) sinL 4389130328383466826 sin8 0 (rabs sin8) e A p1 (by rw [p2]; show Bd (sin8 - sin8) 0; rw [Rat.sub_self]; exact Bd.zero) (bd_rabs _) sinL_ok he
  have hpe : hP (qv z) (sinL.map (·.2)) sin8 = pe sinT (qv z) := by
    simp only [sinL, List.map_cons, List.map_nil, hP, sinT, pe, sin8]
    grind
  rw [hpe] at r2 r3
  exact ⟨r1, r2.mono hle, r3.mono hA⟩
end Go.Lk
end
