import Derived.Test.YtmomainjlncogaaBa3
import Derived.Test.YtmomainjlncogaaProg
import Derived.Test.YtmomainjlncogaaBa4
section
/- The program: functions without bodies. -/
namespace Go.Lk
open Go.Proofs
set_option linter.unusedSimpArgs false
set_option linter.unusedVariables false
set_option maxRecDepth 100000

theorem b80 : Bare Try.prog 80 Extern.MathFloatBits.float64bits := ⟨_, Try.func80, rfl, by kernel_rfl, by kernel_rfl, by kernel_rfl⟩
theorem b124 : Bare Try.prog 124 Extern.MathFloatBits.float64frombits := ⟨_, Try.func124, rfl, by kernel_rfl, by kernel_rfl, by kernel_rfl⟩
theorem b147 : Bare Try.prog 147 (Extern.MathFloor.toIntegral "math.archFloor" .down) := ⟨_, Try.func147, rfl, by kernel_rfl, by kernel_rfl, by kernel_rfl⟩
theorem b205 : Bare Try.prog 205 (Extern.MathFloor.toIntegral "math.archTrunc" .zero) := ⟨_, Try.func205, rfl, by kernel_rfl, by kernel_rfl, by kernel_rfl⟩
theorem b196 : Bare Try.prog 196 Extern.MathSqrt.sqrt := ⟨_, Try.func196, rfl, by kernel_rfl, by kernel_rfl, by kernel_rfl⟩

noncomputable def t0 (ex : Bool) : Tab := ((((Tab.empty.addP 80 (xBits ex)).addP 124 (xFrom ex)).addP 196 (xSqrt ex)).addP 147 (xFloor ex)).addP 205 (xTrunc ex)
theorem t0_ok (ex : Bool) : (t0 ex).Ok Try.prog ex := by
  have h1 := xBits_ok ex b80
  have h2 := xFrom_ok ex b124
  have h3 := xSqrt_ok ex b196
  have h4 := xFloor_ok ex b147
  have h5 := xTrunc_ok ex b205
  generalize Try.prog = P at *
  exact Tab.Ok.addP (Tab.Ok.addP (Tab.Ok.addP (Tab.Ok.addP (Tab.Ok.addP (Tab.Ok.empty P ex) h1) h2) h3) h4) h5
theorem mixed : Try.prog.follows .mixedOrders = true := by kernel_rfl
noncomputable def c0 (ex : Bool) : Cfg := (t0 ex).cfg Try.prog ex
theorem c0_ok (ex : Bool) : (c0 ex).Ok := (t0_ok ex).cfg mixed

/-! ### Words as they are -/
theorem xAbs (x : Nat) : DFn (c0 true) 100 Try.f51 [.float .f64 x] [] = some (.float .f64 ((IntKind.u64.wrap (BitVec.ofInt 64 x &&& ~~~BitVec.ofInt 64 9223372036854775808).toNat).toNat), []) := by kernel_rfl
theorem xCopysign (x y : Nat) : DFn (c0 true) 100 Try.f35 [.float .f64 x, .float .f64 y] [] = some (.float .f64 (IntKind.u64.wrap (BitVec.ofInt 64 (IntKind.u64.wrap (BitVec.ofInt 64 x &&& ~~~BitVec.ofInt 64 9223372036854775808).toNat) ||| BitVec.ofInt 64 (IntKind.u64.wrap (BitVec.ofInt 64 y &&& BitVec.ofInt 64 9223372036854775808).toNat)).toNat).toNat, []) := by kernel_rfl
end Go.Lk
end

section
/- The rows of sines, cosines and tangents. -/
namespace Go.Lk
open Go.Proofs
set_option maxRecDepth 100000
set_option linter.unusedVariables false

theorem iPure_ok {C : Cfg} (hC : C.Ok) {f : Nat} {fn : Func} (n : Nat) (hf : C.P.funcs[f]? = some fn) (hok : fnOk C fn = true) : IsPure C.P C.ex f (iPure C n fn) := by
  intro args v σ h
  simp only [fnOk, Bool.and_eq_true, Bool.not_eq_true'] at hok
  unfold iPure at h
  cases hfl : args.all plain with
  | false => rw [hfl] at h; cases h
  | true =>
    rw [hfl] at h
    simp only [cond_true] at h
    split at h
    · rename_i v' σ1 hd
      cases hp : plain v' with
      | false => rw [hp] at h; cases h
      | true => rw [hp] at h; cases h; exact CallR.frame hfl (CallR.of_DFn_nil hC hf hok.1 hok.2 hd hp) hp
    · cases h
theorem IsPure.of_sub {P : Program} {ex : Bool} {f : Nat} {s s' : PureFn} (h : IsPure P ex f s') (hs : ∀ args v, s args = some v → s' args = some v) : IsPure P ex f s :=
  fun args v σ hv => h args v σ (hs args v hv)

noncomputable def L0 : Lib := ⟨Try.prog, false, t0 false, [(207, Try.f207), (182, Try.f182), (184, Try.f184)], []⟩
theorem L0_fp : ∀ e, e ∈ L0.pures → Try.prog.funcs[e.1]? = some e.2 := fs_cons Try.func207 (fs_cons Try.func182 (fs_cons Try.func184 fs_nil))
theorem L0_fh : ∀ e, e ∈ L0.heaps → Try.prog.funcs[e.1]? = some e.2.2 := gs_nil
theorem L0_p1 (gp : Nat → PureFn) (g : Nat → HeapFn) : (L0.pures.all fun e => fnOk (L0.mk' gp g) e.2) = true := by kernel_rfl
theorem L0_h1 (gp : Nat → PureFn) (g : Nat → HeapFn) : (L0.heaps.all fun e => fnOk (L0.mk' gp g) e.2.2 && (!e.2.1 || fnRo (L0.mk' gp g) e.2.2)) = true := by kernel_rfl
theorem L0_ok : L0.Ok := ⟨t0_ok false, mixed, L0_fp, L0_fh, L0_p1, L0_h1⟩

def cosA : Value := .agg #[.float .f64 4607182418800017408, .float .f64 13826050856027422720, .float .f64 4586165620538955093, .float .f64 13787419979223755799, .float .f64 4537941361671905306, .float .f64 13732177094651715420, .float .f64 4477122120089393304, .float .f64 13666517717442657437, .float .f64 4407590220077447199, .float .f64 0, .float .f64 0, .float .f64 0, .float .f64 0, .float .f64 0, .float .f64 0, .float .f64 0, .float .f64 0, .float .f64 0, .float .f64 0, .float .f64 0, .float .f64 0, .float .f64 0, .float .f64 0, .float .f64 0]
def sinA : Value := .agg #[.float .f64 4607182418800017408, .float .f64 13818544856648471893, .float .f64 4575957461383581969, .float .f64 13774824197408792602, .float .f64 4523617214285662004, .float .f64 13716528800881525988, .float .f64 4460272573143870729, .float .f64 13648976655441704991, .float .f64 4389130328383466826, .float .f64 0, .float .f64 0, .float .f64 0, .float .f64 0, .float .f64 0, .float .f64 0, .float .f64 0, .float .f64 0, .float .f64 0, .float .f64 0, .float .f64 0, .float .f64 0, .float .f64 0, .float .f64 0, .float .f64 0]
def tanA : Value := .agg #[.float .f64 4607182418800017408, .float .f64 13823048456275842389, .float .f64 4596373779694328218, .float .f64 13817687028148020370, .float .f64 4592670820000712476, .float .f64 13814587147885025094, .float .f64 4590207312512236308, .float .f64 13812840297120469265, .float .f64 4588638185040256542, .float .f64 13811117867789299496, .float .f64 4587023449039406616, .float .f64 13809798735632998756, .float .f64 4585925428558828667, .float .f64 13808870457448935272, .float .f64 4585130310279789462, .float .f64 13808181734925275268, .float .f64 4584391475231203080, .float .f64 13807264411867534365, .float .f64 4583447231574686416, .float .f64 13806419780728628250, .float .f64 4582687230582855930, .float .f64 13805732290266727924, .float .f64 4582062340878461975, .float .f64 13805161819457917015]
def sPowers : PureFn
  | [.int .i64 (.ofNat 0)] => some cosA
  | [.int .i64 (.ofNat 1)] => some sinA
  | _ => none
def sTangents : PureFn
  | [] => some tanA
  | _ => none
theorem pow0 : iPure (L0.cfg 100 1) 100 Try.f182 [.int .i64 0] = some cosA := by kernel_rfl
theorem pow1 : iPure (L0.cfg 100 1) 100 Try.f182 [.int .i64 1] = some sinA := by kernel_rfl
theorem tan0 : iPure (L0.cfg 100 1) 100 Try.f184 [] = some tanA := by kernel_rfl
theorem f182_ok : fnOk (L0.cfg 100 1) Try.f182 = true := by kernel_rfl
theorem f184_ok : fnOk (L0.cfg 100 1) Try.f184 = true := by kernel_rfl
theorem sPowers_ok : IsPure Try.prog false 182 sPowers :=
  (iPure_ok (C := L0.cfg 100 1) (L0_ok.cfg 100 1) 100 Try.func182 f182_ok).of_sub fun args v h => by
    unfold sPowers at h
    split at h
    · cases h; exact pow0
    · cases h; exact pow1
    · cases h
theorem sTangents_ok : IsPure Try.prog false 184 sTangents :=
  (iPure_ok (C := L0.cfg 100 1) (L0_ok.cfg 100 1) 100 Try.func184 f184_ok).of_sub fun args v h => by
    unfold sTangents at h
    split at h
    · cases h; exact tan0
    · cases h
noncomputable def t1 : Tab := (((t0 false).addP 182 sPowers).addP 184 sTangents)
theorem t1_ok : t1.Ok Try.prog false := (Tab.Ok.addP (Tab.Ok.addP (t0_ok false) sPowers_ok) sTangents_ok)
end Go.Lk
end

section
/- Abs, Copysign, Signbit: by the words. -/
namespace Go.Lk
open Go.Proofs
set_option maxRecDepth 100000
set_option linter.unusedSimpArgs false
set_option linter.unusedVariables false

theorem xAbs_call (σ : AHeap) (x : Nat) : CallR Try.prog true 51 [.float .f64 x] σ (.float .f64 ((IntKind.u64.wrap (BitVec.ofInt 64 x &&& ~~~BitVec.ofInt 64 9223372036854775808).toNat).toNat)) σ :=
  CallR.frame rfl (CallR.of_DFn_nil (C := c0 true) (c0_ok true) Try.func51 (by kernel_rfl) (by kernel_rfl) (xAbs x) rfl) rfl
theorem xCopysign_call (σ : AHeap) (x y : Nat) : CallR Try.prog true 35 [.float .f64 x, .float .f64 y] σ (.float .f64 (IntKind.u64.wrap (BitVec.ofInt 64 (IntKind.u64.wrap (BitVec.ofInt 64 x &&& ~~~BitVec.ofInt 64 9223372036854775808).toNat) ||| BitVec.ofInt 64 (IntKind.u64.wrap (BitVec.ofInt 64 y &&& BitVec.ofInt 64 9223372036854775808).toNat)).toNat).toNat) σ :=
  CallR.frame rfl (CallR.of_DFn_nil (C := c0 true) (c0_ok true) Try.func35 (by kernel_rfl) (by kernel_rfl) (xCopysign x y) rfl) rfl
theorem u64_wrap {n : Nat} (h : n < 2 ^ 64) : IntKind.u64.wrap (n : Int) = n := by
  unfold IntKind.wrap
  simp [IntKind.min, IntKind.signed, IntKind.bits]
  omega
theorem ofInt_toNat (x : Nat) : (BitVec.ofInt 64 (x : Int)).toNat = x % 2 ^ 64 := by simp
theorem abs_bits (x : Nat) : (BitVec.ofInt 64 (x : Int) &&& ~~~BitVec.ofInt 64 9223372036854775808).toNat = x % 2 ^ 63 := by
  rw [BitVec.toNat_and, ofInt_toNat]
  have : (~~~BitVec.ofInt 64 9223372036854775808).toNat = 2 ^ 63 - 1 := by decide
  rw [this, Nat.and_two_pow_sub_one_eq_mod]
  omega
theorem sign_bits (y : Nat) : (BitVec.ofInt 64 (y : Int) &&& BitVec.ofInt 64 9223372036854775808).toNat = if sg y then 2 ^ 63 else 0 := by
  rw [BitVec.toNat_and, ofInt_toNat]
  have : (BitVec.ofInt 64 9223372036854775808).toNat = 2 ^ 63 := by decide
  rw [this]
  apply Nat.eq_of_testBit_eq
  intro i
  rw [Nat.testBit_and, Nat.testBit_two_pow, Nat.testBit_mod_two_pow]
  by_cases hi : 63 = i
  · subst hi
    have h1 : y.testBit 63 = sg y := by
      unfold sg
      rw [Nat.testBit_eq_decide_div_mod_eq, Bool.eq_iff_iff]
      simp
    rw [h1]
    cases sg y
    · simp
    · simp only [if_true, Nat.testBit_two_pow_self]; rfl
  · have h1 : decide (63 = i) = false := by simp; exact hi
    rw [h1, Bool.and_false]
    cases sg y
    · simp
    · simp only [if_true, Nat.testBit_two_pow, h1]
theorem abs_word (x : Nat) : (IntKind.u64.wrap (BitVec.ofInt 64 x &&& ~~~BitVec.ofInt 64 9223372036854775808).toNat).toNat = rg x := by
  rw [abs_bits, u64_wrap (by omega)]; rfl
theorem copysign_word (x y : Nat) : (IntKind.u64.wrap (BitVec.ofInt 64 (IntKind.u64.wrap (BitVec.ofInt 64 x &&& ~~~BitVec.ofInt 64 9223372036854775808).toNat) ||| BitVec.ofInt 64 (IntKind.u64.wrap (BitVec.ofInt 64 y &&& BitVec.ofInt 64 9223372036854775808).toNat)).toNat).toNat = wd (sg y) (rg x) := by
  have hs : (if sg y = true then 2 ^ 63 else 0) < 2 ^ 64 := by split <;> omega
  rw [abs_bits, sign_bits, u64_wrap (n := x % 2 ^ 63) (by omega), u64_wrap hs, BitVec.toNat_or, ofInt_toNat, ofInt_toNat]
  have h1 : x % 2 ^ 63 % 2 ^ 64 = x % 2 ^ 63 := by omega
  have h2 : (if sg y = true then 2 ^ 63 else 0) % 2 ^ 64 = if sg y = true then 2 ^ 63 else 0 := by split <;> omega
  rw [h1, h2]
  have key : x % 2 ^ 63 ||| (if sg y = true then 2 ^ 63 else 0) = wd (sg y) (rg x) := by
    unfold wd rg
    cases sg y
    · simp
    · simp only [if_true]
      rw [Nat.or_comm]
      have := Nat.two_pow_add_eq_or_of_lt (i := 63) (b := x % 2 ^ 63) (Nat.mod_lt _ (by decide)) 1
      rw [Nat.mul_one] at this
      exact this.symm
  rw [key, u64_wrap (wd_lt (by unfold rg; omega))]
  simp
theorem rg_rg (x : Nat) : rg (rg x) = rg x := Nat.mod_mod _ _
theorem nan_rg {x y : Nat} (h : rg x = rg y) : isNaN x = isNaN y := by rw [isNaN_iff, isNaN_iff, h]
theorem rg_lt (x : Nat) : rg x < 2 ^ 63 := Nat.mod_lt _ (by decide)

def sAbs : PureFn
  | [.float .f64 x] => some (.float .f64 (fabs x))
  | _ => none
def sCopysign : PureFn
  | [.float .f64 x, .float .f64 y] => bif isNaN x || !isNaN y then some (.float .f64 (fcopysign x y)) else none
  | _ => none
theorem fabs_can (c : Nat) : fabs (can c) = can (rg c) := by
  unfold fabs
  rw [isNaN_can]
  cases h : isNaN c
  · rw [cond_false, can_of_num h, can_of_num (by rw [nan_rg (rg_rg c)]; exact h)]
  · rw [cond_true, can_of_nan (by rw [nan_rg (rg_rg c)]; exact h)]
theorem sAbs_ok : IsPure Try.prog false 51 sAbs := by
  intro args v σ h
  unfold sAbs at h
  split at h
  · rename_i x
    cases h
    refine CallR.of_exact rfl (fun cargs hv => ?_) rfl
    obtain ⟨y, hy, hvr⟩ := hv.one_of
    obtain ⟨c, rfl, rfl⟩ := hvr.float_of
    subst hy
    refine ⟨_, xAbs_call [] c, rfl, ?_⟩
    rw [abs_word]
    have := VR.float (ex := false) (μ := []) .f64 (rg c)
    rw [show cn false (rg c) = can (rg c) from rfl, ← fabs_can] at this
    exact this
  · cases h
theorem fcopysign_can {c d : Nat} (h : isNaN c = true ∨ isNaN d = false) : fcopysign (can c) (can d) = can (wd (sg d) (rg c)) := by
  unfold fcopysign
  rw [isNaN_can]
  have hw : isNaN (wd (sg d) (rg c)) = isNaN c := nan_rg (rg_wd (rg_lt _))
  cases hc : isNaN c
  · rw [hc] at hw h
    rw [cond_false, can_of_num hc, can_of_num hw]
    rcases h with h | h
    · cases h
    · rw [can_of_num h]
  · rw [hc] at hw; rw [cond_true, can_of_nan hw]
theorem sCopysign_ok : IsPure Try.prog false 35 sCopysign := by
  intro args v σ h
  unfold sCopysign at h
  split at h
  · rename_i x y
    cases hb : (isNaN x || !isNaN y)
    · rw [hb] at h; cases h
    rw [hb] at h
    cases h
    refine CallR.of_exact rfl (fun cargs hv => ?_) rfl
    obtain ⟨c', hc', hvr⟩ := hv.2 0 _ rfl
    obtain ⟨d', hd', hvr'⟩ := hv.2 1 _ rfl
    obtain ⟨c, rfl, rfl⟩ := hvr.float_of
    obtain ⟨d, rfl, rfl⟩ := hvr'.float_of
    have hcs : cargs = [.float .f64 c, .float .f64 d] := by
      have hl := hv.1
      match cargs, hl with
      | [a, b], _ => simp at hc' hd'; rw [hc', hd']
    subst hcs
    refine ⟨_, xCopysign_call [] c d, rfl, ?_⟩
    rw [copysign_word]
    have := VR.float (ex := false) (μ := []) .f64 (wd (sg d) (rg c))
    rw [show cn false (wd (sg d) (rg c)) = can (wd (sg d) (rg c)) from rfl, ← fcopysign_can] at this
    · exact this
    · rw [show cn false c = can c from rfl, show cn false d = can d from rfl, isNaN_can, isNaN_can] at hb
      cases h1 : isNaN c
      · right; rw [h1] at hb; simpa using hb
      · left; rfl
  · cases h
noncomputable def t2 : Tab := ((t1.addP 51 sAbs).addP 35 sCopysign)
theorem t2_ok : t2.Ok Try.prog false := (Tab.Ok.addP (Tab.Ok.addP t1_ok sAbs_ok) sCopysign_ok)
noncomputable def c2 : Cfg := t2.cfg Try.prog false
end Go.Lk
end

section
/- The math functions and others without branches, out of their bodies. -/
namespace Go.Lk
open Go.Proofs
set_option maxRecDepth 100000
noncomputable def L2 : Lib := ⟨Try.prog, false, t2, [(181, Try.f181), (160, Try.f160), (55, Try.f55), (123, Try.f123), (128, Try.f128), (207, Try.f207), (122, Try.f122), (135, Try.f135)], []⟩
theorem L2_fp : ∀ e, e ∈ L2.pures → Try.prog.funcs[e.1]? = some e.2 := fs_cons Try.func181 (fs_cons Try.func160 (fs_cons Try.func55 (fs_cons Try.func123 (fs_cons Try.func128 (fs_cons Try.func207 (fs_cons Try.func122 (fs_cons Try.func135 (fs_nil))))))))
theorem L2_fh : ∀ e, e ∈ L2.heaps → Try.prog.funcs[e.1]? = some e.2.2 := gs_nil
theorem L2_p1 (gp : Nat → PureFn) (g : Nat → HeapFn) : (L2.pures.all fun e => fnOk (L2.mk' gp g) e.2) = true := by kernel_rfl
theorem L2_h1 (gp : Nat → PureFn) (g : Nat → HeapFn) : (L2.heaps.all fun e => fnOk (L2.mk' gp g) e.2.2 && (!e.2.1 || fnRo (L2.mk' gp g) e.2.2)) = true := by kernel_rfl
theorem L2_ok : L2.Ok := ⟨t2_ok, mixed, L2_fp, L2_fh, L2_p1, L2_h1⟩

noncomputable def d2 : Cfg := L2.cfg 100 4
theorem d2_ok : d2.Ok := L2_ok.cfg 100 4
end Go.Lk
end

section
/- Modf, Wrap. -/
namespace Go.Lk
open Go.Proofs
set_option maxRecDepth 100000
set_option linter.unusedVariables false
set_option linter.unusedSimpArgs false
theorem wModf_fok : fnOk (d2) Try.f123 = true := by kernel_rfl
theorem wModf_p0 (x : Nat) (σ : AHeap) (h0 : (isNaN (fsub x (ftrunc x)) || !isNaN x) = true) : CallR Try.prog false 123 [Value.float .f64 x] σ (Value.tuple { toList := [Value.float .f64 (ftrunc x), Value.float .f64 (fcopysign (fsub x (ftrunc x)) x)] }) σ := CallR.of_DO_pure (C := d2) d2_ok Try.func123 wModf_fok (n := 100) (orc := [(19, Item.res (Value.float .f64 (fcopysign (fsub x (ftrunc x)) x)))]) (ps := [(gP (Value.float .f64 (fcopysign (fsub x (ftrunc x)) x)) ([]) (isNaN (fsub x (ftrunc x)) || !isNaN x))]) (σ1 := []) (by kernel_rfl) ⟨gP_true _ _ h0, trivial⟩ rfl rfl
def wModf_t (x : Nat) : Value := (Value.tuple { toList := [Value.float .f64 (ftrunc x), Value.float .f64 (fcopysign (fsub x (ftrunc x)) x)] })
theorem wModf_c (x : Nat) (σ : AHeap) (g0_0 : (isNaN (fsub x (ftrunc x)) ||
  !isNaN x) = true) : CallR Try.prog false 123 [Value.float .f64 x] σ (wModf_t x) σ := by
  unfold wModf_t
  exact (wModf_p0 x σ (g0_0))
def sModf : PureFn
  | [.float .f64 x] => bif feq (fsub x x) 0 then some (.tuple #[.float .f64 (ftrunc x), .float .f64 (fcopysign (fsub x (ftrunc x)) x)]) else none
  | _ => none
theorem sModf_ok : IsPure Try.prog false 123 sModf := by
  intro args v σ h
  unfold sModf at h
  split at h
  · rename_i x
    cases hb : feq (fsub x x) 0
    · rw [hb] at h; cases h
    · rw [hb] at h
      cases h
      refine wModf_c x σ ?_
      have : isNaN x = false := by
        cases hn : isNaN x
        · rfl
        · rw [fsub_nan_l hn, feq_nan_l isNaN_qnan] at hb; cases hb
      rw [this]; simp
  · cases h
theorem feq_self (x : Nat) : feq x x = !isNaN x := by
  rcases three x with h | h | h
  · rw [feq_fin h h, fin_num h]; simp
  · have : isNaN x = false := by rw [isNaN_iff, h]; decide
    rw [this]
    unfold feq Ieee.Format.order
    rw [read_inf h]
    cases sg x <;> rfl
  · rw [feq_nan_l h, h]; rfl
def sBits : PureFn
  | [.float .f64 x] => bif feq x x then some (.int .u64 x) else none
  | _ => none
theorem sBits_ok : IsPure Try.prog false 80 sBits := by
  refine (xBits_ok false b80).of_sub fun args v h => ?_
  unfold sBits at h
  split at h
  · rename_i x
    rw [feq_self] at h
    exact h
  · cases h
noncomputable def t3 : Tab := ((t2.addP 123 sModf).addP 80 sBits)
theorem t3_ok : t3.Ok Try.prog false := (Tab.Ok.addP (Tab.Ok.addP t2_ok sModf_ok) sBits_ok)
noncomputable def L3a : Lib := ⟨Try.prog, false, t3, [(181, Try.f181), (160, Try.f160), (55, Try.f55), (128, Try.f128), (207, Try.f207), (122, Try.f122), (135, Try.f135)], []⟩
theorem L3a_fp : ∀ e, e ∈ L3a.pures → Try.prog.funcs[e.1]? = some e.2 := fs_cons Try.func181 (fs_cons Try.func160 (fs_cons Try.func55 (fs_cons Try.func128 (fs_cons Try.func207 (fs_cons Try.func122 (fs_cons Try.func135 (fs_nil)))))))
theorem L3a_fh : ∀ e, e ∈ L3a.heaps → Try.prog.funcs[e.1]? = some e.2.2 := gs_nil
theorem L3a_p1 (gp : Nat → PureFn) (g : Nat → HeapFn) : (L3a.pures.all fun e => fnOk (L3a.mk' gp g) e.2) = true := by kernel_rfl
theorem L3a_h1 (gp : Nat → PureFn) (g : Nat → HeapFn) : (L3a.heaps.all fun e => fnOk (L3a.mk' gp g) e.2.2 && (!e.2.1 || fnRo (L3a.mk' gp g) e.2.2)) = true := by kernel_rfl
theorem L3a_ok : L3a.Ok := ⟨t3_ok, mixed, L3a_fp, L3a_fh, L3a_p1, L3a_h1⟩
noncomputable def dL3a : Cfg := L3a.cfg 100 4
theorem dL3a_ok : dL3a.Ok := L3a_ok.cfg 100 4

theorem wWrap_fok : fnOk (dL3a) Try.f32 = true := by kernel_rfl
theorem wWrap_p0 (x : Nat) (σ : AHeap) (h0 : (feq (fsub x x) 0) = true) (h1 : (fge (fcopysign (fsub x (ftrunc x)) x) 4602678819172646912) = true) : CallR Try.prog false 32 [Value.float .f64 x] σ (Value.float .f64 (fadd (fsub (fcopysign (fsub x (ftrunc x)) x) 4607182418800017408) 0)) σ := CallR.of_DO_pure (C := dL3a) dL3a_ok Try.func32 wWrap_fok (n := 100) (orc := [(10, Item.br false), (14, Item.res (Value.tuple { toList := [Value.float .f64 (ftrunc x), Value.float .f64 (fcopysign (fsub x (ftrunc x)) x)] })), (31, Item.br true)]) (ps := [(bP (!feq (fsub x x) 0) false), (gP (Value.tuple { toList := [Value.float .f64 (ftrunc x), Value.float .f64 (fcopysign (fsub x (ftrunc x)) x)] }) ([]) (feq (fsub x x) 0)), (bP (fge (fcopysign (fsub x (ftrunc x)) x) 4602678819172646912) true)]) (σ1 := []) (by kernel_rfl) ⟨bP_of (fun x => !x) h0, ⟨gP_true _ _ h0, ⟨bP_of (fun x => x) h1, trivial⟩⟩⟩ rfl rfl
theorem wWrap_p1 (x : Nat) (σ : AHeap) (h0 : (feq (fsub x x) 0) = true) (h1 : (fge (fcopysign (fsub x (ftrunc x)) x) 4602678819172646912) = false) (h2 : (flt (fcopysign (fsub x (ftrunc x)) x) 13826050856027422720) = true) : CallR Try.prog false 32 [Value.float .f64 x] σ (Value.float .f64 (fadd (fadd (fcopysign (fsub x (ftrunc x)) x) 4607182418800017408) 0)) σ := CallR.of_DO_pure (C := dL3a) dL3a_ok Try.func32 wWrap_fok (n := 100) (orc := [(10, Item.br false), (14, Item.res (Value.tuple { toList := [Value.float .f64 (ftrunc x), Value.float .f64 (fcopysign (fsub x (ftrunc x)) x)] })), (31, Item.br false), (38, Item.br true)]) (ps := [(bP (!feq (fsub x x) 0) false), (gP (Value.tuple { toList := [Value.float .f64 (ftrunc x), Value.float .f64 (fcopysign (fsub x (ftrunc x)) x)] }) ([]) (feq (fsub x x) 0)), (bP (fge (fcopysign (fsub x (ftrunc x)) x) 4602678819172646912) false), (bP (flt (fcopysign (fsub x (ftrunc x)) x) 13826050856027422720) true)]) (σ1 := []) (by kernel_rfl) ⟨bP_of (fun x => !x) h0, ⟨gP_true _ _ h0, ⟨bP_of (fun x => x) h1, ⟨bP_of (fun x => x) h2, trivial⟩⟩⟩⟩ rfl rfl
theorem wWrap_p2 (x : Nat) (σ : AHeap) (h0 : (feq (fsub x x) 0) = true) (h1 : (fge (fcopysign (fsub x (ftrunc x)) x) 4602678819172646912) = false) (h2 : (flt (fcopysign (fsub x (ftrunc x)) x) 13826050856027422720) = false) : CallR Try.prog false 32 [Value.float .f64 x] σ (Value.float .f64 (fadd (fcopysign (fsub x (ftrunc x)) x) 0)) σ := CallR.of_DO_pure (C := dL3a) dL3a_ok Try.func32 wWrap_fok (n := 100) (orc := [(10, Item.br false), (14, Item.res (Value.tuple { toList := [Value.float .f64 (ftrunc x), Value.float .f64 (fcopysign (fsub x (ftrunc x)) x)] })), (31, Item.br false), (38, Item.br false)]) (ps := [(bP (!feq (fsub x x) 0) false), (gP (Value.tuple { toList := [Value.float .f64 (ftrunc x), Value.float .f64 (fcopysign (fsub x (ftrunc x)) x)] }) ([]) (feq (fsub x x) 0)), (bP (fge (fcopysign (fsub x (ftrunc x)) x) 4602678819172646912) false), (bP (flt (fcopysign (fsub x (ftrunc x)) x) 13826050856027422720) false)]) (σ1 := []) (by kernel_rfl) ⟨bP_of (fun x => !x) h0, ⟨gP_true _ _ h0, ⟨bP_of (fun x => x) h1, ⟨bP_of (fun x => x) h2, trivial⟩⟩⟩⟩ rfl rfl
theorem wWrap_p3 (x : Nat) (σ : AHeap) (h0 : (feq (fsub x x) 0) = false) : CallR Try.prog false 32 [Value.float .f64 x] σ (Value.float .f64 9221120237041090561) σ := CallR.of_DO_pure (C := dL3a) dL3a_ok Try.func32 wWrap_fok (n := 100) (orc := [(10, Item.br true)]) (ps := [(bP (!feq (fsub x x) 0) true)]) (σ1 := []) (by kernel_rfl) ⟨bP_of (fun x => !x) h0, trivial⟩ rfl rfl
def wWrap_t (x : Nat) : Value := (bif feq (fsub x x) 0 then (bif fge (fcopysign (fsub x (ftrunc x)) x) 4602678819172646912 then (Value.float .f64 (fadd (fsub (fcopysign (fsub x (ftrunc x)) x) 4607182418800017408) 0)) else (bif flt (fcopysign (fsub x (ftrunc x)) x) 13826050856027422720 then (Value.float .f64 (fadd (fadd (fcopysign (fsub x (ftrunc x)) x) 4607182418800017408) 0)) else (Value.float .f64 (fadd (fcopysign (fsub x (ftrunc x)) x) 0)))) else (Value.float .f64 9221120237041090561))
theorem wWrap_c (x : Nat) (σ : AHeap) : CallR Try.prog false 32 [Value.float .f64 x] σ (wWrap_t x) σ := by
  unfold wWrap_t
  exact (CallR.bif (fun h0 => (CallR.bif (fun h1 => (wWrap_p0 x σ h0 h1)) (fun h1 => (CallR.bif (fun h2 => (wWrap_p1 x σ h0 h1 h2)) (fun h2 => (wWrap_p2 x σ h0 h1 h2)))))) (fun h0 => (wWrap_p3 x σ h0)))
def wWrap_0 (x : Nat) : Nat := (bif feq (fsub x x) 0 then (bif fge (fcopysign (fsub x (ftrunc x)) x) 4602678819172646912 then fadd (fsub (fcopysign (fsub x (ftrunc x)) x) 4607182418800017408) 0 else (bif flt (fcopysign (fsub x (ftrunc x)) x) 13826050856027422720 then fadd (fadd (fcopysign (fsub x (ftrunc x)) x) 4607182418800017408) 0 else fadd (fcopysign (fsub x (ftrunc x)) x) 0)) else 9221120237041090561)
theorem wWrap_v (x : Nat) : wWrap_t x = Go.Value.float Go.FloatKind.f64 (wWrap_0 x) := by
  unfold wWrap_t wWrap_0
  cases (feq (fsub x x) 0) with
  | true =>
    cases (fge (fcopysign (fsub x (ftrunc x)) x) 4602678819172646912) with
    | true =>
      kernel_rfl
    | false =>
      cases (flt (fcopysign (fsub x (ftrunc x)) x) 13826050856027422720) with
      | true =>
        kernel_rfl
      | false =>
        kernel_rfl
  | false =>
    kernel_rfl
theorem wWrap_ok (x : Nat) (σ : AHeap) : CallR Try.prog false 32 [Value.float .f64
    x] σ (Go.Value.float Go.FloatKind.f64 (wWrap_0 x)) σ := by
  have h := wWrap_c x σ
  rw [wWrap_v] at h
  exact h
theorem wWrap_eq (x : Nat) : wWrap_0 x = wrapP x := by
  unfold wWrap_0 wrapP wStep half fone mhalf
  cases feq (fsub x x) 0
  · rfl
  · cases fge (fcopysign (fsub x (ftrunc x)) x) 4602678819172646912
    · cases flt (fcopysign (fsub x (ftrunc x)) x) 13826050856027422720 <;> rfl
    · rfl
end Go.Lk
end

section
/- Turn, Unit; the document's. -/
namespace Go.Lk
open Go.Proofs
set_option maxRecDepth 100000

set_option maxHeartbeats 0
set_option linter.unusedVariables false
set_option linter.unusedSimpArgs false
def sWrap : PureFn
  | [.float .f64 x] => some (.float .f64 (wrapP x))
  | _ => none
theorem sWrap_ok : IsPure Try.prog false 32 sWrap := by
  intro args v σ h
  unfold sWrap at h
  split at h
  · cases h; rw [← wWrap_eq]; exact wWrap_ok _ σ
  · cases h
noncomputable def t4 : Tab := (t3.addP 32 sWrap)
theorem t4_ok : t4.Ok Try.prog false := (Tab.Ok.addP t3_ok sWrap_ok)
noncomputable def L4 : Lib := ⟨Try.prog, false, t4, [(181, Try.f181), (160, Try.f160), (55, Try.f55), (128, Try.f128), (207, Try.f207), (122, Try.f122), (135, Try.f135)], [(183, true, Try.f183)]⟩
theorem L4_fp : ∀ e, e ∈ L4.pures → Try.prog.funcs[e.1]? = some e.2 := fs_cons Try.func181 (fs_cons Try.func160 (fs_cons Try.func55 (fs_cons Try.func128 (fs_cons Try.func207 (fs_cons Try.func122 (fs_cons Try.func135 (fs_nil)))))))
theorem L4_fh : ∀ e, e ∈ L4.heaps → Try.prog.funcs[e.1]? = some e.2.2 := gs_cons Try.func183 (gs_nil)
theorem L4_p1 (gp : Nat → PureFn) (g : Nat → HeapFn) : (L4.pures.all fun e => fnOk (L4.mk' gp g) e.2) = true := by kernel_rfl
theorem L4_h1 (gp : Nat → PureFn) (g : Nat → HeapFn) : (L4.heaps.all fun e => fnOk (L4.mk' gp g) e.2.2 && (!e.2.1 || fnRo (L4.mk' gp g) e.2.2)) = true := by kernel_rfl
theorem L4_ok : L4.Ok := ⟨t4_ok, mixed, L4_fp, L4_fh, L4_p1, L4_h1⟩
noncomputable def dL4 : Cfg := L4.cfg 100 4
theorem dL4_ok : dL4.Ok := L4_ok.cfg 100 4

theorem wEighth_fok : fnOk (dL4) Try.f125 = true := by kernel_rfl
theorem wEighth_p0 (a : Nat) (σ : AHeap) (h0 : (feq a 4593671619917905920) = true) : CallR Try.prog false 125 [Value.float .f64 a] σ (Value.complex .f64 4604544271217802189 4604544271217802189) σ := CallR.of_DO_pure (C := dL4) dL4_ok Try.func125 wEighth_fok (n := 100) (orc := [(6, Item.br true)]) (ps := [(bP (feq a 4593671619917905920) true)]) (σ1 := []) (by kernel_rfl) ⟨bP_of (fun x => x) h0, trivial⟩ rfl rfl
theorem wEighth_p1 (a : Nat) (σ : AHeap) (h0 : (feq a 4593671619917905920) = false) : CallR Try.prog false 125 [Value.float .f64 a] σ (Value.complex .f64 (fadd (fmul (fadd (fmul (fadd (fmul (fadd (fmul (fadd (fmul (fadd (fmul (fadd (fmul (fadd (fmul 4407590220077447199 (fmul (fmul a 4618760256179416344) (fmul a 4618760256179416344))) 13666517717442657437) (fmul (fmul a 4618760256179416344) (fmul a 4618760256179416344))) 4477122120089393304) (fmul (fmul a 4618760256179416344) (fmul a 4618760256179416344))) 13732177094651715420) (fmul (fmul a 4618760256179416344) (fmul a 4618760256179416344))) 4537941361671905306) (fmul (fmul a 4618760256179416344) (fmul a 4618760256179416344))) 13787419979223755799) (fmul (fmul a 4618760256179416344) (fmul a 4618760256179416344))) 4586165620538955093) (fmul (fmul a 4618760256179416344) (fmul a 4618760256179416344))) 13826050856027422720) (fmul (fmul a 4618760256179416344) (fmul a 4618760256179416344))) 4607182418800017408) (fmul (fadd (fmul (fadd (fmul (fadd (fmul (fadd (fmul (fadd (fmul (fadd (fmul (fadd (fmul (fadd (fmul 4389130328383466826 (fmul (fmul a 4618760256179416344) (fmul a 4618760256179416344))) 13648976655441704991) (fmul (fmul a 4618760256179416344) (fmul a 4618760256179416344))) 4460272573143870729) (fmul (fmul a 4618760256179416344) (fmul a 4618760256179416344))) 13716528800881525988) (fmul (fmul a 4618760256179416344) (fmul a 4618760256179416344))) 4523617214285662004) (fmul (fmul a 4618760256179416344) (fmul a 4618760256179416344))) 13774824197408792602) (fmul (fmul a 4618760256179416344) (fmul a 4618760256179416344))) 4575957461383581969) (fmul (fmul a 4618760256179416344) (fmul a 4618760256179416344))) 13818544856648471893) (fmul (fmul a 4618760256179416344) (fmul a 4618760256179416344))) 4607182418800017408) (fmul a 4618760256179416344))) σ := CallR.of_DO_pure (C := dL4) dL4_ok Try.func125 wEighth_fok (n := 100) (orc := [(6, Item.br false)]) (ps := [(bP (feq a 4593671619917905920) false)]) (σ1 := [AObj.row [Value.float .f64 4607182418800017408, Value.float .f64 13818544856648471893, Value.float .f64 4575957461383581969, Value.float .f64 13774824197408792602, Value.float .f64 4523617214285662004, Value.float .f64 13716528800881525988, Value.float .f64 4460272573143870729, Value.float .f64 13648976655441704991, Value.float .f64 4389130328383466826, Value.float .f64 0, Value.float .f64 0, Value.float .f64 0, Value.float .f64 0, Value.float .f64 0, Value.float .f64 0, Value.float .f64 0, Value.float .f64 0, Value.float .f64 0, Value.float .f64 0, Value.float .f64 0, Value.float .f64 0, Value.float .f64 0, Value.float .f64 0, Value.float .f64 0] true none, AObj.row [Value.float .f64 4607182418800017408, Value.float .f64 13826050856027422720, Value.float .f64 4586165620538955093, Value.float .f64 13787419979223755799, Value.float .f64 4537941361671905306, Value.float .f64 13732177094651715420, Value.float .f64 4477122120089393304, Value.float .f64 13666517717442657437, Value.float .f64 4407590220077447199, Value.float .f64 0, Value.float .f64 0, Value.float .f64 0, Value.float .f64 0, Value.float .f64 0, Value.float .f64 0, Value.float .f64 0, Value.float .f64 0, Value.float .f64 0, Value.float .f64 0, Value.float .f64 0, Value.float .f64 0, Value.float .f64 0, Value.float .f64 0, Value.float .f64 0] true none]) (by kernel_rfl) ⟨bP_of (fun x => x) h0, trivial⟩ rfl rfl
def wEighth_t (a : Nat) : Value := (bif feq a 4593671619917905920 then (Value.complex .f64 4604544271217802189 4604544271217802189) else (Value.complex .f64 (fadd (fmul (fadd (fmul (fadd (fmul (fadd (fmul (fadd (fmul (fadd (fmul (fadd (fmul (fadd (fmul 4407590220077447199 (fmul (fmul a 4618760256179416344) (fmul a 4618760256179416344))) 13666517717442657437) (fmul (fmul a 4618760256179416344) (fmul a 4618760256179416344))) 4477122120089393304) (fmul (fmul a 4618760256179416344) (fmul a 4618760256179416344))) 13732177094651715420) (fmul (fmul a 4618760256179416344) (fmul a 4618760256179416344))) 4537941361671905306) (fmul (fmul a 4618760256179416344) (fmul a 4618760256179416344))) 13787419979223755799) (fmul (fmul a 4618760256179416344) (fmul a 4618760256179416344))) 4586165620538955093) (fmul (fmul a 4618760256179416344) (fmul a 4618760256179416344))) 13826050856027422720) (fmul (fmul a 4618760256179416344) (fmul a 4618760256179416344))) 4607182418800017408) (fmul (fadd (fmul (fadd (fmul (fadd (fmul (fadd (fmul (fadd (fmul (fadd (fmul (fadd (fmul (fadd (fmul 4389130328383466826 (fmul (fmul a 4618760256179416344) (fmul a 4618760256179416344))) 13648976655441704991) (fmul (fmul a 4618760256179416344) (fmul a 4618760256179416344))) 4460272573143870729) (fmul (fmul a 4618760256179416344) (fmul a 4618760256179416344))) 13716528800881525988) (fmul (fmul a 4618760256179416344) (fmul a 4618760256179416344))) 4523617214285662004) (fmul (fmul a 4618760256179416344) (fmul a 4618760256179416344))) 13774824197408792602) (fmul (fmul a 4618760256179416344) (fmul a 4618760256179416344))) 4575957461383581969) (fmul (fmul a 4618760256179416344) (fmul a 4618760256179416344))) 13818544856648471893) (fmul (fmul a 4618760256179416344) (fmul a 4618760256179416344))) 4607182418800017408) (fmul a 4618760256179416344))))
theorem wEighth_c (a : Nat) (σ : AHeap) : CallR Try.prog false 125 [Value.float .f64 a] σ (wEighth_t a) σ := by
  unfold wEighth_t
  exact (CallR.bif (fun h0 => (wEighth_p0 a σ h0)) (fun h0 => (wEighth_p1 a σ h0)))
def wEighth_0 (a : Nat) : Nat := (bif feq a 4593671619917905920 then 4604544271217802189 else fadd (fmul (fadd (fmul (fadd (fmul (fadd (fmul (fadd (fmul (fadd (fmul (fadd (fmul (fadd (fmul 4407590220077447199 (fmul (fmul a 4618760256179416344) (fmul a 4618760256179416344))) 13666517717442657437) (fmul (fmul a 4618760256179416344) (fmul a 4618760256179416344))) 4477122120089393304) (fmul (fmul a 4618760256179416344) (fmul a 4618760256179416344))) 13732177094651715420) (fmul (fmul a 4618760256179416344) (fmul a 4618760256179416344))) 4537941361671905306) (fmul (fmul a 4618760256179416344) (fmul a 4618760256179416344))) 13787419979223755799) (fmul (fmul a 4618760256179416344) (fmul a 4618760256179416344))) 4586165620538955093) (fmul (fmul a 4618760256179416344) (fmul a 4618760256179416344))) 13826050856027422720) (fmul (fmul a 4618760256179416344) (fmul a 4618760256179416344))) 4607182418800017408)
def wEighth_1 (a : Nat) : Nat := (bif feq a 4593671619917905920 then 4604544271217802189 else fmul (fadd (fmul (fadd (fmul (fadd (fmul (fadd (fmul (fadd (fmul (fadd (fmul (fadd (fmul (fadd (fmul 4389130328383466826 (fmul (fmul a 4618760256179416344) (fmul a 4618760256179416344))) 13648976655441704991) (fmul (fmul a 4618760256179416344) (fmul a 4618760256179416344))) 4460272573143870729) (fmul (fmul a 4618760256179416344) (fmul a 4618760256179416344))) 13716528800881525988) (fmul (fmul a 4618760256179416344) (fmul a 4618760256179416344))) 4523617214285662004) (fmul (fmul a 4618760256179416344) (fmul a 4618760256179416344))) 13774824197408792602) (fmul (fmul a 4618760256179416344) (fmul a 4618760256179416344))) 4575957461383581969) (fmul (fmul a 4618760256179416344) (fmul a 4618760256179416344))) 13818544856648471893) (fmul (fmul a 4618760256179416344) (fmul a 4618760256179416344))) 4607182418800017408) (fmul a 4618760256179416344))
theorem wEighth_v (a : Nat) : wEighth_t a = Go.Value.complex Go.FloatKind.f64 (wEighth_0 a) (wEighth_1 a) := by
  unfold wEighth_t wEighth_0 wEighth_1
  cases (feq a 4593671619917905920) with
  | true =>
    kernel_rfl
  | false =>
    kernel_rfl
theorem wEighth_ok (a : Nat) (σ : AHeap) : CallR Try.prog false 125 [Value.float .f64
    a] σ (Go.Value.complex Go.FloatKind.f64 (wEighth_0 a) (wEighth_1 a)) σ := by
  have h := wEighth_c a σ
  rw [wEighth_v] at h
  exact h
def sEighth : PureFn
  | [.float .f64 x] => some (.complex .f64 (wEighth_0 x) (wEighth_1 x))
  | _ => none
theorem sEighth_ok : IsPure Try.prog false 125 sEighth := by
  intro args v σ h
  unfold sEighth at h
  split at h
  · cases h; exact wEighth_ok _ σ
  · cases h
noncomputable def t5 : Tab := (t4.addP 125 sEighth)
theorem t5_ok : t5.Ok Try.prog false := (Tab.Ok.addP t4_ok sEighth_ok)
noncomputable def L5 : Lib := ⟨Try.prog, false, t5, [(181, Try.f181), (160, Try.f160), (55, Try.f55), (128, Try.f128), (207, Try.f207), (122, Try.f122), (135, Try.f135)], [(183, true, Try.f183)]⟩
theorem L5_fp : ∀ e, e ∈ L5.pures → Try.prog.funcs[e.1]? = some e.2 := fs_cons Try.func181 (fs_cons Try.func160 (fs_cons Try.func55 (fs_cons Try.func128 (fs_cons Try.func207 (fs_cons Try.func122 (fs_cons Try.func135 (fs_nil)))))))
theorem L5_fh : ∀ e, e ∈ L5.heaps → Try.prog.funcs[e.1]? = some e.2.2 := gs_cons Try.func183 (gs_nil)
theorem L5_p1 (gp : Nat → PureFn) (g : Nat → HeapFn) : (L5.pures.all fun e => fnOk (L5.mk' gp g) e.2) = true := by kernel_rfl
theorem L5_h1 (gp : Nat → PureFn) (g : Nat → HeapFn) : (L5.heaps.all fun e => fnOk (L5.mk' gp g) e.2.2 && (!e.2.1 || fnRo (L5.mk' gp g) e.2.2)) = true := by kernel_rfl
theorem L5_ok : L5.Ok := ⟨t5_ok, mixed, L5_fp, L5_fh, L5_p1, L5_h1⟩
noncomputable def dL5 : Cfg := L5.cfg 100 4
theorem dL5_ok : dL5.Ok := L5_ok.cfg 100 4

theorem wTurn_fok : fnOk (dL5) Try.f36 = true := by kernel_rfl
theorem wTurn_p0 (x : Nat) (σ : AHeap) (h0 : (feq (wrapP x) (wrapP x)) = true) (h1 : (fgt (fabs (wrapP x)) 4598175219545276416) = true) (h2 : (fgt (fsub 4602678819172646912 (fabs (wrapP x))) 4593671619917905920) = true) (h3 : (flt (wrapP x) 0) = true) : CallR Try.prog false 36 [Value.float .f64 x] σ (Value.complex .f64 (fadd (aneg false (wEighth_1 (fsub 4598175219545276416 (fsub 4602678819172646912 (fabs (wrapP x)))))) 0) (fadd (aneg false (wEighth_0 (fsub 4598175219545276416 (fsub 4602678819172646912 (fabs (wrapP x)))))) 0)) σ := CallR.of_DO_pure (C := dL5) dL5_ok Try.func36 wTurn_fok (n := 100) (orc := [(14, Item.br false), (29, Item.br true), (44, Item.br true), (59, Item.br true), (74, Item.br true), (93, Item.br true)]) (ps := [(bP (!feq (wrapP x) (wrapP x)) false), (bP (fgt (fabs (wrapP x)) 4598175219545276416) true), (bP (fgt (fsub 4602678819172646912 (fabs (wrapP x))) 4593671619917905920) true), (bP (fgt (fsub 4602678819172646912 (fabs (wrapP x))) 4593671619917905920) true), (bP (fgt (fabs (wrapP x)) 4598175219545276416) true), (bP (flt (wrapP x) 0) true)]) (σ1 := []) (by kernel_rfl) ⟨bP_of (fun x => !x) h0, ⟨bP_of (fun x => x) h1, ⟨bP_of (fun x => x) h2, ⟨bP_of (fun x => x) h2, ⟨bP_of (fun x => x) h1, ⟨bP_of (fun x => x) h3, trivial⟩⟩⟩⟩⟩⟩ rfl rfl
theorem wTurn_p1 (x : Nat) (σ : AHeap) (h0 : (feq (wrapP x) (wrapP x)) = true) (h1 : (fgt (fabs (wrapP x)) 4598175219545276416) = true) (h2 : (fgt (fsub 4602678819172646912 (fabs (wrapP x))) 4593671619917905920) = true) (h3 : (flt (wrapP x) 0) = false) : CallR Try.prog false 36 [Value.float .f64 x] σ (Value.complex .f64 (fadd (aneg false (wEighth_1 (fsub 4598175219545276416 (fsub 4602678819172646912 (fabs (wrapP x)))))) 0) (fadd (wEighth_0 (fsub 4598175219545276416 (fsub 4602678819172646912 (fabs (wrapP x))))) 0)) σ := CallR.of_DO_pure (C := dL5) dL5_ok Try.func36 wTurn_fok (n := 100) (orc := [(14, Item.br false), (29, Item.br true), (44, Item.br true), (59, Item.br true), (74, Item.br true), (93, Item.br false)]) (ps := [(bP (!feq (wrapP x) (wrapP x)) false), (bP (fgt (fabs (wrapP x)) 4598175219545276416) true), (bP (fgt (fsub 4602678819172646912 (fabs (wrapP x))) 4593671619917905920) true), (bP (fgt (fsub 4602678819172646912 (fabs (wrapP x))) 4593671619917905920) true), (bP (fgt (fabs (wrapP x)) 4598175219545276416) true), (bP (flt (wrapP x) 0) false)]) (σ1 := []) (by kernel_rfl) ⟨bP_of (fun x => !x) h0, ⟨bP_of (fun x => x) h1, ⟨bP_of (fun x => x) h2, ⟨bP_of (fun x => x) h2, ⟨bP_of (fun x => x) h1, ⟨bP_of (fun x => x) h3, trivial⟩⟩⟩⟩⟩⟩ rfl rfl
theorem wTurn_p2 (x : Nat) (σ : AHeap) (h0 : (feq (wrapP x) (wrapP x)) = true) (h1 : (fgt (fabs (wrapP x)) 4598175219545276416) = true) (h2 : (fgt (fsub 4602678819172646912 (fabs (wrapP x))) 4593671619917905920) = false) (h3 : (flt (wrapP x) 0) = true) : CallR Try.prog false 36 [Value.float .f64 x] σ (Value.complex .f64 (fadd (aneg false (wEighth_0 (fsub 4602678819172646912 (fabs (wrapP x))))) 0) (fadd (aneg false (wEighth_1 (fsub 4602678819172646912 (fabs (wrapP x))))) 0)) σ := CallR.of_DO_pure (C := dL5) dL5_ok Try.func36 wTurn_fok (n := 100) (orc := [(14, Item.br false), (29, Item.br true), (44, Item.br false), (53, Item.br false), (56, Item.br true), (75, Item.br true)]) (ps := [(bP (!feq (wrapP x) (wrapP x)) false), (bP (fgt (fabs (wrapP x)) 4598175219545276416) true), (bP (fgt (fsub 4602678819172646912 (fabs (wrapP x))) 4593671619917905920) false), (bP (fgt (fsub 4602678819172646912 (fabs (wrapP x))) 4593671619917905920) false), (bP (fgt (fabs (wrapP x)) 4598175219545276416) true), (bP (flt (wrapP x) 0) true)]) (σ1 := []) (by kernel_rfl) ⟨bP_of (fun x => !x) h0, ⟨bP_of (fun x => x) h1, ⟨bP_of (fun x => x) h2, ⟨bP_of (fun x => x) h2, ⟨bP_of (fun x => x) h1, ⟨bP_of (fun x => x) h3, trivial⟩⟩⟩⟩⟩⟩ rfl rfl
theorem wTurn_p3 (x : Nat) (σ : AHeap) (h0 : (feq (wrapP x) (wrapP x)) = true) (h1 : (fgt (fabs (wrapP x)) 4598175219545276416) = true) (h2 : (fgt (fsub 4602678819172646912 (fabs (wrapP x))) 4593671619917905920) = false) (h3 : (flt (wrapP x) 0) = false) : CallR Try.prog false 36 [Value.float .f64 x] σ (Value.complex .f64 (fadd (aneg false (wEighth_0 (fsub 4602678819172646912 (fabs (wrapP x))))) 0) (fadd (wEighth_1 (fsub 4602678819172646912 (fabs (wrapP x)))) 0)) σ := CallR.of_DO_pure (C := dL5) dL5_ok Try.func36 wTurn_fok (n := 100) (orc := [(14, Item.br false), (29, Item.br true), (44, Item.br false), (53, Item.br false), (56, Item.br true), (75, Item.br false)]) (ps := [(bP (!feq (wrapP x) (wrapP x)) false), (bP (fgt (fabs (wrapP x)) 4598175219545276416) true), (bP (fgt (fsub 4602678819172646912 (fabs (wrapP x))) 4593671619917905920) false), (bP (fgt (fsub 4602678819172646912 (fabs (wrapP x))) 4593671619917905920) false), (bP (fgt (fabs (wrapP x)) 4598175219545276416) true), (bP (flt (wrapP x) 0) false)]) (σ1 := []) (by kernel_rfl) ⟨bP_of (fun x => !x) h0, ⟨bP_of (fun x => x) h1, ⟨bP_of (fun x => x) h2, ⟨bP_of (fun x => x) h2, ⟨bP_of (fun x => x) h1, ⟨bP_of (fun x => x) h3, trivial⟩⟩⟩⟩⟩⟩ rfl rfl
theorem wTurn_p4 (x : Nat) (σ : AHeap) (h0 : (feq (wrapP x) (wrapP x)) = true) (h1 : (fgt (fabs (wrapP x)) 4598175219545276416) = false) (h2 : (fgt (fabs (wrapP x)) 4593671619917905920) = true) (h3 : (flt (wrapP x) 0) = true) : CallR Try.prog false 36 [Value.float .f64 x] σ (Value.complex .f64 (fadd (wEighth_1 (fsub 4598175219545276416 (fabs (wrapP x)))) 0) (fadd (aneg false (wEighth_0 (fsub 4598175219545276416 (fabs (wrapP x))))) 0)) σ := CallR.of_DO_pure (C := dL5) dL5_ok Try.func36 wTurn_fok (n := 100) (orc := [(14, Item.br false), (29, Item.br false), (38, Item.br true), (53, Item.br true), (68, Item.br false), (73, Item.br true)]) (ps := [(bP (!feq (wrapP x) (wrapP x)) false), (bP (fgt (fabs (wrapP x)) 4598175219545276416) false), (bP (fgt (fabs (wrapP x)) 4593671619917905920) true), (bP (fgt (fabs (wrapP x)) 4593671619917905920) true), (bP (fgt (fabs (wrapP x)) 4598175219545276416) false), (bP (flt (wrapP x) 0) true)]) (σ1 := []) (by kernel_rfl) ⟨bP_of (fun x => !x) h0, ⟨bP_of (fun x => x) h1, ⟨bP_of (fun x => x) h2, ⟨bP_of (fun x => x) h2, ⟨bP_of (fun x => x) h1, ⟨bP_of (fun x => x) h3, trivial⟩⟩⟩⟩⟩⟩ rfl rfl
theorem wTurn_p5 (x : Nat) (σ : AHeap) (h0 : (feq (wrapP x) (wrapP x)) = true) (h1 : (fgt (fabs (wrapP x)) 4598175219545276416) = false) (h2 : (fgt (fabs (wrapP x)) 4593671619917905920) = true) (h3 : (flt (wrapP x) 0) = false) : CallR Try.prog false 36 [Value.float .f64 x] σ (Value.complex .f64 (fadd (wEighth_1 (fsub 4598175219545276416 (fabs (wrapP x)))) 0) (fadd (wEighth_0 (fsub 4598175219545276416 (fabs (wrapP x)))) 0)) σ := CallR.of_DO_pure (C := dL5) dL5_ok Try.func36 wTurn_fok (n := 100) (orc := [(14, Item.br false), (29, Item.br false), (38, Item.br true), (53, Item.br true), (68, Item.br false), (73, Item.br false)]) (ps := [(bP (!feq (wrapP x) (wrapP x)) false), (bP (fgt (fabs (wrapP x)) 4598175219545276416) false), (bP (fgt (fabs (wrapP x)) 4593671619917905920) true), (bP (fgt (fabs (wrapP x)) 4593671619917905920) true), (bP (fgt (fabs (wrapP x)) 4598175219545276416) false), (bP (flt (wrapP x) 0) false)]) (σ1 := []) (by kernel_rfl) ⟨bP_of (fun x => !x) h0, ⟨bP_of (fun x => x) h1, ⟨bP_of (fun x => x) h2, ⟨bP_of (fun x => x) h2, ⟨bP_of (fun x => x) h1, ⟨bP_of (fun x => x) h3, trivial⟩⟩⟩⟩⟩⟩ rfl rfl
theorem wTurn_p6 (x : Nat) (σ : AHeap) (h0 : (feq (wrapP x) (wrapP x)) = true) (h1 : (fgt (fabs (wrapP x)) 4598175219545276416) = false) (h2 : (fgt (fabs (wrapP x)) 4593671619917905920) = false) (h3 : (flt (wrapP x) 0) = true) : CallR Try.prog false 36 [Value.float .f64 x] σ (Value.complex .f64 (fadd (wEighth_0 (fabs (wrapP x))) 0) (fadd (aneg false (wEighth_1 (fabs (wrapP x)))) 0)) σ := CallR.of_DO_pure (C := dL5) dL5_ok Try.func36 wTurn_fok (n := 100) (orc := [(14, Item.br false), (29, Item.br false), (38, Item.br false), (47, Item.br false), (50, Item.br false), (55, Item.br true)]) (ps := [(bP (!feq (wrapP x) (wrapP x)) false), (bP (fgt (fabs (wrapP x)) 4598175219545276416) false), (bP (fgt (fabs (wrapP x)) 4593671619917905920) false), (bP (fgt (fabs (wrapP x)) 4593671619917905920) false), (bP (fgt (fabs (wrapP x)) 4598175219545276416) false), (bP (flt (wrapP x) 0) true)]) (σ1 := []) (by kernel_rfl) ⟨bP_of (fun x => !x) h0, ⟨bP_of (fun x => x) h1, ⟨bP_of (fun x => x) h2, ⟨bP_of (fun x => x) h2, ⟨bP_of (fun x => x) h1, ⟨bP_of (fun x => x) h3, trivial⟩⟩⟩⟩⟩⟩ rfl rfl
theorem wTurn_p7 (x : Nat) (σ : AHeap) (h0 : (feq (wrapP x) (wrapP x)) = true) (h1 : (fgt (fabs (wrapP x)) 4598175219545276416) = false) (h2 : (fgt (fabs (wrapP x)) 4593671619917905920) = false) (h3 : (flt (wrapP x) 0) = false) : CallR Try.prog false 36 [Value.float .f64 x] σ (Value.complex .f64 (fadd (wEighth_0 (fabs (wrapP x))) 0) (fadd (wEighth_1 (fabs (wrapP x))) 0)) σ := CallR.of_DO_pure (C := dL5) dL5_ok Try.func36 wTurn_fok (n := 100) (orc := [(14, Item.br false), (29, Item.br false), (38, Item.br false), (47, Item.br false), (50, Item.br false), (55, Item.br false)]) (ps := [(bP (!feq (wrapP x) (wrapP x)) false), (bP (fgt (fabs (wrapP x)) 4598175219545276416) false), (bP (fgt (fabs (wrapP x)) 4593671619917905920) false), (bP (fgt (fabs (wrapP x)) 4593671619917905920) false), (bP (fgt (fabs (wrapP x)) 4598175219545276416) false), (bP (flt (wrapP x) 0) false)]) (σ1 := []) (by kernel_rfl) ⟨bP_of (fun x => !x) h0, ⟨bP_of (fun x => x) h1, ⟨bP_of (fun x => x) h2, ⟨bP_of (fun x => x) h2, ⟨bP_of (fun x => x) h1, ⟨bP_of (fun x => x) h3, trivial⟩⟩⟩⟩⟩⟩ rfl rfl
theorem wTurn_p8 (x : Nat) (σ : AHeap) (h0 : (feq (wrapP x) (wrapP x)) = false) : CallR Try.prog false 36 [Value.float .f64 x] σ (Value.complex .f64 (wrapP x) (wrapP x)) σ := CallR.of_DO_pure (C := dL5) dL5_ok Try.func36 wTurn_fok (n := 100) (orc := [(14, Item.br true)]) (ps := [(bP (!feq (wrapP x) (wrapP x)) true)]) (σ1 := []) (by kernel_rfl) ⟨bP_of (fun x => !x) h0, trivial⟩ rfl rfl
def wTurn_t (x : Nat) : Value := (bif feq (wrapP x) (wrapP x) then (bif fgt (fabs (wrapP x)) 4598175219545276416 then (bif fgt (fsub 4602678819172646912 (fabs (wrapP x))) 4593671619917905920 then (bif flt (wrapP x) 0 then (Value.complex .f64 (fadd (aneg false (wEighth_1 (fsub 4598175219545276416 (fsub 4602678819172646912 (fabs (wrapP x)))))) 0) (fadd (aneg false (wEighth_0 (fsub 4598175219545276416 (fsub 4602678819172646912 (fabs (wrapP x)))))) 0)) else (Value.complex .f64 (fadd (aneg false (wEighth_1 (fsub 4598175219545276416 (fsub 4602678819172646912 (fabs (wrapP x)))))) 0) (fadd (wEighth_0 (fsub 4598175219545276416 (fsub 4602678819172646912 (fabs (wrapP x))))) 0))) else (bif flt (wrapP x) 0 then (Value.complex .f64 (fadd (aneg false (wEighth_0 (fsub 4602678819172646912 (fabs (wrapP x))))) 0) (fadd (aneg false (wEighth_1 (fsub 4602678819172646912 (fabs (wrapP x))))) 0)) else (Value.complex .f64 (fadd (aneg false (wEighth_0 (fsub 4602678819172646912 (fabs (wrapP x))))) 0) (fadd (wEighth_1 (fsub 4602678819172646912 (fabs (wrapP x)))) 0)))) else (bif fgt (fabs (wrapP x)) 4593671619917905920 then (bif flt (wrapP x) 0 then (Value.complex .f64 (fadd (wEighth_1 (fsub 4598175219545276416 (fabs (wrapP x)))) 0) (fadd (aneg false (wEighth_0 (fsub 4598175219545276416 (fabs (wrapP x))))) 0)) else (Value.complex .f64 (fadd (wEighth_1 (fsub 4598175219545276416 (fabs (wrapP x)))) 0) (fadd (wEighth_0 (fsub 4598175219545276416 (fabs (wrapP x)))) 0))) else (bif flt (wrapP x) 0 then (Value.complex .f64 (fadd (wEighth_0 (fabs (wrapP x))) 0) (fadd (aneg false (wEighth_1 (fabs (wrapP x)))) 0)) else (Value.complex .f64 (fadd (wEighth_0 (fabs (wrapP x))) 0) (fadd (wEighth_1 (fabs (wrapP x))) 0))))) else (Value.complex .f64 (wrapP x) (wrapP x)))
theorem wTurn_c (x : Nat) (σ : AHeap) : CallR Try.prog false 36 [Value.float .f64 x] σ (wTurn_t x) σ := by
  unfold wTurn_t
  exact (CallR.bif (fun h0 => (CallR.bif (fun h1 => (CallR.bif (fun h2 => (CallR.bif (fun h3 => (wTurn_p0 x σ h0 h1 h2 h3)) (fun h3 => (wTurn_p1 x σ h0 h1 h2 h3)))) (fun h2 => (CallR.bif (fun h3 => (wTurn_p2 x σ h0 h1 h2 h3)) (fun h3 => (wTurn_p3 x σ h0 h1 h2 h3)))))) (fun h1 => (CallR.bif (fun h2 => (CallR.bif (fun h3 => (wTurn_p4 x σ h0 h1 h2 h3)) (fun h3 => (wTurn_p5 x σ h0 h1 h2 h3)))) (fun h2 => (CallR.bif (fun h3 => (wTurn_p6 x σ h0 h1 h2 h3)) (fun h3 => (wTurn_p7 x σ h0 h1 h2 h3)))))))) (fun h0 => (wTurn_p8 x σ h0)))
def wTurn_0 (x : Nat) : Nat := (bif feq (wrapP x) (wrapP x) then (bif fgt (fabs (wrapP x)) 4598175219545276416 then (bif fgt (fsub 4602678819172646912 (fabs (wrapP x))) 4593671619917905920 then (bif flt (wrapP x) 0 then fadd (aneg false (wEighth_1 (fsub 4598175219545276416 (fsub 4602678819172646912 (fabs (wrapP x)))))) 0 else fadd (aneg false (wEighth_1 (fsub 4598175219545276416 (fsub 4602678819172646912 (fabs (wrapP x)))))) 0) else (bif flt (wrapP x) 0 then fadd (aneg false (wEighth_0 (fsub 4602678819172646912 (fabs (wrapP x))))) 0 else fadd (aneg false (wEighth_0 (fsub 4602678819172646912 (fabs (wrapP x))))) 0)) else (bif fgt (fabs (wrapP x)) 4593671619917905920 then (bif flt (wrapP x) 0 then fadd (wEighth_1 (fsub 4598175219545276416 (fabs (wrapP x)))) 0 else fadd (wEighth_1 (fsub 4598175219545276416 (fabs (wrapP x)))) 0) else (bif flt (wrapP x) 0 then fadd (wEighth_0 (fabs (wrapP x))) 0 else fadd (wEighth_0 (fabs (wrapP x))) 0))) else wrapP x)
def wTurn_1 (x : Nat) : Nat := (bif feq (wrapP x) (wrapP x) then (bif fgt (fabs (wrapP x)) 4598175219545276416 then (bif fgt (fsub 4602678819172646912 (fabs (wrapP x))) 4593671619917905920 then (bif flt (wrapP x) 0 then fadd (aneg false (wEighth_0 (fsub 4598175219545276416 (fsub 4602678819172646912 (fabs (wrapP x)))))) 0 else fadd (wEighth_0 (fsub 4598175219545276416 (fsub 4602678819172646912 (fabs (wrapP x))))) 0) else (bif flt (wrapP x) 0 then fadd (aneg false (wEighth_1 (fsub 4602678819172646912 (fabs (wrapP x))))) 0 else fadd (wEighth_1 (fsub 4602678819172646912 (fabs (wrapP x)))) 0)) else (bif fgt (fabs (wrapP x)) 4593671619917905920 then (bif flt (wrapP x) 0 then fadd (aneg false (wEighth_0 (fsub 4598175219545276416 (fabs (wrapP x))))) 0 else fadd (wEighth_0 (fsub 4598175219545276416 (fabs (wrapP x)))) 0) else (bif flt (wrapP x) 0 then fadd (aneg false (wEighth_1 (fabs (wrapP x)))) 0 else fadd (wEighth_1 (fabs (wrapP x))) 0))) else wrapP x)
theorem wTurn_v (x : Nat) : wTurn_t x = Go.Value.complex Go.FloatKind.f64 (wTurn_0 x) (wTurn_1 x) := by
  unfold wTurn_t wTurn_0 wTurn_1
  cases (feq (wrapP x) (wrapP x)) with
  | true =>
    cases (fgt (fabs (wrapP x)) 4598175219545276416) with
    | true =>
      cases (fgt (fsub 4602678819172646912 (fabs (wrapP x))) 4593671619917905920) with
      | true =>
        cases (flt (wrapP x) 0) with
        | true =>
          kernel_rfl
        | false =>
          kernel_rfl
      | false =>
        cases (flt (wrapP x) 0) with
        | true =>
          kernel_rfl
        | false =>
          kernel_rfl
    | false =>
      cases (fgt (fabs (wrapP x)) 4593671619917905920) with
      | true =>
        cases (flt (wrapP x) 0) with
        | true =>
          kernel_rfl
        | false =>
          kernel_rfl
      | false =>
        cases (flt (wrapP x) 0) with
        | true =>
          kernel_rfl
        | false =>
          kernel_rfl
  | false =>
    kernel_rfl
theorem wTurn_ok (x : Nat) (σ : AHeap) : CallR Try.prog false 36 [Value.float .f64
    x] σ (Go.Value.complex Go.FloatKind.f64 (wTurn_0 x) (wTurn_1 x)) σ := by
  have h := wTurn_c x σ
  rw [wTurn_v] at h
  exact h
end Go.Lk
end

section
/- Unit; the document's; equal floats. -/
namespace Go.Lk
open Go.Proofs
set_option maxRecDepth 100000
set_option maxHeartbeats 0
set_option linter.unusedVariables false
set_option linter.unusedSimpArgs false
def sTurn : PureFn
  | [.float .f64 x] => some (.complex .f64 (wTurn_0 x) (wTurn_1 x))
  | _ => none
theorem sTurn_ok : IsPure Try.prog false 36 sTurn := by
  intro args v σ h
  unfold sTurn at h
  split at h
  · cases h; exact wTurn_ok _ σ
  · cases h
noncomputable def t6 : Tab := (t5.addP 36 sTurn)
theorem t6_ok : t6.Ok Try.prog false := (Tab.Ok.addP t5_ok sTurn_ok)
noncomputable def L6 : Lib := ⟨Try.prog, false, t6, [(181, Try.f181), (160, Try.f160), (55, Try.f55), (128, Try.f128), (207, Try.f207), (122, Try.f122), (135, Try.f135)], []⟩
theorem L6_fp : ∀ e, e ∈ L6.pures → Try.prog.funcs[e.1]? = some e.2 := fs_cons Try.func181 (fs_cons Try.func160 (fs_cons Try.func55 (fs_cons Try.func128 (fs_cons Try.func207 (fs_cons Try.func122 (fs_cons Try.func135 (fs_nil)))))))
theorem L6_fh : ∀ e, e ∈ L6.heaps → Try.prog.funcs[e.1]? = some e.2.2 := gs_nil
theorem L6_p1 (gp : Nat → PureFn) (g : Nat → HeapFn) : (L6.pures.all fun e => fnOk (L6.mk' gp g) e.2) = true := by kernel_rfl
theorem L6_h1 (gp : Nat → PureFn) (g : Nat → HeapFn) : (L6.heaps.all fun e => fnOk (L6.mk' gp g) e.2.2 && (!e.2.1 || fnRo (L6.mk' gp g) e.2.2)) = true := by kernel_rfl
theorem L6_ok : L6.Ok := ⟨t6_ok, mixed, L6_fp, L6_fh, L6_p1, L6_h1⟩
noncomputable def dL6 : Cfg := L6.cfg 100 4
theorem dL6_ok : dL6.Ok := L6_ok.cfg 100 4

theorem wUnit_fok : fnOk (dL6) Try.f37 = true := by kernel_rfl
theorem wUnit_p0 (k : Int) (n : Int) (σ : AHeap) (h0 : (decide (n < 1)) = true) : CallR Try.prog false 37 [Value.int .i64 k, Value.int .i64 n] σ (Value.complex .f64 0 0) σ := CallR.of_DO_pure (C := dL6) dL6_ok Try.func37 wUnit_fok (n := 100) (orc := [(6, Item.br true)]) (ps := [(bP (decide (n < 1)) true)]) (σ1 := []) (by kernel_rfl) ⟨bP_of (fun x => x) h0, trivial⟩ rfl rfl
theorem wUnit_p1 (k : Int) (n : Int) (σ : AHeap) (h0 : (decide (n < 1)) = false) (h1 : (decide (k.tmod n < 0)) = true) (h2 : (decide (IntKind.i64.wrap (k.tmod n + n) > IntKind.i64.wrap (n - IntKind.i64.wrap (k.tmod n + n)))) = true) : CallR Try.prog false 37 [Value.int .i64 k, Value.int .i64 n] σ (Value.complex .f64 (wTurn_0 (fdiv (FloatKind.f64.nearest (IntKind.i64.wrap (IntKind.i64.wrap (k.tmod n + n) - n))) (FloatKind.f64.nearest n))) (wTurn_1 (fdiv (FloatKind.f64.nearest (IntKind.i64.wrap (IntKind.i64.wrap (k.tmod n + n) - n))) (FloatKind.f64.nearest n)))) σ := CallR.of_DO_pure (C := dL6) dL6_ok Try.func37 wUnit_fok (n := 100) (orc := [(6, Item.br false), (12, Item.res (Value.int .i64 (k.tmod n))), (19, Item.br true), (38, Item.br true)]) (ps := [(bP (decide (n < 1)) false), (qF (Value.int .i64 (k.tmod n)) ([]) (n) = some (Value.int .i64 (k.tmod n), [])), (bP (decide (k.tmod n < 0)) true), (bP (decide (IntKind.i64.wrap (k.tmod n + n) > IntKind.i64.wrap (n - IntKind.i64.wrap (k.tmod n + n)))) true)]) (σ1 := []) (by kernel_rfl) ⟨bP_of (fun x => x) h0, ⟨qF_ok _ _ (by try simp only [decide_eq_true_eq, decide_eq_false_iff_not, Int.not_lt, Int.not_le] at *; omega), ⟨bP_of (fun x => x) h1, ⟨bP_of (fun x => x) h2, trivial⟩⟩⟩⟩ rfl rfl
theorem wUnit_p2 (k : Int) (n : Int) (σ : AHeap) (h0 : (decide (n < 1)) = false) (h1 : (decide (k.tmod n < 0)) = true) (h2 : (decide (IntKind.i64.wrap (k.tmod n + n) > IntKind.i64.wrap (n - IntKind.i64.wrap (k.tmod n + n)))) = false) : CallR Try.prog false 37 [Value.int .i64 k, Value.int .i64 n] σ (Value.complex .f64 (wTurn_0 (fdiv (FloatKind.f64.nearest (IntKind.i64.wrap (k.tmod n + n))) (FloatKind.f64.nearest n))) (wTurn_1 (fdiv (FloatKind.f64.nearest (IntKind.i64.wrap (k.tmod n + n))) (FloatKind.f64.nearest n)))) σ := CallR.of_DO_pure (C := dL6) dL6_ok Try.func37 wUnit_fok (n := 100) (orc := [(6, Item.br false), (12, Item.res (Value.int .i64 (k.tmod n))), (19, Item.br true), (38, Item.br false)]) (ps := [(bP (decide (n < 1)) false), (qF (Value.int .i64 (k.tmod n)) ([]) (n) = some (Value.int .i64 (k.tmod n), [])), (bP (decide (k.tmod n < 0)) true), (bP (decide (IntKind.i64.wrap (k.tmod n + n) > IntKind.i64.wrap (n - IntKind.i64.wrap (k.tmod n + n)))) false)]) (σ1 := []) (by kernel_rfl) ⟨bP_of (fun x => x) h0, ⟨qF_ok _ _ (by try simp only [decide_eq_true_eq, decide_eq_false_iff_not, Int.not_lt, Int.not_le] at *; omega), ⟨bP_of (fun x => x) h1, ⟨bP_of (fun x => x) h2, trivial⟩⟩⟩⟩ rfl rfl
theorem wUnit_p3 (k : Int) (n : Int) (σ : AHeap) (h0 : (decide (n < 1)) = false) (h1 : (decide (k.tmod n < 0)) = false) (h2 : (decide (k.tmod n > IntKind.i64.wrap (n - k.tmod n))) = true) : CallR Try.prog false 37 [Value.int .i64 k, Value.int .i64 n] σ (Value.complex .f64 (wTurn_0 (fdiv (FloatKind.f64.nearest (IntKind.i64.wrap (k.tmod n - n))) (FloatKind.f64.nearest n))) (wTurn_1 (fdiv (FloatKind.f64.nearest (IntKind.i64.wrap (k.tmod n - n))) (FloatKind.f64.nearest n)))) σ := CallR.of_DO_pure (C := dL6) dL6_ok Try.func37 wUnit_fok (n := 100) (orc := [(6, Item.br false), (12, Item.res (Value.int .i64 (k.tmod n))), (19, Item.br false), (30, Item.br true)]) (ps := [(bP (decide (n < 1)) false), (qF (Value.int .i64 (k.tmod n)) ([]) (n) = some (Value.int .i64 (k.tmod n), [])), (bP (decide (k.tmod n < 0)) false), (bP (decide (k.tmod n > IntKind.i64.wrap (n - k.tmod n))) true)]) (σ1 := []) (by kernel_rfl) ⟨bP_of (fun x => x) h0, ⟨qF_ok _ _ (by try simp only [decide_eq_true_eq, decide_eq_false_iff_not, Int.not_lt, Int.not_le] at *; omega), ⟨bP_of (fun x => x) h1, ⟨bP_of (fun x => x) h2, trivial⟩⟩⟩⟩ rfl rfl
theorem wUnit_p4 (k : Int) (n : Int) (σ : AHeap) (h0 : (decide (n < 1)) = false) (h1 : (decide (k.tmod n < 0)) = false) (h2 : (decide (k.tmod n > IntKind.i64.wrap (n - k.tmod n))) = false) : CallR Try.prog false 37 [Value.int .i64 k, Value.int .i64 n] σ (Value.complex .f64 (wTurn_0 (fdiv (FloatKind.f64.nearest (k.tmod n)) (FloatKind.f64.nearest n))) (wTurn_1 (fdiv (FloatKind.f64.nearest (k.tmod n)) (FloatKind.f64.nearest n)))) σ := CallR.of_DO_pure (C := dL6) dL6_ok Try.func37 wUnit_fok (n := 100) (orc := [(6, Item.br false), (12, Item.res (Value.int .i64 (k.tmod n))), (19, Item.br false), (30, Item.br false)]) (ps := [(bP (decide (n < 1)) false), (qF (Value.int .i64 (k.tmod n)) ([]) (n) = some (Value.int .i64 (k.tmod n), [])), (bP (decide (k.tmod n < 0)) false), (bP (decide (k.tmod n > IntKind.i64.wrap (n - k.tmod n))) false)]) (σ1 := []) (by kernel_rfl) ⟨bP_of (fun x => x) h0, ⟨qF_ok _ _ (by try simp only [decide_eq_true_eq, decide_eq_false_iff_not, Int.not_lt, Int.not_le] at *; omega), ⟨bP_of (fun x => x) h1, ⟨bP_of (fun x => x) h2, trivial⟩⟩⟩⟩ rfl rfl
def wUnit_t (k : Int) (n : Int) : Value := (bif decide (n < 1) then (Value.complex .f64 0 0) else (bif decide (k.tmod n < 0) then (bif decide (IntKind.i64.wrap (k.tmod n + n) > IntKind.i64.wrap (n - IntKind.i64.wrap (k.tmod n + n))) then (Value.complex .f64 (wTurn_0 (fdiv (FloatKind.f64.nearest (IntKind.i64.wrap (IntKind.i64.wrap (k.tmod n + n) - n))) (FloatKind.f64.nearest n))) (wTurn_1 (fdiv (FloatKind.f64.nearest (IntKind.i64.wrap (IntKind.i64.wrap (k.tmod n + n) - n))) (FloatKind.f64.nearest n)))) else (Value.complex .f64 (wTurn_0 (fdiv (FloatKind.f64.nearest (IntKind.i64.wrap (k.tmod n + n))) (FloatKind.f64.nearest n))) (wTurn_1 (fdiv (FloatKind.f64.nearest (IntKind.i64.wrap (k.tmod n + n))) (FloatKind.f64.nearest n))))) else (bif decide (k.tmod n > IntKind.i64.wrap (n - k.tmod n)) then (Value.complex .f64 (wTurn_0 (fdiv (FloatKind.f64.nearest (IntKind.i64.wrap (k.tmod n - n))) (FloatKind.f64.nearest n))) (wTurn_1 (fdiv (FloatKind.f64.nearest (IntKind.i64.wrap (k.tmod n - n))) (FloatKind.f64.nearest n)))) else (Value.complex .f64 (wTurn_0 (fdiv (FloatKind.f64.nearest (k.tmod n)) (FloatKind.f64.nearest n))) (wTurn_1 (fdiv (FloatKind.f64.nearest (k.tmod n)) (FloatKind.f64.nearest n)))))))
theorem wUnit_c (k : Int) (n : Int) (σ : AHeap) : CallR Try.prog false 37 [Value.int .i64 k,
  Value.int .i64 n] σ (wUnit_t k n) σ := by
  unfold wUnit_t
  exact (CallR.bif (fun h0 => (wUnit_p0 k n σ h0)) (fun h0 => (CallR.bif (fun h1 => (CallR.bif (fun h2 => (wUnit_p1 k n σ h0 h1 h2)) (fun h2 => (wUnit_p2 k n σ h0 h1 h2)))) (fun h1 => (CallR.bif (fun h2 => (wUnit_p3 k n σ h0 h1 h2)) (fun h2 => (wUnit_p4 k n σ h0 h1 h2)))))))
def wUnit_0 (k : Int) (n : Int) : Nat := (bif decide (n < 1) then 0 else (bif decide (k.tmod n < 0) then (bif decide (IntKind.i64.wrap (k.tmod n + n) > IntKind.i64.wrap (n - IntKind.i64.wrap (k.tmod n + n))) then wTurn_0 (fdiv (FloatKind.f64.nearest (IntKind.i64.wrap (IntKind.i64.wrap (k.tmod n + n) - n))) (FloatKind.f64.nearest n)) else wTurn_0 (fdiv (FloatKind.f64.nearest (IntKind.i64.wrap (k.tmod n + n))) (FloatKind.f64.nearest n))) else (bif decide (k.tmod n > IntKind.i64.wrap (n - k.tmod n)) then wTurn_0 (fdiv (FloatKind.f64.nearest (IntKind.i64.wrap (k.tmod n - n))) (FloatKind.f64.nearest n)) else wTurn_0 (fdiv (FloatKind.f64.nearest (k.tmod n)) (FloatKind.f64.nearest n)))))
def wUnit_1 (k : Int) (n : Int) : Nat := (bif decide (n < 1) then 0 else (bif decide (k.tmod n < 0) then (bif decide (IntKind.i64.wrap (k.tmod n + n) > IntKind.i64.wrap (n - IntKind.i64.wrap (k.tmod n + n))) then wTurn_1 (fdiv (FloatKind.f64.nearest (IntKind.i64.wrap (IntKind.i64.wrap (k.tmod n + n) - n))) (FloatKind.f64.nearest n)) else wTurn_1 (fdiv (FloatKind.f64.nearest (IntKind.i64.wrap (k.tmod n + n))) (FloatKind.f64.nearest n))) else (bif decide (k.tmod n > IntKind.i64.wrap (n - k.tmod n)) then wTurn_1 (fdiv (FloatKind.f64.nearest (IntKind.i64.wrap (k.tmod n - n))) (FloatKind.f64.nearest n)) else wTurn_1 (fdiv (FloatKind.f64.nearest (k.tmod n)) (FloatKind.f64.nearest n)))))
theorem wUnit_v (k : Int) (n : Int) : wUnit_t k n = Go.Value.complex Go.FloatKind.f64 (wUnit_0 k n) (wUnit_1 k n) := by
  unfold wUnit_t wUnit_0 wUnit_1
  cases (decide (n < 1)) with
  | true =>
    kernel_rfl
  | false =>
    cases (decide (k.tmod n < 0)) with
    | true =>
      cases (decide (IntKind.i64.wrap (k.tmod n + n) > IntKind.i64.wrap (n - IntKind.i64.wrap (k.tmod n + n)))) with
      | true =>
        kernel_rfl
      | false =>
        kernel_rfl
    | false =>
      cases (decide (k.tmod n > IntKind.i64.wrap (n - k.tmod n))) with
      | true =>
        kernel_rfl
      | false =>
        kernel_rfl
theorem wUnit_ok (k : Int) (n : Int) (σ : AHeap) : CallR Try.prog false 37 [Value.int .i64 k,
  Value.int .i64 n] σ (Go.Value.complex Go.FloatKind.f64 (wUnit_0 k n) (wUnit_1 k n)) σ := by
  have h := wUnit_c k n σ
  rw [wUnit_v] at h
  exact h
def sUnit : PureFn
  | [.int .i64 k, .int .i64 n] => some (.complex .f64 (wUnit_0 k n) (wUnit_1 k n))
  | _ => none
theorem sUnit_ok : IsPure Try.prog false 37 sUnit := by
  intro args v σ h
  unfold sUnit at h
  split at h
  · cases h; exact wUnit_ok _ _ σ
  · cases h
noncomputable def t7 : Tab := (t6.addP 37 sUnit)
theorem t7_ok : t7.Ok Try.prog false := (Tab.Ok.addP t6_ok sUnit_ok)
noncomputable def t8 : Tab := t7
theorem t8_ok : t8.Ok Try.prog false := t7_ok
end Go.Lk
end

section
/- Of: numbers as two floats. -/
namespace Go.Lk
open Go.Proofs
set_option maxRecDepth 100000
set_option maxHeartbeats 0
set_option linter.unusedVariables false
set_option linter.unusedSimpArgs false
end Go.Lk
end

section
/- Of's contract; SameList. -/
namespace Go.Lk
open Go.Proofs
set_option maxRecDepth 100000
set_option maxHeartbeats 0
set_option linter.unusedVariables false
set_option linter.unusedSimpArgs false
noncomputable def t9o : Tab := t8
theorem t9o_ok : t9o.Ok Try.prog false := t8_ok
end Go.Lk
end

section
/- SameList. -/
namespace Go.Lk
open Go.Proofs
set_option maxRecDepth 100000
set_option maxHeartbeats 0
set_option linter.unusedVariables false
set_option linter.unusedSimpArgs false
noncomputable def t9p : Tab := t9o
theorem t9p_ok : t9p.Ok Try.prog false := t9o_ok
end Go.Lk
end

section
/- same. -/
namespace Go.Lk
open Go.Proofs
set_option maxRecDepth 100000
set_option maxHeartbeats 0
set_option linter.unusedVariables false
set_option linter.unusedSimpArgs false
noncomputable def LS : Lib := ⟨Try.prog, false, t9p, [], []⟩
noncomputable def t9q : Tab := t9p
theorem t9q_ok : t9q.Ok Try.prog false := t9p_ok
end Go.Lk
end

section
/- told: what its contract says, in any heap. -/
namespace Go.Lk
open Go.Proofs
set_option maxRecDepth 100000
set_option linter.unusedVariables false
set_option linter.unusedSimpArgs false
end Go.Lk
end

section
/- told, of rows with room. -/
namespace Go.Lk
open Go.Proofs
set_option maxRecDepth 100000
set_option maxHeartbeats 0
set_option linter.unusedVariables false
set_option linter.unusedSimpArgs false
end Go.Lk
end

section
/- The sign turned over, by the words. -/
namespace Go.Lk
open Go.Proofs
set_option maxRecDepth 100000
set_option maxHeartbeats 0
set_option linter.unusedVariables false
set_option linter.unusedSimpArgs false
end Go.Lk
end

section
/- Null: what its parts tell. -/
namespace Go.Lk
open Go.Proofs
set_option maxRecDepth 100000
set_option maxHeartbeats 0
set_option linter.unusedVariables false
set_option linter.unusedSimpArgs false
noncomputable def n0 : Tab := t9q
theorem n0_ok : n0.Ok Try.prog false := t9q_ok
noncomputable def Ln0 : Lib := ⟨Try.prog, false, n0, [], []⟩
theorem Ln0_fp : ∀ e, e ∈ Ln0.pures → Try.prog.funcs[e.1]? = some e.2 := fs_nil
theorem Ln0_fh : ∀ e, e ∈ Ln0.heaps → Try.prog.funcs[e.1]? = some e.2.2 := gs_nil
theorem Ln0_p1 (gp : Nat → PureFn) (g : Nat → HeapFn) : (Ln0.pures.all fun e => fnOk (Ln0.mk' gp g) e.2) = true := by kernel_rfl
theorem Ln0_h1 (gp : Nat → PureFn) (g : Nat → HeapFn) : (Ln0.heaps.all fun e => fnOk (Ln0.mk' gp g) e.2.2 && (!e.2.1 || fnRo (Ln0.mk' gp g) e.2.2)) = true := by kernel_rfl
theorem Ln0_ok : Ln0.Ok := ⟨n0_ok, mixed, Ln0_fp, Ln0_fh, Ln0_p1, Ln0_h1⟩
noncomputable def dLn0 : Cfg := Ln0.cfg 100 4
theorem dLn0_ok : dLn0.Ok := Ln0_ok.cfg 100 4

theorem cNf_fok : fnOk (dLn0) Try.f201 = true := by kernel_rfl
theorem cNf_p0 (x : Nat) (σ : AHeap) : CallR Try.prog false 201 [Value.float .f64 x] σ (Value.bool !feq (fsub x x) 0) σ := CallR.of_DO_pure (C := dLn0) dLn0_ok Try.func201 cNf_fok (n := 100) (orc := []) (ps := []) (σ1 := []) (by kernel_rfl) trivial rfl rfl
def cNf_t (x : Nat) : Value := (Value.bool !feq (fsub x x) 0)
theorem cNf_c (x : Nat) (σ : AHeap) : CallR Try.prog false 201 [Value.float .f64 x] σ (cNf_t x) σ := by
  unfold cNf_t
  exact (cNf_p0 x σ)
def cNf_0 (x : Nat) : Bool := !feq (fsub x x) 0
theorem cNf_v (x : Nat) : cNf_t x = Go.Value.bool (cNf_0 x) := by
  unfold cNf_t cNf_0
  kernel_rfl
theorem cNf_ok (x : Nat) (σ : AHeap) : CallR Try.prog false 201 [Value.float .f64 x] σ (Go.Value.bool (cNf_0 x)) σ := by
  have h := cNf_c x σ
  rw [cNf_v] at h
  exact h
theorem nMul_fok : fnOk (dLn0) Try.f135 = true := by kernel_rfl
theorem nMul_p0 (a : Nat) (b : Nat) (c : Nat) (d : Nat) (σ : AHeap) : CallR Try.prog false 135 [.complex .f64 a b, .complex .f64 c d] σ (Value.complex .f64 (fsub (fmul a c) (fmul b d)) (fadd (fmul a d) (fmul b c))) σ := CallR.of_DO_pure (C := dLn0) dLn0_ok Try.func135 nMul_fok (n := 100) (orc := []) (ps := []) (σ1 := []) (by kernel_rfl) trivial rfl rfl
def nMul_t (a : Nat) (b : Nat) (c : Nat) (d : Nat) : Value := (Value.complex .f64 (fsub (fmul a c) (fmul b d)) (fadd (fmul a d) (fmul b c)))
theorem nMul_c (a : Nat) (b : Nat) (c : Nat) (d : Nat) (σ : AHeap) : CallR Try.prog false 135 [.complex .f64 a b,
  .complex .f64 c d] σ (nMul_t a b c d) σ := by
  unfold nMul_t
  exact (nMul_p0 a b c d σ)
def nMul_0 (a : Nat) (b : Nat) (c : Nat) (d : Nat) : Nat := fsub (fmul a c) (fmul b d)
def nMul_1 (a : Nat) (b : Nat) (c : Nat) (d : Nat) : Nat := fadd (fmul a d) (fmul b c)
theorem nMul_v (a : Nat) (b : Nat) (c : Nat) (d : Nat) : nMul_t a b c d = Go.Value.complex Go.FloatKind.f64 (nMul_0 a b c d) (nMul_1 a b c d) := by
  unfold nMul_t nMul_0 nMul_1
  kernel_rfl
theorem nMul_ok (a : Nat) (b : Nat) (c : Nat) (d : Nat) (σ : AHeap) : CallR Try.prog false 135 [.complex .f64 a b,
  .complex .f64 c d] σ (Go.Value.complex Go.FloatKind.f64 (nMul_0 a b c d) (nMul_1 a b c d)) σ := by
  have h := nMul_c a b c d σ
  rw [nMul_v] at h
  exact h
theorem nCj_fok : fnOk (dLn0) Try.f122 = true := by kernel_rfl
theorem nCj_p0 (a : Nat) (b : Nat) (σ : AHeap) : CallR Try.prog false 122 [.complex .f64 a b] σ (Value.complex .f64 a (aneg false b)) σ := CallR.of_DO_pure (C := dLn0) dLn0_ok Try.func122 nCj_fok (n := 100) (orc := []) (ps := []) (σ1 := []) (by kernel_rfl) trivial rfl rfl
def nCj_t (a : Nat) (b : Nat) : Value := (Value.complex .f64 a (aneg false b))
theorem nCj_c (a : Nat) (b : Nat) (σ : AHeap) : CallR Try.prog false 122 [.complex .f64 a b] σ (nCj_t a b) σ := by
  unfold nCj_t
  exact (nCj_p0 a b σ)
def nCj_0 (a : Nat) (b : Nat) : Nat := aneg false b
theorem nCj_v (a : Nat) (b : Nat) : nCj_t a b = Go.Value.complex Go.FloatKind.f64 a (nCj_0 a b) := by
  unfold nCj_t nCj_0
  kernel_rfl
theorem nCj_ok (a : Nat) (b : Nat) (σ : AHeap) : CallR Try.prog false 122 [.complex .f64 a
    b] σ (Go.Value.complex Go.FloatKind.f64 a (nCj_0 a b)) σ := by
  have h := nCj_c a b σ
  rw [nCj_v] at h
  exact h
theorem cStep_fok : fnOk (dLn0) Try.f174 = true := by kernel_rfl
theorem cStep_p0 (d : Nat) (s : Nat) (σ : AHeap) : CallR Try.prog false 174 [Value.float .f64 d, Value.float .f64 s] σ (Value.float .f64 (fmul d (wTurn_1 s))) σ := CallR.of_DO_pure (C := dLn0) dLn0_ok Try.func174 cStep_fok (n := 100) (orc := []) (ps := []) (σ1 := []) (by kernel_rfl) trivial rfl rfl
def cStep_t (d : Nat) (s : Nat) : Value := (Value.float .f64 (fmul d (wTurn_1 s)))
theorem cStep_c (d : Nat) (s : Nat) (σ : AHeap) : CallR Try.prog false 174 [Value.float .f64 d,
  Value.float .f64 s] σ (cStep_t d s) σ := by
  unfold cStep_t
  exact (cStep_p0 d s σ)
def cStep_0 (d : Nat) (s : Nat) : Nat := fmul d (wTurn_1 s)
theorem cStep_v (d : Nat) (s : Nat) : cStep_t d s = Go.Value.float Go.FloatKind.f64 (cStep_0 d s) := by
  unfold cStep_t cStep_0
  kernel_rfl
theorem cStep_ok (d : Nat) (s : Nat) (σ : AHeap) : CallR Try.prog false 174 [Value.float .f64 d,
  Value.float .f64 s] σ (Go.Value.float Go.FloatKind.f64 (cStep_0 d s)) σ := by
  have h := cStep_c d s σ
  rw [cStep_v] at h
  exact h
def sNf : PureFn
  | [.float .f64 x] => some (.bool (cNf_0 x))
  | _ => none
theorem sNf_ok : IsPure Try.prog false 201 sNf := by
  intro args v σ h
  unfold sNf at h
  split at h
  · cases h; exact cNf_ok _ σ
  · cases h
def sStep : PureFn
  | [.float .f64 x, .float .f64 y] => some (.float .f64 (cStep_0 x y))
  | _ => none
theorem sStep_ok : IsPure Try.prog false 174 sStep := by
  intro args v σ h
  unfold sStep at h
  split at h
  · cases h; exact cStep_ok _ _ σ
  · cases h
def sMul : PureFn
  | [.complex .f64 a b, .complex .f64 c d] => some (.complex .f64 (nMul_0 a b c d) (nMul_1 a b c d))
  | _ => none
theorem sMul_ok : IsPure Try.prog false 135 sMul := by
  intro args v σ h
  unfold sMul at h
  split at h
  · cases h; exact nMul_ok _ _ _ _ σ
  · cases h
def sCj : PureFn
  | [.complex .f64 a b] => some (.complex .f64 a (nCj_0 a b))
  | _ => none
theorem sCj_ok : IsPure Try.prog false 122 sCj := by
  intro args v σ h
  unfold sCj at h
  split at h
  · cases h; exact nCj_ok _ _ σ
  · cases h
noncomputable def n1 : Tab := ((((n0.addP 201 sNf).addP 174 sStep).addP 135 sMul).addP 122 sCj)
theorem n1_ok : n1.Ok Try.prog false := (Tab.Ok.addP (Tab.Ok.addP (Tab.Ok.addP (Tab.Ok.addP n0_ok sNf_ok) sStep_ok) sMul_ok) sCj_ok)
noncomputable def Ln1 : Lib := ⟨Try.prog, false, n1, [], []⟩
theorem Ln1_fp : ∀ e, e ∈ Ln1.pures → Try.prog.funcs[e.1]? = some e.2 := fs_nil
theorem Ln1_fh : ∀ e, e ∈ Ln1.heaps → Try.prog.funcs[e.1]? = some e.2.2 := gs_nil
theorem Ln1_p1 (gp : Nat → PureFn) (g : Nat → HeapFn) : (Ln1.pures.all fun e => fnOk (Ln1.mk' gp g) e.2) = true := by kernel_rfl
theorem Ln1_h1 (gp : Nat → PureFn) (g : Nat → HeapFn) : (Ln1.heaps.all fun e => fnOk (Ln1.mk' gp g) e.2.2 && (!e.2.1 || fnRo (Ln1.mk' gp g) e.2.2)) = true := by kernel_rfl
theorem Ln1_ok : Ln1.Ok := ⟨n1_ok, mixed, Ln1_fp, Ln1_fh, Ln1_p1, Ln1_h1⟩
noncomputable def dLn1 : Cfg := Ln1.cfg 100 6
theorem dLn1_ok : dLn1.Ok := Ln1_ok.cfg 100 6

end Go.Lk
end

section
/- finite, of any row. -/
namespace Go.Lk
open Go.Proofs
set_option maxRecDepth 100000
set_option maxHeartbeats 0
set_option linter.unusedVariables false
set_option linter.unusedSimpArgs false
theorem fxR_okX : codeOkX (dLn1) [] (loopOf Try.f211 0) = true := by kernel_rfl
theorem fxR_p0 (opn : Option Nat) (x : Nat → Nat) (M : Nat) (m : Nat) (cap : Nat) (hm : m ≤ M) (hM : m ≤ 65536) (k : Nat) (hk : k < m) (hx : cNf_0 (x k) = false) (hst : Stood false ([.row (rowOf (fun i => [.float .f64 (x i)]) M) false opn])) : Sim (dLn1) 1 (loopOf Try.f211 0) (([.slice (some ⟨0, 0, some 1⟩) m cap, .func (.func 201) #[] #[], undef, undef, .int .i64 0, undef, undef, .int .i64 (iN m), .int .i64 (iN k)] ++ List.replicate 10 undef)) ([.row (rowOf (fun i => [.float .f64 (x i)]) M) false opn]) .normal (([Value.slice (some ⟨0, 0, some 1⟩) m cap, Value.func (Fn.func 201) { toList := [] } { toList := [] }, undef, undef, Value.int .i64 (Int.ofNat 0), undef, undef, Value.int .i64 (iN m), Value.int .i64 (iN (k + 1))] ++ List.replicate 10 undef)) ([AObj.row (rowOf (fun i => [Value.float .f64 (x i)]) M) false opn]) := Sim.of_roundQ (C := dLn1) dLn1_ok (X := []) (n := 3) (orc := [(2, Item.br true), (14, Item.res (Value.pointer (some { block := 0, off := 0 + k * 1 }))), (16, Item.res (Value.float .f64 (x k))), (19, Item.br false), (21, Item.res (Value.int .i64 (iN (k + 1))))]) (ks := [0]) (mask := ([true, true, false, false, true, false, false, true, true] ++ List.replicate 10 false)) (ps := [(some (decide (iN k < iN m)) = some true), (ixF (Value.pointer (some { block := 0, off := 0 + k * 1 })) ([AObj.row (rowOf (fun i => [Value.float .f64 (x i)]) M) false opn]) (iN k) (m) = some (Value.pointer (some { block := 0, off := 0 + k * 1 }), [AObj.row (rowOf (fun i => [Value.float .f64 (x i)]) M) false opn])), (ldF (aLoad Try.prog ([AObj.row (rowOf (fun i => [Value.float .f64 (x i)]) M) false opn]) 22 (.pointer (some ⟨0, 0 + k * 1, none⟩))) ([AObj.row (rowOf (fun i => [Value.float .f64 (x i)]) M) false opn]) = some (Value.float .f64 (x k), [AObj.row (rowOf (fun i => [Value.float .f64 (x i)]) M) false opn])), (bP (cNf_0 (x k)) false), (wF IntKind.i64 (iN k + 1) ([AObj.row (rowOf (fun i => [Value.float .f64 (x i)]) M) false opn]) = some (.int IntKind.i64 (iN (k + 1)), [AObj.row (rowOf (fun i => [Value.float .f64 (x i)]) M) false opn]))]) (L := 1) 1 fxR_okX (by kernel_rfl) ⟨bP_of (fun x => x) (show (decide (iN k < iN m)) = true from decide_eq_true (by (try simp only [decide_eq_true_eq, decide_eq_false_iff_not] at *); (try simp only [iN_eq, Int.ofNat_eq_natCast] at *); try omega)), ⟨ixF_ok _ _ (by (try simp only [decide_eq_true_eq, decide_eq_false_iff_not] at *); (try simp only [iN_eq, Int.ofNat_eq_natCast] at *); try omega), ⟨ldF_ok (load_one (k := k) (n := M) (g := fun i => ((fun i => [Value.float .f64 (x i)]) i).getD 0 undef) rfl (by kernel_rfl) (by omega) (by (try simp only [decide_eq_true_eq, decide_eq_false_iff_not] at *); (try simp only [iN_eq, Int.ofNat_eq_natCast] at *); try omega)), ⟨bP_of (fun x => x) hx, ⟨wF_ok _ (by (try simp only [decide_eq_true_eq, decide_eq_false_iff_not] at *); (try simp only [iN_eq, Int.ofNat_eq_natCast] at *); try omega) (by (try simp only [decide_eq_true_eq, decide_eq_false_iff_not] at *); (try simp only [iN_eq, Int.ofNat_eq_natCast] at *); try omega), trivial⟩⟩⟩⟩⟩ hst (by kernel_rfl) (by kernel_rfl) (by kernel_rfl) (by decide) (by kernel_rfl) trivial
theorem fxE_okX : codeOkX (dLn1) [] (loopOf Try.f211 0) = true := by kernel_rfl
theorem fxE_p0 (opn : Option Nat) (x : Nat → Nat) (M : Nat) (m : Nat) (cap : Nat) (hm : m ≤ M) (hM : m ≤ 65536) (hst : Stood false ([.row (rowOf (fun i => [.float .f64 (x i)]) M) false opn])) : Sim (dLn1) 1 (loopOf Try.f211 0) (([.slice (some ⟨0, 0, some 1⟩) m cap, .func (.func 201) #[] #[], undef, undef, .int .i64 0, undef, undef, .int .i64 (iN m), .int .i64 (iN m)] ++ List.replicate 10 undef)) ([.row (rowOf (fun i => [.float .f64 (x i)]) M) false opn]) (.exit 0) (([Value.slice (some ⟨0, 0, some 1⟩) m cap, Value.func (Fn.func 201) { toList := [] } { toList := [] }, undef, undef, Value.int .i64 (Int.ofNat 0), undef, undef, Value.int .i64 (iN m), Value.int .i64 (iN m)] ++ List.replicate 10 undef)) ([AObj.row (rowOf (fun i => [Value.float .f64 (x i)]) M) false opn]) := Sim.of_roundQ (C := dLn1) dLn1_ok (X := []) (n := 3) (orc := [(2, Item.br false)]) (ks := [0]) (mask := ([true, true, false, false, true, false, false, true, true] ++ List.replicate 10 false)) (ps := [(some (decide (iN m < iN m)) = some false)]) (L := 1) 1 fxE_okX (by kernel_rfl) ⟨bP_of (fun x => x) (show (decide (iN m < iN m)) = false from decide_eq_false (by (try simp only [decide_eq_true_eq, decide_eq_false_iff_not] at *); (try simp only [iN_eq, Int.ofNat_eq_natCast] at *); try omega)), trivial⟩ hst (by kernel_rfl) (by kernel_rfl) (by kernel_rfl) (by decide) (by kernel_rfl) trivial
theorem fxT_okX : codeOkX (dLn1) [] (loopOf Try.f211 0) = true := by kernel_rfl
theorem fxT_p0 (opn : Option Nat) (x : Nat → Nat) (M : Nat) (m : Nat) (cap : Nat) (hm : m ≤ M) (hM : m ≤ 65536) (k : Nat) (hk : k < m) (hx : cNf_0 (x k) = true) (hst : Stood false ([.row (rowOf (fun i => [.float .f64 (x i)]) M) false opn])) : Sim (dLn1) 1 (loopOf Try.f211 0) (([.slice (some ⟨0, 0, some 1⟩) m cap, .func (.func 201) #[] #[], undef, undef, .int .i64 0, undef, undef, .int .i64 (iN m), .int .i64 (iN k)] ++ List.replicate 10 undef)) ([.row (rowOf (fun i => [.float .f64 (x i)]) M) false opn]) .ret (([Value.slice (some ⟨0, 0, some 1⟩) m cap, Value.func (Fn.func 201) { toList := [] } { toList := [] }, undef, undef, Value.int .i64 (iN k)] ++ List.replicate 14 undef)) ([AObj.row (rowOf (fun i => [Value.float .f64 (x i)]) M) false opn]) := Sim.of_roundQ (C := dLn1) dLn1_ok (X := []) (n := 3) (orc := [(2, Item.br true), (14, Item.res (Value.pointer (some { block := 0, off := 0 + k * 1 }))), (16, Item.res (Value.float .f64 (x k))), (19, Item.br true)]) (ks := [0]) (mask := ([true, true, false, false, true] ++ List.replicate 14 false)) (ps := [(some (decide (iN k < iN m)) = some true), (ixF (Value.pointer (some { block := 0, off := 0 + k * 1 })) ([AObj.row (rowOf (fun i => [Value.float .f64 (x i)]) M) false opn]) (iN k) (m) = some (Value.pointer (some { block := 0, off := 0 + k * 1 }), [AObj.row (rowOf (fun i => [Value.float .f64 (x i)]) M) false opn])), (ldF (aLoad Try.prog ([AObj.row (rowOf (fun i => [Value.float .f64 (x i)]) M) false opn]) 22 (.pointer (some ⟨0, 0 + k * 1, none⟩))) ([AObj.row (rowOf (fun i => [Value.float .f64 (x i)]) M) false opn]) = some (Value.float .f64 (x k), [AObj.row (rowOf (fun i => [Value.float .f64 (x i)]) M) false opn])), (bP (cNf_0 (x k)) true)]) (L := 1) 1 fxT_okX (by kernel_rfl) ⟨bP_of (fun x => x) (show (decide (iN k < iN m)) = true from decide_eq_true (by (try simp only [decide_eq_true_eq, decide_eq_false_iff_not] at *); (try simp only [iN_eq, Int.ofNat_eq_natCast] at *); try omega)), ⟨ixF_ok _ _ (by (try simp only [decide_eq_true_eq, decide_eq_false_iff_not] at *); (try simp only [iN_eq, Int.ofNat_eq_natCast] at *); try omega), ⟨ldF_ok (load_one (k := k) (n := M) (g := fun i => ((fun i => [Value.float .f64 (x i)]) i).getD 0 undef) rfl (by kernel_rfl) (by omega) (by (try simp only [decide_eq_true_eq, decide_eq_false_iff_not] at *); (try simp only [iN_eq, Int.ofNat_eq_natCast] at *); try omega)), ⟨bP_of (fun x => x) hx, trivial⟩⟩⟩⟩ hst (by kernel_rfl) (by kernel_rfl) (by kernel_rfl) (by decide) (by kernel_rfl) trivial
def fxFr (m cap : Nat) (k : Nat) : List Value := ([.slice (some ⟨0, 0, some 1⟩) m cap, .func (.func 201) #[] #[], undef, undef, .int .i64 0, undef, undef, .int .i64 (iN m), .int .i64 (iN k)] ++ List.replicate 10 undef)
theorem fx_rounds (opn : Option Nat) (x : Nat → Nat) (M : Nat) (m : Nat) (cap : Nat) (hm : m ≤ M) (hM : m ≤ 65536) (q : Nat) (hq : q ≤ m) (hx : ∀ i, i < q → cNf_0 (x i) = false) (hst : Stood false [.row (rowOf (fun i => [.float .f64 (x i)]) M) false opn]) : ∀ k, k < q → Sim dLn1 1 (loopOf Try.f211 0) (fxFr m cap k) [.row (rowOf (fun i => [.float .f64 (x i)]) M) false opn] .normal (fxFr m cap (k + 1)) [.row (rowOf (fun i => [.float .f64 (x i)]) M) false opn] :=
  fun k hk => (fxR_p0 opn x M m cap hm hM k (by omega) (hx k hk) hst).cast (by kernel_rfl) (by kernel_rfl) (by kernel_rfl) (by kernel_rfl)
theorem fx_loop (opn : Option Nat) (x : Nat → Nat) (M : Nat) (m : Nat) (cap : Nat) (hm : m ≤ M) (hM : m ≤ 65536) (hx : ∀ i, i < m → cNf_0 (x i) = false) (hst : Stood false [.row (rowOf (fun i => [.float .f64 (x i)]) M) false opn]) : Sim dLn1 1 (.loop (loopOf Try.f211 0)) (fxFr m cap 0) [.row (rowOf (fun i => [.float .f64 (x i)]) M) false opn] (.exit 0) (fxFr m cap m) [.row (rowOf (fun i => [.float .f64 (x i)]) M) false opn] :=
  Sim.loop (fun k => (fxFr m cap k, [.row (rowOf (fun i => [.float .f64 (x i)]) M) false opn])) m (fx_rounds opn x M m cap hm hM m (Nat.le_refl m) hx hst) ((fxE_p0 opn x M m cap hm hM hst).cast (by kernel_rfl) (by kernel_rfl) (by kernel_rfl) (by kernel_rfl)) rfl
def fxFj (m cap : Nat) (k : Nat) : List Value := ([.slice (some ⟨0, 0, some 1⟩) m cap, .func (.func 201) #[] #[], undef, undef, .int .i64 (iN k)] ++ List.replicate 14 undef)
theorem fx_loopT (opn : Option Nat) (x : Nat → Nat) (M : Nat) (m : Nat) (cap : Nat) (hm : m ≤ M) (hM : m ≤ 65536) (j : Nat) (hj : j < m) (hx : ∀ i, i < j → cNf_0 (x i) = false) (ht : cNf_0 (x j) = true) (hst : Stood false [.row (rowOf (fun i => [.float .f64 (x i)]) M) false opn]) : Sim dLn1 1 (.loop (loopOf Try.f211 0)) (fxFr m cap 0) [.row (rowOf (fun i => [.float .f64 (x i)]) M) false opn] .ret (fxFj m cap j) [.row (rowOf (fun i => [.float .f64 (x i)]) M) false opn] :=
  Sim.loop (fun k => (fxFr m cap k, [.row (rowOf (fun i => [.float .f64 (x i)]) M) false opn])) j (fx_rounds opn x M m cap hm hM j (Nat.le_of_lt hj) hx hst) ((fxT_p0 opn x M m cap hm hM j hj ht hst).cast (by kernel_rfl) (by kernel_rfl) (by kernel_rfl) (by kernel_rfl)) rfl
theorem fxA_fok : fnOkX (dLn1) [] Try.f211 = true := by kernel_rfl
theorem fxA_p0 (opn : Option Nat) (x : Nat → Nat) (M : Nat) (m : Nat) (cap : Nat) (hm : m ≤ M) (hM : m ≤ 65536) (l0 : Stood false ([AObj.row (rowOf (fun i => [Value.float .f64 (x i)]) M) false opn]) → Sim (dLn1) 1 (.loop (loopOf Try.f211 0)) (([Value.slice (some ⟨0, 0, some 1⟩) m cap, Value.func (Fn.func 201) { toList := [] } { toList := [] }, undef, undef, Value.int .i64 (Int.ofNat 0), undef, Value.slice (some ⟨0, 0, some 1⟩) m cap, Value.int .i64 (iN m), Value.int .i64 (Int.ofNat 0)] ++ List.replicate 10 undef)) ([AObj.row (rowOf (fun i => [Value.float .f64 (x i)]) M) false opn]) (Exit.exit 0) (([Value.slice (some ⟨0, 0, some 1⟩) m cap, Value.func (Fn.func 201) { toList := [] } { toList := [] }, undef, undef, Value.int .i64 (Int.ofNat 0), undef, undef, Value.int .i64 (iN m), Value.int .i64 (iN m)] ++ List.replicate 10 undef)) ([AObj.row (rowOf (fun i => [Value.float .f64 (x i)]) M) false opn])) : CallR Try.prog false 211 ([Value.slice (some ⟨0, 0, some 1⟩) m cap, Value.func (Fn.func 201) { toList := [] } { toList := [] }]) ([AObj.row (rowOf (fun i => [Value.float .f64 (x i)]) M) false opn]) (Value.int .i64 (Int.negSucc 0)) ([AObj.row (rowOf (fun i => [Value.float .f64 (x i)]) M) false opn]) := CallR.of_DOXs (C := dLn1) dLn1_ok (X := []) Try.func211 fxA_fok (n := 3) (orc := [(8, Item.loop (Exit.exit 0) (fxFr m cap m) [AObj.row (rowOf (fun i => [Value.float .f64 (x i)]) M) false opn])]) (ps := [(Sim (dLn1) 1 (.loop (loopOf Try.f211 0)) (([Value.slice (some ⟨0, 0, some 1⟩) m cap, Value.func (Fn.func 201) { toList := [] } { toList := [] }, undef, undef, Value.int .i64 (Int.ofNat 0), undef, Value.slice (some ⟨0, 0, some 1⟩) m cap, Value.int .i64 (iN m), Value.int .i64 (Int.ofNat 0)] ++ List.replicate 10 undef)) ([AObj.row (rowOf (fun i => [Value.float .f64 (x i)]) M) false opn]) (Exit.exit 0) (([Value.slice (some ⟨0, 0, some 1⟩) m cap, Value.func (Fn.func 201) { toList := [] } { toList := [] }, undef, undef, Value.int .i64 (Int.ofNat 0), undef, undef, Value.int .i64 (iN m), Value.int .i64 (iN m)] ++ List.replicate 10 undef)) ([AObj.row (rowOf (fun i => [Value.float .f64 (x i)]) M) false opn])), (List.length (α := AObj) ([AObj.row (rowOf (fun i => [Value.float .f64 (x i)]) M) false opn]) ≤ List.length ([AObj.row (rowOf (fun i => [Value.float .f64 (x i)]) M) false opn])), (Lk.Exit.isG (Exit.exit 0) = false)]) (by kernel_rfl) (fun hst => ⟨l0 hst, Nat.le_of_ble_eq_true (by kernel_rfl), rfl, trivial⟩)
theorem fxJ_fok : fnOkX (dLn1) [] Try.f211 = true := by kernel_rfl
theorem fxJ_p0 (opn : Option Nat) (x : Nat → Nat) (M : Nat) (m : Nat) (cap : Nat) (hm : m ≤ M) (hM : m ≤ 65536) (j : Nat) (hj : j < m) (l0 : Stood false ([AObj.row (rowOf (fun i => [Value.float .f64 (x i)]) M) false opn]) → Sim (dLn1) 1 (.loop (loopOf Try.f211 0)) (([Value.slice (some ⟨0, 0, some 1⟩) m cap, Value.func (Fn.func 201) { toList := [] } { toList := [] }, undef, undef, Value.int .i64 (Int.ofNat 0), undef, Value.slice (some ⟨0, 0, some 1⟩) m cap, Value.int .i64 (iN m), Value.int .i64 (Int.ofNat 0)] ++ List.replicate 10 undef)) ([AObj.row (rowOf (fun i => [Value.float .f64 (x i)]) M) false opn]) (Exit.ret) (([Value.slice (some ⟨0, 0, some 1⟩) m cap, Value.func (Fn.func 201) { toList := [] } { toList := [] }, undef, undef, Value.int .i64 (iN j)] ++ List.replicate 14 undef)) ([AObj.row (rowOf (fun i => [Value.float .f64 (x i)]) M) false opn])) : CallR Try.prog false 211 ([Value.slice (some ⟨0, 0, some 1⟩) m cap, Value.func (Fn.func 201) { toList := [] } { toList := [] }]) ([AObj.row (rowOf (fun i => [Value.float .f64 (x i)]) M) false opn]) (Value.int .i64 (iN j)) ([AObj.row (rowOf (fun i => [Value.float .f64 (x i)]) M) false opn]) := CallR.of_DOXs (C := dLn1) dLn1_ok (X := []) Try.func211 fxJ_fok (n := 3) (orc := [(8, Item.loop Exit.ret (fxFj m cap j) [AObj.row (rowOf (fun i => [Value.float .f64 (x i)]) M) false opn])]) (ps := [(Sim (dLn1) 1 (.loop (loopOf Try.f211 0)) (([Value.slice (some ⟨0, 0, some 1⟩) m cap, Value.func (Fn.func 201) { toList := [] } { toList := [] }, undef, undef, Value.int .i64 (Int.ofNat 0), undef, Value.slice (some ⟨0, 0, some 1⟩) m cap, Value.int .i64 (iN m), Value.int .i64 (Int.ofNat 0)] ++ List.replicate 10 undef)) ([AObj.row (rowOf (fun i => [Value.float .f64 (x i)]) M) false opn]) (Exit.ret) (([Value.slice (some ⟨0, 0, some 1⟩) m cap, Value.func (Fn.func 201) { toList := [] } { toList := [] }, undef, undef, Value.int .i64 (iN j)] ++ List.replicate 14 undef)) ([AObj.row (rowOf (fun i => [Value.float .f64 (x i)]) M) false opn])), (List.length (α := AObj) ([AObj.row (rowOf (fun i => [Value.float .f64 (x i)]) M) false opn]) ≤ List.length ([AObj.row (rowOf (fun i => [Value.float .f64 (x i)]) M) false opn])), (Lk.Exit.isG (Exit.ret) = false)]) (by kernel_rfl) (fun hst => ⟨l0 hst, Nat.le_of_ble_eq_true (by kernel_rfl), rfl, trivial⟩)
/-! ### Rows of floats -/
def nFlo : Value → Bool | .float .f64 _ => true | _ => false
def nAt (vs : List Value) (i : Nat) : Nat := match vs[i]? with | some (.float .f64 a) => a | _ => 0
theorem nFlo_eq {v : Value} (h : nFlo v = true) : ∃ n, v = .float .f64 n := by
  unfold nFlo at h
  split at h
  · exact ⟨_, rfl⟩
  · cases h
theorem nRow {vs : List Value} (h : vs.all nFlo = true) : rowOf (fun i => [.float .f64 (nAt vs i)]) vs.length = vs := by
  have hl := rowOf_len (f := fun i => [Value.float .f64 (nAt vs i)]) (s := 1) (fun _ => rfl) vs.length
  apply List.ext_getElem?
  intro j
  rcases Nat.lt_or_ge j vs.length with hj | hj
  · have h3 := rowOf_at (f := fun i => [Value.float .f64 (nAt vs i)]) (s := 1) (fun _ => rfl) (k := j) (n := vs.length) hj
    have h3 := congrArg (fun l => l[0]?) h3
    simp only [List.getElem?_take, List.getElem?_drop, Nat.mul_one, Nat.add_zero] at h3
    simp only [Nat.lt_one_iff, if_true, List.getElem?_cons_zero] at h3
    rw [h3]
    have hm : vs[j]? = some vs[j] := List.getElem?_eq_getElem hj
    obtain ⟨a, e⟩ := nFlo_eq (List.all_eq_true.1 h vs[j] (List.getElem_mem hj))
    rw [e] at hm
    simp only [nAt, hm]
  · rw [List.getElem?_eq_none hj, List.getElem?_eq_none (by rw [hl]; omega)]
theorem nAt_row {x : Nat → Nat} {M i : Nat} (h : i < M) : nAt (rowOf (fun i => [.float .f64 (x i)]) M) i = x i := by
  have h3 := rowOf_at (f := fun i => [Value.float .f64 (x i)]) (s := 1) (fun _ => rfl) (k := i) (n := M) h
  have h3 := congrArg (fun l => l[0]?) h3
  simp only [List.getElem?_take, List.getElem?_drop, Nat.mul_one, Nat.add_zero] at h3
  simp only [Nat.lt_one_iff, if_true, List.getElem?_cons_zero] at h3
  unfold nAt
  rw [h3]
theorem nFlo_plain {vs : List Value} (h : vs.all nFlo = true) : vs.all plain = true := by
  rw [List.all_eq_true] at h ⊢
  intro v hv
  obtain ⟨a, rfl⟩ := nFlo_eq (h v hv)
  rfl
def nOk (vs : List Value) (m : Nat) : Bool := vs.all nFlo && (Nat.ble m vs.length && Nat.ble m 65536)
theorem nOk_row {x : Nat → Nat} {M m : Nat} (hm : m ≤ M) (hM : m ≤ 65536) : nOk (rowOf (fun i => [.float .f64 (x i)]) M) m = true := by
  unfold nOk
  rw [rowOf_all (fun _ => rfl) M, rowOf_len (f := fun i => [Value.float .f64 (x i)]) (s := 1) (fun _ => rfl) M]
  simp only [Bool.true_and, Bool.and_eq_true]
  exact ⟨Nat.ble_eq_true_of_le (by omega), Nat.ble_eq_true_of_le hM⟩
open Classical in
noncomputable def sRd (tl : List Value) (h : (Nat → Nat) → Nat → Value) : HeapFn
  | .slice (some ⟨b, 0, some 1⟩) m cap :: l, σ =>
    match σ[b]? with
    | some (.row vs _ _) => if nOk vs m = true ∧ l = tl then some (h (nAt vs) m, σ) else none
    | _ => none
  | _, _ => none
theorem sRd_is {f : FuncId} {tl : List Value} {h : (Nat → Nat) → Nat → Value} (hp : ∀ x m, plain (h x m) = true) (ht : ∀ r, tl.map (renV r 3) = tl)
    (hS : ∀ opn x M m cap, m ≤ M → m ≤ 65536 → ∃ σ', CallR Try.prog false f (.slice (some ⟨0, 0, some 1⟩) m cap :: tl) [.row (rowOf (fun i => [.float .f64 (x i)]) M) false opn] (h x m) σ') : IsHeap Try.prog false f true (sRd tl h) := by
  have quiet : ∀ (args : List Value) (σ : AHeap) (v : Value) (σ' : AHeap), sRd tl h args σ = some (v, σ') → σ' = σ := by
    intro args σ v σ' hs
    unfold sRd at hs
    split at hs
    · split at hs
      · split at hs
        · cases hs; rfl
        · cases hs
      · cases hs
    · cases hs
  refine ⟨fun args σ v σ' hs => ?_, fun _ args σ v σ' hs => quiet args σ v σ' hs, fun args σ v σ' hs => by rw [quiet args σ v σ' hs]; exact Nat.le_refl _⟩
  unfold sRd at hs
  split at hs
  · rename_i b m cap l
    split at hs
    · rename_i vs rw' opn hb
      split at hs
      rotate_left
      · cases hs
      · rename_i hc
        cases hs
        obtain ⟨c1, c2⟩ := hc
        subst c2
        unfold nOk at c1
        rw [Bool.and_eq_true, Bool.and_eq_true] at c1
        obtain ⟨σ1, hh⟩ := hS opn (nAt vs) vs.length m cap (Nat.le_of_ble_eq_true c1.2.1) (Nat.le_of_ble_eq_true c1.2.2)
        rw [nRow c1.1] at hh
        refine CallR.frameQ (r := fun k => if k = 0 then b else k + σ.length) ⟨fun k o hk => ?_, fun k hk => ?_⟩ ?_ hh (hp _ _)
        · have : k = 0 := by have := lt_of_some hk; simpa using this
          subst this
          simp only [List.getElem?_cons_zero, Option.some.injEq] at hk
          exact ⟨vs, opn, rw', hk.symm, hb, nFlo_plain c1.1⟩
        · have hk : 1 ≤ k := hk
          have : ¬ k = 0 := by omega
          simp only [this, if_false]; omega
        · rw [List.map_cons, ht]; rfl
    · cases hs
  · cases hs
theorem sRd_row {tl : List Value} {h : (Nat → Nat) → Nat → Value} {b m cap M : Nat} {x : Nat → Nat} {rw' : Bool} {opn : Option Nat} {σ : AHeap} (hσ : σ[b]? = some (.row (rowOf (fun i => [.float .f64 (x i)]) M) rw' opn)) (hm : m ≤ M) (hM : m ≤ 65536)
    (hc : ∀ y : Nat → Nat, (∀ i, i < m → y i = x i) → h y m = h x m) : sRd tl h (.slice (some ⟨b, 0, some 1⟩) m cap :: tl) σ = some (h x m, σ) := by
  unfold sRd
  simp only [hσ]
  rw [if_pos ⟨nOk_row hm hM, trivial⟩, hc _ (fun i hi => nAt_row (by omega))]
/-- The first that is not finite. -/
def nIdx (x : Nat → Nat) : Nat → Option Nat
  | 0 => none
  | k + 1 => match nIdx x k with | some j => some j | none => bif cNf_0 (x k) then some k else none
theorem nIdx_congr {x y : Nat → Nat} : ∀ {m : Nat}, (∀ i, i < m → y i = x i) → nIdx y m = nIdx x m
  | 0, _ => rfl
  | m + 1, h => by unfold nIdx; rw [nIdx_congr (fun i hi => h i (by omega)), h m (by omega)]
theorem nIdx_none {x : Nat → Nat} : ∀ {m : Nat}, nIdx x m = none → ∀ i, i < m → cNf_0 (x i) = false
  | 0, _, i, hi => by omega
  | m + 1, h, i, hi => by
    unfold nIdx at h
    cases e : nIdx x m with
    | some j => rw [e] at h; cases h
    | none =>
      rw [e] at h
      cases c : cNf_0 (x m)
      · rcases Nat.lt_or_ge i m with h1 | h1
        · exact nIdx_none e i h1
        · rw [show i = m by omega]; exact c
      · rw [c] at h; cases h
theorem nIdx_some {x : Nat → Nat} {j : Nat} : ∀ {m : Nat}, nIdx x m = some j → j < m ∧ cNf_0 (x j) = true ∧ ∀ i, i < j → cNf_0 (x i) = false
  | 0, h => by cases h
  | m + 1, h => by
    unfold nIdx at h
    cases e : nIdx x m with
    | some q =>
      rw [e] at h
      cases h
      obtain ⟨h1, h2, h3⟩ := nIdx_some e
      exact ⟨by omega, h2, h3⟩
    | none =>
      rw [e] at h
      cases c : cNf_0 (x m)
      · rw [c] at h; cases h
      · rw [c] at h
        cases h
        exact ⟨Nat.lt_succ_self _, c, nIdx_none e⟩
def idxI (x : Nat → Nat) (m : Nat) : Int := match nIdx x m with | some j => iN j | none => -1
def nBad (x : Nat → Nat) (m : Nat) : Bool := (nIdx x m).isSome
def fxTl : List Value := [.func (.func 201) #[] #[]]
noncomputable def sIdxN : HeapFn := sRd fxTl (fun x m => .int .i64 (idxI x m))
noncomputable def sHasN : HeapFn := sRd fxTl (fun x m => .bool (nBad x m))
noncomputable def sFinN : HeapFn := sRd [] (fun x m => .bool (!nBad x m))
theorem sIdxN_ok : IsHeap Try.prog false 211 true sIdxN := sRd_is (fun _ _ => rfl) (fun _ => rfl) (fun opn x M m cap hm hM => by
  unfold idxI
  cases h : nIdx x m with
  | none => exact ⟨_, fxA_p0 opn x M m cap hm hM (fun hst => (fx_loop opn x M m cap hm hM (nIdx_none h) hst).enter ([true, true, false, false, true, false, false, true, true] ++ List.replicate 10 false) (by kernel_rfl))⟩
  | some j =>
    obtain ⟨h1, h2, h3⟩ := nIdx_some h
    exact ⟨_, fxJ_p0 opn x M m cap hm hM j h1 (fun hst => (fx_loopT opn x M m cap hm hM j h1 h3 h2 hst).enter ([true, true, false, false, true, false, false, true, true] ++ List.replicate 10 false) (by kernel_rfl))⟩)
noncomputable def n2 : Tab := (n1.addH 211 true sIdxN)
theorem n2_ok : n2.Ok Try.prog false := (Tab.Ok.addH n1_ok sIdxN_ok)
noncomputable def Ln2 : Lib := ⟨Try.prog, false, n2, [], []⟩
theorem Ln2_fp : ∀ e, e ∈ Ln2.pures → Try.prog.funcs[e.1]? = some e.2 := fs_nil
theorem Ln2_fh : ∀ e, e ∈ Ln2.heaps → Try.prog.funcs[e.1]? = some e.2.2 := gs_nil
theorem Ln2_p1 (gp : Nat → PureFn) (g : Nat → HeapFn) : (Ln2.pures.all fun e => fnOk (Ln2.mk' gp g) e.2) = true := by kernel_rfl
theorem Ln2_h1 (gp : Nat → PureFn) (g : Nat → HeapFn) : (Ln2.heaps.all fun e => fnOk (Ln2.mk' gp g) e.2.2 && (!e.2.1 || fnRo (Ln2.mk' gp g) e.2.2)) = true := by kernel_rfl
theorem Ln2_ok : Ln2.Ok := ⟨n2_ok, mixed, Ln2_fp, Ln2_fh, Ln2_p1, Ln2_h1⟩
noncomputable def dLn2 : Cfg := Ln2.cfg 100 6
theorem dLn2_ok : dLn2.Ok := Ln2_ok.cfg 100 6

theorem fxH_fok : fnOkX (dLn2) [] Try.f200 = true := by kernel_rfl
theorem fxH_p0 (opn : Option Nat) (x : Nat → Nat) (M : Nat) (m : Nat) (cap : Nat) (w : Int) (s0 : sIdxN ([Value.slice (some ⟨0, 0, some 1⟩) m cap, Value.func (Fn.func 201) { toList := [] } { toList := [] }]) ([AObj.row (rowOf (fun i => [Value.float .f64 (x i)]) M) false opn]) = some (Value.int .i64 w, [AObj.row (rowOf (fun i => [Value.float .f64 (x i)]) M) false opn])) : CallR Try.prog false 200 ([Value.slice (some ⟨0, 0, some 1⟩) m cap, Value.func (Fn.func 201) { toList := [] } { toList := [] }]) ([AObj.row (rowOf (fun i => [Value.float .f64 (x i)]) M) false opn]) (Value.bool (decide (w ≥ 0))) ([AObj.row (rowOf (fun i => [Value.float .f64 (x i)]) M) false opn]) := CallR.of_DOXs (C := dLn2) dLn2_ok (X := []) Try.func200 fxH_fok (n := 3) (orc := [(7, Item.eff (Value.int .i64 w) [AObj.row (rowOf (fun i => [Value.float .f64 (x i)]) M) false opn])]) (ps := [(sIdxN ([Value.slice (some ⟨0, 0, some 1⟩) m cap, Value.func (Fn.func 201) { toList := [] } { toList := [] }]) ([AObj.row (rowOf (fun i => [Value.float .f64 (x i)]) M) false opn]) = some (Value.int .i64 w, [AObj.row (rowOf (fun i => [Value.float .f64 (x i)]) M) false opn]))]) (by kernel_rfl) (fun hst => ⟨s0, trivial⟩)
theorem idx_ge (x : Nat → Nat) (m : Nat) : decide (idxI x m ≥ 0) = nBad x m := by
  unfold idxI nBad
  cases nIdx x m with
  | none => rfl
  | some j => exact decide_eq_true (by show (0 : Int) ≤ iN j; rw [iN_eq]; omega)
theorem sHasN_ok : IsHeap Try.prog false 200 true sHasN := sRd_is (fun _ _ => rfl) (fun _ => rfl) (fun opn x M m cap hm hM => by
  have h := fxH_p0 opn x M m cap (idxI x m) (sRd_row (h := fun x m => .int .i64 (idxI x m)) (tl := fxTl) rfl hm hM (fun y hy => by show Value.int .i64 (idxI y m) = .int .i64 (idxI x m); unfold idxI; rw [nIdx_congr hy]))
  rw [idx_ge] at h
  exact ⟨_, h⟩)
noncomputable def n3 : Tab := (n2.addH 200 true sHasN)
theorem n3_ok : n3.Ok Try.prog false := (Tab.Ok.addH n2_ok sHasN_ok)
noncomputable def Ln3 : Lib := ⟨Try.prog, false, n3, [], []⟩
theorem Ln3_fp : ∀ e, e ∈ Ln3.pures → Try.prog.funcs[e.1]? = some e.2 := fs_nil
theorem Ln3_fh : ∀ e, e ∈ Ln3.heaps → Try.prog.funcs[e.1]? = some e.2.2 := gs_nil
theorem Ln3_p1 (gp : Nat → PureFn) (g : Nat → HeapFn) : (Ln3.pures.all fun e => fnOk (Ln3.mk' gp g) e.2) = true := by kernel_rfl
theorem Ln3_h1 (gp : Nat → PureFn) (g : Nat → HeapFn) : (Ln3.heaps.all fun e => fnOk (Ln3.mk' gp g) e.2.2 && (!e.2.1 || fnRo (Ln3.mk' gp g) e.2.2)) = true := by kernel_rfl
theorem Ln3_ok : Ln3.Ok := ⟨n3_ok, mixed, Ln3_fp, Ln3_fh, Ln3_p1, Ln3_h1⟩
noncomputable def dLn3 : Cfg := Ln3.cfg 100 6
theorem dLn3_ok : dLn3.Ok := Ln3_ok.cfg 100 6

theorem fxG_fok : fnOkX (dLn3) [] Try.f173 = true := by kernel_rfl
theorem fxG_p0 (opn : Option Nat) (x : Nat → Nat) (M : Nat) (m : Nat) (cap : Nat) (c : Bool) (s0 : sHasN ([Value.slice (some ⟨0, 0, some 1⟩) m cap, Value.func (Fn.func 201) { toList := [] } { toList := [] }]) ([AObj.row (rowOf (fun i => [Value.float .f64 (x i)]) M) false opn]) = some (Value.bool c, [AObj.row (rowOf (fun i => [Value.float .f64 (x i)]) M) false opn])) : CallR Try.prog false 173 ([Value.slice (some ⟨0, 0, some 1⟩) m cap]) ([AObj.row (rowOf (fun i => [Value.float .f64 (x i)]) M) false opn]) (Value.bool !c) ([AObj.row (rowOf (fun i => [Value.float .f64 (x i)]) M) false opn]) := CallR.of_DOXs (C := dLn3) dLn3_ok (X := []) Try.func173 fxG_fok (n := 3) (orc := [(5, Item.eff (Value.bool c) [AObj.row (rowOf (fun i => [Value.float .f64 (x i)]) M) false opn])]) (ps := [(sHasN ([Value.slice (some ⟨0, 0, some 1⟩) m cap, Value.func (Fn.func 201) { toList := [] } { toList := [] }]) ([AObj.row (rowOf (fun i => [Value.float .f64 (x i)]) M) false opn]) = some (Value.bool c, [AObj.row (rowOf (fun i => [Value.float .f64 (x i)]) M) false opn]))]) (by kernel_rfl) (fun hst => ⟨s0, trivial⟩)
theorem nBad_congr {x y : Nat → Nat} {m : Nat} (h : ∀ i, i < m → y i = x i) : nBad y m = nBad x m := by unfold nBad; rw [nIdx_congr h]
theorem sFinN_ok : IsHeap Try.prog false 173 true sFinN := sRd_is (fun _ _ => rfl) (fun _ => rfl) (fun opn x M m cap hm hM =>
  ⟨_, fxG_p0 opn x M m cap (nBad x m) (sRd_row (h := fun x m => .bool (nBad x m)) (tl := fxTl) rfl hm hM (fun y hy => by show Value.bool (nBad y m) = .bool (nBad x m); rw [nBad_congr hy]))⟩)
theorem sFinN_row {b m cap M : Nat} {x : Nat → Nat} {rw' : Bool} {opn : Option Nat} {σ : AHeap} (hσ : σ[b]? = some (.row (rowOf (fun i => [.float .f64 (x i)]) M) rw' opn)) (hm : m ≤ M) (hM : m ≤ 65536) :
    sFinN [.slice (some ⟨b, 0, some 1⟩) m cap] σ = some (.bool (!nBad x m), σ) :=
  sRd_row (tl := []) (h := fun x m => .bool (!nBad x m)) hσ hm hM (fun y hy => by show Value.bool (!nBad y m) = .bool (!nBad x m); rw [nBad_congr hy])
noncomputable def n4 : Tab := (n3.addH 173 true sFinN)
theorem n4_ok : n4.Ok Try.prog false := (Tab.Ok.addH n3_ok sFinN_ok)
noncomputable def Ln4 : Lib := ⟨Try.prog, false, n4, [], []⟩
theorem Ln4_fp : ∀ e, e ∈ Ln4.pures → Try.prog.funcs[e.1]? = some e.2 := fs_nil
theorem Ln4_fh : ∀ e, e ∈ Ln4.heaps → Try.prog.funcs[e.1]? = some e.2.2 := gs_nil
theorem Ln4_p1 (gp : Nat → PureFn) (g : Nat → HeapFn) : (Ln4.pures.all fun e => fnOk (Ln4.mk' gp g) e.2) = true := by kernel_rfl
theorem Ln4_h1 (gp : Nat → PureFn) (g : Nat → HeapFn) : (Ln4.heaps.all fun e => fnOk (Ln4.mk' gp g) e.2.2 && (!e.2.1 || fnRo (Ln4.mk' gp g) e.2.2)) = true := by kernel_rfl
theorem Ln4_ok : Ln4.Ok := ⟨n4_ok, mixed, Ln4_fp, Ln4_fh, Ln4_p1, Ln4_h1⟩
noncomputable def dLn4 : Cfg := Ln4.cfg 100 6
theorem dLn4_ok : dLn4.Ok := Ln4_ok.cfg 100 6

end Go.Lk
end
