import Derived.Test.YtmomainjlncogaaPb3
import Derived.Test.YtmomainjlncogaaProg
import Derived.Test.YtmomainjlncogaaPb4
section
/- The program: functions without bodies. -/
namespace Go.Lk
open Go.Proofs
set_option linter.unusedSimpArgs false
set_option linter.unusedVariables false
set_option maxRecDepth 100000

theorem b80 : Bare Try.prog 80 Extern.MathFloatBits.float64bits := ⟨_, Try.func80, rfl, by kernel_rfl, by kernel_rfl, by kernel_rfl⟩
theorem b124 : Bare Try.prog 124 Extern.MathFloatBits.float64frombits := ⟨_, Try.func124, rfl, by kernel_rfl, by kernel_rfl, by kernel_rfl⟩
theorem b147 : Bare Try.prog 147 (Extern.MathFloor.toIntegral "math.archFloor" .down) := ⟨_, Try.func147, rfl, by kernel_rfl, by kernel_rfl, by kernel_rfl⟩
theorem b205 : Bare Try.prog 205 (Extern.MathFloor.toIntegral "math.archTrunc" .zero) := ⟨_, Try.func205, rfl, by kernel_rfl, by kernel_rfl, by kernel_rfl⟩
theorem b196 : Bare Try.prog 196 Extern.MathSqrt.sqrt := ⟨_, Try.func196, rfl, by kernel_rfl, by kernel_rfl, by kernel_rfl⟩

noncomputable def t0 (ex : Bool) : Tab := ((((Tab.empty.addP 80 (xBits ex)).addP 124 (xFrom ex)).addP 196 (xSqrt ex)).addP 147 (xFloor ex)).addP 205 (xTrunc ex)
theorem t0_ok (ex : Bool) : (t0 ex).Ok Try.prog ex := by
  have h1 := xBits_ok ex b80
  have h2 := xFrom_ok ex b124
  have h3 := xSqrt_ok ex b196
  have h4 := xFloor_ok ex b147
  have h5 := xTrunc_ok ex b205
  generalize Try.prog = P at *
  exact Tab.Ok.addP (Tab.Ok.addP (Tab.Ok.addP (Tab.Ok.addP (Tab.Ok.addP (Tab.Ok.empty P ex) h1) h2) h3) h4) h5
theorem mixed : Try.prog.follows .mixedOrders = true := by kernel_rfl
noncomputable def c0 (ex : Bool) : Cfg := (t0 ex).cfg Try.prog ex
theorem c0_ok (ex : Bool) : (c0 ex).Ok := (t0_ok ex).cfg mixed

/-! ### Words as they are -/
theorem xAbs (x : Nat) : DFn (c0 true) 100 Try.f51 [.float .f64 x] [] = some (.float .f64 ((IntKind.u64.wrap (BitVec.ofInt 64 x &&& ~~~BitVec.ofInt 64 9223372036854775808).toNat).toNat), []) := by kernel_rfl
theorem xCopysign (x y : Nat) : DFn (c0 true) 100 Try.f35 [.float .f64 x, .float .f64 y] [] = some (.float .f64 (IntKind.u64.wrap (BitVec.ofInt 64 (IntKind.u64.wrap (BitVec.ofInt 64 x &&& ~~~BitVec.ofInt 64 9223372036854775808).toNat) ||| BitVec.ofInt 64 (IntKind.u64.wrap (BitVec.ofInt 64 y &&& BitVec.ofInt 64 9223372036854775808).toNat)).toNat).toNat, []) := by kernel_rfl
theorem xSignbit (x : Nat) : DFn (c0 true) 100 Try.f34 [.float .f64 x] [] = some (.bool (decide (IntKind.i64.wrap x < 0)), []) := by kernel_rfl
end Go.Lk
end

section
/- The rows of sines, cosines and tangents. -/
namespace Go.Lk
open Go.Proofs
set_option maxRecDepth 100000
set_option linter.unusedVariables false

theorem iPure_ok {C : Cfg} (hC : C.Ok) {f : Nat} {fn : Func} (n : Nat) (hf : C.P.funcs[f]? = some fn) (hok : fnOk C fn = true) : IsPure C.P C.ex f (iPure C n fn) := by
  intro args v σ h
  simp only [fnOk, Bool.and_eq_true, Bool.not_eq_true'] at hok
  unfold iPure at h
  cases hfl : args.all plain with
  | false => rw [hfl] at h; cases h
  | true =>
    rw [hfl] at h
    simp only [cond_true] at h
    split at h
    · rename_i v' σ1 hd
      cases hp : plain v' with
      | false => rw [hp] at h; cases h
      | true => rw [hp] at h; cases h; exact CallR.frame hfl (CallR.of_DFn_nil hC hf hok.1 hok.2 hd hp) hp
    · cases h
theorem IsPure.of_sub {P : Program} {ex : Bool} {f : Nat} {s s' : PureFn} (h : IsPure P ex f s') (hs : ∀ args v, s args = some v → s' args = some v) : IsPure P ex f s :=
  fun args v σ hv => h args v σ (hs args v hv)

noncomputable def L0 : Lib := ⟨Try.prog, false, t0 false, [(207, Try.f207), (182, Try.f182), (184, Try.f184)], []⟩
theorem L0_fp : ∀ e, e ∈ L0.pures → Try.prog.funcs[e.1]? = some e.2 := fs_cons Try.func207 (fs_cons Try.func182 (fs_cons Try.func184 fs_nil))
theorem L0_fh : ∀ e, e ∈ L0.heaps → Try.prog.funcs[e.1]? = some e.2.2 := gs_nil
theorem L0_p1 (gp : Nat → PureFn) (g : Nat → HeapFn) : (L0.pures.all fun e => fnOk (L0.mk' gp g) e.2) = true := by kernel_rfl
theorem L0_h1 (gp : Nat → PureFn) (g : Nat → HeapFn) : (L0.heaps.all fun e => fnOk (L0.mk' gp g) e.2.2 && (!e.2.1 || fnRo (L0.mk' gp g) e.2.2)) = true := by kernel_rfl
theorem L0_ok : L0.Ok := ⟨t0_ok false, mixed, L0_fp, L0_fh, L0_p1, L0_h1⟩

def cosA : Value := .agg #[.float .f64 4607182418800017408, .float .f64 13826050856027422720, .float .f64 4586165620538955093, .float .f64 13787419979223755799, .float .f64 4537941361671905306, .float .f64 13732177094651715420, .float .f64 4477122120089393304, .float .f64 13666517717442657437, .float .f64 4407590220077447199, .float .f64 0, .float .f64 0, .float .f64 0, .float .f64 0, .float .f64 0, .float .f64 0, .float .f64 0, .float .f64 0, .float .f64 0, .float .f64 0, .float .f64 0, .float .f64 0, .float .f64 0, .float .f64 0, .float .f64 0]
def sinA : Value := .agg #[.float .f64 4607182418800017408, .float .f64 13818544856648471893, .float .f64 4575957461383581969, .float .f64 13774824197408792602, .float .f64 4523617214285662004, .float .f64 13716528800881525988, .float .f64 4460272573143870729, .float .f64 13648976655441704991, .float .f64 4389130328383466826, .float .f64 0, .float .f64 0, .float .f64 0, .float .f64 0, .float .f64 0, .float .f64 0, .float .f64 0, .float .f64 0, .float .f64 0, .float .f64 0, .float .f64 0, .float .f64 0, .float .f64 0, .float .f64 0, .float .f64 0]
def tanA : Value := .agg #[.float .f64 4607182418800017408, .float .f64 13823048456275842389, .float .f64 4596373779694328218, .float .f64 13817687028148020370, .float .f64 4592670820000712476, .float .f64 13814587147885025094, .float .f64 4590207312512236308, .float .f64 13812840297120469265, .float .f64 4588638185040256542, .float .f64 13811117867789299496, .float .f64 4587023449039406616, .float .f64 13809798735632998756, .float .f64 4585925428558828667, .float .f64 13808870457448935272, .float .f64 4585130310279789462, .float .f64 13808181734925275268, .float .f64 4584391475231203080, .float .f64 13807264411867534365, .float .f64 4583447231574686416, .float .f64 13806419780728628250, .float .f64 4582687230582855930, .float .f64 13805732290266727924, .float .f64 4582062340878461975, .float .f64 13805161819457917015]
def sPowers : PureFn
  | [.int .i64 (.ofNat 0)] => some cosA
  | [.int .i64 (.ofNat 1)] => some sinA
  | _ => none
def sTangents : PureFn
  | [] => some tanA
  | _ => none
theorem pow0 : iPure (L0.cfg 100 1) 100 Try.f182 [.int .i64 0] = some cosA := by kernel_rfl
theorem pow1 : iPure (L0.cfg 100 1) 100 Try.f182 [.int .i64 1] = some sinA := by kernel_rfl
theorem tan0 : iPure (L0.cfg 100 1) 100 Try.f184 [] = some tanA := by kernel_rfl
theorem f182_ok : fnOk (L0.cfg 100 1) Try.f182 = true := by kernel_rfl
theorem f184_ok : fnOk (L0.cfg 100 1) Try.f184 = true := by kernel_rfl
theorem sPowers_ok : IsPure Try.prog false 182 sPowers :=
  (iPure_ok (C := L0.cfg 100 1) (L0_ok.cfg 100 1) 100 Try.func182 f182_ok).of_sub fun args v h => by
    unfold sPowers at h
    split at h
    · cases h; exact pow0
    · cases h; exact pow1
    · cases h
theorem sTangents_ok : IsPure Try.prog false 184 sTangents :=
  (iPure_ok (C := L0.cfg 100 1) (L0_ok.cfg 100 1) 100 Try.func184 f184_ok).of_sub fun args v h => by
    unfold sTangents at h
    split at h
    · cases h; exact tan0
    · cases h
noncomputable def t1 : Tab := ((t0 false).addP 182 sPowers).addP 184 sTangents
theorem t1_ok : t1.Ok Try.prog false := Tab.Ok.addP (Tab.Ok.addP (t0_ok false) sPowers_ok) sTangents_ok
end Go.Lk
end

section
/- Abs, Copysign, Signbit: by the words. -/
namespace Go.Lk
open Go.Proofs
set_option maxRecDepth 100000
set_option linter.unusedSimpArgs false
set_option linter.unusedVariables false

theorem xAbs_call (σ : AHeap) (x : Nat) : CallR Try.prog true 51 [.float .f64 x] σ (.float .f64 ((IntKind.u64.wrap (BitVec.ofInt 64 x &&& ~~~BitVec.ofInt 64 9223372036854775808).toNat).toNat)) σ :=
  CallR.frame rfl (CallR.of_DFn_nil (C := c0 true) (c0_ok true) Try.func51 (by kernel_rfl) (by kernel_rfl) (xAbs x) rfl) rfl
theorem xCopysign_call (σ : AHeap) (x y : Nat) : CallR Try.prog true 35 [.float .f64 x, .float .f64 y] σ (.float .f64 (IntKind.u64.wrap (BitVec.ofInt 64 (IntKind.u64.wrap (BitVec.ofInt 64 x &&& ~~~BitVec.ofInt 64 9223372036854775808).toNat) ||| BitVec.ofInt 64 (IntKind.u64.wrap (BitVec.ofInt 64 y &&& BitVec.ofInt 64 9223372036854775808).toNat)).toNat).toNat) σ :=
  CallR.frame rfl (CallR.of_DFn_nil (C := c0 true) (c0_ok true) Try.func35 (by kernel_rfl) (by kernel_rfl) (xCopysign x y) rfl) rfl
theorem xSignbit_call (σ : AHeap) (x : Nat) : CallR Try.prog true 34 [.float .f64 x] σ (.bool (decide (IntKind.i64.wrap x < 0))) σ :=
  CallR.frame rfl (CallR.of_DFn_nil (C := c0 true) (c0_ok true) Try.func34 (by kernel_rfl) (by kernel_rfl) (xSignbit x) rfl) rfl

theorem u64_wrap {n : Nat} (h : n < 2 ^ 64) : IntKind.u64.wrap (n : Int) = n := by
  unfold IntKind.wrap
  simp [IntKind.min, IntKind.signed, IntKind.bits]
  omega
theorem ofInt_toNat (x : Nat) : (BitVec.ofInt 64 (x : Int)).toNat = x % 2 ^ 64 := by simp
theorem abs_bits (x : Nat) : (BitVec.ofInt 64 (x : Int) &&& ~~~BitVec.ofInt 64 9223372036854775808).toNat = x % 2 ^ 63 := by
  rw [BitVec.toNat_and, ofInt_toNat]
  have : (~~~BitVec.ofInt 64 9223372036854775808).toNat = 2 ^ 63 - 1 := by decide
  rw [this, Nat.and_two_pow_sub_one_eq_mod]
  omega
theorem sign_bits (y : Nat) : (BitVec.ofInt 64 (y : Int) &&& BitVec.ofInt 64 9223372036854775808).toNat = if sg y then 2 ^ 63 else 0 := by
  rw [BitVec.toNat_and, ofInt_toNat]
  have : (BitVec.ofInt 64 9223372036854775808).toNat = 2 ^ 63 := by decide
  rw [this]
  apply Nat.eq_of_testBit_eq
  intro i
  rw [Nat.testBit_and, Nat.testBit_two_pow, Nat.testBit_mod_two_pow]
  by_cases hi : 63 = i
  · subst hi
    have h1 : y.testBit 63 = sg y := by
      unfold sg
      rw [Nat.testBit_eq_decide_div_mod_eq, Bool.eq_iff_iff]
      simp
    rw [h1]
    cases sg y
    · simp
    · simp only [if_true, Nat.testBit_two_pow_self]; rfl
  · have h1 : decide (63 = i) = false := by simp; exact hi
    rw [h1, Bool.and_false]
    cases sg y
    · simp
    · simp only [if_true, Nat.testBit_two_pow, h1]
theorem abs_word (x : Nat) : (IntKind.u64.wrap (BitVec.ofInt 64 x &&& ~~~BitVec.ofInt 64 9223372036854775808).toNat).toNat = rg x := by
  rw [abs_bits, u64_wrap (by omega)]; rfl
theorem copysign_word (x y : Nat) : (IntKind.u64.wrap (BitVec.ofInt 64 (IntKind.u64.wrap (BitVec.ofInt 64 x &&& ~~~BitVec.ofInt 64 9223372036854775808).toNat) ||| BitVec.ofInt 64 (IntKind.u64.wrap (BitVec.ofInt 64 y &&& BitVec.ofInt 64 9223372036854775808).toNat)).toNat).toNat = wd (sg y) (rg x) := by
  have hs : (if sg y = true then 2 ^ 63 else 0) < 2 ^ 64 := by split <;> omega
  rw [abs_bits, sign_bits, u64_wrap (n := x % 2 ^ 63) (by omega), u64_wrap hs, BitVec.toNat_or, ofInt_toNat, ofInt_toNat]
  have h1 : x % 2 ^ 63 % 2 ^ 64 = x % 2 ^ 63 := by omega
  have h2 : (if sg y = true then 2 ^ 63 else 0) % 2 ^ 64 = if sg y = true then 2 ^ 63 else 0 := by split <;> omega
  rw [h1, h2]
  have key : x % 2 ^ 63 ||| (if sg y = true then 2 ^ 63 else 0) = wd (sg y) (rg x) := by
    unfold wd rg
    cases sg y
    · simp
    · simp only [if_true]
      rw [Nat.or_comm]
      have := Nat.two_pow_add_eq_or_of_lt (i := 63) (b := x % 2 ^ 63) (Nat.mod_lt _ (by decide)) 1
      rw [Nat.mul_one] at this
      exact this.symm
  rw [key, u64_wrap (wd_lt (by unfold rg; omega))]
  simp
theorem signbit_word (x : Nat) : decide (IntKind.i64.wrap x < 0) = sg x := by
  unfold sg
  rw [Bool.eq_iff_iff]
  simp only [decide_eq_true_eq, beq_iff_eq]
  have h1 : IntKind.i64.wrap (x : Int) = if (x : Int) % 18446744073709551616 ≥ 9223372036854775808 then (x : Int) % 18446744073709551616 - 18446744073709551616 else (x : Int) % 18446744073709551616 := by
    unfold IntKind.wrap
    simp [IntKind.bits, IntKind.signed]
  rw [h1]
  split <;> omega

theorem rg_rg (x : Nat) : rg (rg x) = rg x := Nat.mod_mod _ _
theorem nan_rg {x y : Nat} (h : rg x = rg y) : isNaN x = isNaN y := by rw [isNaN_iff, isNaN_iff, h]
theorem rg_lt (x : Nat) : rg x < 2 ^ 63 := Nat.mod_lt _ (by decide)

def sAbs : PureFn
  | [.float .f64 x] => some (.float .f64 (fabs x))
  | _ => none
def sCopysign : PureFn
  | [.float .f64 x, .float .f64 y] => bif isNaN x || !isNaN y then some (.float .f64 (fcopysign x y)) else none
  | _ => none
def sSignbit : PureFn
  | [.float .f64 x] => bif isNaN x then none else some (.bool (sg x))
  | _ => none

theorem fabs_can (c : Nat) : fabs (can c) = can (rg c) := by
  unfold fabs
  rw [isNaN_can]
  cases h : isNaN c
  · rw [cond_false, can_of_num h, can_of_num (by rw [nan_rg (rg_rg c)]; exact h)]
  · rw [cond_true, can_of_nan (by rw [nan_rg (rg_rg c)]; exact h)]
theorem sAbs_ok : IsPure Try.prog false 51 sAbs := by
  intro args v σ h
  unfold sAbs at h
  split at h
  · rename_i x
    cases h
    refine CallR.of_exact rfl (fun cargs hv => ?_) rfl
    obtain ⟨y, hy, hvr⟩ := hv.one_of
    obtain ⟨c, rfl, rfl⟩ := hvr.float_of
    subst hy
    refine ⟨_, xAbs_call [] c, rfl, ?_⟩
    rw [abs_word]
    have := VR.float (ex := false) (μ := []) .f64 (rg c)
    rw [show cn false (rg c) = can (rg c) from rfl, ← fabs_can] at this
    exact this
  · cases h
theorem fcopysign_can {c d : Nat} (h : isNaN c = true ∨ isNaN d = false) : fcopysign (can c) (can d) = can (wd (sg d) (rg c)) := by
  unfold fcopysign
  rw [isNaN_can]
  have hw : isNaN (wd (sg d) (rg c)) = isNaN c := nan_rg (rg_wd (rg_lt _))
  cases hc : isNaN c
  · rw [hc] at hw h
    rw [cond_false, can_of_num hc, can_of_num hw]
    rcases h with h | h
    · cases h
    · rw [can_of_num h]
  · rw [hc] at hw; rw [cond_true, can_of_nan hw]
theorem sCopysign_ok : IsPure Try.prog false 35 sCopysign := by
  intro args v σ h
  unfold sCopysign at h
  split at h
  · rename_i x y
    cases hb : (isNaN x || !isNaN y)
    · rw [hb] at h; cases h
    rw [hb] at h
    cases h
    refine CallR.of_exact rfl (fun cargs hv => ?_) rfl
    obtain ⟨c', hc', hvr⟩ := hv.2 0 _ rfl
    obtain ⟨d', hd', hvr'⟩ := hv.2 1 _ rfl
    obtain ⟨c, rfl, rfl⟩ := hvr.float_of
    obtain ⟨d, rfl, rfl⟩ := hvr'.float_of
    have hcs : cargs = [.float .f64 c, .float .f64 d] := by
      have hl := hv.1
      match cargs, hl with
      | [a, b], _ => simp at hc' hd'; rw [hc', hd']
    subst hcs
    refine ⟨_, xCopysign_call [] c d, rfl, ?_⟩
    rw [copysign_word]
    have := VR.float (ex := false) (μ := []) .f64 (wd (sg d) (rg c))
    rw [show cn false (wd (sg d) (rg c)) = can (wd (sg d) (rg c)) from rfl, ← fcopysign_can] at this
    · exact this
    · rw [show cn false c = can c from rfl, show cn false d = can d from rfl, isNaN_can, isNaN_can] at hb
      cases h1 : isNaN c
      · right; rw [h1] at hb; simpa using hb
      · left; rfl
  · cases h
theorem sSignbit_ok : IsPure Try.prog false 34 sSignbit := by
  intro args v σ h
  unfold sSignbit at h
  split at h
  · rename_i x
    cases hb : isNaN x
    · rw [hb] at h
      cases h
      refine CallR.of_exact rfl (fun cargs hv => ?_) rfl
      obtain ⟨y, hy, hvr⟩ := hv.one_of
      obtain ⟨c, rfl, rfl⟩ := hvr.float_of
      subst hy
      refine ⟨_, xSignbit_call [] c, rfl, ?_⟩
      rw [signbit_word]
      rw [show cn false c = can c from rfl, isNaN_can] at hb
      rw [show cn false c = can c from rfl, can_of_num hb]
      exact VR.bool _
    · rw [hb] at h; cases h
  · cases h

noncomputable def t2 : Tab := ((t1.addP 51 sAbs).addP 35 sCopysign).addP 34 sSignbit
theorem t2_ok : t2.Ok Try.prog false := Tab.Ok.addP (Tab.Ok.addP (Tab.Ok.addP t1_ok sAbs_ok) sCopysign_ok) sSignbit_ok
noncomputable def c2 : Cfg := t2.cfg Try.prog false
end Go.Lk
end

section
/- Whole numbers as floats: sums and products are exact below 2^53. -/
namespace Go.Lk
open Ieee (Format Datum Toward)
set_option linter.unusedSimpArgs false
set_option linter.unusedVariables false
/-- The float x is the whole number z. -/
def IsW (x : Nat) (z : Int) : Prop := isFin x = true ∧ fx x = z * (U : Int)
theorem U_form : ∃ u, U = 2 ^ u := by obtain ⟨u, _, h⟩ := U_spec; exact ⟨u, h⟩
theorem rnd_w {s : Bool} {z : Int} (h : z.natAbs < 2 ^ 53) : IsW (rnd s (z * (U : Int))) z := by
  obtain ⟨u, hu⟩ := U_form
  obtain ⟨r1, r2, _⟩ := rnd_exact (z := s) (T := z * (U : Int)) (R := 4850376798678024192) (by decide) (by
    rw [Int.natAbs_mul, Int.natAbs_natCast, fxr_big]
    exact Nat.mul_le_mul_right _ (by omega)) ⟨z.natAbs, u, by rw [Int.natAbs_mul, Int.natAbs_natCast, hu], h⟩
  exact ⟨r1, r2⟩
theorem IsW.add {x y : Nat} {a b : Int} (hx : IsW x a) (hy : IsW y b) (h : (a + b).natAbs < 2 ^ 53) : IsW (fadd x y) (a + b) := by
  rw [fadd_fin hx.1 hy.1, hx.2, hy.2, ← Int.add_mul]
  exact rnd_w h
theorem IsW.sub {x y : Nat} {a b : Int} (hx : IsW x a) (hy : IsW y b) (h : (a - b).natAbs < 2 ^ 53) : IsW (fsub x y) (a - b) := by
  rw [fsub_fin hx.1 hy.1, hx.2, hy.2, ← Int.sub_mul]
  exact rnd_w h
theorem IsW.abs {x : Nat} {a : Int} (hx : IsW x a) : fxr (rg x) = a.natAbs * U := by
  have := fx_abs x
  rw [hx.2, Int.natAbs_mul, Int.natAbs_natCast] at this
  exact this.symm
theorem IsW.sg_of {x : Nat} {a : Int} (hx : IsW x a) (h : a ≠ 0) : sg x = decide (a < 0) := by
  have hU := U_pos
  have h1 : fx x ≠ 0 := by rw [hx.2]; exact Int.mul_ne_zero h (by omega)
  rw [sg_fx h1, hx.2]
  by_cases h0 : a < 0
  · rw [decide_eq_true h0]
    exact decide_eq_true (Int.mul_neg_of_neg_of_pos h0 (by omega))
  · rw [decide_eq_false h0]
    refine decide_eq_false fun h2 => ?_
    have : 0 ≤ a * (U : Int) := Int.mul_nonneg (by omega) (by omega)
    omega
theorem IsW.mul {x y : Nat} {a b : Int} (hx : IsW x a) (hy : IsW y b) (h : (a * b).natAbs < 2 ^ 53) : IsW (fmul x y) (a * b) := by
  obtain ⟨r, e, hr⟩ := fmul_near hx.1 hy.1
  have hU := U_pos
  obtain ⟨u, hu⟩ := U_form
  rw [hx.abs, hy.abs] at hr
  obtain ⟨l1, l2⟩ := rung_small (T := (a * b).natAbs * U) (r := 4850376798678024192) (by rw [fxr_big]; exact Nat.mul_le_mul_right _ (by omega)) (by decide) ⟨(a * b).natAbs, u, by rw [hu], h⟩
  have key : fxr (rung ((a * b).natAbs * U)) * U = a.natAbs * U * (b.natAbs * U) := by
    rw [l2, Int.natAbs_mul, Nat.mul_assoc, Nat.mul_assoc, Nat.mul_assoc, ← Nat.mul_assoc U, Nat.mul_comm U b.natAbs, Nat.mul_assoc]
  have e1 := hr.le_of (R := rung ((a * b).natAbs * U)) (by unfold infR; omega) (by omega)
  have e2 := hr.ge_of (R := rung ((a * b).natAbs * U)) (by unfold infR; omega) (by omega)
  have er : r = rung ((a * b).natAbs * U) := by omega
  rw [e, er]
  refine ⟨fin_wd l1, ?_⟩
  rw [fx_wd (rung_lt _), l2, sgn_mul]
  have hs : sgn (sg x ^^ sg y) (a * b).natAbs = a * b := by
    by_cases ha : a = 0
    · subst ha; simp [sgn]
    · by_cases hb : b = 0
      · subst hb; simp [sgn]
      · rw [hx.sg_of ha, hy.sg_of hb]
        unfold sgn
        rcases Int.lt_or_le a 0 with h1 | h1
        · rcases Int.lt_or_le b 0 with h2 | h2
          · rw [decide_eq_true h1, decide_eq_true h2]
            have : 0 < a * b := Int.mul_pos_of_neg_of_neg h1 h2
            simp; omega
          · rw [decide_eq_true h1, decide_eq_false (by omega)]
            have : a * b < 0 := Int.mul_neg_of_neg_of_pos h1 (by omega)
            simp; omega
        · rcases Int.lt_or_le b 0 with h2 | h2
          · rw [decide_eq_false (by omega), decide_eq_true h2]
            have : a * b < 0 := Int.mul_neg_of_pos_of_neg (by omega) h2
            simp; omega
          · rw [decide_eq_false (by omega), decide_eq_false (by omega)]
            have : 0 ≤ a * b := Int.mul_nonneg h1 h2
            simp; omega
  rw [hs]
theorem IsW.neg {x : Nat} {a : Int} (hl : x < 2 ^ 64) (hx : IsW x a) : IsW (fneg x) (-a) := by
  obtain ⟨n1, n2, _⟩ := fneg_fin hl hx.1
  exact ⟨n1, by rw [n2, hx.2, Int.neg_mul]⟩
theorem isW_near {n : Int} (h : n.natAbs < 2 ^ 53) : IsW (FloatKind.f64.nearest n) n := ⟨(near_fx h).1, (near_fx h).2.1⟩
theorem IsW.feq_of {x y : Nat} {a : Int} (hx : IsW x a) (hy : IsW y a) : feq x y = true := by
  rw [feq_fin hx.1 hy.1, hx.2, hy.2]; exact decide_eq_true rfl
/-- Its magnitude. -/
theorem IsW.fabs_of {x : Nat} {a : Int} (hx : IsW x a) : IsW (fabs x) (a.natAbs : Int) := by
  have e : Lk.fabs x = rg x := by unfold Lk.fabs; rw [fin_num hx.1]; rfl
  have hs : Lk.sg (rg x) = false := by
    unfold Lk.sg; have := rg_lt x
    have : rg x / 2 ^ 63 = 0 := Nat.div_eq_of_lt this
    rw [this]; rfl
  rw [e]
  refine ⟨by unfold isFin; rw [rg_rg]; exact hx.1, ?_⟩
  unfold fx
  rw [hs, rg_rg, hx.abs, ← Int.natCast_mul]
  rfl
/-! ### Sums -/
end Go.Lk
end

section
/- Floats as rational numbers: how far a result is from what it stands for. -/
namespace Go.Lk
set_option linter.unusedSimpArgs false
set_option linter.unusedVariables false

def UR : Rat := ((U : Nat) : Rat)
theorem UR_pos : 0 < UR := Rat.natCast_pos.2 U_pos
def eta : Rat := 1 / 4503599627370496
def tau : Rat := 1 / 1267650600228229401496703205376
theorem UR_big : (1267650600228229401496703205376 : Rat) ≤ UR := by
  obtain ⟨H, h1, _, _, Q, h2, _, h3, _⟩ := U_half
  have h4 : 1267650600228229401496703205376 ≤ U := by
    have : (2 : Nat) ^ 100 = 1267650600228229401496703205376 := by decide
    omega
  unfold UR
  exact_mod_cast h4
/-- What a float stands for. -/
def qv (x : Nat) : Rat := ((fx x : Int) : Rat) / UR
theorem qv_U (x : Nat) : qv x * UR = ((fx x : Int) : Rat) := by
  unfold qv
  exact Rat.div_mul_cancel (fun h => by have := UR_pos; rw [h] at this; exact absurd this (by decide))
/-- Between -A and A. -/
def Bd (r A : Rat) : Prop := -A ≤ r ∧ r ≤ A
theorem Bd.mono {r A B : Rat} (h : Bd r A) (hAB : A ≤ B) : Bd r B := ⟨by have := h.1; grind, by have := h.2; grind⟩
theorem Bd.add {r s A B : Rat} (h : Bd r A) (k : Bd s B) : Bd (r + s) (A + B) := ⟨by have := h.1; have := k.1; grind, by have := h.2; have := k.2; grind⟩
theorem Bd.sub {r s A B : Rat} (h : Bd r A) (k : Bd s B) : Bd (r - s) (A + B) := ⟨by have := h.1; have := k.2; grind, by have := h.2; have := k.1; grind⟩
theorem Bd.neg {r A : Rat} (h : Bd r A) : Bd (-r) A := ⟨by have := h.2; grind, by have := h.1; grind⟩
theorem Bd.nonneg {r A : Rat} (h : Bd r A) : 0 ≤ A := by have := h.1; have := h.2; grind
theorem Bd.mul {r s A B : Rat} (h : Bd r A) (k : Bd s B) : Bd (r * s) (A * B) := by
  obtain ⟨h1, h2⟩ := h
  obtain ⟨h3, h4⟩ := k
  have k1 := Rat.mul_nonneg (a := A - r) (b := B - s) (by grind) (by grind)
  have k2 := Rat.mul_nonneg (a := A + r) (b := B + s) (by grind) (by grind)
  have k3 := Rat.mul_nonneg (a := A - r) (b := B + s) (by grind) (by grind)
  have k4 := Rat.mul_nonneg (a := A + r) (b := B - s) (by grind) (by grind)
  constructor <;> grind
theorem Bd.of_eq {r s A : Rat} (h : Bd r A) (e : r = s) : Bd s A := e ▸ h
theorem Bd.zero : Bd 0 0 := ⟨by decide, by decide⟩
/-! ### Rounding, as whole multiples -/
theorem rnd_err {s : Bool} {T : Int} {R : Nat} (hR : R < 2047 * 2 ^ 52) (h : T.natAbs ≤ fxr R) :
    isFin (rnd s T) = true ∧ 4503599627370496 * (fx (rnd s T) - T).natAbs ≤ 4503599627370496 + T.natAbs := by
  refine ⟨(rnd_le hR h).1, ?_⟩
  unfold rnd
  split
  · rename_i h0
    subst h0
    have : fx (wd s 0) = 0 := by rw [fx_wd (by decide), fxr_zero, sgn_zero]
    rw [this]; decide
  · rename_i h0
    have hr : rung T.natAbs < infR := by have := rung_le_of h; unfold infR; omega
    obtain ⟨e1, e2⟩ := (near_rung T.natAbs).err (by decide) hr
    have hfx : (fx (wd (decide (T < 0)) (rung T.natAbs)) - T).natAbs ≤ fxr (rung T.natAbs) - T.natAbs + (T.natAbs - fxr (rung T.natAbs)) := by
      rw [fx_wd (rung_lt _)]
      unfold sgn
      by_cases hT : T < 0
      · rw [decide_eq_true hT, if_pos rfl]; omega
      · rw [decide_eq_false hT, if_neg (by decide)]; omega
    omega
/-- A sum of finite ones that is not too great. -/
theorem big54 {T : Int} {B : Rat} (hB : B ≤ 1125899906842624) (h : Bd (((T : Int) : Rat)) (B * UR)) : T.natAbs ≤ fxr 4850376798678024192 := by
  have hU := UR_pos
  have h1 : B * UR ≤ 1125899906842624 * UR := Rat.mul_le_mul_of_nonneg_right hB (by grind)
  have h2 : ((T : Int) : Rat) ≤ 1125899906842624 * UR := by have := h.2; grind
  have h3 : -(1125899906842624 * UR) ≤ ((T : Int) : Rat) := by have := h.1; grind
  have h4 : T ≤ 1125899906842624 * (U : Int) := by
    refine Rat.intCast_le_intCast.1 ?_
    rw [Rat.intCast_mul]
    exact h2
  have h5 : -(1125899906842624 * (U : Int)) ≤ T := by
    refine Rat.intCast_le_intCast.1 ?_
    rw [Rat.intCast_neg, Rat.intCast_mul]
    exact h3
  rw [fxr_big]
  have : (2 : Nat) ^ 54 = 18014398509481984 := by decide
  rw [this]
  have h6 : ((18014398509481984 * U : Nat) : Int) = 18014398509481984 * (U : Int) := by rw [Int.natCast_mul]; rfl
  omega
theorem abs_cast {T : Int} {B : Rat} (h : Bd (((T : Int) : Rat)) B) : ((T.natAbs : Nat) : Rat) ≤ B := by
  rcases Int.le_total 0 T with h0 | h0
  · have e : ((T.natAbs : Nat) : Int) = T := by omega
    have : ((T.natAbs : Nat) : Rat) = ((T : Int) : Rat) := by rw [← e]; rfl
    rw [this]; exact h.2
  · have e : ((T.natAbs : Nat) : Int) = -T := by omega
    have : ((T.natAbs : Nat) : Rat) = -((T : Int) : Rat) := by
      have : ((((T.natAbs : Nat) : Int)) : Rat) = ((-T : Int) : Rat) := by rw [e]
      rw [Rat.intCast_neg] at this
      exact this
    rw [this]; have := h.1; grind
theorem rnd_q {s : Bool} {T : Int} {v B : Rat} (hv : v * UR = ((T : Int) : Rat)) (h : Bd v B) (hB : B ≤ 1125899906842624) :
    isFin (rnd s T) = true ∧ Bd (qv (rnd s T) - v) (B * eta + tau) := by
  have hU := UR_pos
  have hT : Bd ((T : Int) : Rat) (B * UR) := by
    rw [← hv]
    exact ⟨by have := Rat.mul_le_mul_of_nonneg_right h.1 (c := UR) (by grind); grind, Rat.mul_le_mul_of_nonneg_right h.2 (by grind)⟩
  obtain ⟨h1, h2⟩ := rnd_err (s := s) (R := 4850376798678024192) (by decide) (big54 hB hT)
  refine ⟨h1, ?_⟩
  have h3 : ((4503599627370496 * (fx (rnd s T) - T).natAbs : Nat) : Rat) ≤ ((4503599627370496 + T.natAbs : Nat) : Rat) := Rat.natCast_le_natCast.2 h2
  have h4 := abs_cast hT
  rw [Rat.natCast_mul, Rat.natCast_add] at h3
  have hb := UR_big
  have hq := qv_U (rnd s T)
  have key : ∀ r : Rat, r ≤ (((fx (rnd s T) - T).natAbs : Nat) : Rat) → r ≤ (B * eta + tau) * UR := by
    intro r hr
    have e1 : (B * eta) * UR * 4503599627370496 = B * UR := by unfold eta; grind
    have e2 : (1 : Rat) ≤ tau * UR := by unfold tau; grind
    have e3 : ((4503599627370496 : Nat) : Rat) = 4503599627370496 := by rfl
    rw [e3] at h3
    grind
  have hd : (qv (rnd s T) - v) * UR = ((fx (rnd s T) - T : Int) : Rat) := by
    rw [Rat.intCast_sub, ← hq, ← hv]; grind
  have n1 : ((fx (rnd s T) - T : Int) : Rat) ≤ (((fx (rnd s T) - T).natAbs : Nat) : Rat) := by
    have : (fx (rnd s T) - T) ≤ (((fx (rnd s T) - T).natAbs : Nat) : Int) := by omega
    exact Rat.intCast_le_intCast.2 this
  have n2 : -((fx (rnd s T) - T : Int) : Rat) ≤ (((fx (rnd s T) - T).natAbs : Nat) : Rat) := by
    have : -(fx (rnd s T) - T) ≤ (((fx (rnd s T) - T).natAbs : Nat) : Int) := by omega
    have := Rat.intCast_le_intCast.2 this
    rw [Rat.intCast_neg] at this
    exact this
  constructor
  · refine Rat.le_of_mul_le_mul_right (c := UR) ?_ hU
    have := key _ n2
    rw [← hd] at this
    grind
  · refine Rat.le_of_mul_le_mul_right (c := UR) ?_ hU
    rw [hd]
    exact key _ n1
theorem add_q {x y : Nat} {B : Rat} (hx : isFin x = true) (hy : isFin y = true) (h : Bd (qv x + qv y) B) (hB : B ≤ 1125899906842624) : isFin (fadd x y) = true ∧ Bd (qv (fadd x y) - (qv x + qv y)) (B * eta + tau) := by
  rw [fadd_fin hx hy]
  refine rnd_q ?_ h hB
  rw [Rat.intCast_add, ← qv_U x, ← qv_U y]; grind
theorem sub_q {x y : Nat} {B : Rat} (hx : isFin x = true) (hy : isFin y = true) (h : Bd (qv x - qv y) B) (hB : B ≤ 1125899906842624) : isFin (fsub x y) = true ∧ Bd (qv (fsub x y) - (qv x - qv y)) (B * eta + tau) := by
  rw [fsub_fin hx hy]
  refine rnd_q ?_ h hB
  rw [Rat.intCast_sub, ← qv_U x, ← qv_U y]; grind
/-! ### Products -/
theorem mul_err {x y : Nat} (hx : isFin x = true) (hy : isFin y = true) (h : fxr (rg x) * fxr (rg y) ≤ fxr 4850376798678024192 * U) :
    isFin (fmul x y) = true ∧ 4503599627370496 * (fx (fmul x y) * (U : Int) - fx x * fx y).natAbs ≤ 4503599627370496 * U + fxr (rg x) * fxr (rg y) := by
  obtain ⟨r, e, hr⟩ := fmul_near hx hy
  have hr54 : r ≤ 4850376798678024192 := hr.le_of (by decide) h
  have hU := U_pos
  obtain ⟨e1, e2⟩ := hr.err hU (by unfold infR; omega)
  rw [e]
  refine ⟨fin_wd (by omega), ?_⟩
  have hs : fx (wd (sg x ^^ sg y) r) * (U : Int) - fx x * fx y = sgn (sg x ^^ sg y) (fxr r * U) - sgn (sg x ^^ sg y) (fxr (rg x) * fxr (rg y)) := by
    rw [fx_wd (by omega), sgn_mul]
    congr 1
    unfold fx
    generalize fxr (rg x) = a
    generalize fxr (rg y) = b
    cases sg x <;> cases sg y <;> simp [sgn, Int.neg_mul, Int.mul_neg]
  have hn : (sgn (sg x ^^ sg y) (fxr r * U) - sgn (sg x ^^ sg y) (fxr (rg x) * fxr (rg y))).natAbs ≤ fxr r * U - fxr (rg x) * fxr (rg y) + (fxr (rg x) * fxr (rg y) - fxr r * U) := by
    unfold sgn
    generalize fxr r * U = a
    generalize fxr (rg x) * fxr (rg y) = b
    cases (sg x ^^ sg y) <;> simp <;> omega
  rw [hs]
  have : (2 : Nat) ^ 52 = 4503599627370496 := by decide
  rw [this] at e1 e2
  generalize fxr r * U = a at *
  generalize fxr (rg x) * fxr (rg y) = b at *
  omega
theorem mul_q {x y : Nat} {B : Rat} (hx : isFin x = true) (hy : isFin y = true) (h : Bd (qv x * qv y) B) (hB : B ≤ 1125899906842624) : isFin (fmul x y) = true ∧ Bd (qv (fmul x y) - qv x * qv y) (B * eta + tau) := by
  have hU := UR_pos
  have hUU : 0 < UR * UR := Rat.mul_pos hU hU
  have hp : qv x * qv y * (UR * UR) = ((fx x * fx y : Int) : Rat) := by
    rw [Rat.intCast_mul, ← qv_U x, ← qv_U y]; grind
  have hT : Bd ((fx x * fx y : Int) : Rat) (B * (UR * UR)) := by
    rw [← hp]
    exact ⟨by have := Rat.mul_le_mul_of_nonneg_right h.1 (c := UR * UR) (by grind); grind, Rat.mul_le_mul_of_nonneg_right h.2 (by grind)⟩
  have hab := abs_cast hT
  have hna : (fx x * fx y).natAbs = fxr (rg x) * fxr (rg y) := by rw [Int.natAbs_mul, fx_abs, fx_abs]
  rw [hna] at hab
  have hle : fxr (rg x) * fxr (rg y) ≤ fxr 4850376798678024192 * U := by
    refine Rat.natCast_le_natCast.1 ?_
    refine Rat.le_trans hab ?_
    have h1 : B * (UR * UR) ≤ 1125899906842624 * (UR * UR) := Rat.mul_le_mul_of_nonneg_right hB (by grind)
    have h2 : 1125899906842624 * (UR * UR) ≤ 18014398509481984 * (UR * UR) := by grind
    refine Rat.le_trans h1 (Rat.le_trans h2 ?_)
    rw [fxr_big, show (2 : Nat) ^ 54 = 18014398509481984 by decide, Rat.natCast_mul, Rat.natCast_mul]
    have e3 : ((18014398509481984 : Nat) : Rat) = 18014398509481984 := by rfl
    rw [e3]
    show 18014398509481984 * (UR * UR) ≤ 18014398509481984 * UR * UR
    grind
  obtain ⟨f1, f2⟩ := mul_err hx hy hle
  refine ⟨f1, ?_⟩
  have h3 := Rat.natCast_le_natCast.2 f2
  rw [Rat.natCast_mul, Rat.natCast_add, Rat.natCast_mul] at h3
  have hq := qv_U (fmul x y)
  have hd : (qv (fmul x y) - qv x * qv y) * (UR * UR) = ((fx (fmul x y) * (U : Int) - fx x * fx y : Int) : Rat) := by
    rw [Rat.intCast_sub, Rat.intCast_mul, ← hq, ← hp]
    show _ = qv (fmul x y) * UR * UR - _
    grind
  generalize hD : fx (fmul x y) * (U : Int) - fx x * fx y = D at *
  have hb := UR_big
  have key : ∀ r : Rat, r ≤ ((D.natAbs : Nat) : Rat) → r ≤ (B * eta + tau) * (UR * UR) := by
    intro r hr
    have e1 : (B * eta) * (UR * UR) * 4503599627370496 = B * (UR * UR) := by unfold eta; grind
    have e2 : UR ≤ tau * (UR * UR) := by
      have : 1 ≤ tau * UR := by unfold tau; grind
      have := Rat.mul_le_mul_of_nonneg_right this (c := UR) (by grind)
      grind
    have e3 : ((4503599627370496 : Nat) : Rat) = 4503599627370496 := by rfl
    have e4 : ((U : Nat) : Rat) = UR := rfl
    rw [e3, e4] at h3
    grind
  have n1 : ((D : Int) : Rat) ≤ ((D.natAbs : Nat) : Rat) := by
    have : D ≤ ((D.natAbs : Nat) : Int) := by omega
    exact Rat.intCast_le_intCast.2 this
  have n2 : -((D : Int) : Rat) ≤ ((D.natAbs : Nat) : Rat) := by
    have : -D ≤ ((D.natAbs : Nat) : Int) := by omega
    have := Rat.intCast_le_intCast.2 this
    rw [Rat.intCast_neg] at this
    exact this
  constructor
  · refine Rat.le_of_mul_le_mul_right (c := UR * UR) ?_ hUU
    have := key _ n2
    rw [← hd] at this
    grind
  · refine Rat.le_of_mul_le_mul_right (c := UR * UR) ?_ hUU
    rw [hd]
    exact key _ n1
end Go.Lk
end

section
/- Quotients and roots as rational numbers; polynomials. -/
namespace Go.Lk
set_option linter.unusedSimpArgs false
set_option linter.unusedVariables false

theorem qv_nn {x : Nat} (h : sg x = false) : qv x * UR = ((fxr (rg x) : Nat) : Rat) ∧ 0 ≤ qv x := by
  have hU := UR_pos
  have e : qv x * UR = ((fxr (rg x) : Nat) : Rat) := by rw [qv_U, fx_rg h]; rfl
  refine ⟨e, ?_⟩
  refine Rat.le_of_mul_le_mul_right (c := UR) ?_ hU
  rw [e, Rat.zero_mul]
  exact Rat.natCast_nonneg
theorem tau_UR : 1 ≤ tau * UR := by have := UR_big; unfold tau; grind
/-- A quotient of what is not below nought. -/
theorem div_q {x y : Nat} (hx : isFin x = true) (hy : isFin y = true) (sx : sg x = false) (sy : sg y = false) (h0 : 0 < qv y) (hle : qv x ≤ qv y) :
    isFin (fdiv x y) = true ∧ sg (fdiv x y) = false ∧ Bd (qv (fdiv x y) * qv y - qv x) (qv x * eta + tau * qv y) := by
  have hU := UR_pos
  obtain ⟨ex, nx⟩ := qv_nn sx
  obtain ⟨ey, ny⟩ := qv_nn sy
  have hY : fxr (rg y) ≠ 0 := by
    intro h
    rw [h] at ey
    have : qv y * UR = 0 := ey
    rcases Rat.mul_eq_zero.1 this with h1 | h1 <;> grind
  obtain ⟨r, e, hr⟩ := fdiv_near hx hy hY
  rw [sx, sy] at e
  have hXY : fxr (rg x) ≤ fxr (rg y) := by
    refine Rat.natCast_le_natCast.1 ?_
    rw [← ex, ← ey]
    exact Rat.mul_le_mul_of_nonneg_right hle (by grind)
  have hone : r ≤ rg fone := hr.le_of (by have := rg_one_lt; unfold infR; omega) (by rw [fxr_one, Nat.mul_comm U]; exact Nat.mul_le_mul_right _ hXY)
  have ho := rg_one_lt
  obtain ⟨e1, e2⟩ := hr.err (by omega) (by unfold infR; omega)
  have hf : isFin (wd false r) = true := fin_wd (by omega)
  have hsg : sg (wd false r) = false := sg_wd (by omega)
  simp only [Bool.xor_self] at e
  rw [e]
  refine ⟨hf, hsg, ?_⟩
  obtain ⟨er, nr⟩ := qv_nn hsg
  rw [rg_wd (by omega)] at er
  have h52 : (2 : Nat) ^ 52 = 4503599627370496 := by decide
  rw [h52] at e1 e2
  have m1 : max (4503599627370496 * fxr (rg y)) (fxr (rg x) * U) ≤ 4503599627370496 * fxr (rg y) + fxr (rg x) * U := by omega
  have k1 : 4503599627370496 * (fxr r * fxr (rg y)) ≤ 4503599627370496 * (fxr (rg x) * U) + (4503599627370496 * fxr (rg y) + fxr (rg x) * U) := by omega
  have k2 : 4503599627370496 * (fxr (rg x) * U) ≤ 4503599627370496 * (fxr r * fxr (rg y)) + (4503599627370496 * fxr (rg y) + fxr (rg x) * U) := by omega
  have k1 := Rat.natCast_le_natCast.2 k1
  have k2 := Rat.natCast_le_natCast.2 k2
  simp only [Rat.natCast_mul, Rat.natCast_add] at k1 k2
  rw [← er, ← ex, ← ey] at k1 k2
  have e3 : ((4503599627370496 : Nat) : Rat) = 4503599627370496 := by rfl
  have e4 : ((U : Nat) : Rat) = UR := rfl
  rw [e3, e4] at k1 k2
  have ht := tau_UR
  have ht2 : qv y * UR ≤ tau * qv y * (UR * UR) := by
    have := Rat.mul_le_mul_of_nonneg_right ht (c := qv y * UR) (Rat.mul_nonneg ny (by grind))
    grind
  have e5 : qv x * eta * (UR * UR) * 4503599627370496 = qv x * (UR * UR) := by unfold eta; grind
  have hUU : 0 < UR * UR := Rat.mul_pos hU hU
  generalize qv (wd false r) = q at *
  constructor
  · refine Rat.le_of_mul_le_mul_right (c := UR * UR) ?_ hUU
    grind
  · refine Rat.le_of_mul_le_mul_right (c := UR * UR) ?_ hUU
    grind
/-- A root of what is not below nought, and not great. -/
theorem sqrt_q {x : Nat} (hx : isFin x = true) (sx : sg x = false) (hB : qv x ≤ 1048576) : isFin (fsqrt x) = true ∧ sg (fsqrt x) = false ∧ ∃ l : Rat, 0 ≤ l ∧ l * l ≤ qv x ∧ l ≤ qv (fsqrt x) ∧ qv (fsqrt x) ≤ l + l * eta + tau ∧ qv x ≤ (l + l * eta + tau) * (l + l * eta + tau) := by
  have hU := UR_pos
  obtain ⟨ex, nx⟩ := qv_nn sx
  obtain ⟨r, e, hr, hbr⟩ := fsqrt_near hx sx
  have hXU : ((fxr (rg x) * U : Nat) : Rat) = qv x * UR * UR := by rw [Rat.natCast_mul, ← ex]; rfl
  have hbig : fxr (rg x) * U < fxr 4850376798678024192 * fxr 4850376798678024192 := by
    have h1 : fxr (rg x) ≤ 1048576 * U := by
      refine Rat.natCast_le_natCast.1 ?_
      rw [← ex, Rat.natCast_mul]
      exact Rat.mul_le_mul_of_nonneg_right hB (by grind)
    have hU0 := U_pos
    rw [fxr_big]
    calc fxr (rg x) * U ≤ 1048576 * U * U := Nat.mul_le_mul_right _ h1
      _ < 2 ^ 54 * U * (2 ^ 54 * U) := by
        rw [show 2 ^ 54 * U * (2 ^ 54 * U) = 2 ^ 108 * (U * U) by rw [show (2 : Nat) ^ 108 = 2 ^ 54 * 2 ^ 54 by decide, Nat.mul_mul_mul_comm], Nat.mul_assoc]
        exact Nat.mul_lt_mul_of_pos_right (by decide) (Nat.mul_pos hU0 hU0)
  have hr54 : r ≤ 4850376798678024192 := (hbr _ (by decide)).2 (Nat.le_of_lt hbig)
  have hf : isFin (wd false r) = true := fin_wd (by omega)
  have hsg : sg (wd false r) = false := sg_wd (by omega)
  rw [e]
  refine ⟨hf, hsg, ?_⟩
  -- the greatest L with fxr L * fxr L ≤ XU
  have key : ∀ k, k ≤ 4850376798678024192 → fxr (4850376798678024192 - k) * fxr (4850376798678024192 - k) ≤ fxr (rg x) * U → ∃ L, L < 4850376798678024192 ∧ fxr L * fxr L ≤ fxr (rg x) * U ∧ fxr (rg x) * U < fxr (L + 1) * fxr (L + 1) := by
    intro k
    induction k with
    | zero => intro _ k; rw [Nat.sub_zero] at k; omega
    | succ k ih =>
      intro hk hL
      rcases Nat.lt_or_ge (fxr (rg x) * U) (fxr (4850376798678024192 - k) * fxr (4850376798678024192 - k)) with h1 | h1
      · refine ⟨4850376798678024192 - (k + 1), by omega, hL, ?_⟩
        rw [show 4850376798678024192 - (k + 1) + 1 = 4850376798678024192 - k by omega]
        exact h1
      · exact ih (by omega) h1
  obtain ⟨L, hL, h1, h2⟩ := key 4850376798678024192 (Nat.le_refl _) (by rw [Nat.sub_self, fxr_zero]; omega)
  have hge := (hbr L (by unfold infR; omega)).1 h1
  have hle := (hbr (L + 1) (by unfold infR; omega)).2 (Nat.le_of_lt h2)
  have hg := fxr_gap L
  have m1 : max (2 ^ 52) (fxr L) ≤ 2 ^ 52 + fxr L := by omega
  have hg2 : 4503599627370496 * fxr (L + 1) ≤ 4503599627370496 * fxr L + (4503599627370496 + fxr L) := by
    have h52 : (2 : Nat) ^ 52 = 4503599627370496 := by decide
    rw [h52] at hg m1; omega
  obtain ⟨er, nr⟩ := qv_nn hsg
  rw [rg_wd (by omega)] at er
  have a1 : fxr L ≤ fxr r := fxr_le.2 hge
  have a2 : fxr r ≤ fxr (L + 1) := fxr_le.2 hle
  -- as rational numbers
  have hl : ((fxr L : Nat) : Rat) / UR * UR = ((fxr L : Nat) : Rat) := by grind
  have hl' : ((fxr (L + 1) : Nat) : Rat) / UR * UR = ((fxr (L + 1) : Nat) : Rat) := by grind
  have hl0 : 0 ≤ ((fxr L : Nat) : Rat) / UR := by
    refine Rat.le_of_mul_le_mul_right (c := UR) ?_ hU
    rw [hl, Rat.zero_mul]; exact Rat.natCast_nonneg
  have b1 := Rat.natCast_le_natCast.2 h1
  have b2 := Rat.natCast_le_natCast.2 (Nat.le_of_lt h2)
  have b3 := Rat.natCast_le_natCast.2 hg2
  have b4 := Rat.natCast_le_natCast.2 a1
  have b5 := Rat.natCast_le_natCast.2 a2
  rw [hXU, Rat.natCast_mul] at b1 b2
  simp only [Rat.natCast_mul, Rat.natCast_add] at b3
  have e3 : ((4503599627370496 : Nat) : Rat) = 4503599627370496 := by rfl
  rw [e3] at b3
  rw [← hl, ← hl'] at b3
  rw [← hl] at b1 b4
  rw [← hl'] at b2 b5
  rw [← er] at b4 b5
  generalize ((fxr L : Nat) : Rat) / UR = l at *
  generalize ((fxr (L + 1) : Nat) : Rat) / UR = l2 at *
  have ht := tau_UR
  have hUU : 0 < UR * UR := Rat.mul_pos hU hU
  have c1 : l ≤ qv (wd false r) := Rat.le_of_mul_le_mul_right b4 hU
  have c2 : qv (wd false r) ≤ l2 := Rat.le_of_mul_le_mul_right b5 hU
  have c3 : l2 ≤ l + l * eta + tau := by
    refine Rat.le_of_mul_le_mul_right (c := UR) ?_ hU
    have e5 : l * eta * UR * 4503599627370496 = l * UR := by unfold eta; grind
    grind
  have c4 : l * l ≤ qv x := by
    refine Rat.le_of_mul_le_mul_right (c := UR * UR) ?_ hUU
    grind
  have c5 : qv x ≤ l2 * l2 := by
    refine Rat.le_of_mul_le_mul_right (c := UR * UR) ?_ hUU
    grind
  have c6 : 0 ≤ l2 := by grind
  refine ⟨l, hl0, c4, c1, by grind, Rat.le_trans c5 ?_⟩
  have d1 := Rat.mul_le_mul_of_nonneg_right c3 (c := l2) c6
  have d2 := Rat.mul_le_mul_of_nonneg_left c3 (c := l + l * eta + tau) (by grind)
  exact Rat.le_trans d1 d2
/-! ### Polynomials -/
def pe : List Rat → Rat → Rat
  | [], _ => 0
  | c :: l, z => c + z * pe l z
def padd : List Rat → List Rat → List Rat
  | [], m => m
  | l, [] => l
  | a :: l, b :: m => (a + b) :: padd l m
def pscale (k : Rat) : List Rat → List Rat
  | [] => []
  | a :: l => k * a :: pscale k l
def pmul : List Rat → List Rat → List Rat
  | [], _ => []
  | a :: l, m => padd (pscale a m) (0 :: pmul l m)
theorem pe_add (z : Rat) : ∀ l m, pe (padd l m) z = pe l z + pe m z
  | [], m => by simp only [padd, pe]; grind
  | a :: l, [] => by simp only [padd, pe]; grind
  | a :: l, b :: m => by simp only [padd, pe, pe_add z l m]; grind
theorem pe_scale (z k : Rat) : ∀ l, pe (pscale k l) z = k * pe l z
  | [] => by simp only [pscale, pe]; grind
  | a :: l => by simp only [pscale, pe, pe_scale z k l]; grind
theorem pe_mul (z : Rat) : ∀ l m, pe (pmul l m) z = pe l z * pe m z
  | [], m => by simp only [pmul, pe]; grind
  | a :: l, m => by simp only [pmul, pe, pe_add, pe_scale, pe_mul z l m]; grind
def rabs (r : Rat) : Rat := if r < 0 then -r else r
theorem bd_rabs (r : Rat) : Bd r (rabs r) := by
  unfold rabs Bd
  by_cases h : r < 0
  · rw [if_pos h]; constructor <;> grind
  · rw [if_neg h]; constructor <;> grind
theorem pe_bd {z Z : Rat} (h0 : 0 ≤ z) (h1 : z ≤ Z) : ∀ l, Bd (pe l z) (pe (l.map rabs) Z)
  | [] => Bd.zero
  | a :: l => (bd_rabs a).add (Bd.mul (⟨by grind, h1⟩ : Bd z Z) (pe_bd h0 h1 l))
end Go.Lk
end

section
/- Derivatives of functions of rational numbers. -/
namespace Go.Lk
set_option linter.unusedSimpArgs false
set_option linter.unusedVariables false
set_option maxHeartbeats 1000000

theorem rabs_nn (r : Rat) : 0 ≤ rabs r := by
  unfold rabs
  by_cases h : r < 0
  · rw [if_pos h]; grind
  · rw [if_neg h]; grind
/-- f has the derivative f' between a and b; all is bounded. -/
def Df (a b : Rat) (f f' : Rat → Rat) : Prop :=
  ∃ K : Rat, ∀ u v, a ≤ u → u ≤ b → a ≤ v → v ≤ b → Bd (f u) K ∧ Bd (f' u) K ∧ Bd (f u - f v) (K * rabs (u - v)) ∧ Bd (f u - f v - f' v * (u - v)) (K * (rabs (u - v) * rabs (u - v)))
variable {a b : Rat} {f f' g g' : Rat → Rat}
theorem Df.congr (h : Df a b f f') (e : ∀ u, f u = g u) (e' : ∀ u, f' u = g' u) : Df a b g g' := by
  obtain ⟨K, h⟩ := h
  refine ⟨K, fun u v h1 h2 h3 h4 => ?_⟩
  have := h u v h1 h2 h3 h4
  rwa [e, e, e', e'] at this
theorem Df.const (c : Rat) : Df a b (fun _ => c) (fun _ => 0) := by
  refine ⟨rabs c, fun u v _ _ _ _ => ?_⟩
  have k1 := rabs_nn c
  have k2 := rabs_nn (u - v)
  have k3 := Rat.mul_nonneg k1 k2
  have k4 := Rat.mul_nonneg k1 (Rat.mul_nonneg k2 k2)
  refine ⟨bd_rabs c, ⟨by grind, by grind⟩, ⟨by grind, by grind⟩, ⟨by grind, by grind⟩⟩
theorem Df.id (a b : Rat) : Df a b (fun u => u) (fun _ => 1) := by
  refine ⟨rabs a + rabs b + 1, fun u v h1 h2 _ _ => ?_⟩
  have ka := bd_rabs a
  have kb := bd_rabs b
  have k1 := rabs_nn a
  have k2 := rabs_nn b
  have k3 := rabs_nn (u - v)
  have k4 := Rat.mul_nonneg (a := rabs a + rabs b) (b := rabs (u - v)) (by grind) k3
  have k5 := Rat.mul_nonneg (a := rabs a + rabs b + 1) (b := rabs (u - v) * rabs (u - v)) (by grind) (Rat.mul_nonneg k3 k3)
  have k6 := bd_rabs (u - v)
  refine ⟨⟨by have := ka.1; grind, by have := kb.2; grind⟩, ⟨by grind, by grind⟩, ⟨by have := k6.1; grind, by have := k6.2; grind⟩, ⟨by grind, by grind⟩⟩
theorem Df.add (h : Df a b f f') (k : Df a b g g') : Df a b (fun u => f u + g u) (fun u => f' u + g' u) := by
  obtain ⟨K, h⟩ := h
  obtain ⟨L, k⟩ := k
  refine ⟨K + L, fun u v h1 h2 h3 h4 => ?_⟩
  obtain ⟨p1, p2, p3, p4⟩ := h u v h1 h2 h3 h4
  obtain ⟨q1, q2, q3, q4⟩ := k u v h1 h2 h3 h4
  exact ⟨p1.add q1, p2.add q2, ((p3.add q3).of_eq (by grind)).mono (by grind), ((p4.add q4).of_eq (by grind)).mono (by grind)⟩
theorem Df.mul (h : Df a b f f') (k : Df a b g g') : Df a b (fun u => f u * g u) (fun u => f' u * g u + f u * g' u) := by
  obtain ⟨K, h⟩ := h
  obtain ⟨L, k⟩ := k
  refine ⟨3 * (K * L), fun u v h1 h2 h3 h4 => ?_⟩
  obtain ⟨p1, p2, p3, p4⟩ := h u v h1 h2 h3 h4
  obtain ⟨q1, q2, q3, q4⟩ := k u v h1 h2 h3 h4
  obtain ⟨p1', p2', _, _⟩ := h v v h3 h4 h3 h4
  obtain ⟨q1', q2', _, _⟩ := k v v h3 h4 h3 h4
  have hK := p1.nonneg
  have hL := q1.nonneg
  have hKL := Rat.mul_nonneg hK hL
  have hr := rabs_nn (u - v)
  have hb := bd_rabs (u - v)
  have hKr := Rat.mul_nonneg hKL hr
  refine ⟨(p1.mul q1).mono (by grind), ((p2.mul q1).add (p1.mul q2)).mono (by grind), (((p1.mul q3).add (q1'.mul p3)).of_eq (by grind)).mono (by grind), ?_⟩
  exact (((p1.mul q4).add (q1'.mul p4)).add ((p3.mul q2').mul hb) |>.of_eq (by grind)).mono (by grind)
theorem inv_nn {m : Rat} (h : 0 < m) : 0 ≤ m⁻¹ ∧ m * m⁻¹ = 1 := ⟨Rat.le_of_lt (Rat.inv_pos.2 h), Rat.mul_inv_cancel _ (by grind)⟩
theorem inv_bd {m x : Rat} (hm : 0 < m) (h : m ≤ x) : x * x⁻¹ = 1 ∧ Bd x⁻¹ m⁻¹ := by
  obtain ⟨h1, h2⟩ := inv_nn hm
  obtain ⟨h3, h4⟩ := inv_nn (m := x) (by grind)
  refine ⟨h4, by grind, ?_⟩
  have h8 := Rat.mul_nonneg (a := x - m) (b := x⁻¹ * m⁻¹) (by grind) (Rat.mul_nonneg h3 h1)
  have h9 : (x - m) * (x⁻¹ * m⁻¹) = (x * x⁻¹) * m⁻¹ - (m * m⁻¹) * x⁻¹ := by grind
  rw [h9, h4, h2] at h8
  grind
theorem inv_alg1 {fu fv iu iv : Rat} (e1 : fu * iu = 1) (e2 : fv * iv = 1) : -(fu - fv) * (iu * iv) = iu - iv := by
  have : -(fu - fv) * (iu * iv) = (fv * iv) * iu - (fu * iu) * iv := by grind
  rw [this, e1, e2]; grind
theorem inv_alg2 {fu fv iu iv p h : Rat} (e1 : fu * iu = 1) (e2 : fv * iv = 1) : iv * (p * h * -(iu - iv) - (fu - fv - p * h) * iu) = iu - iv - -(p * (iv * iv)) * h := by
  have : iv * (p * h * -(iu - iv) - (fu - fv - p * h) * iu) = p * (iv * iv) * h - iv * (fu * iu) + (fv * iv) * iu := by grind
  rw [this, e1, e2]; grind
theorem inv_alg3 {K M r : Rat} : M * (K * r * (K * (M * M) * r) + K * (r * r) * M) = (M * (K * (K * (M * M))) + M * (K * M)) * (r * r) := by grind
theorem Df.inv {m : Rat} (hm : 0 < m) (hf : ∀ u, a ≤ u → u ≤ b → m ≤ f u) (h : Df a b f f') : Df a b (fun u => (f u)⁻¹) (fun u => -(f' u * ((f u)⁻¹ * (f u)⁻¹))) := by
  obtain ⟨K, h⟩ := h
  obtain ⟨M, hMe⟩ : ∃ M, M = m⁻¹ := ⟨_, rfl⟩
  refine ⟨M + K * (M * M) + (M * (K * (K * (M * M))) + M * (K * M)), fun u v h1 h2 h3 h4 => ?_⟩
  obtain ⟨p1, p2, p3, p4⟩ := h u v h1 h2 h3 h4
  obtain ⟨p1', p2', _, _⟩ := h v v h3 h4 h3 h4
  obtain ⟨e1, q1⟩ := inv_bd hm (hf u h1 h2)
  obtain ⟨e2, q2⟩ := inv_bd hm (hf v h3 h4)
  rw [← hMe] at q1 q2
  have hK := p1.nonneg
  have hI := q1.nonneg
  have hKII := Rat.mul_nonneg hK (Rat.mul_nonneg hI hI)
  have hKK := Rat.mul_nonneg hI (Rat.mul_nonneg hK hKII)
  have hKI := Rat.mul_nonneg hI (Rat.mul_nonneg hK hI)
  have hr := rabs_nn (u - v)
  have hb := bd_rabs (u - v)
  have hrr := Rat.mul_nonneg hr hr
  have hl : Bd ((f u)⁻¹ - (f v)⁻¹) (K * (M * M) * rabs (u - v)) := by
    refine (((p3.neg).mul (q1.mul q2)).of_eq (inv_alg1 e1 e2)).mono ?_
    rw [show K * rabs (u - v) * (M * M) = K * (M * M) * rabs (u - v) by grind]
    exact Rat.le_refl
  refine ⟨q1.mono (by clear hl p1 p2 p3 p4 p1' p2' q2; grind), ((p2.mul (q1.mul q1)).neg).mono (by clear hl p1 p2 p3 p4 p1' p2' q2; grind), hl.mono ?_, ?_⟩
  · exact Rat.mul_le_mul_of_nonneg_right (by clear hl p1 p2 p3 p4 p1' p2' q2; grind) hr
  · have t := q2.mul (((p2'.mul hb).mul hl.neg).sub (p4.mul q1))
    rw [inv_alg3] at t
    refine (t.of_eq (inv_alg2 e1 e2)).mono ?_
    exact Rat.mul_le_mul_of_nonneg_right (by clear t hl p1 p2 p3 p4 p1' p2' q2; grind) hrr
/-! ### Polynomials -/
def dl : List Rat → List Rat
  | [] => []
  | _ :: l => padd l (0 :: dl l)
theorem Df.pe (h : Df a b f f') : ∀ l, Df a b (fun u => pe l (f u)) (fun u => Lk.pe (dl l) (f u) * f' u)
  | [] => (Df.const 0).congr (fun _ => rfl) (fun u => by simp only [dl, Lk.pe]; grind)
  | c :: l => ((Df.const c).add (h.mul (Df.pe h l))).congr (fun _ => rfl) (fun u => by simp only [dl, pe_add, Lk.pe]; grind)
/-! ### The mean -/
theorem arch {X E D : Rat} (h : ∀ n : Nat, X ≤ E + D * ((n + 1 : Nat) : Rat)⁻¹) : X ≤ E := by
  rcases Rat.le_total (a := X) (b := E) with h1 | h1
  · exact h1
  by_cases h2 : X = E
  · rw [h2]; exact Rat.le_refl
  have h3 : 0 < X - E := by grind
  obtain ⟨n, hn⟩ : ∃ n : Nat, D < (X - E) * ((n + 1 : Nat) : Rat) := by
    refine ⟨(D / (X - E)).ceil.toNat, ?_⟩
    have h4 : D / (X - E) ≤ (((D / (X - E)).ceil : Int) : Rat) := Rat.le_ceil
    have h5 : (((D / (X - E)).ceil : Int) : Rat) ≤ (((D / (X - E)).ceil.toNat : Nat) : Rat) := by
      have : (D / (X - E)).ceil ≤ ((D / (X - E)).ceil.toNat : Int) := Int.self_le_toNat _
      exact_mod_cast this
    have h6 : D = (X - E) * (D / (X - E)) := (Rat.mul_comm _ _).trans (Rat.div_mul_cancel (by grind)) |>.symm
    have h7 := Rat.mul_le_mul_of_nonneg_left (Rat.le_trans h4 h5) (c := X - E) (by grind)
    have h8 : (((D / (X - E)).ceil.toNat + 1 : Nat) : Rat) = (((D / (X - E)).ceil.toNat : Nat) : Rat) + 1 := by
      exact_mod_cast rfl
    rw [h8]
    grind
  have h4 := h n
  have hp : (0 : Rat) < ((n + 1 : Nat) : Rat) := Rat.natCast_pos.2 (by omega)
  have h5 : ((n + 1 : Nat) : Rat) * ((n + 1 : Nat) : Rat)⁻¹ = 1 := Rat.mul_inv_cancel _ (by grind)
  have h6 := Rat.mul_le_mul_of_nonneg_right h4 (c := ((n + 1 : Nat) : Rat)) (by grind)
  generalize ((n + 1 : Nat) : Rat) = N at *
  have h7 : (E + D * N⁻¹) * N = E * N + D * (N * N⁻¹) := by grind
  rw [h7, h5] at h6
  grind
theorem Df.steps {ε σ : Rat} (h : Df a b f f') (hd : ∀ v, a ≤ v → v ≤ b → Bd (f' v - σ) ε) : ∃ K : Rat, 0 ≤ K ∧ ∀ (t : Rat), 0 ≤ t → ∀ n : Nat, a + (n : Rat) * t ≤ b → Bd (f (a + (n : Rat) * t) - f a - σ * ((n : Rat) * t)) ((n : Rat) * (ε * t + K * (t * t))) := by
  obtain ⟨K, h⟩ := h
  by_cases hab : a ≤ b
  · have hK := (h a a (by grind) hab (by grind) hab).1.nonneg
    refine ⟨K, hK, fun t ht n => ?_⟩
    induction n with
    | zero =>
      intro _
      have e : a + ((0 : Nat) : Rat) * t = a := by
        have : ((0 : Nat) : Rat) = 0 := rfl
        rw [this]; grind
      rw [e]
      have : ((0 : Nat) : Rat) = 0 := rfl
      rw [this]
      exact ⟨by grind, by grind⟩
    | succ n ih =>
      intro hn
      have e : ((n + 1 : Nat) : Rat) = (n : Rat) + 1 := by exact_mod_cast rfl
      rw [e] at hn ⊢
      have hn0 : (0 : Rat) ≤ (n : Rat) := by exact_mod_cast Nat.zero_le n
      have hnt := Rat.mul_nonneg hn0 ht
      have h1 : a + (n : Rat) * t ≤ b := by grind
      have h2 := ih h1
      obtain ⟨_, _, _, h3⟩ := h (a + ((n : Rat) + 1) * t) (a + (n : Rat) * t) (by grind) hn (by grind) h1
      have e2 : a + ((n : Rat) + 1) * t - (a + (n : Rat) * t) = t := by grind
      rw [e2] at h3
      have e3 : rabs t = t := by unfold rabs; rw [if_neg (by grind)]
      rw [e3] at h3
      have h4 := (hd (a + (n : Rat) * t) (by grind) h1).mul (⟨by grind, by grind⟩ : Bd t t)
      exact (((h2.add h4).add h3).of_eq (by grind)).mono (by grind)
  · exact ⟨0, by grind, fun t ht n hn => by
      have hn0 : (0 : Rat) ≤ (n : Rat) := by exact_mod_cast Nat.zero_le n
      have := Rat.mul_nonneg hn0 ht
      exact absurd hn (by grind)⟩
theorem Df.mean {ε σ : Rat} (h : Df a b f f') (hab : a ≤ b) (hd : ∀ v, a ≤ v → v ≤ b → Bd (f' v - σ) ε) : Bd (f b - f a - σ * (b - a)) (ε * (b - a)) := by
  obtain ⟨K, hK, h⟩ := h.steps hd
  have hN : ∀ n : Nat, Bd (f b - f a - σ * (b - a)) (ε * (b - a) + K * ((b - a) * (b - a)) * ((n + 1 : Nat) : Rat)⁻¹) := by
    intro n
    have hp : (0 : Rat) < ((n + 1 : Nat) : Rat) := Rat.natCast_pos.2 (by omega)
    have h5 : ((n + 1 : Nat) : Rat) * ((n + 1 : Nat) : Rat)⁻¹ = 1 := Rat.mul_inv_cancel _ (by grind)
    have h6 : 0 ≤ ((n + 1 : Nat) : Rat)⁻¹ := (inv_nn hp).1
    have h7 := h ((b - a) * ((n + 1 : Nat) : Rat)⁻¹) (Rat.mul_nonneg (by grind) h6) (n + 1)
    generalize ((n + 1 : Nat) : Rat) = N at *
    have e : N * ((b - a) * N⁻¹) = b - a := by
      have : N * ((b - a) * N⁻¹) = (b - a) * (N * N⁻¹) := by grind
      rw [this, h5]; grind
    rw [e, show a + (b - a) = b by grind] at h7
    refine (h7 Rat.le_refl).mono ?_
    have e2 : N * (ε * ((b - a) * N⁻¹) + K * ((b - a) * N⁻¹ * ((b - a) * N⁻¹))) = (ε * (b - a) + K * ((b - a) * (b - a)) * N⁻¹) * (N * N⁻¹) := by grind
    rw [e2, h5]; grind
  refine ⟨?_, arch fun n => (hN n).2⟩
  have := arch (X := -(f b - f a - σ * (b - a))) (E := ε * (b - a)) (D := K * ((b - a) * (b - a))) fun n => by have := (hN n).1; grind
  grind
end Go.Lk
end

section
/- The program's sine and cosine of an eighth of a turn: their squares' sum is near 1; magnitudes near 1. -/
namespace Go.Lk
set_option linter.unusedSimpArgs false
set_option linter.unusedVariables false
set_option maxRecDepth 10000

theorem qv_const {x : Nat} {n d : Int} (hd : d ≠ 0) (h : fx x * d = n * (U : Int)) : qv x = (n : Rat) / (d : Rat) := by
  have hU := UR_pos
  have h1 : ((fx x * d : Int) : Rat) = ((n * (U : Int) : Int) : Rat) := by rw [h]
  rw [Rat.intCast_mul, Rat.intCast_mul, ← qv_U] at h1
  have hd' : ((d : Int) : Rat) ≠ 0 := fun h => hd (by exact_mod_cast h)
  have h2 : qv x * UR * (d : Rat) = (n : Rat) * UR := h1
  have h3 : qv x * (d : Rat) * UR = (n : Rat) * UR := by grind
  have h4 : (qv x * (d : Rat) - n) * UR = 0 := by grind
  rcases Rat.mul_eq_zero.1 h4 with h5 | h5
  · have h6 : qv x * (d : Rat) = n := by grind
    rw [← h6, Rat.div_def, Rat.mul_assoc, Rat.mul_inv_cancel _ hd', Rat.mul_one]
  · rw [h5] at hU; exact absurd hU (by decide)
/-! ### Horner's way -/
def hn (z : Nat) : List Nat → Nat → Nat
  | [], p => p
  | c :: l, p => hn z l (fadd (fmul p z) c)
def hP (ζ : Rat) : List Rat → Rat → Rat
  | [], P => P
  | κ :: l, P => hP ζ l (κ + ζ * P)
def eStep (Z e A A' : Rat) : Rat := e * Z + (A + e) * Z * eta + tau + (A' + e * Z + (A + e) * Z * eta + tau) * eta + tau
def hE (Z : Rat) : List Rat → Rat → Rat → Option (Rat × Rat)
  | [], e, A => some (e, A)
  | κ :: l, e, A => if A + e ≤ 1000 ∧ rabs κ ≤ 1000 then hE Z l (eStep Z e A (rabs κ + Z * A)) (rabs κ + Z * A) else none
theorem eta_small : 0 ≤ eta ∧ eta ≤ 1 / 1000000 ∧ 0 ≤ tau ∧ tau ≤ eta / 1000000000000 := by decide +kernel
theorem h_step {p z c : Nat} {P e κ A A' Z : Rat} (hp : isFin p = true) (hz : isFin z = true) (hc : isFin c = true) (hκ : qv c = κ) (h0 : 0 ≤ qv z) (h1 : qv z ≤ Z) (hZ : Z ≤ 1) (hpe : Bd (qv p - P) e) (hA : Bd P A) (hA' : Bd (κ + qv z * P) A') (hAe : A + e ≤ 1000) (hA2 : A' ≤ 2000) :
    isFin (fadd (fmul p z) c) = true ∧ Bd (qv (fadd (fmul p z) c) - (κ + qv z * P)) (eStep Z e A A') := by
  obtain ⟨t1, t2, t3, t4⟩ := eta_small
  have hz' : Bd (qv z) Z := ⟨by grind, h1⟩
  have hp' : Bd (qv p) (A + e) := (hA.add hpe).of_eq (by grind)
  have hAe0 := hp'.nonneg
  have hZ0 : 0 ≤ Z := by grind
  have hpz : Bd (qv p * qv z) ((A + e) * Z) := hp'.mul hz'
  have hAZ : (A + e) * Z ≤ (A + e) * 1 := Rat.mul_le_mul_of_nonneg_left hZ hAe0
  obtain ⟨m1, m2⟩ := mul_q hp hz hpz (by grind)
  have he1 : Bd ((qv p - P) * qv z) (e * Z) := hpe.mul hz'
  have hd : Bd (qv (fmul p z) - qv z * P) (e * Z + ((A + e) * Z * eta + tau)) := (he1.add m2).of_eq (by grind)
  have hs : Bd (qv (fmul p z) + qv c) (A' + (e * Z + ((A + e) * Z * eta + tau))) := (hA'.add hd).of_eq (by rw [hκ]; grind)
  have he0 := hpe.nonneg
  have heZ : e * Z ≤ e * 1 := Rat.mul_le_mul_of_nonneg_left hZ he0
  have hAZ0 : 0 ≤ (A + e) * Z := Rat.mul_nonneg hAe0 hZ0
  have hAZe : (A + e) * Z * eta ≤ 1000 * (1 / 1000000) := by
    have h5 : (A + e) * Z * eta ≤ (A + e) * Z * (1 / 1000000) := Rat.mul_le_mul_of_nonneg_left t2 hAZ0
    grind
  have hA0 := hA.nonneg
  obtain ⟨s1, s2⟩ := add_q m1 hc hs (by grind)
  refine ⟨s1, ((hd.add s2).of_eq (by rw [hκ]; grind)).mono ?_⟩
  unfold eStep
  grind
theorem hn_err {z : Nat} {Z : Rat} (hz : isFin z = true) (h0 : 0 ≤ qv z) (h1 : qv z ≤ Z) (hZ : Z ≤ 1) : ∀ (l : List (Nat × Rat)) (p : Nat) (P e A e' A' : Rat), isFin p = true → Bd (qv p - P) e → Bd P A → (∀ c ∈ l, isFin c.1 = true ∧ qv c.1 = c.2) → hE Z (l.map (·.2)) e A = some (e', A') →
    isFin (hn z (l.map (·.1)) p) = true ∧ Bd (qv (hn z (l.map (·.1)) p) - hP (qv z) (l.map (·.2)) P) e' ∧ Bd (hP (qv z) (l.map (·.2)) P) A'
  | [], p, P, e, A, e', A', hp, hpe, hA, hl, h => by
    cases h; exact ⟨hp, hpe, hA⟩
  | (c, κ) :: l, p, P, e, A, e', A', hp, hpe, hA, hl, h => by
    simp only [List.map_cons, hE] at h
    split at h
    · rename_i hc
      obtain ⟨c1, c2⟩ := hl (c, κ) (by simp)
      have hA2 : Bd (κ + qv z * P) (rabs κ + Z * A) := (bd_rabs κ).add (Bd.mul ⟨by grind, h1⟩ hA)
      have hA0 := hA.nonneg
      have he0 := hpe.nonneg
      have hZA : Z * A ≤ 1 * A := Rat.mul_le_mul_of_nonneg_right hZ hA0
      obtain ⟨s1, s2⟩ := h_step hp hz c1 c2 h0 h1 hZ hpe hA hA2 hc.1 (by have := hc.1; have := hc.2; grind)
      exact hn_err hz h0 h1 hZ l _ _ _ _ _ _ s1 s2 hA2 (fun c hc => hl c (by simp [hc])) h
    · cases h
def ZZ : Rat := 6169 / 10000
def cosW : List Nat := [13666517717442657437, 4477122120089393304, 13732177094651715420, 4537941361671905306, 13787419979223755799, 4586165620538955093, 13826050856027422720]
def sinW : List Nat := [13648976655441704991, 4460272573143870729, 13716528800881525988, 4523617214285662004, 13774824197408792602, 4575957461383581969, 13818544856648471893]
def cosP (z : Nat) : Nat := hn z cosW 4407590220077447199
def sinP (z : Nat) : Nat := hn z sinW 4389130328383466826
def cosT : List Rat := [(-1 / 2), (6004799503160661 / 144115188075855872), (-6405119470038039 / 4611686018427387904), (3660068268593165 / 147573952589676412928), (-1301357606610903 / 4722366482869645213696), (630961263811347 / 302231454903657293676544), (-7100047627943069 / 618970019642690137449562112), (7573384136472607 / 158456325028528675187087900672)]
def sinT : List Rat := [(-6004799503160661 / 36028797018963968), (4803839602528529 / 576460752303423488), (-3660068268593165 / 18446744073709551616), (1626697008263629 / 590295810358705651712), (-1892883791434041 / 75557863725914323419136), (6212541674450185 / 38685626227668133590597632), (-7573384136472607 / 9903520314283042199192993792), (3563945475987109 / 1267650600228229401496703205376)]
def cosL : List (Nat × Rat) := [(13666517717442657437, (-7100047627943069 / 618970019642690137449562112)), (4477122120089393304, (630961263811347 / 302231454903657293676544)), (13732177094651715420, (-1301357606610903 / 4722366482869645213696)), (4537941361671905306, (3660068268593165 / 147573952589676412928)), (13787419979223755799, (-6405119470038039 / 4611686018427387904)), (4586165620538955093, (6004799503160661 / 144115188075855872)), (13826050856027422720, (-1 / 2))]
def cos8 : Rat := (7573384136472607 / 158456325028528675187087900672)
theorem cos_q0 : isFin 4407590220077447199 = true ∧ qv 4407590220077447199 = (7573384136472607 / 158456325028528675187087900672) := ⟨by decide, (qv_const (n := 7573384136472607) (d := 158456325028528675187087900672) (by decide) (by decide +kernel)).trans (by decide +kernel)⟩
theorem cos_q1 : isFin 13666517717442657437 = true ∧ qv 13666517717442657437 = (-7100047627943069 / 618970019642690137449562112) := ⟨by decide, (qv_const (n := -7100047627943069) (d := 618970019642690137449562112) (by decide) (by decide +kernel)).trans (by decide +kernel)⟩
theorem cos_q2 : isFin 4477122120089393304 = true ∧ qv 4477122120089393304 = (630961263811347 / 302231454903657293676544) := ⟨by decide, (qv_const (n := 630961263811347) (d := 302231454903657293676544) (by decide) (by decide +kernel)).trans (by decide +kernel)⟩
theorem cos_q3 : isFin 13732177094651715420 = true ∧ qv 13732177094651715420 = (-1301357606610903 / 4722366482869645213696) := ⟨by decide, (qv_const (n := -1301357606610903) (d := 4722366482869645213696) (by decide) (by decide +kernel)).trans (by decide +kernel)⟩
theorem cos_q4 : isFin 4537941361671905306 = true ∧ qv 4537941361671905306 = (3660068268593165 / 147573952589676412928) := ⟨by decide, (qv_const (n := 3660068268593165) (d := 147573952589676412928) (by decide) (by decide +kernel)).trans (by decide +kernel)⟩
theorem cos_q5 : isFin 13787419979223755799 = true ∧ qv 13787419979223755799 = (-6405119470038039 / 4611686018427387904) := ⟨by decide, (qv_const (n := -6405119470038039) (d := 4611686018427387904) (by decide) (by decide +kernel)).trans (by decide +kernel)⟩
theorem cos_q6 : isFin 4586165620538955093 = true ∧ qv 4586165620538955093 = (6004799503160661 / 144115188075855872) := ⟨by decide, (qv_const (n := 6004799503160661) (d := 144115188075855872) (by decide) (by decide +kernel)).trans (by decide +kernel)⟩
theorem cos_q7 : isFin 13826050856027422720 = true ∧ qv 13826050856027422720 = (-1 / 2) := ⟨by decide, (qv_const (n := -1) (d := 2) (by decide) (by decide +kernel)).trans (by decide +kernel)⟩
theorem cosL_ok : ∀ c ∈ cosL, isFin c.1 = true ∧ qv c.1 = c.2 := by
  intro c hc
  simp only [cosL, List.mem_cons, List.not_mem_nil, or_false] at hc
  rcases hc with rfl | rfl | rfl | rfl | rfl | rfl | rfl
  · exact cos_q1
  · exact cos_q2
  · exact cos_q3
  · exact cos_q4
  · exact cos_q5
  · exact cos_q6
  · exact cos_q7
def sinL : List (Nat × Rat) := [(13648976655441704991, (-7573384136472607 / 9903520314283042199192993792)), (4460272573143870729, (6212541674450185 / 38685626227668133590597632)), (13716528800881525988, (-1892883791434041 / 75557863725914323419136)), (4523617214285662004, (1626697008263629 / 590295810358705651712)), (13774824197408792602, (-3660068268593165 / 18446744073709551616)), (4575957461383581969, (4803839602528529 / 576460752303423488)), (13818544856648471893, (-6004799503160661 / 36028797018963968))]
def sin8 : Rat := (3563945475987109 / 1267650600228229401496703205376)
theorem sin_q0 : isFin 4389130328383466826 = true ∧ qv 4389130328383466826 = (3563945475987109 / 1267650600228229401496703205376) := ⟨by decide, (qv_const (n := 3563945475987109) (d := 1267650600228229401496703205376) (by decide) (by decide +kernel)).trans (by decide +kernel)⟩
theorem sin_q1 : isFin 13648976655441704991 = true ∧ qv 13648976655441704991 = (-7573384136472607 / 9903520314283042199192993792) := ⟨by decide, (qv_const (n := -7573384136472607) (d := 9903520314283042199192993792) (by decide) (by decide +kernel)).trans (by decide +kernel)⟩
theorem sin_q2 : isFin 4460272573143870729 = true ∧ qv 4460272573143870729 = (6212541674450185 / 38685626227668133590597632) := ⟨by decide, (qv_const (n := 6212541674450185) (d := 38685626227668133590597632) (by decide) (by decide +kernel)).trans (by decide +kernel)⟩
theorem sin_q3 : isFin 13716528800881525988 = true ∧ qv 13716528800881525988 = (-1892883791434041 / 75557863725914323419136) := ⟨by decide, (qv_const (n := -1892883791434041) (d := 75557863725914323419136) (by decide) (by decide +kernel)).trans (by decide +kernel)⟩
theorem sin_q4 : isFin 4523617214285662004 = true ∧ qv 4523617214285662004 = (1626697008263629 / 590295810358705651712) := ⟨by decide, (qv_const (n := 1626697008263629) (d := 590295810358705651712) (by decide) (by decide +kernel)).trans (by decide +kernel)⟩
theorem sin_q5 : isFin 13774824197408792602 = true ∧ qv 13774824197408792602 = (-3660068268593165 / 18446744073709551616) := ⟨by decide, (qv_const (n := -3660068268593165) (d := 18446744073709551616) (by decide) (by decide +kernel)).trans (by decide +kernel)⟩
theorem sin_q6 : isFin 4575957461383581969 = true ∧ qv 4575957461383581969 = (4803839602528529 / 576460752303423488) := ⟨by decide, (qv_const (n := 4803839602528529) (d := 576460752303423488) (by decide) (by decide +kernel)).trans (by decide +kernel)⟩
theorem sin_q7 : isFin 13818544856648471893 = true ∧ qv 13818544856648471893 = (-6004799503160661 / 36028797018963968) := ⟨by decide, (qv_const (n := -6004799503160661) (d := 36028797018963968) (by decide) (by decide +kernel)).trans (by decide +kernel)⟩
theorem sinL_ok : ∀ c ∈ sinL, isFin c.1 = true ∧ qv c.1 = c.2 := by
  intro c hc
  simp only [sinL, List.mem_cons, List.not_mem_nil, or_false] at hc
  rcases hc with rfl | rfl | rfl | rfl | rfl | rfl | rfl
  · exact sin_q1
  · exact sin_q2
  · exact sin_q3
  · exact sin_q4
  · exact sin_q5
  · exact sin_q6
  · exact sin_q7
theorem circ_q : isFin 4618760256179416344 = true ∧ qv 4618760256179416344 = 884279719003555 / 140737488355328 := ⟨by decide, (qv_const (n := 884279719003555) (d := 140737488355328) (by decide) (by decide +kernel)).trans (by decide +kernel)⟩
theorem one_q : isFin 4607182418800017408 = true ∧ qv 4607182418800017408 = 1 := ⟨by decide, (qv_const (n := 1) (d := 1) (by decide) (by decide +kernel)).trans (by decide +kernel)⟩
theorem cosP_err {z : Nat} (hz : isFin z = true) (h0 : 0 ≤ qv z) (h1 : qv z ≤ ZZ) : isFin (cosP z) = true ∧ Bd (qv (cosP z) - pe cosT (qv z)) ((58 / 100) * eta) ∧ Bd (pe cosT (qv z)) (527 / 1000) := by
  obtain ⟨p1, p2⟩ := cos_q0
  have hE0 : ∃ e A, hE ZZ (cosL.map (·.2)) 0 (rabs cos8) = some (e, A) ∧ e ≤ (58 / 100) * eta ∧ A ≤ 527 / 1000 := by
    have h : (match hE ZZ (cosL.map (·.2)) 0 (rabs cos8) with | some (e, A) => decide (e ≤ (58 / 100) * eta ∧ A ≤ 527 / 1000) | none => false) = true := by decide +kernel
    split at h
    · rename_i e A he
      exact ⟨e, A, he, of_decide_eq_true h⟩
    · cases h
  obtain ⟨e, A, he, hle, hA⟩ := hE0
  obtain ⟨r1, r2, r3⟩ := hn_err hz h0 h1 (by decide +kernel) cosL 4407590220077447199 cos8 0 (rabs cos8) e A p1 (by rw [p2]; show Bd (cos8 - cos8) 0; rw [Rat.sub_self]; exact Bd.zero) (bd_rabs _) cosL_ok he
  have hpe : hP (qv z) (cosL.map (·.2)) cos8 = pe cosT (qv z) := by
    simp only [cosL, List.map_cons, List.map_nil, hP, cosT, pe, cos8]
    grind
  rw [hpe] at r2 r3
  exact ⟨r1, r2.mono hle, r3.mono hA⟩
theorem sinP_err {z : Nat} (hz : isFin z = true) (h0 : 0 ≤ qv z) (h1 : qv z ≤ ZZ) : isFin (sinP z) = true ∧ Bd (qv (sinP z) - pe sinT (qv z)) ((183 / 1000) * eta) ∧ Bd (pe sinT (qv z)) (172 / 1000) := by
  obtain ⟨p1, p2⟩ := sin_q0
  have hE0 : ∃ e A, hE ZZ (sinL.map (·.2)) 0 (rabs sin8) = some (e, A) ∧ e ≤ (183 / 1000) * eta ∧ A ≤ 172 / 1000 := by
    have h : (match hE ZZ (sinL.map (·.2)) 0 (rabs sin8) with | some (e, A) => decide (e ≤ (183 / 1000) * eta ∧ A ≤ 172 / 1000) | none => false) = true := by decide +kernel
    split at h
    · rename_i e A he
      exact ⟨e, A, he, of_decide_eq_true h⟩
    · cases h
  obtain ⟨e, A, he, hle, hA⟩ := hE0
  obtain ⟨r1, r2, r3⟩ := hn_err hz h0 h1 (by decide +kernel) sinL 4389130328383466826 sin8 0 (rabs sin8) e A p1 (by rw [p2]; show Bd (sin8 - sin8) 0; rw [Rat.sub_self]; exact Bd.zero) (bd_rabs _) sinL_ok he
  have hpe : hP (qv z) (sinL.map (·.2)) sin8 = pe sinT (qv z) := by
    simp only [sinL, List.map_cons, List.map_nil, hP, sinT, pe, sin8]
    grind
  rw [hpe] at r2 r3
  exact ⟨r1, r2.mono hle, r3.mono hA⟩
end Go.Lk
end

section
/- The squares' sum of the program's sine and cosine is near 1. -/
namespace Go.Lk
set_option linter.unusedSimpArgs false
set_option linter.unusedVariables false
set_option maxRecDepth 10000
def cosE (z : Nat) : Nat := fadd (fmul (cosP z) z) 4607182418800017408
def sinE (z : Nat) : Nat := fadd (fmul (sinP z) z) 4607182418800017408
def cosR (ζ : Rat) : Rat := 1 + ζ * pe cosT ζ
def sinR (ζ : Rat) : Rat := 1 + ζ * pe sinT ζ
theorem neg_tail {ζ a : Rat} {l : List Rat} (h0 : 0 ≤ ζ) (h1 : ζ ≤ ZZ) (hl : pe (l.map rabs) ZZ ≤ 1 / 20) (ha : a ≤ -(1 / 10)) : pe (a :: l) ζ ≤ 0 := by
  have hb := pe_bd h0 h1 l
  have h2 : Bd (ζ * pe l ζ) (ZZ * pe (l.map rabs) ZZ) := Bd.mul (⟨by grind, h1⟩ : Bd ζ ZZ) hb
  have h3 : ZZ * pe (l.map rabs) ZZ ≤ ZZ * (1 / 20) := Rat.mul_le_mul_of_nonneg_left hl (by decide +kernel)
  have h4 : ZZ * (1 / 20) ≤ 1 / 10 := by decide +kernel
  show a + ζ * pe l ζ ≤ 0
  have := h2.2
  grind
theorem one_range {ζ P A : Rat} (h0 : 0 ≤ ζ) (h1 : ζ ≤ ZZ) (hP : Bd P A) (hn : P ≤ 0) (hA : A ≤ 527 / 1000) : 0 ≤ 1 + ζ * P ∧ 1 + ζ * P ≤ 1 ∧ 6 / 10 ≤ 1 + ζ * P := by
  have k1 := Rat.mul_nonneg (a := ζ) (b := -P) h0 (by grind)
  have h2 : Bd (ζ * P) (ZZ * A) := Bd.mul (⟨by grind, h1⟩ : Bd ζ ZZ) hP
  have h3 : ZZ * A ≤ ZZ * (527 / 1000) := Rat.mul_le_mul_of_nonneg_left hA (by decide +kernel)
  have h4 : ZZ * (527 / 1000) ≤ 4 / 10 := by decide +kernel
  have := h2.1
  refine ⟨by grind, by grind, by grind⟩
theorem cosE_err {z : Nat} (hz : isFin z = true) (h0 : 0 ≤ qv z) (h1 : qv z ≤ ZZ) : isFin (cosE z) = true ∧ Bd (qv (cosE z) - cosR (qv z)) (1684 / 1000 * eta) ∧ 0 ≤ cosR (qv z) ∧ cosR (qv z) ≤ 1 ∧ 6 / 10 ≤ cosR (qv z) := by
  obtain ⟨p1, p2, p3⟩ := cosP_err hz h0 h1
  have hneg : pe cosT (qv z) ≤ 0 := neg_tail h0 h1 (by decide +kernel) (by decide +kernel)
  obtain ⟨o1, o2, o3⟩ := one_range h0 h1 p3 hneg (by decide +kernel)
  obtain ⟨s1, s2⟩ := h_step p1 hz one_q.1 one_q.2 h0 h1 (by decide +kernel) p2 p3 (A' := 1) ⟨by grind, o2⟩ (by decide +kernel) (by decide +kernel)
  exact ⟨s1, s2.mono (by decide +kernel), o1, o2, o3⟩
theorem sinE_err {z : Nat} (hz : isFin z = true) (h0 : 0 ≤ qv z) (h1 : qv z ≤ ZZ) : isFin (sinE z) = true ∧ Bd (qv (sinE z) - sinR (qv z)) (1220 / 1000 * eta) ∧ 0 ≤ sinR (qv z) ∧ sinR (qv z) ≤ 1 ∧ 6 / 10 ≤ sinR (qv z) := by
  obtain ⟨p1, p2, p3⟩ := sinP_err hz h0 h1
  have hneg : pe sinT (qv z) ≤ 0 := neg_tail h0 h1 (by decide +kernel) (by decide +kernel)
  obtain ⟨o1, o2, o3⟩ := one_range h0 h1 p3 hneg (by decide +kernel)
  obtain ⟨s1, s2⟩ := h_step p1 hz one_q.1 one_q.2 h0 h1 (by decide +kernel) p2 p3 (A' := 1) ⟨by grind, o2⟩ (by decide +kernel) (by decide +kernel)
  exact ⟨s1, s2.mono (by decide +kernel), o1, o2, o3⟩
/-- cos² + sin², but for a little. -/
def sqD : List Rat := padd (padd (pmul (1 :: cosT) (1 :: cosT)) (0 :: pmul (1 :: sinT) (1 :: sinT))) [-1]
theorem sq_one {ζ : Rat} (h0 : 0 ≤ ζ) (h1 : ζ ≤ ZZ) : Bd (cosR ζ * cosR ζ + ζ * (sinR ζ * sinR ζ) - 1) (eta / 20) := by
  have h := (pe_bd h0 h1 sqD).mono (B := eta / 20) (by decide +kernel)
  have e : pe sqD ζ = cosR ζ * cosR ζ + ζ * (sinR ζ * sinR ζ) - 1 := by
    unfold sqD
    rw [pe_add, pe_add, pe_mul]
    have e1 : pe (0 :: pmul (1 :: sinT) (1 :: sinT)) ζ = ζ * (pe (1 :: sinT) ζ * pe (1 :: sinT) ζ) := by
      show 0 + ζ * pe (pmul (1 :: sinT) (1 :: sinT)) ζ = _
      rw [pe_mul]; grind
    have e2 : pe [-1] ζ = -1 := by show -1 + ζ * 0 = -1; grind
    rw [e1, e2]
    show (1 + ζ * pe cosT ζ) * (1 + ζ * pe cosT ζ) + ζ * ((1 + ζ * pe sinT ζ) * (1 + ζ * pe sinT ζ)) + -1 = _
    unfold cosR sinR
    grind
  exact h.of_eq e
theorem sq_bd {x y A e : Rat} (h : Bd (x - y) e) (hy : Bd y A) : Bd (x * x - y * y) (e * (2 * A + e)) := by
  have h2 : Bd (x + y) (2 * A + e) := ((h.add hy).add hy).of_eq (by grind) |>.mono (by grind)
  exact (h.mul h2).of_eq (by grind)
/-- The two of an eighth of a turn. -/
theorem eighth_near {a : Nat} (ha : isFin a = true) (sa : sg a = false) (h8 : qv a ≤ 1 / 8) :
    isFin (cosE (fmul (fmul a 4618760256179416344) (fmul a 4618760256179416344))) = true ∧ isFin (fmul (sinE (fmul (fmul a 4618760256179416344) (fmul a 4618760256179416344))) (fmul a 4618760256179416344)) = true ∧
    Bd (qv (cosE (fmul (fmul a 4618760256179416344) (fmul a 4618760256179416344))) * qv (cosE (fmul (fmul a 4618760256179416344) (fmul a 4618760256179416344))) +
      qv (fmul (sinE (fmul (fmul a 4618760256179416344) (fmul a 4618760256179416344))) (fmul a 4618760256179416344)) * qv (fmul (sinE (fmul (fmul a 4618760256179416344) (fmul a 4618760256179416344))) (fmul a 4618760256179416344)) - 1) (68 / 10 * eta) := by
  obtain ⟨t1, t2, t3, t4⟩ := eta_small
  obtain ⟨c1, c2⟩ := circ_q
  have na := (qv_nn sa).2
  have sc : sg 4618760256179416344 = false := by decide
  have sgm : ∀ {x y : Nat}, isFin x = true → isFin y = true → sg x = sg y → sg (fmul x y) = false := by
    intro x y hx hy hs
    obtain ⟨r, e, hr⟩ := fmul_near hx hy
    rw [e, sg_wd (by have := hr.1; unfold infR at this; omega), hs, Bool.xor_self]
  have hac : Bd (qv a * qv 4618760256179416344) (785398163398 / 1000000000000) := by
    rw [c2]
    have k1 := Rat.mul_nonneg (a := qv a) (b := 884279719003555 / 140737488355328) na (by decide +kernel)
    have k2 := Rat.mul_le_mul_of_nonneg_right h8 (c := 884279719003555 / 140737488355328) (by decide +kernel)
    have k3 : (1 / 8 : Rat) * (884279719003555 / 140737488355328) ≤ 785398163398 / 1000000000000 := by decide +kernel
    constructor <;> grind
  obtain ⟨y1, y2⟩ := mul_q ha c1 hac (by decide +kernel)
  have sy : sg (fmul a 4618760256179416344) = false := sgm ha c1 (by rw [sa, sc])
  generalize fmul a 4618760256179416344 = y at *
  have ny := (qv_nn sy).2
  have hy : qv y ≤ 78539817 / 100000000 := by
    have h1 := hac.2
    have h2 := y2.2
    have h3 : 785398163398 / 1000000000000 * eta + tau ≤ 1 / 1000000000 := by decide +kernel
    grind
  have by' : Bd (qv y) (78539817 / 100000000) := ⟨by grind, hy⟩
  have hyy := by'.mul by'
  obtain ⟨z1, z2⟩ := mul_q y1 y1 hyy (by decide +kernel)
  have sz : sg (fmul y y) = false := sgm y1 y1 rfl
  generalize fmul y y = z at *
  have nz := (qv_nn sz).2
  have hz : qv z ≤ ZZ := by
    have h1 := hyy.2
    have h2 := z2.2
    have h3 : (78539817 / 100000000 : Rat) * (78539817 / 100000000) + (78539817 / 100000000 * (78539817 / 100000000) * eta + tau) ≤ ZZ := by decide +kernel
    grind
  obtain ⟨C1, C2, C3, C4, C5⟩ := cosE_err z1 nz hz
  obtain ⟨S1, S2, S3, S4, S5⟩ := sinE_err z1 nz hz
  have hone := sq_one nz hz
  have bC : Bd (cosR (qv z)) 1 := ⟨by grind, C4⟩
  have bS : Bd (sinR (qv z)) 1 := ⟨by grind, S4⟩
  generalize cosR (qv z) = C at *
  generalize sinR (qv z) = S at *
  have q1 := sq_bd C2 bC
  have q2 := sq_bd S2 bS
  -- the sine itself
  have bS2 : Bd (qv (sinE z)) (1 + 1220 / 1000 * eta) := (bS.add S2).of_eq (by grind)
  have bσ := bS2.mul by'
  obtain ⟨s1, s2⟩ := mul_q S1 y1 bσ (by decide +kernel)
  refine ⟨C1, s1, ?_⟩
  have q3 := sq_bd s2 bσ
  generalize qv (fmul (sinE z) y) = s at *
  generalize qv (sinE z) = p at *
  generalize qv (cosE z) = c at *
  -- σ² - S² ζ
  have q4 : Bd ((p * p - S * S) * (qv y * qv y)) (1220 / 1000 * eta * (2 * 1 + 1220 / 1000 * eta) * (78539817 / 100000000 * (78539817 / 100000000))) := q2.mul hyy
  have q5 : Bd (S * S * (qv y * qv y - qv z)) (1 * 1 * (78539817 / 100000000 * (78539817 / 100000000) * eta + tau)) := (bS.mul bS).mul (z2.neg.of_eq (by grind))
  have hall := ((((q1.add q3).add q4).add q5).add hone).of_eq (s := c * c + s * s - 1) (by grind)
  exact hall.mono (by decide +kernel)
end Go.Lk
end

section
/- The arctangent's sum of powers, of sine over cosine, is the angle, but for a little. -/
namespace Go.Lk
set_option linter.unusedSimpArgs false
set_option linter.unusedVariables false
set_option maxRecDepth 10000
set_option maxHeartbeats 1000000
def tanT : List Rat := [(1), (-6004799503160661 / 18014398509481984), (3602879701896397 / 18014398509481984), (-2573485501354569 / 18014398509481984), (2001599834386887 / 18014398509481984), (-3275345183542179 / 36028797018963968), (1385722962267845 / 18014398509481984), (-4803839602528529 / 72057594037927936), (4238682002231055 / 72057594037927936), (-948126237341157 / 18014398509481984), (857828500451523 / 18014398509481984), (-1566469435607129 / 36028797018963968), (5764607523034235 / 144115188075855872), (-667199944795629 / 18014398509481984), (2484744621997515 / 72057594037927936), (-1162219258676257 / 36028797018963968), (1091781727847393 / 36028797018963968), (-8235153604334621 / 288230376151711744), (486875635391405 / 18014398509481984), (-3695261232714253 / 144115188075855872), (3515004587215997 / 144115188075855872), (-1675758000882045 / 72057594037927936), (6405119470038039 / 288230376151711744), (-6132561194717271 / 288230376151711744)]
def tanW : List Nat := [4582062340878461975, 13805732290266727924, 4582687230582855930, 13806419780728628250, 4583447231574686416, 13807264411867534365, 4584391475231203080, 13808181734925275268, 4585130310279789462, 13808870457448935272, 4585925428558828667, 13809798735632998756, 4587023449039406616, 13811117867789299496, 4588638185040256542, 13812840297120469265, 4590207312512236308, 13814587147885025094, 4592670820000712476, 13817687028148020370, 4596373779694328218, 13823048456275842389, 4607182418800017408]
def tanL : List (Nat × Rat) := [(4582062340878461975, (6405119470038039 / 288230376151711744)), (13805732290266727924, (-1675758000882045 / 72057594037927936)), (4582687230582855930, (3515004587215997 / 144115188075855872)), (13806419780728628250, (-3695261232714253 / 144115188075855872)), (4583447231574686416, (486875635391405 / 18014398509481984)), (13807264411867534365, (-8235153604334621 / 288230376151711744)), (4584391475231203080, (1091781727847393 / 36028797018963968)), (13808181734925275268, (-1162219258676257 / 36028797018963968)), (4585130310279789462, (2484744621997515 / 72057594037927936)), (13808870457448935272, (-667199944795629 / 18014398509481984)), (4585925428558828667, (5764607523034235 / 144115188075855872)), (13809798735632998756, (-1566469435607129 / 36028797018963968)), (4587023449039406616, (857828500451523 / 18014398509481984)), (13811117867789299496, (-948126237341157 / 18014398509481984)), (4588638185040256542, (4238682002231055 / 72057594037927936)), (13812840297120469265, (-4803839602528529 / 72057594037927936)), (4590207312512236308, (1385722962267845 / 18014398509481984)), (13814587147885025094, (-3275345183542179 / 36028797018963968)), (4592670820000712476, (2001599834386887 / 18014398509481984)), (13817687028148020370, (-2573485501354569 / 18014398509481984)), (4596373779694328218, (3602879701896397 / 18014398509481984)), (13823048456275842389, (-6004799503160661 / 18014398509481984)), (4607182418800017408, (1))]
def tan23 : Rat := (-6132561194717271 / 288230376151711744)
theorem tan_q0 : isFin 4607182418800017408 = true ∧ qv 4607182418800017408 = (1) := ⟨by decide, (qv_const (n := 1) (d := 1) (by decide) (by decide +kernel)).trans (by decide +kernel)⟩
theorem tan_q1 : isFin 13823048456275842389 = true ∧ qv 13823048456275842389 = (-6004799503160661 / 18014398509481984) := ⟨by decide, (qv_const (n := -6004799503160661) (d := 18014398509481984) (by decide) (by decide +kernel)).trans (by decide +kernel)⟩
theorem tan_q2 : isFin 4596373779694328218 = true ∧ qv 4596373779694328218 = (3602879701896397 / 18014398509481984) := ⟨by decide, (qv_const (n := 3602879701896397) (d := 18014398509481984) (by decide) (by decide +kernel)).trans (by decide +kernel)⟩
theorem tan_q3 : isFin 13817687028148020370 = true ∧ qv 13817687028148020370 = (-2573485501354569 / 18014398509481984) := ⟨by decide, (qv_const (n := -2573485501354569) (d := 18014398509481984) (by decide) (by decide +kernel)).trans (by decide +kernel)⟩
theorem tan_q4 : isFin 4592670820000712476 = true ∧ qv 4592670820000712476 = (2001599834386887 / 18014398509481984) := ⟨by decide, (qv_const (n := 2001599834386887) (d := 18014398509481984) (by decide) (by decide +kernel)).trans (by decide +kernel)⟩
theorem tan_q5 : isFin 13814587147885025094 = true ∧ qv 13814587147885025094 = (-3275345183542179 / 36028797018963968) := ⟨by decide, (qv_const (n := -3275345183542179) (d := 36028797018963968) (by decide) (by decide +kernel)).trans (by decide +kernel)⟩
theorem tan_q6 : isFin 4590207312512236308 = true ∧ qv 4590207312512236308 = (1385722962267845 / 18014398509481984) := ⟨by decide, (qv_const (n := 1385722962267845) (d := 18014398509481984) (by decide) (by decide +kernel)).trans (by decide +kernel)⟩
theorem tan_q7 : isFin 13812840297120469265 = true ∧ qv 13812840297120469265 = (-4803839602528529 / 72057594037927936) := ⟨by decide, (qv_const (n := -4803839602528529) (d := 72057594037927936) (by decide) (by decide +kernel)).trans (by decide +kernel)⟩
theorem tan_q8 : isFin 4588638185040256542 = true ∧ qv 4588638185040256542 = (4238682002231055 / 72057594037927936) := ⟨by decide, (qv_const (n := 4238682002231055) (d := 72057594037927936) (by decide) (by decide +kernel)).trans (by decide +kernel)⟩
theorem tan_q9 : isFin 13811117867789299496 = true ∧ qv 13811117867789299496 = (-948126237341157 / 18014398509481984) := ⟨by decide, (qv_const (n := -948126237341157) (d := 18014398509481984) (by decide) (by decide +kernel)).trans (by decide +kernel)⟩
theorem tan_q10 : isFin 4587023449039406616 = true ∧ qv 4587023449039406616 = (857828500451523 / 18014398509481984) := ⟨by decide, (qv_const (n := 857828500451523) (d := 18014398509481984) (by decide) (by decide +kernel)).trans (by decide +kernel)⟩
theorem tan_q11 : isFin 13809798735632998756 = true ∧ qv 13809798735632998756 = (-1566469435607129 / 36028797018963968) := ⟨by decide, (qv_const (n := -1566469435607129) (d := 36028797018963968) (by decide) (by decide +kernel)).trans (by decide +kernel)⟩
theorem tan_q12 : isFin 4585925428558828667 = true ∧ qv 4585925428558828667 = (5764607523034235 / 144115188075855872) := ⟨by decide, (qv_const (n := 5764607523034235) (d := 144115188075855872) (by decide) (by decide +kernel)).trans (by decide +kernel)⟩
theorem tan_q13 : isFin 13808870457448935272 = true ∧ qv 13808870457448935272 = (-667199944795629 / 18014398509481984) := ⟨by decide, (qv_const (n := -667199944795629) (d := 18014398509481984) (by decide) (by decide +kernel)).trans (by decide +kernel)⟩
theorem tan_q14 : isFin 4585130310279789462 = true ∧ qv 4585130310279789462 = (2484744621997515 / 72057594037927936) := ⟨by decide, (qv_const (n := 2484744621997515) (d := 72057594037927936) (by decide) (by decide +kernel)).trans (by decide +kernel)⟩
theorem tan_q15 : isFin 13808181734925275268 = true ∧ qv 13808181734925275268 = (-1162219258676257 / 36028797018963968) := ⟨by decide, (qv_const (n := -1162219258676257) (d := 36028797018963968) (by decide) (by decide +kernel)).trans (by decide +kernel)⟩
theorem tan_q16 : isFin 4584391475231203080 = true ∧ qv 4584391475231203080 = (1091781727847393 / 36028797018963968) := ⟨by decide, (qv_const (n := 1091781727847393) (d := 36028797018963968) (by decide) (by decide +kernel)).trans (by decide +kernel)⟩
theorem tan_q17 : isFin 13807264411867534365 = true ∧ qv 13807264411867534365 = (-8235153604334621 / 288230376151711744) := ⟨by decide, (qv_const (n := -8235153604334621) (d := 288230376151711744) (by decide) (by decide +kernel)).trans (by decide +kernel)⟩
theorem tan_q18 : isFin 4583447231574686416 = true ∧ qv 4583447231574686416 = (486875635391405 / 18014398509481984) := ⟨by decide, (qv_const (n := 486875635391405) (d := 18014398509481984) (by decide) (by decide +kernel)).trans (by decide +kernel)⟩
theorem tan_q19 : isFin 13806419780728628250 = true ∧ qv 13806419780728628250 = (-3695261232714253 / 144115188075855872) := ⟨by decide, (qv_const (n := -3695261232714253) (d := 144115188075855872) (by decide) (by decide +kernel)).trans (by decide +kernel)⟩
theorem tan_q20 : isFin 4582687230582855930 = true ∧ qv 4582687230582855930 = (3515004587215997 / 144115188075855872) := ⟨by decide, (qv_const (n := 3515004587215997) (d := 144115188075855872) (by decide) (by decide +kernel)).trans (by decide +kernel)⟩
theorem tan_q21 : isFin 13805732290266727924 = true ∧ qv 13805732290266727924 = (-1675758000882045 / 72057594037927936) := ⟨by decide, (qv_const (n := -1675758000882045) (d := 72057594037927936) (by decide) (by decide +kernel)).trans (by decide +kernel)⟩
theorem tan_q22 : isFin 4582062340878461975 = true ∧ qv 4582062340878461975 = (6405119470038039 / 288230376151711744) := ⟨by decide, (qv_const (n := 6405119470038039) (d := 288230376151711744) (by decide) (by decide +kernel)).trans (by decide +kernel)⟩
theorem tan_q23 : isFin 13805161819457917015 = true ∧ qv 13805161819457917015 = (-6132561194717271 / 288230376151711744) := ⟨by decide, (qv_const (n := -6132561194717271) (d := 288230376151711744) (by decide) (by decide +kernel)).trans (by decide +kernel)⟩
theorem tanL_ok : ∀ c ∈ tanL, isFin c.1 = true ∧ qv c.1 = c.2 := by
  intro c hc
  unfold tanL at hc
  simp only [List.mem_cons, List.not_mem_nil, or_false] at hc
  rcases hc with rfl | rfl | rfl | rfl | rfl | rfl | rfl | rfl | rfl | rfl | rfl | rfl | rfl | rfl | rfl | rfl | rfl | rfl | rfl | rfl | rfl | rfl | rfl
  · exact tan_q22
  · exact tan_q21
  · exact tan_q20
  · exact tan_q19
  · exact tan_q18
  · exact tan_q17
  · exact tan_q16
  · exact tan_q15
  · exact tan_q14
  · exact tan_q13
  · exact tan_q12
  · exact tan_q11
  · exact tan_q10
  · exact tan_q9
  · exact tan_q8
  · exact tan_q7
  · exact tan_q6
  · exact tan_q5
  · exact tan_q4
  · exact tan_q3
  · exact tan_q2
  · exact tan_q1
  · exact tan_q0
/-! ### Sine and cosine -/
def sL : List Rat := 1 :: sinT
def cL : List Rat := 1 :: cosT
def sD (y : Rat) : Rat := pe sL (y * y) + y * (pe (dl sL) (y * y) * (y + y))
def cD (y : Rat) : Rat := pe (dl cL) (y * y) * (y + y)
def sF (y : Rat) : Rat := y * pe sL (y * y)
def cF (y : Rat) : Rat := pe cL (y * y)
theorem Df.sq (a b : Rat) : Df a b (fun y => y * y) (fun y => y + y) := ((Df.id a b).mul (Df.id a b)).congr (fun _ => rfl) (fun u => by grind)
theorem Df.cF (a b : Rat) : Df a b cF cD := (Df.pe (Df.sq a b) cL).congr (fun _ => rfl) (fun _ => rfl)
theorem Df.sF (a b : Rat) : Df a b sF sD := ((Df.id a b).mul (Df.pe (Df.sq a b) sL)).congr (fun _ => rfl) (fun u => by unfold sD; grind)
def wL : List Rat := padd (padd (pmul sL cL) (padd (pscale 2 (0 :: pmul (dl sL) cL)) (pscale (-2) (0 :: pmul sL (dl cL))))) [-1]
theorem wron {y : Rat} (h : y * y ≤ ZZ) (h0 : 0 ≤ y * y) : Bd (sD y * cF y - sF y * cD y - 1) (eta / 4) := by
  refine ((pe_bd h0 h wL).mono (B := eta / 4) (by decide +kernel)).of_eq ?_
  have e1 : ∀ l m : List Rat, ∀ z, pe (0 :: pmul l m) z = z * (pe l z * pe m z) := fun l m z => by
    show 0 + z * pe (pmul l m) z = _
    rw [pe_mul]; grind
  have e2 : ∀ z, pe [-1] z = -1 := fun z => by show -1 + z * 0 = -1; grind
  unfold wL sD cF sF cD
  rw [pe_add, pe_add, pe_add, pe_mul, pe_scale, pe_scale, e1, e1, e2]
  grind
theorem circle1 {y : Rat} (h : y * y ≤ ZZ) (h0 : 0 ≤ y * y) : Bd (cF y * cF y + sF y * sF y - 1) (eta / 20) := by
  refine (sq_one h0 h).of_eq ?_
  have e1 : cF y = cosR (y * y) := rfl
  have e2 : sF y = y * sinR (y * y) := rfl
  rw [e1, e2]; grind
/-! ### The arctangent -/
def tanD : List Rat := padd tanT (pscale 2 (0 :: dl tanT))
def tanE : List Rat := padd (pmul [1, 1] tanD) [-1]
def aF (q : Rat) : Rat := q * pe tanT (q * q)
theorem tanE_bd {ζ : Rat} (h0 : 0 ≤ ζ) (h : ζ ≤ 251 / 1000) : Bd ((1 + ζ) * pe tanD ζ - 1) (178 / 10 * eta) := by
  refine ((pe_bd h0 h tanE).mono (B := 178 / 10 * eta) (by decide +kernel)).of_eq ?_
  unfold tanE
  rw [pe_add, pe_mul]
  have e1 : pe [1, 1] ζ = 1 + ζ := by show 1 + ζ * (1 + ζ * 0) = _; grind
  have e2 : pe [-1] ζ = -1 := by show -1 + ζ * 0 = -1; grind
  rw [e1, e2]; grind
theorem Df.aF {a b : Rat} {f f' : Rat → Rat} (h : Df a b f f') : Df a b (fun u => aF (f u)) (fun u => f' u * Lk.pe tanD (f u * f u)) := by
  refine (h.mul (Df.pe (h.mul h) tanT)).congr (fun _ => rfl) (fun u => ?_)
  unfold tanD
  rw [pe_add, pe_scale]
  have : Lk.pe (0 :: dl tanT) (f u * f u) = f u * f u * Lk.pe (dl tanT) (f u * f u) := by show 0 + _ = _; grind
  rw [this]; grind
theorem Bd.cancel {x e G : Rat} (hG : 0 < G) (h : Bd (x * G) (e * G)) : Bd x e := by
  obtain ⟨h1, h2⟩ := h
  constructor
  · rcases Rat.le_total (a := -e) (b := x) with h | h
    · exact h
    · have h3 : -e * G ≤ x * G := by grind
      exact Rat.not_lt.1 fun h4 => by have := Rat.mul_lt_mul_of_pos_right h4 hG; grind
  · exact Rat.not_lt.1 fun h4 => by have := Rat.mul_lt_mul_of_pos_right h4 hG; grind
/-- The slope of the arctangent of P / Q. -/
theorem slope {p p' q q' iq σ κ : Rat} (hi : q * iq = 1) (hT : (p * iq) * (p * iq) ≤ 251 / 1000) (hσ : Bd σ 1) (hκ : κ ≤ 1) (hG : 0 < p * p + q * q)
    (hW : Bd (p' * q - p * q' - σ * (p * p + q * q)) (κ * (p * p + q * q))) :
    Bd ((p' * iq + p * -(q' * (iq * iq))) * pe tanD ((p * iq) * (p * iq)) - σ) (κ + 356 / 10 * eta) := by
  have h0 : 0 ≤ (p * iq) * (p * iq) := by
    rcases Rat.le_total (a := 0) (b := p * iq) with h | h
    · exact Rat.mul_nonneg h h
    · have := Rat.mul_nonneg (a := -(p * iq)) (b := -(p * iq)) (by grind) (by grind); grind
  have hE := tanE_bd h0 hT
  obtain ⟨D, hD⟩ : ∃ D, D = pe tanD ((p * iq) * (p * iq)) := ⟨_, rfl⟩
  rw [← hD] at hE ⊢
  clear hD
  refine Bd.cancel hG ?_
  have hκ0 : 0 ≤ κ * (p * p + q * q) := hW.nonneg
  have hW1 : Bd (p' * q - p * q') ((1 + κ) * (p * p + q * q)) := by
    have := (Bd.mul hσ (⟨by grind, Rat.le_refl⟩ : Bd (p * p + q * q) (p * p + q * q)))
    exact ((hW.add this).of_eq (by grind)).mono (by grind)
  have h2 : Bd (((1 + (p * iq) * (p * iq)) * D - 1) * (p' * q - p * q')) (178 / 10 * eta * ((1 + κ) * (p * p + q * q))) := hE.mul hW1
  have e : ((p' * iq + p * -(q' * (iq * iq))) * D - σ) * (p * p + q * q) = ((1 + (p * iq) * (p * iq)) * D - 1) * (p' * q - p * q') + (p' * q - p * q' - σ * (p * p + q * q)) := by
    have a1 : (p' * iq + p * -(q' * (iq * iq))) * (q * q) = (q * iq) * (p' * q - p * q' * (q * iq)) := by grind
    rw [hi] at a1
    have a2 : (1 + (p * iq) * (p * iq)) * (q * q) = q * q + p * p * ((q * iq) * (q * iq)) := by grind
    rw [hi] at a2
    have a3 : (p' * iq + p * -(q' * (iq * iq))) * (p * p + q * q) = (1 + (p * iq) * (p * iq)) * ((p' * iq + p * -(q' * (iq * iq))) * (q * q)) := by
      have : (1 + (p * iq) * (p * iq)) * ((p' * iq + p * -(q' * (iq * iq))) * (q * q)) = ((1 + (p * iq) * (p * iq)) * (q * q)) * (p' * iq + p * -(q' * (iq * iq))) := by grind
      rw [this, a2]; grind
    rw [a1] at a3
    have : ((p' * iq + p * -(q' * (iq * iq))) * D - σ) * (p * p + q * q) = (p' * iq + p * -(q' * (iq * iq))) * (p * p + q * q) * D - σ * (p * p + q * q) := by grind
    rw [this, a3]; grind
  rw [e]
  refine (h2.add hW).mono ?_
  have he : 0 ≤ eta := eta_small.1
  have hm := Rat.mul_nonneg (Rat.mul_nonneg (show 0 ≤ 178 / 10 * eta by grind) (show 0 ≤ 1 - κ by grind)) (Rat.le_of_lt hG)
  grind
end Go.Lk
end

section
/- The arctangent's sum of powers, of sine over cosine and of its complement. -/
namespace Go.Lk
set_option linter.unusedSimpArgs false
set_option linter.unusedVariables false
set_option maxRecDepth 10000
set_option maxHeartbeats 1000000
theorem sq_nn (x : Rat) : 0 ≤ x * x := by
  rcases Rat.le_total (a := 0) (b := x) with h | h
  · exact Rat.mul_nonneg h h
  · have := Rat.mul_nonneg (a := -x) (b := -x) (by grind) (by grind); grind
theorem sqr_le {x y : Rat} (h0 : 0 ≤ x) (h : x ≤ y) : x * x ≤ y * y := by
  have h1 := Rat.mul_le_mul_of_nonneg_left h h0
  have h2 := Rat.mul_le_mul_of_nonneg_right h (c := y) (by grind)
  grind
theorem Bd.sqr {x A : Rat} (h : Bd x A) : x * x ≤ A * A := (h.mul h).2
/-- A whole circle, as the program has it; an eighth. -/
def cir : Rat := 884279719003555 / 140737488355328
def YY : Rat := cir / 8
theorem YY_sq : YY * YY ≤ ZZ := by decide +kernel
theorem low_tail {ζ a : Rat} {l : List Rat} (h0 : 0 ≤ ζ) (h1 : ζ ≤ ZZ) (hl : ZZ * pe (l.map rabs) ZZ ≤ 3 / 100) (ha : a ≤ -(1 / 2)) : pe (a :: l) ζ ≤ -(47 / 100) := by
  have h2 := (Bd.mul (⟨by grind, h1⟩ : Bd ζ ZZ) (pe_bd h0 h1 l)).2
  show a + ζ * pe l ζ ≤ -(47 / 100)
  grind
theorem cosT_bd {ζ : Rat} (h0 : 0 ≤ ζ) (h : ζ ≤ ZZ) : -(527 / 1000) ≤ pe cosT ζ ∧ pe cosT ζ ≤ -(47 / 100) := by
  refine ⟨((pe_bd h0 h cosT).mono (B := 527 / 1000) (by decide +kernel)).1, ?_⟩
  exact low_tail h0 h (by decide +kernel) (by decide +kernel)
theorem sinT_bd {ζ : Rat} (h0 : 0 ≤ ζ) (h : ζ ≤ ZZ) : -(172 / 1000) ≤ pe sinT ζ ∧ pe sinT ζ ≤ 0 := by
  refine ⟨((pe_bd h0 h sinT).mono (B := 172 / 1000) (by decide +kernel)).1, neg_tail h0 h (by decide +kernel) (by decide +kernel)⟩
theorem cs_range {y : Rat} (h0 : 0 ≤ y) (h : y ≤ YY) : 0 ≤ y * y ∧ y * y ≤ ZZ ∧ 1 - (527 / 1000) * (y * y) ≤ cF y ∧ cF y ≤ 1 - (47 / 100) * (y * y) ∧ (89 / 100) * y ≤ sF y ∧ sF y ≤ y ∧ 6 / 10 ≤ cF y := by
  have h1 := sq_nn y
  have h2 := Rat.le_trans (sqr_le h0 h) YY_sq
  obtain ⟨c1, c2⟩ := cosT_bd h1 h2
  obtain ⟨s1, s2⟩ := sinT_bd h1 h2
  have ec : cF y = 1 + (y * y) * pe cosT (y * y) := rfl
  have es : sF y = y * (1 + (y * y) * pe sinT (y * y)) := rfl
  have hz : ZZ ≤ 617 / 1000 := by decide +kernel
  generalize pe cosT (y * y) = C at *
  generalize pe sinT (y * y) = S at *
  have k1 := Rat.mul_nonneg h1 (show 0 ≤ C + 527 / 1000 by grind)
  have k2 := Rat.mul_nonneg h1 (show 0 ≤ -(47 / 100) - C by grind)
  have k3 := Rat.mul_nonneg h1 (show 0 ≤ S + 172 / 1000 by grind)
  have k4 := Rat.mul_nonneg h0 (Rat.mul_nonneg h1 (show 0 ≤ -S by grind))
  have k5 := Rat.mul_nonneg h0 (show 0 ≤ (y * y) * (S + 172 / 1000) + (172 / 1000) * (617 / 1000 - y * y) by grind)
  rw [ec, es]
  refine ⟨h1, h2, by grind, by grind, by grind, by grind, by grind⟩
/-- What lies between two squares. -/
theorem quot_bd {p q iq k : Rat} (hi : q * iq = 1) (h0 : 0 ≤ iq) (hp : Bd p (k * q)) : Bd (p * iq) k := by
  obtain ⟨h1, h2⟩ := hp
  have k1 := Rat.mul_nonneg h0 (show 0 ≤ k * q - p by grind)
  have k2 := Rat.mul_nonneg h0 (show 0 ≤ k * q + p by grind)
  have e : iq * (k * q) = k * (q * iq) := by grind
  rw [hi] at e
  constructor <;> grind
theorem tan1_bd {y : Rat} (h0 : 0 ≤ y) (h : y ≤ 44 / 100) : (sF y * (cF y)⁻¹) * (sF y * (cF y)⁻¹) ≤ 251 / 1000 ∧ 0 ≤ sF y * (cF y)⁻¹ := by
  obtain ⟨r1, r2, r3, r4, r5, r6, r7⟩ := cs_range h0 (Rat.le_trans h (by decide +kernel))
  obtain ⟨i1, i2⟩ := inv_nn (m := cF y) (by grind)
  have hy := sqr_le h0 h
  have h1 : Bd (sF y) (1 / 2 * cF y) := ⟨by grind, by grind⟩
  have := (quot_bd i2 i1 h1).sqr
  exact ⟨by grind, Rat.mul_nonneg (by grind) i1⟩
theorem G_pos {y : Rat} (h0 : 0 ≤ y) (h : y ≤ YY) : Bd (cF y * cF y + sF y * sF y - 1) (eta / 20) ∧ Bd (sD y * cF y - sF y * cD y - 1) (eta / 4) ∧ eta ≤ 1 / 1000000 := by
  obtain ⟨r1, r2, _⟩ := cs_range h0 h
  exact ⟨circle1 r2 r1, wron r2 r1, eta_small.2.1⟩
/-- The first way. -/
theorem way1 {y : Rat} (h0 : 0 ≤ y) (h : y ≤ 44 / 100) : Bd (aF (sF y * (cF y)⁻¹) - y) (36 * eta * y) := by
  have hY : (44 / 100 : Rat) ≤ YY := by decide +kernel
  have d : Df 0 y (fun u => aF (sF u * (cF u)⁻¹)) (fun u => (sD u * (cF u)⁻¹ + sF u * -(cD u * ((cF u)⁻¹ * (cF u)⁻¹))) * pe tanD (sF u * (cF u)⁻¹ * (sF u * (cF u)⁻¹))) :=
    Df.aF ((Df.sF 0 y).mul (Df.inv (m := 6 / 10) (by decide +kernel) (fun u h1 h2 => (cs_range h1 (by grind)).2.2.2.2.2.2) (Df.cF 0 y)))
  have m := d.mean (σ := 1) (ε := 36 * eta) h0 (fun u h1 h2 => ?_)
  · have e0 : aF (sF 0 * (cF 0)⁻¹) = 0 := by
      have : sF 0 = 0 := by unfold sF; grind
      rw [this]; unfold aF; grind
    rw [e0] at m
    exact (m.of_eq (by grind)).mono (by grind)
  · obtain ⟨g1, g2, g3⟩ := G_pos h1 (show u ≤ YY by grind)
    obtain ⟨t1, t2⟩ := tan1_bd h1 (show u ≤ 44 / 100 by grind)
    obtain ⟨r1, r2, r3, r4, r5, r6, r7⟩ := cs_range h1 (show u ≤ YY by grind)
    obtain ⟨i1, i2⟩ := inv_nn (m := cF u) (by grind)
    have he := eta_small.1
    have hG : (9 / 10 : Rat) ≤ sF u * sF u + cF u * cF u := by have := g1.1; grind
    refine (slope (κ := 4 / 10 * eta) (σ := 1) i2 t1 ⟨by grind, by grind⟩ (by grind) (by grind) ?_).mono (by grind)
    have hk := Rat.mul_le_mul_of_nonneg_left hG (c := 4 / 10 * eta) (by grind)
    exact ((g2.sub g1).of_eq (by grind)).mono (by grind)
theorem tan2_bd {y : Rat} (h0 : 37 / 100 ≤ y) (h : y ≤ YY) : Bd ((cF y - sF y) * (cF y + sF y)⁻¹) (1 / 2) ∧ 6 / 10 ≤ cF y + sF y ∧ (cF y + sF y) * (cF y + sF y)⁻¹ = 1 := by
  obtain ⟨r1, r2, r3, r4, r5, r6, r7⟩ := cs_range (by grind) h
  obtain ⟨i1, i2⟩ := inv_nn (m := cF y + sF y) (by grind)
  have hY : YY ≤ 786 / 1000 := by decide +kernel
  have hy := sqr_le (show (0 : Rat) ≤ 37 / 100 by decide +kernel) h0
  have h1 : Bd (cF y - sF y) (1 / 2 * (cF y + sF y)) := ⟨by grind, by grind⟩
  exact ⟨quot_bd i2 i1 h1, by grind, i2⟩
theorem aF_small {q e : Rat} (h : Bd q e) (he : e ≤ 1 / 10) : Bd (aF q) (2 * e) := by
  have h1 := h.sqr
  have h0 := h.nonneg
  have h2 := sqr_le h0 he
  have k := (pe_bd (sq_nn q) (show q * q ≤ 1 / 100 by grind) tanT).mono (B := 2) (by decide +kernel)
  exact (h.mul k).mono (by grind)
theorem at_eighth : Bd ((cF YY - sF YY) * (cF YY + sF YY)⁻¹) (eta / 4) := ⟨by decide +kernel, by decide +kernel⟩
/-- The other way. -/
theorem way2 {y : Rat} (h0 : 37 / 100 ≤ y) (h : y ≤ YY) : Bd (aF ((cF y - sF y) * (cF y + sF y)⁻¹) - (YY - y)) (36 * eta * (YY - y) + eta / 2) := by
  have hn : ∀ {u : Rat}, y ≤ u → 37 / 100 ≤ u ∧ 0 ≤ u := fun h => ⟨by grind, by grind⟩
  have dc := Df.cF y YY
  have ds := Df.sF y YY
  have dm : Df y YY (fun u => cF u - sF u) (fun u => cD u - sD u) := (dc.add ((Df.const (-1)).mul ds)).congr (fun u => by grind) (fun u => by grind)
  have d : Df y YY (fun u => aF ((cF u - sF u) * (cF u + sF u)⁻¹)) (fun u => ((cD u - sD u) * (cF u + sF u)⁻¹ + (cF u - sF u) * -((cD u + sD u) * ((cF u + sF u)⁻¹ * (cF u + sF u)⁻¹))) * pe tanD ((cF u - sF u) * (cF u + sF u)⁻¹ * ((cF u - sF u) * (cF u + sF u)⁻¹))) :=
    Df.aF (dm.mul (Df.inv (m := 6 / 10) (by decide +kernel) (fun u h1 h2 => (tan2_bd (hn h1).1 h2).2.1) (dc.add ds)))
  have m := d.mean (σ := -1) (ε := 36 * eta) h (fun u h1 h2 => ?_)
  · have e0 := aF_small at_eighth (by decide +kernel)
    exact ((e0.sub m).of_eq (by grind)).mono (by grind)
  · obtain ⟨g1, g2, g3⟩ := G_pos (hn h1).2 h2
    obtain ⟨t1, t2, i2⟩ := tan2_bd (hn h1).1 h2
    have t3 := t1.sqr
    have he := eta_small.1
    have hG : (9 / 10 : Rat) ≤ sF u * sF u + cF u * cF u := by have := g1.1; grind
    refine (slope (κ := 4 / 10 * eta) (σ := -1) i2 (by grind) ⟨by grind, by grind⟩ (by grind) (by grind) ?_).mono (by grind)
    have hk := Rat.mul_le_mul_of_nonneg_left hG (c := 4 / 10 * eta) (by grind)
    exact ((g1.sub g2).add (g1.sub g2) |>.of_eq (by grind)).mono (by grind)
theorem tanD_bd {ζ : Rat} (h0 : 0 ≤ ζ) (h : ζ ≤ 251 / 1000) : Bd (pe tanD ζ) (101 / 100) := by
  have h1 := tanE_bd h0 h
  have he := eta_small.2.1
  generalize pe tanD ζ = D at *
  have h2 : Bd ((1 + ζ) * D) (101 / 100) := ⟨by have := h1.1; grind, by have := h1.2; grind⟩
  refine Bd.cancel (G := 1 + ζ) (by grind) ((h2.of_eq (by grind)).mono (by grind))
theorem aF_lip {p q : Rat} (hp : Bd p (1 / 2)) (hq : Bd q (1 / 2)) {e : Rat} (h : Bd (p - q) e) : Bd (aF p - aF q) (101 / 100 * e) := by
  have go : ∀ {p q : Rat}, Bd p (1 / 2) → Bd q (1 / 2) → p ≤ q → Bd (aF q - aF p) (101 / 100 * (q - p)) := by
    intro p q hp hq hpq
    have d := Df.aF (Df.id p q)
    have m := d.mean (σ := 0) (ε := 101 / 100) hpq (fun u h1 h2 => ?_)
    · exact m.of_eq (by grind)
    · have hu : Bd u (1 / 2) := ⟨by have := hp.1; grind, by have := hq.2; grind⟩
      have := hu.sqr
      exact (tanD_bd (sq_nn u) (by grind)).of_eq (by grind)
  rcases Rat.le_total (a := p) (b := q) with hpq | hpq
  · have := go hp hq hpq
    exact (this.neg.of_eq (by grind)).mono (by have := h.1; grind)
  · exact (go hq hp hpq).mono (by have := h.2; grind)
end Go.Lk
end

section
/- The math functions and others without branches, out of their bodies. -/
namespace Go.Lk
open Go.Proofs
set_option maxRecDepth 100000
noncomputable def L2 : Lib := ⟨Try.prog, false, t2, [(181, Try.f181), (160, Try.f160), (69, Try.f69), (55, Try.f55), (123, Try.f123), (33, Try.f33), (127, Try.f127), (128, Try.f128), (207, Try.f207), (122, Try.f122), (133, Try.f133), (134, Try.f134), (135, Try.f135), (136, Try.f136)], []⟩
theorem L2_fp : ∀ e, e ∈ L2.pures → Try.prog.funcs[e.1]? = some e.2 := fs_cons Try.func181 (fs_cons Try.func160 (fs_cons Try.func69 (fs_cons Try.func55 (fs_cons Try.func123 (fs_cons Try.func33 (fs_cons Try.func127 (fs_cons Try.func128 (fs_cons Try.func207 (fs_cons Try.func122 (fs_cons Try.func133 (fs_cons Try.func134 (fs_cons Try.func135 (fs_cons Try.func136 (fs_nil))))))))))))))
theorem L2_fh : ∀ e, e ∈ L2.heaps → Try.prog.funcs[e.1]? = some e.2.2 := gs_nil
theorem L2_p1 (gp : Nat → PureFn) (g : Nat → HeapFn) : (L2.pures.all fun e => fnOk (L2.mk' gp g) e.2) = true := by kernel_rfl
theorem L2_h1 (gp : Nat → PureFn) (g : Nat → HeapFn) : (L2.heaps.all fun e => fnOk (L2.mk' gp g) e.2.2 && (!e.2.1 || fnRo (L2.mk' gp g) e.2.2)) = true := by kernel_rfl
theorem L2_ok : L2.Ok := ⟨t2_ok, mixed, L2_fp, L2_fh, L2_p1, L2_h1⟩

noncomputable def d2 : Cfg := L2.cfg 100 4
theorem d2_ok : d2.Ok := L2_ok.cfg 100 4
end Go.Lk
end
