import Derived.Test.YtmomainjlncogaaLkLD
import Derived.Test.YtmomainjlncogaaProg
import Derived.Test.YtmomainjlncogaaLkJA
import Derived.Test.YtmomainjlncogaaLkPA
section
/- The program: functions without bodies. -/
namespace Go.Lk
open Go.Proofs
set_option linter.unusedSimpArgs false
set_option linter.unusedVariables false
set_option maxRecDepth 100000

theorem b80 : Bare Try.prog 80 Extern.MathFloatBits.float64bits := ⟨_, Try.func80, rfl, by kernel_rfl, by kernel_rfl, by kernel_rfl⟩
theorem b124 : Bare Try.prog 124 Extern.MathFloatBits.float64frombits := ⟨_, Try.func124, rfl, by kernel_rfl, by kernel_rfl, by kernel_rfl⟩
theorem b147 : Bare Try.prog 147 (Extern.MathFloor.toIntegral "math.archFloor" .down) := ⟨_, Try.func147, rfl, by kernel_rfl, by kernel_rfl, by kernel_rfl⟩
theorem b205 : Bare Try.prog 205 (Extern.MathFloor.toIntegral "math.archTrunc" .zero) := ⟨_, Try.func205, rfl, by kernel_rfl, by kernel_rfl, by kernel_rfl⟩
theorem b196 : Bare Try.prog 196 Extern.MathSqrt.sqrt := ⟨_, Try.func196, rfl, by kernel_rfl, by kernel_rfl, by kernel_rfl⟩

noncomputable def t0 (ex : Bool) : Tab := ((((Tab.empty.addP 80 (xBits ex)).addP 124 (xFrom ex)).addP 196 (xSqrt ex)).addP 147 (xFloor ex)).addP 205 (xTrunc ex)
theorem t0_ok (ex : Bool) : (t0 ex).Ok Try.prog ex := by
  have h1 := xBits_ok ex b80
  have h2 := xFrom_ok ex b124
  have h3 := xSqrt_ok ex b196
  have h4 := xFloor_ok ex b147
  have h5 := xTrunc_ok ex b205
  generalize Try.prog = P at *
  exact Tab.Ok.addP (Tab.Ok.addP (Tab.Ok.addP (Tab.Ok.addP (Tab.Ok.addP (Tab.Ok.empty P ex) h1) h2) h3) h4) h5
theorem mixed : Try.prog.follows .mixedOrders = true := by kernel_rfl
noncomputable def c0 (ex : Bool) : Cfg := (t0 ex).cfg Try.prog ex
theorem c0_ok (ex : Bool) : (c0 ex).Ok := (t0_ok ex).cfg mixed

/-! ### Words as they are -/
theorem xAbs (x : Nat) : DFn (c0 true) 100 Try.f51 [.float .f64 x] [] = some (.float .f64 ((IntKind.u64.wrap (BitVec.ofInt 64 x &&& ~~~BitVec.ofInt 64 9223372036854775808).toNat).toNat), []) := by kernel_rfl
theorem xCopysign (x y : Nat) : DFn (c0 true) 100 Try.f35 [.float .f64 x, .float .f64 y] [] = some (.float .f64 (IntKind.u64.wrap (BitVec.ofInt 64 (IntKind.u64.wrap (BitVec.ofInt 64 x &&& ~~~BitVec.ofInt 64 9223372036854775808).toNat) ||| BitVec.ofInt 64 (IntKind.u64.wrap (BitVec.ofInt 64 y &&& BitVec.ofInt 64 9223372036854775808).toNat)).toNat).toNat, []) := by kernel_rfl
theorem xSignbit (x : Nat) : DFn (c0 true) 100 Try.f34 [.float .f64 x] [] = some (.bool (decide (IntKind.i64.wrap x < 0)), []) := by kernel_rfl
end Go.Lk
end

section
/- The rows of sines, cosines and tangents. -/
namespace Go.Lk
open Go.Proofs
set_option maxRecDepth 100000
set_option linter.unusedVariables false

theorem iPure_ok {C : Cfg} (hC : C.Ok) {f : Nat} {fn : Func} (n : Nat) (hf : C.P.funcs[f]? = some fn) (hok : fnOk C fn = true) : IsPure C.P C.ex f (iPure C n fn) := by
  intro args v σ h
  simp only [fnOk, Bool.and_eq_true, Bool.not_eq_true'] at hok
  unfold iPure at h
  cases hfl : args.all plain with
  | false => rw [hfl] at h; cases h
  | true =>
    rw [hfl] at h
    simp only [cond_true] at h
    split at h
    · rename_i v' σ1 hd
      cases hp : plain v' with
      | false => rw [hp] at h; cases h
      | true => rw [hp] at h; cases h; exact CallR.frame hfl (CallR.of_DFn_nil hC hf hok.1 hok.2 hd hp) hp
    · cases h
theorem IsPure.of_sub {P : Program} {ex : Bool} {f : Nat} {s s' : PureFn} (h : IsPure P ex f s') (hs : ∀ args v, s args = some v → s' args = some v) : IsPure P ex f s :=
  fun args v σ hv => h args v σ (hs args v hv)

noncomputable def L0 : Lib := ⟨Try.prog, false, t0 false, [(207, Try.f207), (182, Try.f182), (184, Try.f184)], []⟩
theorem L0_fp : ∀ e, e ∈ L0.pures → Try.prog.funcs[e.1]? = some e.2 := fs_cons Try.func207 (fs_cons Try.func182 (fs_cons Try.func184 fs_nil))
theorem L0_fh : ∀ e, e ∈ L0.heaps → Try.prog.funcs[e.1]? = some e.2.2 := gs_nil
theorem L0_p1 (gp : Nat → PureFn) (g : Nat → HeapFn) : (L0.pures.all fun e => fnOk (L0.mk' gp g) e.2) = true := by kernel_rfl
theorem L0_h1 (gp : Nat → PureFn) (g : Nat → HeapFn) : (L0.heaps.all fun e => fnOk (L0.mk' gp g) e.2.2 && (!e.2.1 || fnRo (L0.mk' gp g) e.2.2)) = true := by kernel_rfl
theorem L0_ok : L0.Ok := ⟨t0_ok false, mixed, L0_fp, L0_fh, L0_p1, L0_h1⟩

def cosA : Value := .agg #[.float .f64 4607182418800017408, .float .f64 13826050856027422720, .float .f64 4586165620538955093, .float .f64 13787419979223755799, .float .f64 4537941361671905306, .float .f64 13732177094651715420, .float .f64 4477122120089393304, .float .f64 13666517717442657437, .float .f64 4407590220077447199, .float .f64 0, .float .f64 0, .float .f64 0, .float .f64 0, .float .f64 0, .float .f64 0, .float .f64 0, .float .f64 0, .float .f64 0, .float .f64 0, .float .f64 0, .float .f64 0, .float .f64 0, .float .f64 0, .float .f64 0]
def sinA : Value := .agg #[.float .f64 4607182418800017408, .float .f64 13818544856648471893, .float .f64 4575957461383581969, .float .f64 13774824197408792602, .float .f64 4523617214285662004, .float .f64 13716528800881525988, .float .f64 4460272573143870729, .float .f64 13648976655441704991, .float .f64 4389130328383466826, .float .f64 0, .float .f64 0, .float .f64 0, .float .f64 0, .float .f64 0, .float .f64 0, .float .f64 0, .float .f64 0, .float .f64 0, .float .f64 0, .float .f64 0, .float .f64 0, .float .f64 0, .float .f64 0, .float .f64 0]
def tanA : Value := .agg #[.float .f64 4607182418800017408, .float .f64 13823048456275842389, .float .f64 4596373779694328218, .float .f64 13817687028148020370, .float .f64 4592670820000712476, .float .f64 13814587147885025094, .float .f64 4590207312512236308, .float .f64 13812840297120469265, .float .f64 4588638185040256542, .float .f64 13811117867789299496, .float .f64 4587023449039406616, .float .f64 13809798735632998756, .float .f64 4585925428558828667, .float .f64 13808870457448935272, .float .f64 4585130310279789462, .float .f64 13808181734925275268, .float .f64 4584391475231203080, .float .f64 13807264411867534365, .float .f64 4583447231574686416, .float .f64 13806419780728628250, .float .f64 4582687230582855930, .float .f64 13805732290266727924, .float .f64 4582062340878461975, .float .f64 13805161819457917015]
def sPowers : PureFn
  | [.int .i64 (.ofNat 0)] => some cosA
  | [.int .i64 (.ofNat 1)] => some sinA
  | _ => none
def sTangents : PureFn
  | [] => some tanA
  | _ => none
theorem pow0 : iPure (L0.cfg 100 1) 100 Try.f182 [.int .i64 0] = some cosA := by kernel_rfl
theorem pow1 : iPure (L0.cfg 100 1) 100 Try.f182 [.int .i64 1] = some sinA := by kernel_rfl
theorem tan0 : iPure (L0.cfg 100 1) 100 Try.f184 [] = some tanA := by kernel_rfl
theorem f182_ok : fnOk (L0.cfg 100 1) Try.f182 = true := by kernel_rfl
theorem f184_ok : fnOk (L0.cfg 100 1) Try.f184 = true := by kernel_rfl
theorem sPowers_ok : IsPure Try.prog false 182 sPowers :=
  (iPure_ok (C := L0.cfg 100 1) (L0_ok.cfg 100 1) 100 Try.func182 f182_ok).of_sub fun args v h => by
    unfold sPowers at h
    split at h
    · cases h; exact pow0
    · cases h; exact pow1
    · cases h
theorem sTangents_ok : IsPure Try.prog false 184 sTangents :=
  (iPure_ok (C := L0.cfg 100 1) (L0_ok.cfg 100 1) 100 Try.func184 f184_ok).of_sub fun args v h => by
    unfold sTangents at h
    split at h
    · cases h; exact tan0
    · cases h
noncomputable def t1 : Tab := ((t0 false).addP 182 sPowers).addP 184 sTangents
theorem t1_ok : t1.Ok Try.prog false := Tab.Ok.addP (Tab.Ok.addP (t0_ok false) sPowers_ok) sTangents_ok
end Go.Lk
end

section
/- Whole parts; wrapping. -/
namespace Go.Lk
open Ieee (Format Datum Toward)
set_option linter.unusedSimpArgs false
set_option linter.unusedVariables false

/-- One, in units of the least place. -/
def U : Nat := 2 ^ 1074
theorem U_spec : ∃ n, n = 1074 ∧ U = 2 ^ n := ⟨1074, rfl, by unfold U; rfl⟩
theorem U_pos : 0 < U := by obtain ⟨n, _, h⟩ := U_spec; rw [h]; exact Nat.two_pow_pos n

theorem U_of : 2 ^ ((0 : Int) + 1074).toNat = U := by
  obtain ⟨n, hn, hU⟩ := U_spec
  rw [hU]
  have : ((0 : Int) + 1074).toNat = n := by clear hU; omega
  rw [this]
/-! ### Signs -/
theorem xor_lo {r : Nat} (h : r < 2 ^ 63) : r ^^^ 2 ^ 63 = 2 ^ 63 + r := by
  apply Nat.eq_of_testBit_eq
  intro i
  rw [Nat.testBit_xor, Nat.testBit_two_pow]
  rcases Nat.lt_trichotomy i 63 with hi | rfl | hi
  · rw [Nat.testBit_two_pow_add_gt hi]
    have : decide (63 = i) = false := by simp; omega
    rw [this]; simp
  · rw [Nat.testBit_two_pow_add_eq]
    have : r.testBit 63 = false := Nat.testBit_lt_two_pow h
    simp [this]
  · have h1 : r.testBit i = false := Nat.testBit_lt_two_pow (Nat.lt_of_lt_of_le h (pow_ge (by omega)))
    have h2 : (2 ^ 63 + r).testBit i = false := Nat.testBit_lt_two_pow (Nat.lt_of_lt_of_le (show 2 ^ 63 + r < 2 ^ 64 by omega) (pow_ge (by omega)))
    have : decide (63 = i) = false := by simp; omega
    rw [h1, h2, this]; rfl
theorem xor_wd {s : Bool} {r : Nat} (h : r < 2 ^ 63) : wd s r ^^^ 2 ^ 63 = wd (!s) r := by
  cases s
  · exact xor_lo h
  · show (2 ^ 63 + r) ^^^ 2 ^ 63 = r
    rw [← xor_lo h, Nat.xor_assoc, Nat.xor_self, Nat.xor_zero]
theorem fneg_wd {s : Bool} {r : Nat} (h : r ≤ 2047 * 2 ^ 52) : fneg (wd s r) = wd (!s) r := by
  unfold fneg
  have : isNaN (wd s r) = false := by rw [isNaN_iff, rg_wd (by omega)]; simp; omega
  rw [this]; exact xor_wd (by omega)
theorem Canon.fneg {x : Nat} (h : Canon x) : Canon (fneg x) := by
  rcases h.three with h' | ⟨s, rfl⟩ | rfl
  · have hr : rg x < 2047 * 2 ^ 52 := of_decide_eq_true h'
    rw [← wd_sg h.lt, fneg_wd (by omega)]
    exact ⟨wd_lt (by omega), fun h => by rw [fin_num (fin_wd hr)] at h; cases h⟩
  · rw [fneg_wd (by omega)]
    exact ⟨wd_lt (by omega), fun h => by rw [isNaN_iff, rg_wd (by omega)] at h; simp at h⟩
  · exact Canon.qnan
theorem fneg_fin {x : Nat} (hl : x < 2 ^ 64) (h : isFin x = true) : isFin (fneg x) = true ∧ fx (fneg x) = - fx x ∧ sg (fneg x) = !sg x := by
  have hr : rg x < 2047 * 2 ^ 52 := of_decide_eq_true h
  have e : fneg x = wd (!sg x) (rg x) := by
    have h1 : fneg (wd (sg x) (rg x)) = wd (!sg x) (rg x) := fneg_wd (by omega)
    rwa [wd_sg hl] at h1
  rw [e]
  exact ⟨fin_wd hr, by rw [fx_wd (by omega), sgn_not]; rfl, sg_wd (by omega)⟩

/-! ### Whole parts -/
theorem whole_eq {m : Nat} {p : Int} (hp : -1074 ≤ p) : m * 2 ^ p.toNat / 2 ^ (-p).toNat = m * 2 ^ (p + 1074).toNat / U ∧ (m * 2 ^ p.toNat % 2 ^ (-p).toNat = 0 ↔ m * 2 ^ (p + 1074).toNat % U = 0) := by
  obtain ⟨u, hu, hU⟩ := U_spec
  rw [hU]
  clear hU
  rcases Int.le_total 0 p with h | h
  · have e1 : (-p).toNat = 0 := by omega
    have e2 : (p + 1074).toNat = p.toNat + u := by omega
    rw [e1, e2, Nat.pow_add, ← Nat.mul_assoc, Nat.mul_div_cancel _ (Nat.two_pow_pos _), Nat.mul_mod_left]
    simp [Nat.mod_one]
  · have e1 : p.toNat = 0 := by omega
    generalize hk : (-p).toNat = k
    have e2 : (p + 1074).toNat = u - k := by omega
    have hk2 : k ≤ u := by omega
    have e3 : 2 ^ u = 2 ^ k * 2 ^ (u - k) := by rw [← Nat.pow_add]; congr 1; omega
    rw [e1, e2, e3, Nat.mul_div_mul_right _ _ (Nat.two_pow_pos _), Nat.mul_mod_mul_right]
    simp only [Nat.pow_zero, Nat.mul_one, true_and]
    have := Nat.two_pow_pos (u - k)
    rw [Nat.mul_eq_zero]
    constructor
    · intro h; exact .inl h
    · rintro (h | h)
      · exact h
      · omega

theorem ftrunc_fin {x : Nat} (h : isFin x = true) : ftrunc x = wd (sg x) (rung (fxr (rg x) / U * U)) := by
  obtain ⟨m, p, e, hp, hm, hlt⟩ := read_fin h
  unfold ftrunc
  rw [fin_num h, cond_false, e]
  simp only [Datum.integral, Nat.shiftLeft_eq, cut_zero]
  show dbl.nearest _ _ 0 = _
  rw [nearest_eq _ _ _ (by omega), (whole_eq hp).1, hm, U_of]
theorem ffloor_fin {x : Nat} (h : isFin x = true) : ffloor x = wd (sg x) (rung ((fxr (rg x) / U + (sg x && fxr (rg x) % U != 0).toNat) * U)) := by
  obtain ⟨m, p, e, hp, hm, hlt⟩ := read_fin h
  unfold ffloor
  rw [fin_num h, cond_false, e]
  simp only [Datum.integral, Nat.shiftLeft_eq, cut_down]
  show dbl.nearest _ _ 0 = _
  have hw := whole_eq (m := m) hp
  rw [hm] at hw
  have : (m * 2 ^ p.toNat % 2 ^ (-p).toNat != 0) = (fxr (rg x) % U != 0) := by
    rw [Bool.eq_iff_iff]; simp only [bne_iff_ne, ne_eq, hw.2]
  rw [nearest_eq _ _ _ (by omega), this, hw.1, U_of]

/-- A finite value: so few digits. -/
theorem form_whole {T c j : Nat} (e : T = c * 2 ^ j) (hc : c < 2 ^ 53) : (∃ c' j', T / U * U = c' * 2 ^ j' ∧ c' < 2 ^ 53) ∧ (∃ c' j', T % U = c' * 2 ^ j' ∧ c' < 2 ^ 53) := by
  obtain ⟨u, hu, hU⟩ := U_spec
  rw [hU]
  clear hu hU
  rcases Nat.le_total u j with h | h
  · have e1 : T = c * 2 ^ (j - u) * 2 ^ u := by rw [Nat.mul_assoc, ← Nat.pow_add, Nat.sub_add_cancel h]; exact e
    refine ⟨⟨c, j, ?_, hc⟩, ⟨0, 0, ?_, by decide⟩⟩
    · rw [e1, Nat.mul_div_cancel _ (Nat.two_pow_pos _), ← e1, e]
    · rw [e1, Nat.mul_mod_left]
  · have e1 : 2 ^ u = 2 ^ (u - j) * 2 ^ j := by rw [← Nat.pow_add]; congr 1; omega
    refine ⟨⟨c / 2 ^ (u - j), u, ?_, Nat.lt_of_le_of_lt (Nat.div_le_self ..) hc⟩, ⟨c % 2 ^ (u - j), j, ?_, Nat.lt_of_le_of_lt (Nat.mod_le ..) hc⟩⟩
    · rw [e]
      have : c * 2 ^ j / 2 ^ u = c / 2 ^ (u - j) := by rw [e1, Nat.mul_div_mul_right _ _ (Nat.two_pow_pos _)]
      rw [this]
    · rw [e, e1, Nat.mul_mod_mul_right]

theorem trunc_val {x : Nat} (h : isFin x = true) : isFin (ftrunc x) = true ∧ fx (ftrunc x) = sgn (sg x) (fxr (rg x) / U * U) ∧ sg (ftrunc x) = sg x := by
  have hr : rg x < 2047 * 2 ^ 52 := of_decide_eq_true h
  obtain ⟨c, j, e, hc⟩ := fxr_form (rg x)
  obtain ⟨h1, h2⟩ := rung_small (T := fxr (rg x) / U * U) (r := rg x) (Nat.div_mul_le_self ..) hr (form_whole e hc).1
  rw [ftrunc_fin h]
  exact ⟨fin_wd h1, by rw [fx_wd (rung_lt _), h2], sg_wd (rung_lt _)⟩

/-- What is behind the point. -/
theorem frac_val {x : Nat} (h : isFin x = true) : fsub x (ftrunc x) = (if fxr (rg x) % U = 0 then 0 else wd (sg x) (rung (fxr (rg x) % U))) ∧ rung (fxr (rg x) % U) < 2047 * 2 ^ 52 ∧ fxr (rung (fxr (rg x) % U)) = fxr (rg x) % U := by
  have hr : rg x < 2047 * 2 ^ 52 := of_decide_eq_true h
  obtain ⟨c, j, e, hc⟩ := fxr_form (rg x)
  have hs := rung_small (T := fxr (rg x) % U) (r := rg x) (Nat.mod_le ..) hr (form_whole e hc).2
  refine ⟨?_, hs.1, hs.2⟩
  obtain ⟨h1, h2, h3⟩ := trunc_val h
  rw [fsub_fin h h1, h2, h3, Bool.and_not_self]
  have hd : fx x - sgn (sg x) (fxr (rg x) / U * U) = sgn (sg x) (fxr (rg x) % U) := by
    have := Nat.div_add_mod (fxr (rg x)) U
    rw [Nat.mul_comm] at this
    unfold fx sgn
    generalize fxr (rg x) / U * U = a at *
    split <;> omega
  rw [hd]
  unfold rnd
  by_cases h0 : fxr (rg x) % U = 0
  · rw [if_pos h0, if_pos (sgn_eq_zero.2 h0)]; rfl
  · have h1 : sgn (sg x) (fxr (rg x) % U) ≠ 0 := fun h => h0 (sgn_eq_zero.1 h)
    rw [if_neg h0, if_neg h1, sgn_abs, ← sgn_neg h1]

/-! ### Wrapping -/
def fcopysign (a b : Nat) : Nat := bif isNaN a then qnan else wd (sg b) (rg a)
def fabs (a : Nat) : Nat := bif isNaN a then qnan else rg a
def half : Nat := 4602678819172646912
def mhalf : Nat := 13826050856027422720
def fone : Nat := 4607182418800017408
def wStep (r : Nat) : Nat := bif fge r half then fsub r fone else bif flt r mhalf then fadd r fone else r
/-- The program's. -/
def wrapP (x : Nat) : Nat := bif feq (fsub x x) 0 then fadd (wStep (fcopysign (fsub x (ftrunc x)) x)) 0 else qnan
/-- The document's. -/
def wrapR (x : Nat) : Nat := bif isFin x then wStep (fsub x (bif flt x 0 then fneg (ffloor (fneg x)) else ffloor x)) else qnan

theorem floor_eq_trunc {x : Nat} (hl : x < 2 ^ 64) (h : isFin x = true) : (bif flt x 0 then fneg (ffloor (fneg x)) else ffloor x) = ftrunc x := by
  have hr : rg x < 2047 * 2 ^ 52 := of_decide_eq_true h
  rw [flt_fin h fin_zero, fx_0]
  obtain ⟨n1, n2, n3⟩ := fneg_fin hl h
  have hneg : fneg x = wd (!sg x) (rg x) := by
    have h1 : fneg (wd (sg x) (rg x)) = wd (!sg x) (rg x) := fneg_wd (by omega)
    rwa [wd_sg hl] at h1
  cases hs : sg x
  · have : ¬ fx x < 0 := by unfold fx sgn; rw [hs]; simp
    rw [decide_eq_false this, cond_false, ffloor_fin h, ftrunc_fin h, hs]
    simp
  · by_cases h0 : fxr (rg x) = 0
    · have : ¬ fx x < 0 := by unfold fx; rw [h0, sgn_zero]; omega
      rw [decide_eq_false this, cond_false, ffloor_fin h, ftrunc_fin h, h0]
      simp
    · have : fx x < 0 := by unfold fx sgn; rw [hs]; simp; omega
      rw [decide_eq_true this, cond_true, ffloor_fin n1, ftrunc_fin h, n3, hs, hneg, rg_wd (by omega)]
      simp only [Bool.not_true, Bool.false_and, Bool.toNat_false, Nat.add_zero]
      exact fneg_wd (rung_le _)

theorem fin_half : isFin half = true := by decide
theorem fin_mhalf : isFin mhalf = true := by decide
theorem fin_one : isFin fone = true := by decide
theorem wStep_zero (s : Bool) : wStep (wd s 0) = wd s 0 := by cases s <;> decide +kernel
theorem fadd_wd0 (s : Bool) : fadd (wd s 0) 0 = 0 := by cases s <;> decide +kernel
theorem fx_half_pos : 0 < fx half := by decide +kernel
theorem sg_one : sg fone = false := by decide

theorem wStep_clean {d : Nat} (hc : Canon d) (hf : isFin d = true) (h0 : fx d ≠ 0) : fadd (wStep d) 0 = wStep d := by
  unfold wStep
  cases h1 : fge d half
  · cases h2 : flt d mhalf
    · refine fadd_zero_of hc fun h => h0 ?_
      simp only [cond_false] at h
      rw [h]; decide
    · refine fadd_zero_of (Canon.fadd _ _) fun h => ?_
      simp only [cond_false, cond_true] at h
      rw [fadd_fin hf fin_one] at h
      have := (rnd_neg0 h).2
      rw [sg_one, Bool.and_false] at this
      cases this
  · refine fadd_zero_of (Canon.fsub _ _) fun h => ?_
    simp only [cond_true] at h
    rw [fsub_fin hf fin_one] at h
    have := (rnd_neg0 h).2
    rw [fge_fin hf fin_half] at h1
    have h1 := of_decide_eq_true h1
    have hp := fx_half_pos
    simp only [Bool.and_eq_true] at this
    have hs := this.1
    have : fx d ≤ 0 := by unfold fx sgn; rw [hs]; simp
    omega

theorem wrap_eq {x : Nat} (h : Canon x) : wrapP x = wrapR x := by
  unfold wrapP wrapR
  rw [fin_test h]
  cases hf : isFin x
  · rfl
  simp only [cond_true]
  rw [floor_eq_trunc h.lt hf]
  obtain ⟨h1, h2, h3⟩ := frac_val hf
  rw [h1]
  split
  · rename_i h0
    have : fcopysign 0 x = wd (sg x) 0 := by unfold fcopysign; rw [show isNaN 0 = false by decide +kernel]; rfl
    rw [this, wStep_zero, fadd_wd0]
    exact (wStep_zero false).symm
  · rename_i h0
    have e : fcopysign (wd (sg x) (rung (fxr (rg x) % U))) x = wd (sg x) (rung (fxr (rg x) % U)) := by
      unfold fcopysign
      rw [fin_num (fin_wd h2), cond_false, rg_wd (by omega)]
    rw [e]
    refine wStep_clean ⟨wd_lt (by omega), fun h => ?_⟩ (fin_wd h2) ?_
    · rw [fin_num (fin_wd h2)] at h; cases h
    · rw [fx_wd (by omega), h3, Ne, sgn_eq_zero]; exact h0
theorem Canon.wStep {d : Nat} (h : Canon d) : Canon (wStep d) := by
  unfold Lk.wStep
  cases fge d half
  · cases flt d mhalf
    · exact h
    · exact Canon.fadd _ _
  · exact Canon.fsub _ _
theorem Canon.wrapP (x : Nat) : Canon (wrapP x) := by
  unfold Lk.wrapP
  cases feq (Lk.fsub x x) 0
  · exact Canon.qnan
  · exact Canon.fadd _ _
end Go.Lk
end

section
/- Abs, Copysign, Signbit: by the words. -/
namespace Go.Lk
open Go.Proofs
set_option maxRecDepth 100000
set_option linter.unusedSimpArgs false
set_option linter.unusedVariables false

theorem xAbs_call (σ : AHeap) (x : Nat) : CallR Try.prog true 51 [.float .f64 x] σ (.float .f64 ((IntKind.u64.wrap (BitVec.ofInt 64 x &&& ~~~BitVec.ofInt 64 9223372036854775808).toNat).toNat)) σ :=
  CallR.frame rfl (CallR.of_DFn_nil (C := c0 true) (c0_ok true) Try.func51 (by kernel_rfl) (by kernel_rfl) (xAbs x) rfl) rfl
theorem xCopysign_call (σ : AHeap) (x y : Nat) : CallR Try.prog true 35 [.float .f64 x, .float .f64 y] σ (.float .f64 (IntKind.u64.wrap (BitVec.ofInt 64 (IntKind.u64.wrap (BitVec.ofInt 64 x &&& ~~~BitVec.ofInt 64 9223372036854775808).toNat) ||| BitVec.ofInt 64 (IntKind.u64.wrap (BitVec.ofInt 64 y &&& BitVec.ofInt 64 9223372036854775808).toNat)).toNat).toNat) σ :=
  CallR.frame rfl (CallR.of_DFn_nil (C := c0 true) (c0_ok true) Try.func35 (by kernel_rfl) (by kernel_rfl) (xCopysign x y) rfl) rfl
theorem xSignbit_call (σ : AHeap) (x : Nat) : CallR Try.prog true 34 [.float .f64 x] σ (.bool (decide (IntKind.i64.wrap x < 0))) σ :=
  CallR.frame rfl (CallR.of_DFn_nil (C := c0 true) (c0_ok true) Try.func34 (by kernel_rfl) (by kernel_rfl) (xSignbit x) rfl) rfl

theorem u64_wrap {n : Nat} (h : n < 2 ^ 64) : IntKind.u64.wrap (n : Int) = n := by
  unfold IntKind.wrap
  simp [IntKind.min, IntKind.signed, IntKind.bits]
  omega
theorem ofInt_toNat (x : Nat) : (BitVec.ofInt 64 (x : Int)).toNat = x % 2 ^ 64 := by simp
theorem abs_bits (x : Nat) : (BitVec.ofInt 64 (x : Int) &&& ~~~BitVec.ofInt 64 9223372036854775808).toNat = x % 2 ^ 63 := by
  rw [BitVec.toNat_and, ofInt_toNat]
  have : (~~~BitVec.ofInt 64 9223372036854775808).toNat = 2 ^ 63 - 1 := by decide
  rw [this, Nat.and_two_pow_sub_one_eq_mod]
  omega
theorem sign_bits (y : Nat) : (BitVec.ofInt 64 (y : Int) &&& BitVec.ofInt 64 9223372036854775808).toNat = if sg y then 2 ^ 63 else 0 := by
  rw [BitVec.toNat_and, ofInt_toNat]
  have : (BitVec.ofInt 64 9223372036854775808).toNat = 2 ^ 63 := by decide
  rw [this]
  apply Nat.eq_of_testBit_eq
  intro i
  rw [Nat.testBit_and, Nat.testBit_two_pow, Nat.testBit_mod_two_pow]
  by_cases hi : 63 = i
  · subst hi
    have h1 : y.testBit 63 = sg y := by
      unfold sg
      rw [Nat.testBit_eq_decide_div_mod_eq, Bool.eq_iff_iff]
      simp
    rw [h1]
    cases sg y
    · simp
    · simp only [if_true, Nat.testBit_two_pow_self]; rfl
  · have h1 : decide (63 = i) = false := by simp; exact hi
    rw [h1, Bool.and_false]
    cases sg y
    · simp
    · simp only [if_true, Nat.testBit_two_pow, h1]
theorem abs_word (x : Nat) : (IntKind.u64.wrap (BitVec.ofInt 64 x &&& ~~~BitVec.ofInt 64 9223372036854775808).toNat).toNat = rg x := by
  rw [abs_bits, u64_wrap (by omega)]; rfl
theorem copysign_word (x y : Nat) : (IntKind.u64.wrap (BitVec.ofInt 64 (IntKind.u64.wrap (BitVec.ofInt 64 x &&& ~~~BitVec.ofInt 64 9223372036854775808).toNat) ||| BitVec.ofInt 64 (IntKind.u64.wrap (BitVec.ofInt 64 y &&& BitVec.ofInt 64 9223372036854775808).toNat)).toNat).toNat = wd (sg y) (rg x) := by
  have hs : (if sg y = true then 2 ^ 63 else 0) < 2 ^ 64 := by split <;> omega
  rw [abs_bits, sign_bits, u64_wrap (n := x % 2 ^ 63) (by omega), u64_wrap hs, BitVec.toNat_or, ofInt_toNat, ofInt_toNat]
  have h1 : x % 2 ^ 63 % 2 ^ 64 = x % 2 ^ 63 := by omega
  have h2 : (if sg y = true then 2 ^ 63 else 0) % 2 ^ 64 = if sg y = true then 2 ^ 63 else 0 := by split <;> omega
  rw [h1, h2]
  have key : x % 2 ^ 63 ||| (if sg y = true then 2 ^ 63 else 0) = wd (sg y) (rg x) := by
    unfold wd rg
    cases sg y
    · simp
    · simp only [if_true]
      rw [Nat.or_comm]
      have := Nat.two_pow_add_eq_or_of_lt (i := 63) (b := x % 2 ^ 63) (Nat.mod_lt _ (by decide)) 1
      rw [Nat.mul_one] at this
      exact this.symm
  rw [key, u64_wrap (wd_lt (by unfold rg; omega))]
  simp
theorem signbit_word (x : Nat) : decide (IntKind.i64.wrap x < 0) = sg x := by
  unfold sg
  rw [Bool.eq_iff_iff]
  simp only [decide_eq_true_eq, beq_iff_eq]
  have h1 : IntKind.i64.wrap (x : Int) = if (x : Int) % 18446744073709551616 ≥ 9223372036854775808 then (x : Int) % 18446744073709551616 - 18446744073709551616 else (x : Int) % 18446744073709551616 := by
    unfold IntKind.wrap
    simp [IntKind.bits, IntKind.signed]
  rw [h1]
  split <;> omega

theorem rg_rg (x : Nat) : rg (rg x) = rg x := Nat.mod_mod _ _
theorem nan_rg {x y : Nat} (h : rg x = rg y) : isNaN x = isNaN y := by rw [isNaN_iff, isNaN_iff, h]
theorem rg_can {x : Nat} (h : isNaN x = false) : rg (can x) = rg x := by rw [can_of_num h]
theorem rg_lt (x : Nat) : rg x < 2 ^ 63 := Nat.mod_lt _ (by decide)

def sAbs : PureFn
  | [.float .f64 x] => some (.float .f64 (fabs x))
  | _ => none
def sCopysign : PureFn
  | [.float .f64 x, .float .f64 y] => bif isNaN x || !isNaN y then some (.float .f64 (fcopysign x y)) else none
  | _ => none
def sSignbit : PureFn
  | [.float .f64 x] => bif isNaN x then none else some (.bool (sg x))
  | _ => none

theorem fabs_can (c : Nat) : fabs (can c) = can (rg c) := by
  unfold fabs
  rw [isNaN_can]
  cases h : isNaN c
  · rw [cond_false, can_of_num h, can_of_num (by rw [nan_rg (rg_rg c)]; exact h)]
  · rw [cond_true, can_of_nan (by rw [nan_rg (rg_rg c)]; exact h)]
theorem sAbs_ok : IsPure Try.prog false 51 sAbs := by
  intro args v σ h
  unfold sAbs at h
  split at h
  · rename_i x
    cases h
    refine CallR.of_exact rfl (fun cargs hv => ?_) rfl
    obtain ⟨y, hy, hvr⟩ := hv.one_of
    obtain ⟨c, rfl, rfl⟩ := hvr.float_of
    subst hy
    refine ⟨_, xAbs_call [] c, rfl, ?_⟩
    rw [abs_word]
    have := VR.float (ex := false) (μ := []) .f64 (rg c)
    rw [show cn false (rg c) = can (rg c) from rfl, ← fabs_can] at this
    exact this
  · cases h
theorem fcopysign_can {c d : Nat} (h : isNaN c = true ∨ isNaN d = false) : fcopysign (can c) (can d) = can (wd (sg d) (rg c)) := by
  unfold fcopysign
  rw [isNaN_can]
  have hw : isNaN (wd (sg d) (rg c)) = isNaN c := nan_rg (rg_wd (rg_lt _))
  cases hc : isNaN c
  · rw [hc] at hw h
    rw [cond_false, can_of_num hc, can_of_num hw]
    rcases h with h | h
    · cases h
    · rw [can_of_num h]
  · rw [hc] at hw; rw [cond_true, can_of_nan hw]
theorem sCopysign_ok : IsPure Try.prog false 35 sCopysign := by
  intro args v σ h
  unfold sCopysign at h
  split at h
  · rename_i x y
    cases hb : (isNaN x || !isNaN y)
    · rw [hb] at h; cases h
    rw [hb] at h
    cases h
    refine CallR.of_exact rfl (fun cargs hv => ?_) rfl
    obtain ⟨c', hc', hvr⟩ := hv.2 0 _ rfl
    obtain ⟨d', hd', hvr'⟩ := hv.2 1 _ rfl
    obtain ⟨c, rfl, rfl⟩ := hvr.float_of
    obtain ⟨d, rfl, rfl⟩ := hvr'.float_of
    have hcs : cargs = [.float .f64 c, .float .f64 d] := by
      have hl := hv.1
      match cargs, hl with
      | [a, b], _ => simp at hc' hd'; rw [hc', hd']
    subst hcs
    refine ⟨_, xCopysign_call [] c d, rfl, ?_⟩
    rw [copysign_word]
    have := VR.float (ex := false) (μ := []) .f64 (wd (sg d) (rg c))
    rw [show cn false (wd (sg d) (rg c)) = can (wd (sg d) (rg c)) from rfl, ← fcopysign_can] at this
    · exact this
    · rw [show cn false c = can c from rfl, show cn false d = can d from rfl, isNaN_can, isNaN_can] at hb
      cases h1 : isNaN c
      · right; rw [h1] at hb; simpa using hb
      · left; rfl
  · cases h
theorem sSignbit_ok : IsPure Try.prog false 34 sSignbit := by
  intro args v σ h
  unfold sSignbit at h
  split at h
  · rename_i x
    cases hb : isNaN x
    · rw [hb] at h
      cases h
      refine CallR.of_exact rfl (fun cargs hv => ?_) rfl
      obtain ⟨y, hy, hvr⟩ := hv.one_of
      obtain ⟨c, rfl, rfl⟩ := hvr.float_of
      subst hy
      refine ⟨_, xSignbit_call [] c, rfl, ?_⟩
      rw [signbit_word]
      rw [show cn false c = can c from rfl, isNaN_can] at hb
      rw [show cn false c = can c from rfl, can_of_num hb]
      exact VR.bool _
    · rw [hb] at h; cases h
  · cases h

noncomputable def t2 : Tab := ((t1.addP 51 sAbs).addP 35 sCopysign).addP 34 sSignbit
theorem t2_ok : t2.Ok Try.prog false := Tab.Ok.addP (Tab.Ok.addP (Tab.Ok.addP t1_ok sAbs_ok) sCopysign_ok) sSignbit_ok
noncomputable def c2 : Cfg := t2.cfg Try.prog false
theorem c2_ok : c2.Ok := t2_ok.cfg mixed
end Go.Lk
end

section
/- The math functions and others without branches, out of their bodies. -/
namespace Go.Lk
open Go.Proofs
set_option maxRecDepth 100000
noncomputable def L2 : Lib := ⟨Try.prog, false, t2, [(181, Try.f181), (160, Try.f160), (69, Try.f69), (55, Try.f55), (123, Try.f123), (33, Try.f33), (127, Try.f127), (128, Try.f128), (207, Try.f207), (43, Try.f43), (122, Try.f122), (133, Try.f133), (134, Try.f134), (135, Try.f135), (136, Try.f136), (137, Try.f137), (142, Try.f142), (109, Try.f109)], []⟩
theorem L2_fp : ∀ e, e ∈ L2.pures → Try.prog.funcs[e.1]? = some e.2 := fs_cons Try.func181 (fs_cons Try.func160 (fs_cons Try.func69 (fs_cons Try.func55 (fs_cons Try.func123 (fs_cons Try.func33 (fs_cons Try.func127 (fs_cons Try.func128 (fs_cons Try.func207 (fs_cons Try.func43 (fs_cons Try.func122 (fs_cons Try.func133 (fs_cons Try.func134 (fs_cons Try.func135 (fs_cons Try.func136 (fs_cons Try.func137 (fs_cons Try.func142 (fs_cons Try.func109 (fs_nil))))))))))))))))))
theorem L2_fh : ∀ e, e ∈ L2.heaps → Try.prog.funcs[e.1]? = some e.2.2 := gs_nil
theorem L2_p1 (gp : Nat → PureFn) (g : Nat → HeapFn) : (L2.pures.all fun e => fnOk (L2.mk' gp g) e.2) = true := by kernel_rfl
theorem L2_h1 (gp : Nat → PureFn) (g : Nat → HeapFn) : (L2.heaps.all fun e => fnOk (L2.mk' gp g) e.2.2 && (!e.2.1 || fnRo (L2.mk' gp g) e.2.2)) = true := by kernel_rfl
theorem L2_ok : L2.Ok := ⟨t2_ok, mixed, L2_fp, L2_fh, L2_p1, L2_h1⟩

noncomputable def d2 : Cfg := L2.cfg 100 4
theorem d2_ok : d2.Ok := L2_ok.cfg 100 4
end Go.Lk
end
