/- Abs, Copysign, Signbit: by the words. -/
import Derived.Test.YtmomainjlncogaaLkPA
import Derived.Test.YtmomainjlncogaaLkM2
import Derived.Test.YtmomainjlncogaaLkFW
namespace Go.Lk
open Go.Proofs
set_option maxRecDepth 100000
set_option linter.unusedSimpArgs false
set_option linter.unusedVariables false

theorem xAbs_call (σ : AHeap) (x : Nat) : CallR Try.prog true 51 [.float .f64 x] σ (.float .f64 ((IntKind.u64.wrap (BitVec.ofInt 64 x &&& ~~~BitVec.ofInt 64 9223372036854775808).toNat).toNat)) σ :=
  CallR.frame rfl (CallR.of_DFn_nil (C := c0 true) (c0_ok true) Try.func51 (by kernel_rfl) (by kernel_rfl) (xAbs x) rfl) rfl
theorem xCopysign_call (σ : AHeap) (x y : Nat) : CallR Try.prog true 35 [.float .f64 x, .float .f64 y] σ (.float .f64 (IntKind.u64.wrap (BitVec.ofInt 64 (IntKind.u64.wrap (BitVec.ofInt 64 x &&& ~~~BitVec.ofInt 64 9223372036854775808).toNat) ||| BitVec.ofInt 64 (IntKind.u64.wrap (BitVec.ofInt 64 y &&& BitVec.ofInt 64 9223372036854775808).toNat)).toNat).toNat) σ :=
  CallR.frame rfl (CallR.of_DFn_nil (C := c0 true) (c0_ok true) Try.func35 (by kernel_rfl) (by kernel_rfl) (xCopysign x y) rfl) rfl
theorem xSignbit_call (σ : AHeap) (x : Nat) : CallR Try.prog true 34 [.float .f64 x] σ (.bool (decide (IntKind.i64.wrap x < 0))) σ :=
  CallR.frame rfl (CallR.of_DFn_nil (C := c0 true) (c0_ok true) Try.func34 (by kernel_rfl) (by kernel_rfl) (xSignbit x) rfl) rfl

theorem u64_wrap {n : Nat} (h : n < 2 ^ 64) : IntKind.u64.wrap (n : Int) = n := by
  unfold IntKind.wrap
  simp [IntKind.min, IntKind.signed, IntKind.bits]
  omega
theorem ofInt_toNat (x : Nat) : (BitVec.ofInt 64 (x : Int)).toNat = x % 2 ^ 64 := by simp
theorem abs_bits (x : Nat) : (BitVec.ofInt 64 (x : Int) &&& ~~~BitVec.ofInt 64 9223372036854775808).toNat = x % 2 ^ 63 := by
  rw [BitVec.toNat_and, ofInt_toNat]
  have : (~~~BitVec.ofInt 64 9223372036854775808).toNat = 2 ^ 63 - 1 := by decide
  rw [this, Nat.and_two_pow_sub_one_eq_mod]
  omega
theorem sign_bits (y : Nat) : (BitVec.ofInt 64 (y : Int) &&& BitVec.ofInt 64 9223372036854775808).toNat = if sg y then 2 ^ 63 else 0 := by
  rw [BitVec.toNat_and, ofInt_toNat]
  have : (BitVec.ofInt 64 9223372036854775808).toNat = 2 ^ 63 := by decide
  rw [this]
  apply Nat.eq_of_testBit_eq
  intro i
  rw [Nat.testBit_and, Nat.testBit_two_pow, Nat.testBit_mod_two_pow]
  by_cases hi : 63 = i
  · subst hi
    have h1 : y.testBit 63 = sg y := by
      unfold sg
      rw [Nat.testBit_eq_decide_div_mod_eq, Bool.eq_iff_iff]
      simp
    rw [h1]
    cases sg y
    · simp
    · simp only [if_true, Nat.testBit_two_pow_self]; rfl
  · have h1 : decide (63 = i) = false := by simp; exact hi
    rw [h1, Bool.and_false]
    cases sg y
    · simp
    · simp only [if_true, Nat.testBit_two_pow, h1]
theorem abs_word (x : Nat) : (IntKind.u64.wrap (BitVec.ofInt 64 x &&& ~~~BitVec.ofInt 64 9223372036854775808).toNat).toNat = rg x := by
  rw [abs_bits, u64_wrap (by omega)]; rfl
theorem copysign_word (x y : Nat) : (IntKind.u64.wrap (BitVec.ofInt 64 (IntKind.u64.wrap (BitVec.ofInt 64 x &&& ~~~BitVec.ofInt 64 9223372036854775808).toNat) ||| BitVec.ofInt 64 (IntKind.u64.wrap (BitVec.ofInt 64 y &&& BitVec.ofInt 64 9223372036854775808).toNat)).toNat).toNat = wd (sg y) (rg x) := by
  have hs : (if sg y = true then 2 ^ 63 else 0) < 2 ^ 64 := by split <;> omega
  rw [abs_bits, sign_bits, u64_wrap (n := x % 2 ^ 63) (by omega), u64_wrap hs, BitVec.toNat_or, ofInt_toNat, ofInt_toNat]
  have h1 : x % 2 ^ 63 % 2 ^ 64 = x % 2 ^ 63 := by omega
  have h2 : (if sg y = true then 2 ^ 63 else 0) % 2 ^ 64 = if sg y = true then 2 ^ 63 else 0 := by split <;> omega
  rw [h1, h2]
  have key : x % 2 ^ 63 ||| (if sg y = true then 2 ^ 63 else 0) = wd (sg y) (rg x) := by
    unfold wd rg
    cases sg y
    · simp
    · simp only [if_true]
      rw [Nat.or_comm]
      have := Nat.two_pow_add_eq_or_of_lt (i := 63) (b := x % 2 ^ 63) (Nat.mod_lt _ (by decide)) 1
      rw [Nat.mul_one] at this
      exact this.symm
  rw [key, u64_wrap (wd_lt (by unfold rg; omega))]
  simp
theorem signbit_word (x : Nat) : decide (IntKind.i64.wrap x < 0) = sg x := by
  unfold sg
  rw [Bool.eq_iff_iff]
  simp only [decide_eq_true_eq, beq_iff_eq]
  have h1 : IntKind.i64.wrap (x : Int) = if (x : Int) % 18446744073709551616 ≥ 9223372036854775808 then (x : Int) % 18446744073709551616 - 18446744073709551616 else (x : Int) % 18446744073709551616 := by
    unfold IntKind.wrap
    simp [IntKind.bits, IntKind.signed]
  rw [h1]
  split <;> omega

theorem rg_rg (x : Nat) : rg (rg x) = rg x := Nat.mod_mod _ _
theorem nan_rg {x y : Nat} (h : rg x = rg y) : isNaN x = isNaN y := by rw [isNaN_iff, isNaN_iff, h]
theorem rg_can {x : Nat} (h : isNaN x = false) : rg (can x) = rg x := by rw [can_of_num h]
theorem rg_lt (x : Nat) : rg x < 2 ^ 63 := Nat.mod_lt _ (by decide)

def sAbs : PureFn
  | [.float .f64 x] => some (.float .f64 (fabs x))
  | _ => none
def sCopysign : PureFn
  | [.float .f64 x, .float .f64 y] => bif isNaN x || !isNaN y then some (.float .f64 (fcopysign x y)) else none
  | _ => none
def sSignbit : PureFn
  | [.float .f64 x] => bif isNaN x then none else some (.bool (sg x))
  | _ => none

theorem fabs_can (c : Nat) : fabs (can c) = can (rg c) := by
  unfold fabs
  rw [isNaN_can]
  cases h : isNaN c
  · rw [cond_false, can_of_num h, can_of_num (by rw [nan_rg (rg_rg c)]; exact h)]
  · rw [cond_true, can_of_nan (by rw [nan_rg (rg_rg c)]; exact h)]
theorem sAbs_ok : IsPure Try.prog false 51 sAbs := by
  intro args v σ h
  unfold sAbs at h
  split at h
  · rename_i x
    cases h
    refine CallR.of_exact rfl (fun cargs hv => ?_) rfl
    obtain ⟨y, hy, hvr⟩ := hv.one_of
    obtain ⟨c, rfl, rfl⟩ := hvr.float_of
    subst hy
    refine ⟨_, xAbs_call [] c, rfl, ?_⟩
    rw [abs_word]
    have := VR.float (ex := false) (μ := []) .f64 (rg c)
    rw [show cn false (rg c) = can (rg c) from rfl, ← fabs_can] at this
    exact this
  · cases h
theorem fcopysign_can {c d : Nat} (h : isNaN c = true ∨ isNaN d = false) : fcopysign (can c) (can d) = can (wd (sg d) (rg c)) := by
  unfold fcopysign
  rw [isNaN_can]
  have hw : isNaN (wd (sg d) (rg c)) = isNaN c := nan_rg (rg_wd (rg_lt _))
  cases hc : isNaN c
  · rw [hc] at hw h
    rw [cond_false, can_of_num hc, can_of_num hw]
    rcases h with h | h
    · cases h
    · rw [can_of_num h]
  · rw [hc] at hw; rw [cond_true, can_of_nan hw]
theorem sCopysign_ok : IsPure Try.prog false 35 sCopysign := by
  intro args v σ h
  unfold sCopysign at h
  split at h
  · rename_i x y
    cases hb : (isNaN x || !isNaN y)
    · rw [hb] at h; cases h
    rw [hb] at h
    cases h
    refine CallR.of_exact rfl (fun cargs hv => ?_) rfl
    obtain ⟨c', hc', hvr⟩ := hv.2 0 _ rfl
    obtain ⟨d', hd', hvr'⟩ := hv.2 1 _ rfl
    obtain ⟨c, rfl, rfl⟩ := hvr.float_of
    obtain ⟨d, rfl, rfl⟩ := hvr'.float_of
    have hcs : cargs = [.float .f64 c, .float .f64 d] := by
      have hl := hv.1
      match cargs, hl with
      | [a, b], _ => simp at hc' hd'; rw [hc', hd']
    subst hcs
    refine ⟨_, xCopysign_call [] c d, rfl, ?_⟩
    rw [copysign_word]
    have := VR.float (ex := false) (μ := []) .f64 (wd (sg d) (rg c))
    rw [show cn false (wd (sg d) (rg c)) = can (wd (sg d) (rg c)) from rfl, ← fcopysign_can] at this
    · exact this
    · rw [show cn false c = can c from rfl, show cn false d = can d from rfl, isNaN_can, isNaN_can] at hb
      cases h1 : isNaN c
      · right; rw [h1] at hb; simpa using hb
      · left; rfl
  · cases h
theorem sSignbit_ok : IsPure Try.prog false 34 sSignbit := by
  intro args v σ h
  unfold sSignbit at h
  split at h
  · rename_i x
    cases hb : isNaN x
    · rw [hb] at h
      cases h
      refine CallR.of_exact rfl (fun cargs hv => ?_) rfl
      obtain ⟨y, hy, hvr⟩ := hv.one_of
      obtain ⟨c, rfl, rfl⟩ := hvr.float_of
      subst hy
      refine ⟨_, xSignbit_call [] c, rfl, ?_⟩
      rw [signbit_word]
      rw [show cn false c = can c from rfl, isNaN_can] at hb
      rw [show cn false c = can c from rfl, can_of_num hb]
      exact VR.bool _
    · rw [hb] at h; cases h
  · cases h

noncomputable def t2 : Tab := ((t1.addP 51 sAbs).addP 35 sCopysign).addP 34 sSignbit
theorem t2_ok : t2.Ok Try.prog false := Tab.Ok.addP (Tab.Ok.addP (Tab.Ok.addP t1_ok sAbs_ok) sCopysign_ok) sSignbit_ok
noncomputable def c2 : Cfg := t2.cfg Try.prog false
theorem c2_ok : c2.Ok := t2_ok.cfg mixed
end Go.Lk
