/- The program: functions without bodies. -/
import Derived.Test.YtmomainjlncogaaLkLD
import Derived.Test.YtmomainjlncogaaProg
namespace Go.Lk
open Go.Proofs
set_option linter.unusedSimpArgs false
set_option linter.unusedVariables false
set_option maxRecDepth 100000

theorem b80 : Bare Try.prog 80 Extern.MathFloatBits.float64bits := ⟨_, Try.func80, rfl, by kernel_rfl, by kernel_rfl, by kernel_rfl⟩
theorem b124 : Bare Try.prog 124 Extern.MathFloatBits.float64frombits := ⟨_, Try.func124, rfl, by kernel_rfl, by kernel_rfl, by kernel_rfl⟩
theorem b147 : Bare Try.prog 147 (Extern.MathFloor.toIntegral "math.archFloor" .down) := ⟨_, Try.func147, rfl, by kernel_rfl, by kernel_rfl, by kernel_rfl⟩
theorem b205 : Bare Try.prog 205 (Extern.MathFloor.toIntegral "math.archTrunc" .zero) := ⟨_, Try.func205, rfl, by kernel_rfl, by kernel_rfl, by kernel_rfl⟩
theorem b196 : Bare Try.prog 196 Extern.MathSqrt.sqrt := ⟨_, Try.func196, rfl, by kernel_rfl, by kernel_rfl, by kernel_rfl⟩

noncomputable def t0 (ex : Bool) : Tab := ((((Tab.empty.addP 80 (xBits ex)).addP 124 (xFrom ex)).addP 196 (xSqrt ex)).addP 147 (xFloor ex)).addP 205 (xTrunc ex)
theorem t0_ok (ex : Bool) : (t0 ex).Ok Try.prog ex := by
  have h1 := xBits_ok ex b80
  have h2 := xFrom_ok ex b124
  have h3 := xSqrt_ok ex b196
  have h4 := xFloor_ok ex b147
  have h5 := xTrunc_ok ex b205
  generalize Try.prog = P at *
  exact Tab.Ok.addP (Tab.Ok.addP (Tab.Ok.addP (Tab.Ok.addP (Tab.Ok.addP (Tab.Ok.empty P ex) h1) h2) h3) h4) h5
theorem mixed : Try.prog.follows .mixedOrders = true := by kernel_rfl
noncomputable def c0 (ex : Bool) : Cfg := (t0 ex).cfg Try.prog ex
theorem c0_ok (ex : Bool) : (c0 ex).Ok := (t0_ok ex).cfg mixed

/-! ### Words as they are -/
theorem xAbs (x : Nat) : DFn (c0 true) 100 Try.f51 [.float .f64 x] [] = some (.float .f64 ((IntKind.u64.wrap (BitVec.ofInt 64 x &&& ~~~BitVec.ofInt 64 9223372036854775808).toNat).toNat), []) := by kernel_rfl
theorem xCopysign (x y : Nat) : DFn (c0 true) 100 Try.f35 [.float .f64 x, .float .f64 y] [] = some (.float .f64 (IntKind.u64.wrap (BitVec.ofInt 64 (IntKind.u64.wrap (BitVec.ofInt 64 x &&& ~~~BitVec.ofInt 64 9223372036854775808).toNat) ||| BitVec.ofInt 64 (IntKind.u64.wrap (BitVec.ofInt 64 y &&& BitVec.ofInt 64 9223372036854775808).toNat)).toNat).toNat, []) := by kernel_rfl
theorem xSignbit (x : Nat) : DFn (c0 true) 100 Try.f34 [.float .f64 x] [] = some (.bool (decide (IntKind.i64.wrap x < 0)), []) := by kernel_rfl
end Go.Lk
