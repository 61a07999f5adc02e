/- The operations that yield a value of their operands alone. -/
import Derived.Test.YtmomainjlncogaaLkH
import Derived.Laws.Entries
import Derived.Laws.FloatArith
namespace Go.Lk

def ok1 : Value → Bool
  | .bool _ | .int .. | .string _ | .pointer none | .slice none _ _ | .nilFunc | .nilIface | .map none => true
  | .float _ x => !isNaN x
  | .complex _ x y => !isNaN x && !isNaN y
  | _ => false
def cOk : Value → Bool
  | .agg cs => cs.toList.all ok1
  | v => ok1 v

section
variable {ex : Bool} {μ : List (Option Ent)}

theorem cn_num {x : Nat} (h : isNaN x = false) : cn ex x = x := by cases ex <;> simp [cn, can_of_num h]
theorem VR.ok1 : ∀ {v : Value}, Lk.ok1 v = true → VR ex μ v v
  | .bool _, _ => .bool _
  | .int .., _ => .int ..
  | .string _, _ => .string _
  | .pointer none, _ => .pnil
  | .slice none _ _, _ => .snil ..
  | .nilFunc, _ => .nilFunc
  | .nilIface, _ => .nilIface
  | .map none, _ => .mapNil
  | .float k x, h => by
    have := VR.float (ex := ex) (μ := μ) k x
    rwa [cn_num (by simpa [Lk.ok1] using h)] at this
  | .complex k x y, h => by
    have h' : isNaN x = false ∧ isNaN y = false := by simpa [Lk.ok1] using h
    have := VR.complex (ex := ex) (μ := μ) k x y
    rwa [cn_num h'.1, cn_num h'.2] at this
theorem VRs.ok : ∀ {vs : List Value}, vs.all Lk.ok1 = true → VRs ex μ vs vs
  | [], _ => .nil
  | v :: vs, h => by
    simp only [List.all_cons, Bool.and_eq_true] at h
    exact .cons (VR.ok1 h.1) (VRs.ok h.2)
theorem VR.cOk {v : Value} (h : Lk.cOk v = true) : VR ex μ v v := by
  cases v <;> first | exact VR.ok1 h | exact VRs.toAgg (VRs.ok h)

/-- A slot of which nothing is known. -/
def isU : Value → Bool
  | .tuple cs => cs.size == 0
  | _ => false

/-- Frames. -/
def FrR (ex : Bool) (μ : List (Option Ent)) (fr : List Value) (tmps : Array Value) : Prop :=
  fr.length = tmps.size ∧ ∀ (i : Nat) (a : Value), fr[i]? = some a → ∃ c, tmps[i]? = some c ∧ (isU a = true ∨ VR ex μ a c)

def aev (fr : List Value) : Operand → Option Value
  | .tmp t => bif isU (fr.getD t undef) then none else some (fr.getD t undef)
  | .const v => bif cOk v then some v else none
  | .func f => some (.func (.func f) #[] #[])
  | .global _ => none

theorem FrR.getD {fr : List Value} {tmps : Array Value} (h : FrR ex μ fr tmps) (t : Nat) : isU (fr.getD t undef) = true ∨ VR ex μ (fr.getD t undef) (tmps.getD t undef) := by
  rw [List.getD_eq_getElem?_getD]
  cases hf : fr[t]? with
  | none => exact .inl rfl
  | some v =>
    obtain ⟨y, hy, hv⟩ := h.2 t v hf
    rw [Array.getD_eq_getD_getElem?, hy]
    exact hv

theorem aev_sound {fr : List Value} {a : Act} (h : FrR ex μ fr a.tmps) {x : Operand} {v : Value} (hx : aev fr x = some v) : VR ex μ v (a.eval x) := by
  cases x with
  | tmp t =>
    simp only [aev] at hx
    cases hu : isU (fr.getD t undef) <;> rw [hu] at hx <;> cases hx
    rcases h.getD t with h' | h'
    · rw [hu] at h'; cases h'
    · exact h'
  | const c =>
    simp only [aev] at hx
    cases hc : cOk c <;> rw [hc] at hx <;> cases hx
    exact VR.cOk hc
  | func f => cases hx; exact .func _ rfl rfl (fun i h => by simp at h) (fun i h => by simp at h)
  | global g => cases hx

/-- Only draws are made, and a value comes that is as the abstract one says. -/
def okv (P : Program) (ex : Bool) (μ : List (Option Ent)) (s : Sem Value) (v : Value) : Prop :=
  ∀ w : World, ∃ (n : Nat) (v' : Value), s.run P w = .ok v' { w with drawn := w.drawn + n } ∧ VR ex μ v v'

variable {P : Program}
theorem okv.of {s : Sem Value} {v v' : Value} (h : ∀ w, s.run P w = .ok v' w) (hv : VR ex μ v v') : okv P ex μ s v :=
  fun w => ⟨0, v', h w, hv⟩
theorem okv.pure {v v' : Value} (hv : VR ex μ v v') : okv P ex μ (pure v') v := .of (fun _ => rfl) hv

/-! ### Floats -/
def fgt (x y : Nat) : Bool := dbl.order x y == some .gt
def fge (x y : Nat) : Bool := dbl.order x y == some .gt || dbl.order x y == some .eq

def fbin (ex : Bool) (op : BinOp) (x y : Nat) : Option Value :=
  match op with
  | .add => bif ex then none else some (.float .f64 (fadd x y))
  | .sub => bif ex then none else some (.float .f64 (fsub x y))
  | .mul => bif ex then none else some (.float .f64 (fmul x y))
  | .quo => bif ex then none else some (.float .f64 (fdiv x y))
  | .eql => some (.bool (feq x y))
  | .neq => some (.bool (!feq x y))
  | .lss => some (.bool (flt x y))
  | .leq => some (.bool (fle x y))
  | .gtr => some (.bool (fgt x y))
  | .geq => some (.bool (fge x y))
  | _ => none

theorem order_cn (x y : Nat) : dbl.order (cn ex x) (cn ex y) = dbl.order x y := by
  cases ex
  · exact order_can x y
  · rfl

def fin (x y : Nat) : Option Nat → Sem Value
  | some r => pure (Value.float .f64 r)
  | none => do pure (Value.float .f64 (← choose (.nanBits .f64 x y)))

/-- Where the bits are drawn it is a NaN; else it is what the format says. -/
theorem run_fin {x y : Nat} {o : Option Nat} (hn : ∀ r, o = some r → isNaN r = false) (w : World) :
    ∃ (n r : Nat), (fin x y o).run P w = .ok (.float .f64 r) { w with drawn := w.drawn + n } ∧ can r = orN o := by
  cases o with
  | some r => exact ⟨0, r, by simp [fin], by rw [can_of_num (hn r rfl)]; rfl⟩
  | none =>
    refine ⟨1, Question.cut (.nanBits .f64 x y) (w.tape w.drawn (.nanBits .f64 x y)), by simp [fin, Question.forced], ?_⟩
    exact can_of_nan (isNaN_drawn _)

theorem VR.float_of {k : FloatKind} {x : Nat} {v : Value} (h : VR ex μ (.float k x) v) : ∃ x', v = .float k x' ∧ x = cn ex x' := by
  cases h; exact ⟨_, rfl, rfl⟩
theorem VR.complex_of {k : FloatKind} {x y : Nat} {v : Value} (h : VR ex μ (.complex k x y) v) : ∃ x' y', v = .complex k x' y' ∧ x = cn ex x' ∧ y = cn ex y' := by
  cases h; exact ⟨_, _, rfl, rfl, rfl⟩
theorem VR.int_of {k : IntKind} {n : Int} {v : Value} (h : VR ex μ (.int k n) v) : v = .int k n := by cases h; rfl
theorem VR.bool_of {b : Bool} {v : Value} (h : VR ex μ (.bool b) v) : v = .bool b := by cases h; rfl
theorem VR.string_of {s : ByteArray} {v : Value} (h : VR ex μ (.string s) v) : v = .string s := by cases h; rfl

theorem farith_sound {op : BinOp} {x y : Nat} {f : Nat → Nat → Option Nat} (hop : Op.floatArith op .f64 x y = fin x y (f x y))
    (hf : ∀ x y, f (can x) (can y) = f x y) (hn : ∀ x y r, f x y = some r → isNaN r = false) :
    okv P false μ (Op.floatArith op .f64 x y) (.float .f64 (orN (f (cn false x) (cn false y)))) := by
  intro w
  rw [hop]
  obtain ⟨n, r, h1, h2⟩ := run_fin (P := P) (x := x) (y := y) (hn x y) w
  refine ⟨n, _, h1, ?_⟩
  have : orN (f (cn false x) (cn false y)) = cn false r := by
    show orN (f (can x) (can y)) = can r
    rw [hf, h2]
  rw [this]
  exact .float _ _

theorem fbin_sound {op : BinOp} {x y : Nat} {v : Value} (h : fbin ex op (cn ex x) (cn ex y) = some v) (t : TypeId) :
    okv P ex μ (binOp op t (.float .f64 x) (.float .f64 y)) v := by
  cases op <;> simp only [fbin] at h <;> (try (cases h; done))
  case add => cases ex <;> cases h; exact farith_sound (op := .add) (f := dbl.add) rfl add_can (fun _ _ _ => add_num)
  case sub => cases ex <;> cases h; exact farith_sound (op := .sub) (f := dbl.sub) rfl sub_can (fun _ _ _ => sub_num)
  case mul => cases ex <;> cases h; exact farith_sound (op := .mul) (f := dbl.mul) rfl mul_can (fun _ _ _ => mul_num)
  case quo => cases ex <;> cases h; exact farith_sound (op := .quo) (f := dbl.div) rfl div_can (fun _ _ _ => div_num)
  all_goals
    cases h
    simp only [feq, flt, fle, fgt, fge, order_cn]
    exact .of (fun _ => rfl) (.bool _)

/-! ### Unary -/
theorem isNaN_xor (x : Nat) : isNaN (x ^^^ 2 ^ 63) = isNaN x := by
  have h : (x ^^^ 2 ^ 63) % dbl.signWeight = x % dbl.signWeight := by
    have hw : dbl.signWeight = 2 ^ 63 := by decide +kernel
    rw [hw, Nat.xor_mod_two_pow]
    simp
  unfold isNaN Ieee.Format.read
  simp only [h]
  split
  · rfl
  · split
    · rfl
    · split <;> rfl

def aneg (ex : Bool) (x : Nat) : Nat := bif ex then x ^^^ 2 ^ 63 else fneg x

theorem negFloat_cn (x : Nat) : aneg ex (cn ex x) = cn ex (Op.negFloat .f64 x) := by
  have e : Op.negFloat .f64 x = x ^^^ 2 ^ 63 := rfl
  rw [e]
  cases ex
  · show fneg (can x) = can (x ^^^ 2 ^ 63)
    unfold fneg
    rw [isNaN_can]
    cases h : isNaN x
    · rw [can_of_num h, can_of_num (by rw [isNaN_xor]; exact h)]; rfl
    · rw [can_of_nan (x := x ^^^ 2 ^ 63) (by rw [isNaN_xor]; exact h)]; rfl
  · rfl

def aUn (ex : Bool) (op : UnOp) (x : Value) : Option Value :=
  match op, x with
  | .neg, .int k n => some (.int k (k.wrap (0 - n)))
  | .neg, .float .f64 b => some (.float .f64 (aneg ex b))
  | .neg, .complex .f64 re im => some (.complex .f64 (aneg ex re) (aneg ex im))
  | .not, .bool b => some (.bool !b)
  | _, _ => none

theorem aUn_sound {op : UnOp} {x y v : Value} (h : aUn ex op x = some v) (hx : VR ex μ x y) : okv P ex μ (Op.unary op y) v := by
  unfold aUn at h
  split at h <;> cases h
  · rw [hx.int_of]; exact .of (fun _ => rfl) (.int _ _)
  · obtain ⟨x', rfl, rfl⟩ := hx.float_of
    rw [negFloat_cn]; exact .of (fun _ => rfl) (.float _ _)
  · obtain ⟨x', y', rfl, rfl, rfl⟩ := hx.complex_of
    rw [negFloat_cn, negFloat_cn]; exact .of (fun _ => rfl) (.complex _ _ _)
  · rw [hx.bool_of]; exact .of (fun _ => rfl) (.bool _)

end
end Go.Lk
