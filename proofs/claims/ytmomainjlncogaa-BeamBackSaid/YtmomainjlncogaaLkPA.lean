/- Arguments: what comes in, as abstract values. -/
import Derived.Test.YtmomainjlncogaaLkQQ
import Derived.Test.YtmomainjlncogaaLkJA
import Derived.WideShapes
namespace Go.Lk
set_option linter.unusedSimpArgs false
set_option linter.unusedVariables false

section
variable {P : Program} {W : World} {r : Reach} {base : Nat} {t : TypeId} {v : Value}

theorem cell_float (ht : P.underlying t = some (.float .f64)) (h : Cell.okWide P W r base t v) : ∃ b, v = .float .f64 b ∧ b < 2 ^ 64 := by
  unfold Cell.okWide at h
  rw [ht] at h
  simp only at h
  unfold Cell.ok at h
  rw [ht] at h
  cases v <;> simp only [] at h <;> try exact h.elim
  obtain ⟨h1, h2⟩ := h
  exact ⟨_, by rw [h1], h2⟩
theorem cell_int {k : IntKind} (ht : P.underlying t = some (.int k)) (h : Cell.okWide P W r base t v) : ∃ n, v = .int k n ∧ k.min ≤ n ∧ n ≤ k.max := by
  unfold Cell.okWide at h
  rw [ht] at h
  simp only at h
  unfold Cell.ok at h
  rw [ht] at h
  cases v <;> simp only [] at h <;> try exact h.elim
  obtain ⟨h1, h2⟩ := h
  exact ⟨_, by rw [h1], h2⟩
theorem cell_bool (ht : P.underlying t = some .bool) (h : Cell.okWide P W r base t v) : ∃ b, v = .bool b := by
  unfold Cell.okWide at h
  rw [ht] at h
  simp only at h
  unfold Cell.ok at h
  rw [ht] at h
  cases v <;> simp only [] at h <;> try exact h.elim
  exact ⟨_, rfl⟩
theorem wide_float (ht : P.underlying t = some (.float .f64)) (h : Value.okWide P W r base t v) : ∃ b, v = .float .f64 b ∧ b < 2 ^ 64 :=
  cell_float ht (by simp only [Value.okWide, ht] at h; exact h)
theorem wide_int {k : IntKind} (ht : P.underlying t = some (.int k)) (h : Value.okWide P W r base t v) : ∃ n, v = .int k n ∧ k.min ≤ n ∧ n ≤ k.max :=
  cell_int ht (by simp only [Value.okWide, ht] at h; exact h)
/-- A struct or an array: its cells. -/
theorem wide_agg {ts : List TypeId} {d : TypeDesc} (ht : P.underlying t = some d) (hd : isAggD d = true) (hc : P.cellTypes P.depth t = some ts) (hl : P.cellsOf t = ts.length) (h : Value.okWide P W r base t v) :
    ∃ cs : Array Value, v = .agg cs ∧ cs.size = ts.length ∧ ∀ (i : Nat) (u : TypeId), ts[i]? = some u → ∃ x, cs[i]? = some x ∧ Cell.okWide P W r base u x := by
  have : ∃ cs, v = .agg cs ∧ cs.size = P.cellsOf t ∧ Row.okWide P W r base t cs := by
    unfold Value.okWide at h
    rw [ht] at h
    cases d <;> first | exact h | cases hd
  obtain ⟨cs, h1, h2, ts', h3, h4, h5⟩ := this
  rw [hc] at h3
  cases h3
  refine ⟨cs, h1, by rw [h2, hl], fun i u hu => ?_⟩
  have hi : i < ts.length := (List.getElem?_eq_some_iff.1 hu).1
  have hi' : i < cs.size := by rw [h2, hl]; exact hi
  obtain ⟨u', g1, g2⟩ := h5 i cs[i] (by simp [hi'])
  rw [Nat.mod_eq_of_lt hi, hu] at g1
  cases g1
  exact ⟨_, by simp [hi'], g2⟩
end

theorem VR.f64 {μ : List (Option Ent)} (b : Nat) : VR false μ (.float .f64 (can b)) (.float .f64 b) := VR.float .f64 b

/-- A law without memory that comes to true. -/
theorem Calls.of_pure {P : Program} {f : FuncId} {fn : Func} {args : List Value} {cargs : Array Value} {σ' : AHeap} {W : World}
    (hf : P.funcs[f]? = some fn) (hok : (fn.body.isSome && !(fn.name == "runtime.NumGoroutine")) = true) (h : CallR P false f args [] (.bool true) σ')
    (ha : VRs false [] args cargs.toList) : Calls P f cargs W fun e w' => e = .returned (.bool true) ∧ Go.RowKit.Below W.heap.size W w' :=
  Calls.of_callR hf hok h (HR.none false W) ha

theorem CallR.bif {P : Program} {ex : Bool} {f : FuncId} {args : List Value} {σ σ' : AHeap} {a b : Value} {c : Bool} (ht : c = true → CallR P ex f args σ a σ') (hf : c = false → CallR P ex f args σ b σ') :
    CallR P ex f args σ (bif c then a else b) σ' := by
  cases c
  · exact hf rfl
  · exact ht rfl
/-- A natural number as an integer. -/
def iN (n : Nat) : Int := Int.ofNat n
theorem iN_eq (n : Nat) : iN n = (n : Int) := rfl
/-- One of two values. -/
def pF (a b : Option Value) (σ : AHeap) (c : Bool) : Option (Value × AHeap) :=
  match (bif c then a else b : Option Value) with
  | some v => some (v, σ)
  | none => none
theorem pF_m (a b : Value) (σ : AHeap) (V : Bool → Value) (ht : V true = a) (hf : V false = b) (c : Bool) : pF (some a) (some b) σ c = some (V c, σ) := by
  subst ht hf; cases c <;> rfl
theorem pF_t (a : Value) (b : Option Value) (σ : AHeap) {c : Bool} (h : c = true) : pF (some a) b σ c = some (a, σ) := by subst h; rfl
theorem pF_f (a : Option Value) (b : Value) (σ : AHeap) {c : Bool} (h : c = false) : pF a (some b) σ c = some (b, σ) := by subst h; rfl
/-- A quotient or a remainder. -/
def qF (V : Value) (σ : AHeap) (b : Int) : Option (Value × AHeap) :=
  match (if b = 0 then none else some V : Option Value) with
  | some v => some (v, σ)
  | none => none
theorem qF_ok (V : Value) (σ : AHeap) {b : Int} (h : b ≠ 0) : qF V σ b = some (V, σ) := by unfold qF; rw [if_neg h]
/-- A float made whole: its number, and whether it fits. -/
def toI (b : Nat) : Int := ((dbl.read b).toInt .zero).getD 0
def okI (k : IntKind) (b : Nat) : Bool :=
  match (dbl.read b).toInt .zero with
  | some n => decide (k.min ≤ n ∧ n ≤ k.max)
  | none => false
def convF (k : IntKind) (b : Nat) (σ : AHeap) : Option (Value × AHeap) :=
  match (match (dbl.read b).toInt .zero with | some n => if k.min ≤ n ∧ n ≤ k.max then some (.int k n) else none | none => none : Option Value) with
  | some v => some (v, σ)
  | none => none
theorem convF_ok (k : IntKind) (b : Nat) (σ : AHeap) (h : okI k b = true) : convF k b σ = some (.int k (toI b), σ) := by
  unfold okI at h
  unfold convF toI
  split at h
  · rename_i n e
    simp only [e]
    rw [if_pos (of_decide_eq_true h)]
    rfl
  · cases h
/-- A pure call's answer under a test. -/
def gF (V : Value) (σ : AHeap) (b : Bool) : Option (Value × AHeap) :=
  match (bif b then some V else none : Option Value) with
  | some v => some (v, σ)
  | none => none
theorem gF_true (V : Value) (σ : AHeap) {b : Bool} (h : b = true) : gF V σ b = some (V, σ) := by subst h; rfl
/-- The same, as it is asked for. -/
def gP (V : Value) (σ : AHeap) (b : Bool) : Prop := gF V σ b = some (V, σ)
theorem gP_true (V : Value) (σ : AHeap) {b : Bool} (h : b = true) : gP V σ b := gF_true V σ h
def pP (a b : Option Value) (σ : AHeap) (c : Bool) (V : Value) : Prop := pF a b σ c = some (V, σ)
theorem pP_m (a b : Value) (σ : AHeap) (V : Bool → Value) (ht : V true = a) (hf : V false = b) (c : Bool) : pP (some a) (some b) σ c (V c) := pF_m a b σ V ht hf c
theorem pP_t (a : Value) (b : Option Value) (σ : AHeap) {c : Bool} (h : c = true) : pP (some a) b σ c a := pF_t a b σ h
theorem pP_f (a : Option Value) (b : Value) (σ : AHeap) {c : Bool} (h : c = false) : pP a (some b) σ c b := pF_f a b σ h
def bP (c b : Bool) : Prop := some c = some b
theorem bP_of (f : Bool → Bool) {c v : Bool} (h : c = v) : bP (f c) (f v) := congrArg (fun b => some (f b)) h
end Go.Lk
