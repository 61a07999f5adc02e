import Derived.Test.YtmomainjlncogaaLkLE
import Derived.Test.YtmomainjlncogaaLkJA
import Derived.WideShapes
section
/- Arguments: what comes in, as abstract values. -/
namespace Go.Lk
set_option linter.unusedSimpArgs false
set_option linter.unusedVariables false

section
variable {P : Program} {W : World} {r : Reach} {base : Nat} {t : TypeId} {v : Value}

theorem cell_float (ht : P.underlying t = some (.float .f64)) (h : Cell.okWide P W r base t v) : ∃ b, v = .float .f64 b ∧ b < 2 ^ 64 := by
  unfold Cell.okWide at h
  rw [ht] at h
  simp only at h
  unfold Cell.ok at h
  rw [ht] at h
  cases v <;> simp only [] at h <;> try exact h.elim
  obtain ⟨h1, h2⟩ := h
  exact ⟨_, by rw [h1], h2⟩
theorem cell_int {k : IntKind} (ht : P.underlying t = some (.int k)) (h : Cell.okWide P W r base t v) : ∃ n, v = .int k n ∧ k.min ≤ n ∧ n ≤ k.max := by
  unfold Cell.okWide at h
  rw [ht] at h
  simp only at h
  unfold Cell.ok at h
  rw [ht] at h
  cases v <;> simp only [] at h <;> try exact h.elim
  obtain ⟨h1, h2⟩ := h
  exact ⟨_, by rw [h1], h2⟩
theorem cell_bool (ht : P.underlying t = some .bool) (h : Cell.okWide P W r base t v) : ∃ b, v = .bool b := by
  unfold Cell.okWide at h
  rw [ht] at h
  simp only at h
  unfold Cell.ok at h
  rw [ht] at h
  cases v <;> simp only [] at h <;> try exact h.elim
  exact ⟨_, rfl⟩
theorem wide_float (ht : P.underlying t = some (.float .f64)) (h : Value.okWide P W r base t v) : ∃ b, v = .float .f64 b ∧ b < 2 ^ 64 :=
  cell_float ht (by simp only [Value.okWide, ht] at h; exact h)
theorem wide_int {k : IntKind} (ht : P.underlying t = some (.int k)) (h : Value.okWide P W r base t v) : ∃ n, v = .int k n ∧ k.min ≤ n ∧ n ≤ k.max :=
  cell_int ht (by simp only [Value.okWide, ht] at h; exact h)
/-- A struct or an array: its cells. -/
theorem wide_agg {ts : List TypeId} {d : TypeDesc} (ht : P.underlying t = some d) (hd : isAggD d = true) (hc : P.cellTypes P.depth t = some ts) (hl : P.cellsOf t = ts.length) (h : Value.okWide P W r base t v) :
    ∃ cs : Array Value, v = .agg cs ∧ cs.size = ts.length ∧ ∀ (i : Nat) (u : TypeId), ts[i]? = some u → ∃ x, cs[i]? = some x ∧ Cell.okWide P W r base u x := by
  have : ∃ cs, v = .agg cs ∧ cs.size = P.cellsOf t ∧ Row.okWide P W r base t cs := by
    unfold Value.okWide at h
    rw [ht] at h
    cases d <;> first | exact h | cases hd
  obtain ⟨cs, h1, h2, ts', h3, h4, h5⟩ := this
  rw [hc] at h3
  cases h3
  refine ⟨cs, h1, by rw [h2, hl], fun i u hu => ?_⟩
  have hi : i < ts.length := (List.getElem?_eq_some_iff.1 hu).1
  have hi' : i < cs.size := by rw [h2, hl]; exact hi
  obtain ⟨u', g1, g2⟩ := h5 i cs[i] (by simp [hi'])
  rw [Nat.mod_eq_of_lt hi, hu] at g1
  cases g1
  exact ⟨_, by simp [hi'], g2⟩
end

theorem VR.f64 {μ : List (Option Ent)} (b : Nat) : VR false μ (.float .f64 (can b)) (.float .f64 b) := VR.float .f64 b

/-- A law without memory that comes to true. -/
theorem Calls.of_pure {P : Program} {f : FuncId} {fn : Func} {args : List Value} {cargs : Array Value} {σ' : AHeap} {W : World}
    (hf : P.funcs[f]? = some fn) (hok : (fn.body.isSome && !(fn.name == "runtime.NumGoroutine")) = true) (h : CallR P false f args [] (.bool true) σ')
    (ha : VRs false [] args cargs.toList) : Calls P f cargs W fun e w' => e = .returned (.bool true) ∧ Go.RowKit.Below W.heap.size W w' :=
  Calls.of_callR hf hok h (HR.none false W) ha

theorem CallR.bif {P : Program} {ex : Bool} {f : FuncId} {args : List Value} {σ σ' : AHeap} {a b : Value} {c : Bool} (ht : c = true → CallR P ex f args σ a σ') (hf : c = false → CallR P ex f args σ b σ') :
    CallR P ex f args σ (bif c then a else b) σ' := by
  cases c
  · exact hf rfl
  · exact ht rfl
/-- A natural number as an integer. -/
def iN (n : Nat) : Int := Int.ofNat n
theorem iN_eq (n : Nat) : iN n = (n : Int) := rfl
/-- One of two values. -/
def pF (a b : Option Value) (σ : AHeap) (c : Bool) : Option (Value × AHeap) :=
  match (bif c then a else b : Option Value) with
  | some v => some (v, σ)
  | none => none
theorem pF_m (a b : Value) (σ : AHeap) (V : Bool → Value) (ht : V true = a) (hf : V false = b) (c : Bool) : pF (some a) (some b) σ c = some (V c, σ) := by
  subst ht hf; cases c <;> rfl
theorem pF_t (a : Value) (b : Option Value) (σ : AHeap) {c : Bool} (h : c = true) : pF (some a) b σ c = some (a, σ) := by subst h; rfl
theorem pF_f (a : Option Value) (b : Value) (σ : AHeap) {c : Bool} (h : c = false) : pF a (some b) σ c = some (b, σ) := by subst h; rfl
/-- A quotient or a remainder. -/
def qF (V : Value) (σ : AHeap) (b : Int) : Option (Value × AHeap) :=
  match (if b = 0 then none else some V : Option Value) with
  | some v => some (v, σ)
  | none => none
theorem qF_ok (V : Value) (σ : AHeap) {b : Int} (h : b ≠ 0) : qF V σ b = some (V, σ) := by unfold qF; rw [if_neg h]
/-- A float made whole: its number, and whether it fits. -/
def toI (b : Nat) : Int := ((dbl.read b).toInt .zero).getD 0
def okI (k : IntKind) (b : Nat) : Bool :=
  match (dbl.read b).toInt .zero with
  | some n => decide (k.min ≤ n ∧ n ≤ k.max)
  | none => false
def convF (k : IntKind) (b : Nat) (σ : AHeap) : Option (Value × AHeap) :=
  match (match (dbl.read b).toInt .zero with | some n => if k.min ≤ n ∧ n ≤ k.max then some (.int k n) else none | none => none : Option Value) with
  | some v => some (v, σ)
  | none => none
theorem convF_ok (k : IntKind) (b : Nat) (σ : AHeap) (h : okI k b = true) : convF k b σ = some (.int k (toI b), σ) := by
  unfold okI at h
  unfold convF toI
  split at h
  · rename_i n e
    simp only [e]
    rw [if_pos (of_decide_eq_true h)]
    rfl
  · cases h
/-- A pure call's answer under a test. -/
def gF (V : Value) (σ : AHeap) (b : Bool) : Option (Value × AHeap) :=
  match (bif b then some V else none : Option Value) with
  | some v => some (v, σ)
  | none => none
theorem gF_true (V : Value) (σ : AHeap) {b : Bool} (h : b = true) : gF V σ b = some (V, σ) := by subst h; rfl
/-- The same, as it is asked for. -/
def gP (V : Value) (σ : AHeap) (b : Bool) : Prop := gF V σ b = some (V, σ)
theorem gP_true (V : Value) (σ : AHeap) {b : Bool} (h : b = true) : gP V σ b := gF_true V σ h
def pP (a b : Option Value) (σ : AHeap) (c : Bool) (V : Value) : Prop := pF a b σ c = some (V, σ)
theorem pP_m (a b : Value) (σ : AHeap) (V : Bool → Value) (ht : V true = a) (hf : V false = b) (c : Bool) : pP (some a) (some b) σ c (V c) := pF_m a b σ V ht hf c
theorem pP_t (a : Value) (b : Option Value) (σ : AHeap) {c : Bool} (h : c = true) : pP (some a) b σ c a := pF_t a b σ h
theorem pP_f (a : Option Value) (b : Value) (σ : AHeap) {c : Bool} (h : c = false) : pP a (some b) σ c b := pF_f a b σ h
def bP (c b : Bool) : Prop := some c = some b
theorem bP_of (f : Bool → Bool) {c v : Bool} (h : c = v) : bP (f c) (f v) := congrArg (fun b => some (f b)) h
end Go.Lk
end

section
/- Loops: their bodies, their rounds; rows as functions. -/
namespace Go.Lk
set_option linter.unusedSimpArgs false
set_option linter.unusedVariables false

def loopsOf : Code → List Code
  | .loop b => b :: loopsOf b
  | .seq a b => loopsOf a ++ loopsOf b
  | .cond _ x y => loopsOf x ++ loopsOf y
  | .block _ b | .scope b => loopsOf b
  | _ => []
/-- The body of loop k of a function (in the text's order). -/
def loopOf (fn : Func) (k : Nat) : Code := match fn.body with | some b => (loopsOf b).getD k .skip | none => .skip
def regsOf : Code → List (Nat × Code)
  | .region i ops d => [(i, .region i ops d)]
  | .seq a b => regsOf a ++ regsOf b
  | .cond _ x y => regsOf x ++ regsOf y
  | .block _ b | .loop b | .scope b => regsOf b
  | _ => []
def regOf (fn : Func) (i : Nat) : Code := match fn.body with | some b => (look (regsOf b) i).getD .skip | none => .skip
def regOps : Code → Array Oper
  | .region _ ops _ => ops
  | _ => #[]

/-! ### Rows as functions -/
def rowOf (f : Nat → List Value) (n : Nat) : List Value := (List.range n).flatMap f
theorem rowOf_len {f : Nat → List Value} {s : Nat} (hf : ∀ i, (f i).length = s) : ∀ n, (rowOf f n).length = n * s := by
  intro n
  unfold rowOf
  induction n with
  | zero => simp
  | succ n ih => rw [List.range_succ, List.flatMap_append, List.length_append, ih]; simp [hf, Nat.succ_mul]
theorem rowOf_succ (f : Nat → List Value) (n : Nat) : rowOf f (n + 1) = rowOf f n ++ f n := by
  unfold rowOf; rw [List.range_succ, List.flatMap_append]; simp
theorem rowOf_at {f : Nat → List Value} {s : Nat} (hf : ∀ i, (f i).length = s) {k : Nat} : ∀ {n : Nat}, k < n → ((rowOf f n).drop (k * s)).take s = f k := by
  intro n
  induction n with
  | zero => intro h; omega
  | succ n ih =>
    intro h
    rw [rowOf_succ]
    have hl := rowOf_len hf n
    rcases Nat.lt_or_eq_of_le (Nat.le_of_lt_succ h) with h' | h'
    · have h1 : k * s + s ≤ n * s := by
        have := Nat.mul_le_mul_right s (show k + 1 ≤ n from h')
        rw [Nat.succ_mul] at this; exact this
      rw [List.drop_append_of_le_length (by omega), List.take_append_of_le_length (by rw [List.length_drop]; omega)]
      exact ih h'
    · subst h'
      rw [List.drop_append, hl, Nat.sub_self, List.drop_of_length_le (by omega)]
      simp only [List.drop_zero, List.nil_append]
      exact List.take_of_length_le (by rw [hf]; exact Nat.le_refl _)

/-- A sum of integers that stays in bounds. -/
def wF (k : IntKind) (e : Int) (σ : AHeap) : Option (Value × AHeap) := some (.int k (k.wrap e), σ)
theorem i64_wrap {e : Int} (h : -9223372036854775808 ≤ e ∧ e ≤ 9223372036854775807) : IntKind.i64.wrap e = e := by
  unfold IntKind.wrap
  simp [IntKind.bits, IntKind.signed]
  omega
theorem wF_ok {e e' : Int} (σ : AHeap) (h : -9223372036854775808 ≤ e ∧ e ≤ 9223372036854775807) (he : e = e') : wF .i64 e σ = some (.int .i64 e', σ) := by
  unfold wF; rw [i64_wrap h, he]
/-- An element's address. -/
def ixF (V : Value) (σ : AHeap) (n : Int) (len : Nat) : Option (Value × AHeap) :=
  match (if 0 ≤ n ∧ n < (len : Int) then some V else none : Option Value) with
  | some v => some (v, σ)
  | none => none
theorem ixF_ok (V : Value) (σ : AHeap) {n : Int} {len : Nat} (h : 0 ≤ n ∧ n < (len : Int)) : ixF V σ n len = some (V, σ) := by unfold ixF; rw [if_pos h]
/-- A load. -/
def ldF (o : Option Value) (σ : AHeap) : Option (Value × AHeap) :=
  match o with
  | some v => some (v, σ)
  | none => none
theorem ldF_ok {o : Option Value} {v : Value} {σ : AHeap} (h : o = some v) : ldF o σ = some (v, σ) := by rw [h]; rfl
theorem load_agg {P : Program} {σ : AHeap} {t : TypeId} {b s off k n : Nat} {f : Nat → List Value} {rw' : Bool} {opn : Option Nat} (hσ : σ[b]? = some (.row (rowOf f n) rw' opn)) (hd : (P.underlying t).map isAggD = some true)
    (hs : tSize P t = some s) (hf : ∀ i, (f i).length = s) (ho : off = k * s) (hk : k < n) : aLoad P σ t (.pointer (some ⟨b, off, none⟩)) = some (.agg (f k).toArray) := by
  cases hu : P.underlying t with
  | none => rw [hu] at hd; cases hd
  | some d =>
  rw [hu] at hd
  have hd : isAggD d = true := by simpa using hd
  unfold aLoad
  simp only [hσ, hu, hd, hs, cond_true]
  have hl := rowOf_len hf n
  have h1 : k * s + s ≤ n * s := by
    have := Nat.mul_le_mul_right s (show k + 1 ≤ n from hk)
    rw [Nat.succ_mul] at this; exact this
  rw [if_pos (by omega), ho, rowOf_at hf hk]
theorem load_one {P : Program} {σ : AHeap} {t : TypeId} {b off k n : Nat} {g : Nat → Value} {rw' : Bool} {opn : Option Nat} (hσ : σ[b]? = some (.row (rowOf (fun i => [g i]) n) rw' opn)) (hd : (P.underlying t).map isAggD = some false)
    (ho : off = k) (hk : k < n) : aLoad P σ t (.pointer (some ⟨b, off, none⟩)) = some (g k) := by
  cases hu : P.underlying t with
  | none => rw [hu] at hd; cases hd
  | some d =>
  rw [hu] at hd
  have hd : isAggD d = false := by simpa using hd
  unfold aLoad
  simp only [hσ, hu, hd, cond_false]
  have h := rowOf_at (f := fun i => [g i]) (s := 1) (fun i => rfl) (k := k) hk
  rw [Nat.mul_one] at h
  have h2 := congrArg (fun l => l[0]?) h
  simp only [List.getElem?_take, List.getElem?_drop] at h2
  rw [ho]
  simpa using h2

/-! ### What is kept of a round -/
/-- No names from m on. -/
def named0 (m : Nat) : Value → Bool
  | .pointer (some ⟨b, _, _⟩) => Nat.blt b m
  | .slice (some ⟨b, _, _⟩) _ _ => Nat.blt b m
  | v => flat0 v
def closedV (m : Nat) : Value → Bool
  | .agg cs => cs.toList.all (named0 m)
  | .tuple cs => cs.toList.all (named0 m)
  | v => named0 m v
theorem named0_inert {m : Nat} {v : Value} {r : Nat → Nat} (hr : ∀ b, b < m → r b = b) (h : named0 m v = true) (d : Nat) : renV r d v = v := by
  unfold named0 at h
  split at h
  · rename_i b o s
    have := hr b (by simpa [Nat.blt_eq] using h)
    cases d <;> simp only [renV, this]
  · rename_i b o s l c
    have := hr b (by simpa [Nat.blt_eq] using h)
    cases d <;> simp only [renV, this]
  · exact flat0_inert h d r
theorem namedL_inert {m : Nat} {r : Nat → Nat} (hr : ∀ b, b < m → r b = b) (d : Nat) : ∀ {cs : List Value}, cs.all (named0 m) = true → cs.map (renV r d) = cs
  | [], _ => rfl
  | c :: cs, h => by
    rw [List.all_cons, Bool.and_eq_true] at h
    rw [List.map_cons, named0_inert hr h.1, namedL_inert hr d h.2]
theorem closedV_inert {m : Nat} {v : Value} {r : Nat → Nat} (hr : ∀ b, b < m → r b = b) (h : closedV m v = true) : renV r 3 v = v := by
  unfold closedV at h
  split at h
  · simp only [renV]; rw [namedL_inert hr _ h]
  · simp only [renV]; rw [namedL_inert hr _ h]
  · exact named0_inert hr h 3
def closedO (m : Nat) : AObj → Bool
  | .row vs _ _ => vs.all (named0 m)
  | _ => true
def maskF : List Bool → List Value → List Value
  | b :: bs, v :: vs => (bif b then v else undef) :: maskF bs vs
  | _, vs => vs.map fun _ => undef
def closedF (m : Nat) : List Bool → List Value → Bool
  | b :: bs, v :: vs => (!b || closedV m v) && closedF m bs vs
  | _, _ => true
theorem maskF_emb {m : Nat} {r : Nat → Nat} (hr : ∀ b, b < m → r b = b) : ∀ (bs : List Bool) (vs : List Value), closedF m bs vs = true → FrEmb r (maskF bs vs) vs
  | b :: bs, v :: vs, h => by
    unfold closedF at h
    rw [Bool.and_eq_true] at h
    refine ⟨?_, maskF_emb hr bs vs h.2⟩
    cases b
    · left; rfl
    · right
      have h1 : closedV m v = true := by simpa using h.1
      exact (closedV_inert hr h1).symm
  | [], v :: vs, h => ⟨.inl rfl, by
    have : ∀ vs : List Value, FrEmb r (vs.map fun _ => undef) vs := by
      intro vs
      induction vs with
      | nil => trivial
      | cons v vs ih => exact ⟨.inl rfl, ih⟩
    exact this vs⟩
  | [], [], _ => trivial
  | _ :: _, [], _ => trivial

/-- The end of a stretch, its blocks renamed; the first n0 keep their names. -/
theorem Sim.embN {C : Cfg} {c : Code} {fr fr1 fr' : List Value} {σ0 σ σ1 σ' : AHeap} {e : Exit} {r : Nat → Nat} {n0 : Nat} (h : Sim C n0 c fr σ e fr1 σ1) (hs : Stood C.ex σ0) (hn : n0 ≤ σ.length) (hn' : n0 ≤ σ'.length) (hfix : ∀ b, b < n0 → r b = b) (he : Emb σ0 r σ' σ1) (hf : FrEmb r fr' fr1) :
    Sim C n0 c fr σ e fr' σ' := by
  intro B μ tmps defers w Q hf0 hr hQ
  refine h B μ tmps defers w Q hf0 hr ?_
  intro μ1 tmps' w' q1 q2 q3 q4
  have hback := he.back q2
  refine hQ (renM μ1 r σ'.length) tmps' w' ⟨by rw [hf.len]; exact q1.1, fun i a ha => ?_⟩ (he.heap q2 hs) (fun b hb => ?_) q4
  · have hlt := lt_of_some ha
    rcases hf.get i a ha with hu | hb
    · obtain ⟨c, hc⟩ : ∃ c, tmps'[i]? = some c := ⟨_, Array.getElem?_eq_getElem (by rw [← q1.1, ← hf.len]; exact hlt)⟩
      exact ⟨c, hc, .inl hu⟩
    · obtain ⟨c, hc, hv⟩ := q1.2 i _ hb
      refine ⟨c, hc, ?_⟩
      rcases hv with hu | hv
      · exact .inl (isU_ren hu)
      · exact .inr (VR.ren hback 3 _ _ hv)
  · have hlt : b < μ.length := by rw [hr.len]; omega
    rw [renM_get (by omega), hfix b hb, q3 b hb, List.getElem?_eq_getElem hlt]
    rfl

/-- A frame that is known better. -/
theorem Sim.enter {C : Cfg} {c : Code} {fr fr0 fr1 : List Value} {σ σ1 : AHeap} {e : Exit} {n0 : Nat} (h : Sim C n0 c fr σ e fr1 σ1) (mask : List Bool) (hm : maskF mask fr0 = fr) : Sim C n0 c fr0 σ e fr1 σ1 := by
  subst hm
  intro B μ tmps defers w Q hf0 hr hQ
  refine h B μ tmps defers w Q ?_ hr hQ
  have hl : ∀ (bs : List Bool) (vs : List Value), (maskF bs vs).length = vs.length := by
    intro bs
    induction bs with
    | nil => intro vs; cases vs <;> simp [maskF]
    | cons b bs ih => intro vs; cases vs with
      | nil => simp [maskF]
      | cons v vs => simp [maskF, ih]
  have hg : ∀ (bs : List Bool) (vs : List Value) (i : Nat) (a : Value), (maskF bs vs)[i]? = some a → isU a = true ∨ vs[i]? = some a := by
    intro bs
    induction bs with
    | nil =>
      intro vs i a h
      left
      have : maskF [] vs = vs.map fun _ => undef := by cases vs <;> rfl
      rw [this, List.getElem?_map] at h
      cases hv : vs[i]? with
      | none => rw [hv] at h; cases h
      | some v => rw [hv] at h; cases h; rfl
    | cons b bs ih =>
      intro vs i a h
      cases vs with
      | nil => simp [maskF] at h
      | cons v vs =>
        cases i with
        | zero =>
          simp only [maskF, List.getElem?_cons_zero, Option.some.injEq] at h
          cases b
          · left; rw [← h]; rfl
          · right; rw [← h]; rfl
        | succ i =>
          simp only [maskF, List.getElem?_cons_succ] at h ⊢
          exact ih vs i a h
  refine ⟨by rw [hl]; exact hf0.1, fun i a ha => ?_⟩
  rcases hg mask fr0 i a ha with hu | hb
  · have hlt := lt_of_some ha
    rw [hl] at hlt
    exact ⟨_, Array.getElem?_eq_getElem (by rw [← hf0.1]; exact hlt), .inl hu⟩
  · exact hf0.2 i a hb

/-- The end of a stretch: the scratch slots and the blocks from m on are given up. -/
theorem Sim.keep {C : Cfg} {c : Code} {fr fr1 : List Value} {σ0 σ σ1 : AHeap} {e : Exit} {n0 : Nat} (h : Sim C n0 c fr σ e fr1 σ1) (hs : Stood C.ex σ0) (hn : n0 ≤ σ.length) (m : Nat) (mask : List Bool)
    (hnm : n0 ≤ m) (h0 : σ0.length ≤ m) (hm : m ≤ σ1.length) (hfix : σ1.take σ0.length = σ0) (hc : ((σ1.take m).drop σ0.length).all (closedO m) = true) (hf : closedF m mask fr1 = true) : Sim C n0 c fr σ e (maskF mask fr1) (σ1.take m) := by
  have hr : ∀ b, b < m → (fun b => if b < m then b else b + σ1.length) b = b := fun b hb => by simp [hb]
  refine h.embN (r := fun b => if b < m then b else b + σ1.length) hs hn (by simp; omega) (fun b hb => hr b (by omega)) ⟨by simp; omega, fun b hb => ?_, fun b hb => hr b (by omega), fun b b' o o' hb hb' _ _ e => ?_, fun b o hb hl => ?_⟩ (maskF_emb hr mask fr1 hf)
  · simp only [List.length_take] at hb
    have : ¬ b < m := by omega
    simp only [this, if_false]; omega
  · have h1 := lt_of_some hb
    have h2 := lt_of_some hb'
    simp only [List.length_take] at h1 h2
    have g1 : b < m := by omega
    have g2 : b' < m := by omega
    simpa [g1, g2] using e
  · have h1 := lt_of_some hb
    simp only [List.length_take] at h1
    have hb1 : σ1[b]? = some o := by
      rw [List.getElem?_take] at hb
      split at hb
      · exact hb
      · cases hb
    rcases Nat.lt_or_ge b σ0.length with h' | h'
    · left
      refine ⟨h', ?_, hb1⟩
      rw [← hfix, List.getElem?_take, if_pos h']
      exact hb1
    · right
      have hbm : b < m := by omega
      simp only [hbm, if_true]
      rw [hb1]
      congr 1
      have hmem : o ∈ (σ1.take m).drop σ0.length := by
        have : ((σ1.take m).drop σ0.length)[b - σ0.length]? = some o := by
          rw [List.getElem?_drop, show σ0.length + (b - σ0.length) = b by omega]; exact hb
        exact List.mem_of_getElem? this
      have := List.all_eq_true.1 hc o hmem
      cases o with
      | row vs rw' opn => simp only [closedO] at this; simp only [renO]; rw [namedL_inert hr 3 this]
      | dead => rfl
      | iter s p => rfl
theorem Sim.keep' {C : Cfg} {c : Code} {fr fr1 fr' : List Value} {σ0 σ σ1 σ' : AHeap} {e : Exit} {L : Nat} (n0 : Nat) (h : Sim C L c fr σ e fr1 σ1) (hL : L = σ.length) (hs : Stood C.ex σ0) (m : Nat) (mask : List Bool)
    (hn : Nat.ble n0 σ.length = true) (hnm : Nat.ble n0 m = true) (h0 : Nat.ble σ0.length m = true) (hm : Nat.ble m σ1.length = true) (hfix : σ1.take σ0.length = σ0) (hc : ((σ1.take m).drop σ0.length).all (closedO m) = true) (hf : closedF m mask fr1 = true)
    (e1 : maskF mask fr1 = fr') (e2 : σ1.take m = σ') : Sim C n0 c fr σ e fr' σ' := by
  subst e1 e2
  have hn' := Nat.le_of_ble_eq_true hn
  exact Sim.keep (h.le (by omega)) hs hn' m mask (Nat.le_of_ble_eq_true hnm) (Nat.le_of_ble_eq_true h0) (Nat.le_of_ble_eq_true hm) hfix hc hf

theorem CallR.of_DOXs {C : Cfg} (hC : C.Ok) {X : List Nat} {f : FuncId} {fn : Func} {args : List Value} {σ σ1 : AHeap} {v : Value} {n : Nat} {orc : Orc} {ps : List Prop}
    (hf : C.P.funcs[f]? = some fn) (hok : fnOkX C X fn = true) (h : DOfnX C X n fn args σ orc = some (ps, v, σ1)) (hp : Stood C.ex σ → All ps) : CallR C.P C.ex f args σ v σ1 :=
  fun B μ w cargs hr hargs => CallR.of_DOX hC hf hok h (hp ⟨B, μ, w, hr⟩) B μ w cargs hr hargs
theorem Sim.cast {C : Cfg} {c : Code} {fr fr' fr1 fr1' : List Value} {σ σ' σ1 σ1' : AHeap} {e : Exit} {n0 : Nat} (h : Sim C n0 c fr σ e fr1 σ1) (e1 : fr = fr') (e2 : σ = σ') (e3 : fr1 = fr1') (e4 : σ1 = σ1') : Sim C n0 c fr' σ' e fr1' σ1' := by
  subst e1 e2 e3 e4; exact h

/-- A round of a loop: what is asked, how it ends, what is kept. -/
def roundR (C : Cfg) (X : List Nat) (n : Nat) (body : Code) (orc : Orc) (s0 m : Nat) (mask : List Bool) (fr : List Value) (σ : AHeap) : Option (List Prop × Exit × List Value × AHeap) :=
  match DO C X n body 0 orc fr σ with
  | some (ps, e, _, _, fr1, σ1) =>
    bif Nat.ble m σ.length && (Nat.ble m σ1.length && (closedF m mask fr1 && ((σ1.take m).drop s0).all (closedO m))) then some (ps, e, maskF mask fr1, σ1.take m) else none
  | none => none
theorem Sim.of_round {C : Cfg} (hC : C.Ok) {X : List Nat} {n : Nat} {body : Code} {orc : Orc} {m : Nat} {mask : List Bool} {fr fr' : List Value} {σ σ' σ0 : AHeap} {ps : List Prop} {e : Exit} (hok : codeOkX C X body = true)
    (h : roundR C X n body orc σ0.length m mask fr σ = some (ps, e, fr', σ')) (hp : All ps) (hst : Stood C.ex σ0) (h0 : Nat.ble σ0.length m = true) (hfix : σ'.take σ0.length = σ0) : Sim C m body fr σ e fr' σ' := by
  unfold roundR at h
  split at h
  · rename_i ps1 e1 t1 o1 fr1 σ1 hd
    cases hb : (Nat.ble m σ.length && (Nat.ble m σ1.length && (closedF m mask fr1 && ((σ1.take m).drop σ0.length).all (closedO m))))
    · rw [hb] at h; cases h
    · rw [hb] at h
      simp only [cond_true, Option.some.injEq, Prod.mk.injEq] at h
      obtain ⟨rfl, rfl, rfl, rfl⟩ := h
      simp only [Bool.and_eq_true] at hb
      obtain ⟨b1, b2, b3, b4⟩ := hb
      have h0' := Nat.le_of_ble_eq_true h0
      have b1' := Nat.le_of_ble_eq_true b1
      refine Sim.keep ((DO_sound hC X n _ _ _ _ _ hok hd hp).1.le b1') hst b1' m mask (Nat.le_refl _) h0' (Nat.le_of_ble_eq_true b2) ?_ b4 b3
      rw [List.take_take, Nat.min_eq_left h0'] at hfix
      exact hfix
  · cases h
end Go.Lk
end

section
/- Rounds that grow rows, write rows: what they keep. -/
namespace Go.Lk
set_option linter.unusedSimpArgs false
set_option linter.unusedVariables false

/-! ### Rows as functions: more -/
theorem rowOf_all {f : Nat → List Value} {p : Value → Bool} (h : ∀ i, (f i).all p = true) : ∀ n, (rowOf f n).all p = true := by
  intro n
  induction n with
  | zero => rfl
  | succ n ih => rw [rowOf_succ, List.all_append, ih, h]; rfl
theorem rowOf_congr {f g : Nat → List Value} : ∀ {n : Nat}, (∀ i, i < n → f i = g i) → rowOf f n = rowOf g n := by
  intro n
  induction n with
  | zero => intro _; rfl
  | succ n ih => intro h; rw [rowOf_succ, rowOf_succ, ih (fun i hi => h i (by omega)), h n (by omega)]
theorem rowOf_zero (f : Nat → List Value) : rowOf f 0 = [] := rfl
theorem rowOf_take {f : Nat → List Value} {s : Nat} (hf : ∀ i, (f i).length = s) : ∀ {n m : Nat}, m ≤ n → (rowOf f n).take (m * s) = rowOf f m := by
  intro n
  induction n with
  | zero => intro m h; have : m = 0 := by omega
            subst this; simp [rowOf_zero]
  | succ n ih =>
    intro m h
    rw [rowOf_succ]
    have hl := rowOf_len hf n
    rcases Nat.lt_or_eq_of_le h with h' | h'
    · have h1 : m * s ≤ n * s := Nat.mul_le_mul_right s (by omega)
      rw [List.take_append_of_le_length (by omega)]
      exact ih (by omega)
    · subst h'
      rw [← rowOf_succ]
      exact List.take_of_length_le (by rw [rowOf_len hf]; exact Nat.le_refl _)
theorem rowOf_splice {f g : Nat → List Value} {s : Nat} (hf : ∀ i, (f i).length = s) (hg : ∀ i, (g i).length = s) {k n : Nat} (hk : k < n) (hne : ∀ i, i ≠ k → g i = f i) : splice (rowOf f n) (k * s) (g k) = rowOf g n := by
  have hlf := rowOf_len hf n
  have hlg := rowOf_len hg n
  have hgk := hg k
  have hks : k * s + s ≤ n * s := by
    have := Nat.mul_le_mul_right s (show k + 1 ≤ n from hk)
    rw [Nat.succ_mul] at this; exact this
  unfold splice
  have e1 : rowOf g n = (rowOf g n).take (k * s) ++ ((rowOf g n).drop (k * s)).take s ++ (rowOf g n).drop (k * s + s) := by
    rw [List.append_assoc]
    conv => lhs; rw [← List.take_append_drop (k * s) (rowOf g n)]
    congr 1
    conv => lhs; rw [← List.take_append_drop s ((rowOf g n).drop (k * s))]
    rw [List.drop_drop]
  rw [e1, rowOf_at hg hk, rowOf_take hg (by omega), rowOf_take hf (by omega), hgk]
  congr 1
  · congr 1
    exact rowOf_congr fun i hi => (hne i (by omega)).symm
  · apply List.ext_getElem?
    intro j
    rw [List.getElem?_drop, List.getElem?_drop]
    rcases Nat.eq_zero_or_pos s with h0 | hs
    · rw [List.getElem?_eq_none (by rw [hlf, h0]; simp), List.getElem?_eq_none (by rw [hlg, h0]; simp)]
    · rcases Nat.lt_or_ge (k * s + s + j) (n * s) with hj | hj
      · have hq : (k * s + s + j) / s < n := (Nat.div_lt_iff_lt_mul hs).2 hj
        have hm := Nat.mod_lt (k * s + s + j) hs
        have hd := Nat.div_add_mod (k * s + s + j) s
        have hkq : k < (k * s + s + j) / s := by
          rw [Nat.lt_iff_add_one_le, Nat.le_div_iff_mul_le hs, Nat.succ_mul]
          omega
        have r1 : (rowOf f n)[(k * s + s + j) / s * s + (k * s + s + j) % s]? = (f ((k * s + s + j) / s))[(k * s + s + j) % s]? := by
          have h2 := congrArg (fun l => l[(k * s + s + j) % s]?) (rowOf_at hf hq)
          simp only [List.getElem?_take, List.getElem?_drop, hm, if_true] at h2
          exact h2
        have r2 : (rowOf g n)[(k * s + s + j) / s * s + (k * s + s + j) % s]? = (g ((k * s + s + j) / s))[(k * s + s + j) % s]? := by
          have h2 := congrArg (fun l => l[(k * s + s + j) % s]?) (rowOf_at hg hq)
          simp only [List.getElem?_take, List.getElem?_drop, hm, if_true] at h2
          exact h2
        rw [Nat.mul_comm _ s, hd] at r1 r2
        rw [r1, r2, hne _ (by omega)]
      · rw [List.getElem?_eq_none (by omega), List.getElem?_eq_none (by omega)]
theorem zrow_rowOf (z : List Value) (hz : z ≠ []) (n : Nat) : zrow z (n * z.length) = rowOf (fun _ => z) n := by
  have hl := rowOf_len (f := fun _ => z) (s := z.length) (fun _ => rfl) n
  have hs : 0 < z.length := List.length_pos_iff.2 hz
  apply List.ext_getElem?
  intro j
  unfold zrow
  rw [List.getElem?_map]
  rcases Nat.lt_or_ge j (n * z.length) with hj | hj
  · rw [List.getElem?_range hj]
    have hq : j / z.length < n := (Nat.div_lt_iff_lt_mul hs).2 hj
    have hm := Nat.mod_lt j hs
    have hd := Nat.div_add_mod j z.length
    have h2 := congrArg (fun l => l[j % z.length]?) (rowOf_at (f := fun _ => z) (s := z.length) (fun _ => rfl) hq)
    simp only [List.getElem?_take, List.getElem?_drop, hm, if_true] at h2
    rw [Nat.mul_comm _ z.length, hd] at h2
    rw [h2]
    simp [List.getD_eq_getElem?_getD, hm]
  · rw [List.getElem?_eq_none (l := List.range (n * z.length)) (by simpa using hj), List.getElem?_eq_none (by omega)]
    rfl

/-! ### What is kept, under other names -/
def rOf (ks : List Nat) (big : Nat) (b : Nat) : Nat := match ks[b]? with | some x => x | none => b + big
def pickH (ks : List Nat) (σ : AHeap) : AHeap := ks.map fun k => σ.getD k .dead
def plainO : AObj → Prop
  | .row vs _ _ => vs.all plain = true
  | _ => True
theorem plainO.ren {r : Nat → Nat} {o : AObj} (h : plainO o) : renO r o = o := by
  cases o with
  | row vs rw' opn =>
    simp only [renO]
    congr 1
    have key : ∀ l : List Value, l.all plain = true → l.map (renV r 3) = l := by
      intro l
      induction l with
      | nil => intro _; rfl
      | cons v l ih =>
        intro h
        rw [List.all_cons, Bool.and_eq_true] at h
        rw [List.map_cons, plain_inert h.1, ih h.2]
    exact key vs h
  | dead => rfl
  | iter s p => rfl

theorem emb_of_map {r : Nat → Nat} : ∀ (mask : List Bool) (fr1 fr' : List Value), maskF mask fr1 = fr'.map (renV r 3) → FrEmb r fr' fr1
  | _, [], [], _ => trivial
  | mask, [], b :: bs, h => by cases mask <;> simp [maskF] at h
  | mask, a :: as, [], h => by cases mask <;> simp [maskF] at h
  | [], a :: as, b :: bs, h => by
    simp only [maskF, List.map_cons, List.cons.injEq] at h
    have hm : maskF [] as = as.map fun _ => undef := by cases as <;> rfl
    refine ⟨.inl (isU_ren (by rw [← h.1]; rfl)), emb_of_map [] as bs (by rw [hm]; exact h.2)⟩
  | m :: ms, a :: as, b :: bs, h => by
    simp only [maskF, List.map_cons, List.cons.injEq] at h
    refine ⟨?_, emb_of_map ms as bs h.2⟩
    cases m
    · left; exact isU_ren (by rw [← h.1]; rfl)
    · right; exact h.1

theorem Sim.keepR {C : Cfg} {c : Code} {fr fr1 fr' : List Value} {σ0 σ σ1 σ' : AHeap} {e : Exit} {n0 : Nat} (h : Sim C n0 c fr σ e fr1 σ1) (hs : Stood C.ex σ0) (hn : n0 ≤ σ.length) (ks : List Nat) (mask : List Bool)
    (hn0 : ks.take n0 = List.range n0) (hk0 : ks.take σ0.length = List.range σ0.length) (hlt : ks.all (fun k => Nat.blt k σ1.length) = true) (hnd : ks.Nodup) (hσ : pickH ks σ1 = σ') (hfix : σ'.take σ0.length = σ0)
    (hp : ∀ b o, σ0.length ≤ b → σ'[b]? = some o → plainO o) (hf : maskF mask fr1 = fr'.map (renV (rOf ks σ1.length) 3)) : Sim C n0 c fr σ e fr' σ' := by
  have hlen : σ'.length = ks.length := by rw [← hσ]; simp [pickH]
  have hget : ∀ (b k : Nat), ks[b]? = some k → σ'[b]? = some (σ1.getD k .dead) ∧ k < σ1.length := by
    intro b k hb
    refine ⟨by rw [← hσ]; simp [pickH, hb], ?_⟩
    have := List.all_eq_true.1 hlt k (List.mem_of_getElem? hb)
    simpa [Nat.blt_eq] using this
  have hfixr : ∀ (m : Nat), ks.take m = List.range m → ∀ b, b < m → rOf ks σ1.length b = b ∧ b < ks.length := by
    intro m hm b hb
    have h1 : (ks.take m)[b]? = some b := by rw [hm, List.getElem?_range hb]
    rw [List.getElem?_take, if_pos hb] at h1
    exact ⟨by unfold rOf; rw [h1], lt_of_some h1⟩
  have hn0l : n0 ≤ ks.length := by
    rcases Nat.eq_zero_or_pos n0 with h0 | h0
    · omega
    · have := (hfixr n0 hn0 (n0 - 1) (by omega)).2; omega
  have hk0l : σ0.length ≤ ks.length := by
    rcases Nat.eq_zero_or_pos σ0.length with h0 | h0
    · omega
    · have := (hfixr _ hk0 (σ0.length - 1) (by omega)).2; omega
  refine h.embN (r := rOf ks σ1.length) hs hn (by omega) (fun b hb => (hfixr n0 hn0 b hb).1) ⟨by omega, fun b hb => ?_, fun b hb => (hfixr _ hk0 b hb).1, fun b b' o o' hb hb' _ _ e => ?_, fun b o hb hl => ?_⟩ (emb_of_map mask fr1 fr' hf)
  · unfold rOf
    rw [List.getElem?_eq_none (by omega)]
    simp only; omega
  · have h1 := lt_of_some hb
    have h2 := lt_of_some hb'
    obtain ⟨k, hk⟩ : ∃ k, ks[b]? = some k := ⟨_, List.getElem?_eq_getElem (by omega)⟩
    obtain ⟨k', hk'⟩ : ∃ k, ks[b']? = some k := ⟨_, List.getElem?_eq_getElem (by omega)⟩
    unfold rOf at e
    rw [hk, hk'] at e
    simp only at e
    subst e
    exact (List.getElem?_inj (lt_of_some hk) hnd).1 (hk.trans hk'.symm)
  · have h1 := lt_of_some hb
    obtain ⟨k, hk⟩ : ∃ k, ks[b]? = some k := ⟨_, List.getElem?_eq_getElem (by omega)⟩
    obtain ⟨g1, g2⟩ := hget b k hk
    rw [hb] at g1
    have hk1 : σ1[k]? = some o := by
      cases g1
      rw [List.getD_eq_getElem?_getD, List.getElem?_eq_getElem g2]
      rfl
    rcases Nat.lt_or_ge b σ0.length with h' | h'
    · left
      refine ⟨h', by rw [← hfix, List.getElem?_take, if_pos h']; exact hb, ?_⟩
      have := (hfixr _ hk0 b h').1
      unfold rOf at this
      rw [hk] at this
      simp only at this
      rw [← this]; exact hk1
    · right
      have : rOf ks σ1.length b = k := by unfold rOf; rw [hk]
      rw [this, (hp b o h' hb).ren]
      exact hk1
end Go.Lk
end

section
/- A function that writes into rows: what stands elsewhere is as it was. -/
namespace Go.Lk
set_option linter.unusedSimpArgs false
set_option linter.unusedVariables false

theorem Stood.none {ex : Bool} {σ : AHeap} (h : Stood ex σ) : Stood ex [] := by
  obtain ⟨B, μ, w, h⟩ := h
  exact ⟨B, [], w, rfl, h.hB, fun b o hb => by simp at hb, fun b o e hb => by simp at hb, fun b b' o o' e e' hb => by simp at hb⟩
/-- Is the small heap's block k one that may be written? -/
def wrk (σ0 : AHeap) (k : Nat) : Bool := match σ0[k]? with | some (.row _ true _) => true | _ => false
theorem wrk_of {σ0 : AHeap} {k : Nat} {vs : List Value} {opn : Option Nat} (h : σ0[k]? = some (.row vs true opn)) : wrk σ0 k = true := by unfold wrk; rw [h]
theorem wrk_row {σ0 : AHeap} {k : Nat} (h : wrk σ0 k = true) : ∃ vs opn, σ0[k]? = some (.row vs true opn) := by
  unfold wrk at h
  split at h
  · rename_i vs opn hk; exact ⟨_, _, hk⟩
  · cases h

/-- The small heap's rows are rows of the great one. -/
structure Part (σ0 : AHeap) (r : Nat → Nat) (σ : AHeap) : Prop where
  row : ∀ b o, σ0[b]? = some o → ∃ vs rw rw' opn, o = .row vs rw opn ∧ σ[r b]? = some (.row vs rw' opn) ∧ (rw = true → rw' = true) ∧ vs.all plain = true
  inj : ∀ b b', b < σ0.length → b' < σ0.length → r b = r b' → b = b'
  out : ∀ b, σ0.length ≤ b → σ.length ≤ r b

/-- What the small call must not touch. -/
def rest (B : Nat → Prop) (μ : List (Option Ent)) (σ0 : AHeap) (r : Nat → Nat) (w : World) : Nat → Prop :=
  fun c => B c ∨ (c < w.heap.size ∧ ∀ k e, wrk σ0 k = true → μ[r k]? = some (some e) → e.cb ≠ c)

theorem Part.back {ex : Bool} {B : Nat → Prop} {μ : List (Option Ent)} {σ0 σ : AHeap} {w : World} {r : Nat → Nat} (h : HR ex B μ σ w) (hs : Part σ0 r σ) : ∀ b e, μ[r b]? = some (some e) → (renM μ r σ0.length)[b]? = some (some e) := by
  intro b e hb
  refine renM_back ?_ hb
  rcases Nat.lt_or_ge b σ0.length with h' | h'
  · exact h'
  · have := hs.out b h'
    have := lt_of_some hb
    have := h.len
    omega

theorem Part.heap {ex : Bool} {B : Nat → Prop} {μ : List (Option Ent)} {σ0 σ : AHeap} {w : World} {r : Nat → Nat} (h : HR ex B μ σ w) (hs : Part σ0 r σ) : HR ex (rest B μ σ0 r w) (renM μ r σ0.length) σ0 w := by
  refine ⟨by simp [renM], fun k hk => ?_, fun b o hb hl => ?_, fun b o e hb he => ?_, fun b b' o o' e e' hb hb' he he' ho hl hc => ?_⟩
  · rcases hk with hk | hk
    · exact h.hB k hk
    · exact hk.1
  · obtain ⟨vs, rw, rw', opn, rfl, h2, h3, h4⟩ := hs.row b o hb
    obtain ⟨e, he⟩ := h.has _ _ h2 rfl
    exact ⟨e, hs.back h b e he⟩
  · obtain ⟨vs, rw, rw', opn, rfl, h2, h3, h4⟩ := hs.row b o hb
    obtain ⟨_, hm⟩ := renM_some he
    obtain ⟨g0, g1, c, el, lo, hi, g2, g3, g4, g5⟩ := h.obj _ _ _ h2 hm
    refine ⟨g0, g1, c, el, lo, hi, g2, g3, g4.plain_to h4, fun hw => ⟨?_, (g5 (h3 hw)).2⟩⟩
    rintro (hb1 | hb1)
    · exact (g5 (h3 hw)).1 hb1
    · subst hw
      exact hb1.2 b e (wrk_of hb) hm rfl
  · obtain ⟨vs, rw, rw', opn, rfl, h2, h3, h4⟩ := hs.row b o hb
    obtain ⟨vs2, rw2, rw2', opn2, rfl, k2, k3, k4⟩ := hs.row b' o' hb'
    obtain ⟨_, hm⟩ := renM_some he
    obtain ⟨_, hm'⟩ := renM_some he'
    have hw : rw = true := by simpa [AObj.owned] using ho
    have := h.inj _ _ _ _ _ _ h2 k2 hm hm' (by simp [AObj.owned, h3 hw]) rfl hc
    exact hs.inj _ _ (lt_of_some hb) (lt_of_some hb') this

/-- A function that writes into rows and hands out what is plain. -/
theorem CallR.frameW {P : Program} {ex : Bool} {f : FuncId} {args0 args : List Value} {σ0 σ0' σ σ' : AHeap} {v : Value} {r : Nat → Nat} (hs : Part σ0 r σ) (ha : args0.map (renV r 3) = args)
    (h : CallR P ex f args0 σ0 v σ0') (hv : plain v = true) (hl : σ'.length = σ.length)
    (hσ : ∀ b o, σ'[b]? = some o → o = .dead ∨ (σ[b]? = some o ∧ ∀ k, wrk σ0 k = true → r k ≠ b) ∨ (∃ k us rw2 opn2, r k = b ∧ wrk σ0 k = true ∧ σ0'[k]? = some o ∧ o = .row us rw2 opn2 ∧ us.all plain = true)) : CallR P ex f args σ v σ' := by
  intro B μ w cargs hr hargs
  subst ha
  refine (h (rest B μ σ0 r w) _ w cargs (hs.heap hr) (hargs.ren' (hs.back hr))).mono ?_
  rintro cv w' ⟨μ', q1, q2, q3, q4⟩
  have hoff : ∀ (b : Nat) (o : AObj) (e : Ent), σ[b]? = some o → o.live = true → μ[b]? = some (some e) → (∀ k, wrk σ0 k = true → r k ≠ b) → w'.heap[e.cb]? = w.heap[e.cb]? := by
    intro b o e hb hlv he hk
    refine q4.block _ (.inr ⟨(hr.obj b o e hb he).lt hlv, fun k e' hw hm hc => ?_⟩)
    obtain ⟨vs, opn, hk0⟩ := wrk_row hw
    obtain ⟨vs', rw, rw', opn', h1, h2, h3, h4⟩ := hs.row k _ hk0
    cases h1
    exact hk k hw (hr.inj _ _ _ _ _ _ h2 hb hm he (by simp [AObj.owned, h3 rfl]) hlv hc)
  have hnew : ∀ (k : Nat) (e : Ent), k < σ0.length → μ[r k]? = some (some e) → μ'[k]? = some (some e) := by
    intro k e hk he
    rw [q3 k (by simp [renM]; exact hk)]
    exact hs.back hr k e he
  -- what stood at b before
  have hwas : ∀ (b : Nat) (o : AObj), σ'[b]? = some o → o.live = true → ∃ (o0 : AObj), σ[b]? = some o0 ∧ o0.live = true ∧ (o.owned = true → o0.owned = true) := by
    intro b o hb hlv
    rcases hσ b o hb with rfl | ⟨h1, _⟩ | ⟨k, us, rw2, opn2, rfl, hw, h1, _, _⟩
    · cases hlv
    · exact ⟨o, h1, hlv, id⟩
    · obtain ⟨vs, opn, hk0⟩ := wrk_row hw
      obtain ⟨vs', rw, rw', opn', h2, h3, h4, h5⟩ := hs.row k _ hk0
      cases h2
      exact ⟨_, h3, rfl, fun _ => by simp [AObj.owned, h4 rfl]⟩
  refine ⟨μ, q1.plain_ren hv, ⟨by rw [hl]; exact hr.len, fun k hk => Nat.lt_of_lt_of_le (hr.hB k hk) q4.size, fun b o hb hlv => ?_, fun b o e hb he => ?_, fun b b' o o' e e' hb hb' he he' ho hlv hc => ?_⟩, Ext.refl _, ⟨q4.os, q4.tape, q4.output, q4.size, fun k hk => q4.block k (.inl hk)⟩⟩
  · obtain ⟨o0, h1, h2, _⟩ := hwas b o hb hlv
    exact hr.has b o0 h1 h2
  · rcases hσ b o hb with rfl | ⟨h1, h2⟩ | ⟨k, us, rw2, opn2, rfl, hw, h1, rfl, hp⟩
    · trivial
    · exact (hr.obj b o e h1 he).mono (Sub.refl _) (fun hlv => hoff b o e h1 hlv he h2)
    · obtain ⟨vs, opn, hk0⟩ := wrk_row hw
      have hm := hnew k e (lt_of_some hk0) he
      obtain ⟨vs', rw, rw', opn', h2, h3, h4, h5⟩ := hs.row k _ hk0
      cases h2
      have hq := q2.obj k _ e h1 hm
      obtain ⟨g0, g1, c, el, lo, hi, g2, g3, g4, g5⟩ := hq
      obtain ⟨_, _, _, _, _, _, _, _, _, f5⟩ := hr.obj _ _ _ h3 he
      exact ⟨g0, g1, c, el, lo, hi, g2, g3, g4.plain_to hp, fun h => ⟨(f5 (h4 rfl)).1, (g5 h).2⟩⟩
  · have hlo : o.live = true := by cases o <;> first | rfl | cases ho
    obtain ⟨o0, h1, h2, h3⟩ := hwas b o hb hlo
    obtain ⟨o1, k1, k2, k3⟩ := hwas b' o' hb' hlv
    exact hr.inj b b' o0 o1 e e' h1 k1 he he' (h3 ho) k2 hc

/-! ### A row without spare room is one of unknown spare room -/
/-- Entries that say no more. -/
def Loose (μ μ2 : List (Option Ent)) : Prop := ∀ (b : Nat) (e : Ent), μ[b]? = some (some e) → ∃ (e2 : Ent), μ2[b]? = some (some e2) ∧ e2.cb = e.cb ∧ e2.base = e.base ∧ (e2 = e ∨ e.xtra = 0)
theorem VR.loose {ex : Bool} {μ μ2 : List (Option Ent)} (hs : Loose μ μ2) {a c : Value} (h : VR ex μ a c) : VR ex μ2 a c := by
  induction h with
  | bool b => exact .bool b
  | int k n => exact .int k n
  | float k x => exact .float k x
  | complex k x y => exact .complex k x y
  | string s => exact .string s
  | pnil => exact .pnil
  | ptr h => obtain ⟨e2, h2, h3, h4, _⟩ := hs _ _ h; rw [← h3, ← h4]; exact .ptr h2
  | snil l c => exact .snil l c
  | slice h hc =>
    obtain ⟨e2, h2, h3, h4, h5⟩ := hs _ _ h
    rw [← h3, ← h4]
    rcases h5 with rfl | h5
    · exact .slice h2 hc
    · refine .slice h2 (.inl ?_)
      rcases hc with hc | hc
      · exact hc
      · have := hc.2.2; omega
  | sempty h a => obtain ⟨e2, h2, _⟩ := hs _ _ h; exact .sempty h2 a
  | func fn hf hc _ _ ih1 ih2 => exact .func fn hf hc ih1 ih2
  | nilFunc => exact .nilFunc
  | iface t _ ih => exact .iface t ih
  | nilIface => exact .nilIface
  | agg hc _ ih => exact .agg hc ih
  | tuple hc _ ih => exact .tuple hc ih
  | mapNil => exact .mapNil

theorem CallR.loosen {P : Program} {ex : Bool} {f : FuncId} {args : List Value} {σ : AHeap} {v : Value} {vs : List Value} (z : Nat) (hp : vs.all plain = true) (h : CallR P ex f args σ v (σ ++ [.row vs true none])) :
    CallR P ex f args σ v (σ ++ [.row vs true (some z)]) := by
  intro B μ w cargs hr hargs
  refine (h B μ w cargs hr hargs).mono ?_
  rintro cv w' ⟨μ', q1, q2, q3, q4⟩
  have hln := q2.len
  have hl0 := hr.len
  simp only [List.length_append, List.length_singleton] at hln
  have hrow : (σ ++ [AObj.row vs true none])[σ.length]? = some (.row vs true none) := by simp
  obtain ⟨e, he⟩ := q2.has _ _ hrow rfl
  obtain ⟨g0, g1, c, el, lo, hi, g2, g3, g4, g5⟩ := q2.obj _ _ e hrow he
  have hx : e.xtra = 0 := g1
  have hset : ∀ b (e2 : Ent), (μ'.set σ.length (some { e with esz := z }))[b]? = some (some e2) → (b = σ.length ∧ e2 = { e with esz := z }) ∨ (b ≠ σ.length ∧ μ'[b]? = some (some e2)) := by
    intro b e2 hb
    rw [List.getElem?_set] at hb
    by_cases hk : σ.length = b
    · rw [if_pos hk, if_pos (by omega)] at hb
      cases hb; exact .inl ⟨hk.symm, rfl⟩
    · rw [if_neg hk] at hb; exact .inr ⟨fun h => hk h.symm, hb⟩
  have hself : (μ'.set σ.length (some { e with esz := z }))[σ.length]? = some (some { e with esz := z }) := by
    rw [List.getElem?_set, if_pos rfl, if_pos (by omega)]
  have hls : Loose μ' (μ'.set σ.length (some { e with esz := z })) := by
    intro b e1 hb
    by_cases hk : b = σ.length
    · subst hk
      rw [he] at hb
      cases hb
      exact ⟨_, hself, rfl, rfl, .inr hx⟩
    · exact ⟨e1, by rw [List.getElem?_set, if_neg (fun h => hk h.symm)]; exact hb, rfl, rfl, .inl rfl⟩
  have hold : ∀ (b : Nat) (o : AObj), (σ ++ [AObj.row vs true (some z)])[b]? = some o → (b = σ.length ∧ o = .row vs true (some z)) ∨ (b < σ.length ∧ (σ ++ [AObj.row vs true none])[b]? = some o) := by
    intro b o hb
    rcases Nat.lt_or_ge b σ.length with h' | h'
    · right
      rw [List.getElem?_append_left h'] at hb ⊢
      exact ⟨h', hb⟩
    · left
      have hlt := lt_of_some hb
      simp only [List.length_append, List.length_singleton] at hlt
      have e0 : b = σ.length := by omega
      subst e0
      simp at hb
      exact ⟨rfl, hb.symm⟩
  -- what an object of the new heap was in the other one
  have was : ∀ (b : Nat) (o : AObj) (e2 : Ent), (σ ++ [AObj.row vs true (some z)])[b]? = some o → (μ'.set σ.length (some { e with esz := z }))[b]? = some (some e2) →
      ∃ (o1 : AObj) (e1 : Ent), (σ ++ [AObj.row vs true none])[b]? = some o1 ∧ μ'[b]? = some (some e1) ∧ e1.cb = e2.cb ∧ o1.owned = o.owned ∧ o1.live = o.live := by
    intro b o e2 hb hm
    rcases hold b o hb with ⟨rfl, rfl⟩ | ⟨hlt, h1⟩
    · rcases hset _ _ hm with ⟨_, rfl⟩ | ⟨hne, _⟩
      · exact ⟨_, e, hrow, he, rfl, rfl, rfl⟩
      · exact absurd rfl hne
    · rcases hset _ _ hm with ⟨rfl, _⟩ | ⟨_, h2⟩
      · omega
      · exact ⟨o, e2, h1, h2, rfl, rfl, rfl⟩
  refine ⟨μ'.set σ.length (some { e with esz := z }), q1.loose hls, ⟨by simp [hln], q2.hB, fun b o hb hlv => ?_, fun b o e2 hb hm => ?_, fun b b' o o' e1 e2 hb hb' hm hm' ho hlv hc => ?_⟩, fun b hb => ?_, q4⟩
  · rcases hold b o hb with ⟨rfl, rfl⟩ | ⟨hlt, h1⟩
    · exact ⟨_, hself⟩
    · obtain ⟨e1, h2⟩ := q2.has b o h1 hlv
      exact ⟨e1, by rw [List.getElem?_set, if_neg (by omega)]; exact h2⟩
  · rcases hold b o hb with ⟨rfl, rfl⟩ | ⟨hlt, h1⟩
    · rcases hset _ _ hm with ⟨_, rfl⟩ | ⟨hne, _⟩
      · refine ⟨g0, rfl, c, el, lo, hi, g2, ?_, g4.plain_to hp, g5⟩
        show e.base + vs.length + e.xtra * z ≤ c.size
        rw [hx] at g3 ⊢
        simpa using g3
      · exact absurd rfl hne
    · rcases hset _ _ hm with ⟨rfl, _⟩ | ⟨_, h2⟩
      · omega
      · have hq := q2.obj b o e2 h1 h2
        cases o with
        | dead => trivial
        | iter s p => exact hq
        | row us rw2 opn2 =>
          obtain ⟨k0, k1, c', el', lo', hi', k2, k3, k4, k5⟩ := hq
          exact ⟨k0, k1, c', el', lo', hi', k2, k3, ⟨k4.1, fun i a ha => let ⟨y, hy, hv⟩ := k4.2 i a ha; ⟨y, hy, hv.loose hls⟩⟩, k5⟩
  · obtain ⟨o1, e1', h1, h2, h3, h4, h5⟩ := was b o e1 hb hm
    obtain ⟨o2, e2', k1, k2, k3, k4, k5⟩ := was b' o' e2 hb' hm'
    exact q2.inj b b' o1 o2 e1' e2' h1 k1 h2 k2 (by rw [h4]; exact ho) (by rw [k5]; exact hlv) (by rw [h3, k3]; exact hc)
  · rw [List.getElem?_set, if_neg (by omega)]
    exact q3 b hb
end Go.Lk
end
