/- The pure operations: the theorem. -/
import Derived.Test.YtmomainjlncogaaLkT
namespace Go.Lk
set_option linter.unusedSimpArgs false
set_option linter.unusedVariables false

variable {ex : Bool} {μ : List (Option Ent)} {P : Program}

/-- As okv, for an operation. -/
def okn (P : Program) (ex : Bool) (μ : List (Option Ent)) (s : Sem Next) (v : Value) : Prop :=
  ∀ w : World, ∃ (n : Nat) (v' : Value), s.run P w = .ok (.value v') { w with drawn := w.drawn + n } ∧ VR ex μ v v'

theorem okv.next {s : Sem Value} {v : Value} (h : okv P ex μ s v) : Lk.okn P ex μ (do Pure.pure (Next.value (← s))) v := by
  intro w
  obtain ⟨n, v', h1, h2⟩ := h w
  exact ⟨n, v', by simp [h1], h2⟩
theorem okn.pure {v v' : Value} (hv : VR ex μ v v') : Lk.okn P ex μ (Pure.pure (Next.value v')) v := fun w => ⟨0, v', rfl, hv⟩

theorem len_sound {tys : Array TypeId} {t : TypeId} {ts : List TypeId} {x : Value} {xs : List Value} {ys : Array Value} {ty : TypeId} {v : Value} (ht : tys.toList = t :: ts)
    (h : aLen P t x = some v) (hx : VRs ex μ (x :: xs) ys.toList) : okv P ex μ (Builtin.len_ tys ty ys) v := by
  obtain ⟨y, hy, hv⟩ := hx.2 0 x rfl
  rw [Array.getElem?_toList] at hy
  have ht0 : tys[0]? = some t := by rw [← Array.getElem?_toList, ht]; rfl
  unfold aLen at h
  split at h
  · rename_i hu; cases h; rw [hv.string_of] at hy
    refine .of (fun w => ?_) (.int _ _)
    simp [Builtin.len_, ht0, hy, run_underlying hu, goInt]
  · rename_i hu; cases h
    refine .of (fun w => ?_) (.int _ _)
    simp [Builtin.len_, ht0, hy, run_underlying hu, goInt]
  · rename_i hu; cases h
    cases hv <;> refine .of (fun w => ?_) (.int _ _) <;> simp [Builtin.len_, ht0, hy, run_underlying hu, goInt]
  · cases h

theorem fmax_cn (x y : Nat) : fmax (can x) (can y) = (match dbl.order x y with
    | none => qnan | some .lt => can y | some .gt => can x | some .eq => if (dbl.read x).neg then can y else can x) := by
  unfold fmax
  rw [order_can]
  cases ho : dbl.order x y with
  | none => rfl
  | some o =>
    cases o <;> first | rfl | skip
    have hx : isNaN x = false := by
      cases hx : isNaN x
      · rfl
      · obtain ⟨s, t, e⟩ := read_nan hx
        unfold Ieee.Format.order at ho; rw [e, order_nan_l] at ho; cases ho
    rw [can_of_num hx]
theorem fmin_cn (x y : Nat) : fmin (can x) (can y) = (match dbl.order x y with
    | none => qnan | some .lt => can x | some .gt => can y | some .eq => if (dbl.read x).neg then can x else can y) := by
  unfold fmin
  rw [order_can]
  cases ho : dbl.order x y with
  | none => rfl
  | some o =>
    cases o <;> first | rfl | skip
    have hx : isNaN x = false := by
      cases hx : isNaN x
      · rfl
      · obtain ⟨s, t, e⟩ := read_nan hx
        unfold Ieee.Format.order at ho; rw [e, order_nan_l] at ho; cases ho
    rw [can_of_num hx]

theorem can_cut (m : Bool) (a b t : Nat) : can (Question.cut (.nanMinMax .f64 m a b) t) = qnan := can_of_nan (isNaN_drawn t)

def maxS (a b : Nat) : Option Ordering → Sem Value
  | none => do pure (Value.float .f64 (← choose (.nanMinMax .f64 true a b)))
  | some .lt => pure (Value.float .f64 b)
  | some .gt => pure (Value.float .f64 a)
  | some .eq => pure (Value.float .f64 (if (dbl.read a).neg then b else a))
theorem max2_eq (a b : Nat) : Builtin.max2 (.float .f64 a) (.float .f64 b) = maxS a b (dbl.order a b) := by
  unfold Builtin.max2 maxS
  rfl
def minS (a b : Nat) : Option Ordering → Sem Value
  | none => do pure (Value.float .f64 (← choose (.nanMinMax .f64 false a b)))
  | some .lt => pure (Value.float .f64 a)
  | some .gt => pure (Value.float .f64 b)
  | some .eq => pure (Value.float .f64 (if (dbl.read a).neg then a else b))
theorem min2_eq (a b : Nat) : Builtin.min2 (.float .f64 a) (.float .f64 b) = minS a b (dbl.order a b) := by
  unfold Builtin.min2 minS
  rfl

theorem okv.drawn {q : Question} (hq : q.forced = false) (hn : ∀ t, can (q.cut t) = qnan) : Lk.okv P false μ (do Pure.pure (Value.float .f64 (← choose q))) (.float .f64 qnan) := by
  intro w
  refine ⟨1, .float .f64 (q.cut (w.tape w.drawn q)), by simp [hq], ?_⟩
  have := VR.float (ex := false) (μ := μ) .f64 (q.cut (w.tape w.drawn q))
  rwa [show cn false (q.cut (w.tape w.drawn q)) = qnan from hn _] at this

theorem max2_sound {x y z x' y' : Value} (h : aMax2 ex x y = some z) (hx : VR ex μ x x') (hy : VR ex μ y y') : okv P ex μ (Builtin.max2 x' y') z := by
  unfold aMax2 at h
  split at h
  · cases h; rw [hx.int_of, hy.int_of]; exact .of (fun _ => rfl) (.int _ _)
  · cases ex <;> cases h
    obtain ⟨a, rfl, rfl⟩ := hx.float_of
    obtain ⟨b, rfl, rfl⟩ := hy.float_of
    simp only [cn, cond_false]
    rw [fmax_cn, max2_eq]
    cases ho : dbl.order a b with
    | none => exact okv.drawn rfl (can_cut _ _ _)
    | some o =>
      cases o
      · exact okv.pure (.float _ _)
      · simp only
        split
        · rename_i h; exact okv.of (v' := .float .f64 b) (fun w => by simp only [maxS, h, if_true]; rfl) (.float _ _)
        · rename_i h; exact okv.of (v' := .float .f64 a) (fun w => by simp only [maxS, h, if_false]; rfl) (.float _ _)
      · exact okv.pure (.float _ _)
  · cases h

theorem min2_sound {x y z x' y' : Value} (h : aMin2 ex x y = some z) (hx : VR ex μ x x') (hy : VR ex μ y y') : okv P ex μ (Builtin.min2 x' y') z := by
  unfold aMin2 at h
  split at h
  · cases h; rw [hx.int_of, hy.int_of]; exact .of (fun _ => rfl) (.int _ _)
  · cases ex <;> cases h
    obtain ⟨a, rfl, rfl⟩ := hx.float_of
    obtain ⟨b, rfl, rfl⟩ := hy.float_of
    simp only [cn, cond_false]
    rw [fmin_cn, min2_eq]
    cases ho : dbl.order a b with
    | none => exact okv.drawn rfl (can_cut _ _ _)
    | some o =>
      cases o
      · exact okv.pure (.float _ _)
      · simp only
        split
        · rename_i h; exact okv.of (v' := .float .f64 a) (fun w => by simp only [minS, h, if_true]; rfl) (.float _ _)
        · rename_i h; exact okv.of (v' := .float .f64 b) (fun w => by simp only [minS, h, if_false]; rfl) (.float _ _)
      · exact okv.pure (.float _ _)
  · cases h

theorem fold2_sound {f : Value → Value → Option Value} {g : Value → Value → Sem Value} (hf : ∀ {x y z x' y'}, f x y = some z → VR ex μ x x' → VR ex μ y y' → okv P ex μ (g x' y') z) :
    ∀ (ys ys' : List Value) (x x' z : Value), fold2 f x ys = some z → VR ex μ x x' → VRs ex μ ys ys' → okv P ex μ (ys'.foldlM g x') z := by
  intro ys
  induction ys with
  | nil =>
    intro ys' x x' z h hx hy
    have : ys' = [] := by have := hy.1; simpa using this.symm
    subst this
    cases h
    exact okv.pure hx
  | cons y ys ih =>
    intro ys' x x' z h hx hy
    cases ys' with
    | nil => have := hy.1; simp at this
    | cons y' ys' =>
      unfold fold2 at h
      split at h
      · rename_i u hu
        have h1 : VR ex μ y y' := by obtain ⟨c, hc, hv⟩ := hy.2 0 y rfl; cases hc; exact hv
        have h2 : VRs ex μ ys ys' := ⟨by have := hy.1; simpa using this, fun i a ha => by simpa using hy.2 (i + 1) a (by simpa using ha)⟩
        intro w
        obtain ⟨n1, u', e1, r1⟩ := hf hu hx h1 w
        obtain ⟨n2, z', e2, r2⟩ := ih ys' u u' z h r1 h2 { w with drawn := w.drawn + n1 }
        refine ⟨n1 + n2, z', ?_, r2⟩
        simp [List.foldlM_cons, e1, e2, Nat.add_assoc]
      · cases h

theorem VRs.one_of {x : Value} {ys : List Value} (h : VRs ex μ [x] ys) : ∃ y, ys = [y] ∧ VR ex μ x y := by
  obtain ⟨y, hy, hv⟩ := h.2 0 x rfl
  have := h.1
  cases ys with
  | nil => simp at this
  | cons z zs =>
    cases zs with
    | nil => cases hy; exact ⟨_, rfl, hv⟩
    | cons _ _ => simp at this
theorem VRs.cons_of {x : Value} {xs ys : List Value} (h : VRs ex μ (x :: xs) ys) : ∃ y ys', ys = y :: ys' ∧ VR ex μ x y ∧ VRs ex μ xs ys' := by
  cases ys with
  | nil => have := h.1; simp at this
  | cons y ys' =>
    obtain ⟨c, hc, hv⟩ := h.2 0 x rfl
    cases hc
    exact ⟨y, ys', rfl, hv, by have := h.1; simpa using this, fun i a ha => by simpa using h.2 (i + 1) a (by simpa using ha)⟩
theorem arr_of {ys : Array Value} {l : List Value} (h : ys.toList = l) : ys = l.toArray := by rw [← h]

theorem builtin_sound {b : Builtin} {tys : Array TypeId} {xs : List Value} {ys : Array Value} {ty : TypeId} {cs : Array Bool} {v : Value}
    (h : aBuiltin P ex b tys.toList xs = some v) (hx : VRs ex μ xs ys.toList) : okn P ex μ (builtin b tys ty cs ys) v := by
  unfold aBuiltin at h
  split at h
  · rename_i t ts x xs' ht
    exact (len_sound ht h hx).next
  · cases h
    obtain ⟨y, hy, hv⟩ := hx.one_of
    rw [arr_of hy]
    obtain ⟨a, b, rfl, rfl, rfl⟩ := hv.complex_of
    exact okn.pure (.float _ _)
  · cases h
    obtain ⟨y, hy, hv⟩ := hx.one_of
    rw [arr_of hy]
    obtain ⟨a, b, rfl, rfl, rfl⟩ := hv.complex_of
    exact okn.pure (.float _ _)
  · cases h
    obtain ⟨y, ys', hy, hv, hr⟩ := hx.cons_of
    obtain ⟨z, rfl, hz⟩ := hr.one_of
    rw [arr_of hy]
    obtain ⟨a, rfl, rfl⟩ := hv.float_of
    obtain ⟨b, rfl, rfl⟩ := hz.float_of
    exact okn.pure (.complex _ _ _)
  · obtain ⟨y, ys', hy, hv, hr⟩ := hx.cons_of
    refine okv.next (s := Builtin.max_ tys ty ys) ?_
    unfold Builtin.max_
    rw [hy]
    exact fold2_sound (fun h hx hy => max2_sound h hx hy) _ _ _ _ _ h hv hr
  · obtain ⟨y, ys', hy, hv, hr⟩ := hx.cons_of
    refine okv.next (s := Builtin.min_ tys ty ys) ?_
    unfold Builtin.min_
    rw [hy]
    exact fold2_sound (fun h hx hy => min2_sound h hx hy) _ _ _ _ _ h hv hr
  · cases h

theorem mapO_sound {fr : List Value} {a : Act} (hf : FrR ex μ fr a.tmps) : ∀ {xs : List Operand} {vs : List Value}, mapO (aev fr) xs = some vs → VRs ex μ vs (xs.map a.eval)
  | [], vs, h => by cases h; exact .nil
  | x :: xs, vs, h => by
    unfold mapO at h
    split at h
    · rename_i v vs' h1 h2
      cases h
      exact .cons (aev_sound hf h1) (mapO_sound hf h2)
    · cases h

theorem optO_sound {fr : List Value} {a : Act} (hf : FrR ex μ fr a.tmps) {x : Option Operand} {v : Option Value} (h : optO (aev fr) x = some v) : OR ex μ v (x.map a.eval) := by
  cases x with
  | none => cases h; trivial
  | some x =>
    unfold optO at h
    simp only at h
    split at h
    · rename_i v' h1; cases h; exact aev_sound hf h1
    · cases h

theorem nil_sound {x y v : Value} (h : aNil x = some v) (hx : VR ex μ x y) : v = x ∧ ∀ w, (match y with
    | .pointer none | .nilIface | .nilFunc => runtimePanic .nilDeref
    | .func (.method name) first captured =>
      match (first[0]? : Option Value) with
      | some .nilIface => runtimePanic .nilDeref
      | some (.iface t w) => do
        if (← nilAhead ((← program).types.size + Made.depth) t w name) != some false then
          unsupported (.noEntry "op/nilCheck.the method's receiver behind this interface value is a nil pointer, or cannot be seen to be none, and the arguments act or may panic (ledger 612)")
        pure (.value (.func (.method name) first captured))
      | _ => pure (.value (.func (.method name) first captured))
    | x => pure (.value x) : Sem Next).run P w = .ok (.value y) w := by
  unfold aNil at h
  split at h
  · cases h; cases hx; exact ⟨rfl, fun _ => rfl⟩
  · cases h; cases hx; exact ⟨rfl, fun _ => rfl⟩
  · cases h

theorem aPure_sound {fr : List Value} {a : Act} {o : Oper} {v : Value} (h : aPure P ex fr o.op = some v) (hf : FrR ex μ fr a.tmps) :
    okn P ex μ (execOp a.eval o) v := by
  obtain ⟨dst, op, ty, pos, after, guard⟩ := o
  unfold aPure at h
  simp only at h
  split at h
  · exact okn.pure (aev_sound hf h)
  · exact okn.pure (aev_sound hf h)
  · split at h
    · rename_i t hc
      have := (aev_sound hf hc).bool_of
      intro w
      refine ⟨0, bif t then a.eval _ else a.eval _, by simp only [execOp, this, asBool]; cases t <;> rfl, ?_⟩
      cases t
      · exact aev_sound hf h
      · exact aev_sound hf h
    · cases h
  · split at h
    · rename_i x' hx
      have hv := aev_sound hf hx
      obtain ⟨rfl, hr⟩ := nil_sound (P := P) h hv
      exact fun w => ⟨0, _, hr w, hv⟩
    · cases h
  · split at h
    · rename_i h1 h2
      exact (bin_sound h (aev_sound hf h1) (aev_sound hf h2) _ _).next
    · cases h
  · split at h
    · rename_i h1; exact (aUn_sound h (aev_sound hf h1)).next
    · cases h
  · split at h
    · rename_i h1; exact (conv_sound h (aev_sound hf h1)).next
    · cases h
  · split at h
    · rename_i v' d h1 hd
      split at h
      · cases h
      · rename_i hni
        cases h
        refine okv.next (.of (fun w => ?_) (.iface _ (aev_sound hf h1)))
        cases d <;> simp [Instr.makeInterface, run_underlying hd] at hni ⊢
    · cases h
  · split at h
    · rename_i h1 h2
      cases h
      have k1 := mapO_sound hf h1
      have k2 := mapO_sound hf h2
      refine okv.next (s := Instr.makeFunc _ _ _) (.of (fun w => rfl) ?_)
      obtain ⟨e1, j1⟩ := VRs.elems (ex := ex) (μ := μ) (c := List.toArray _) (c' := Array.map a.eval _) (by simpa using k1)
      obtain ⟨e2, j2⟩ := VRs.elems (ex := ex) (μ := μ) (c := List.toArray _) (c' := Array.map a.eval _) (by simpa using k2)
      exact .func _ e1 e2 j1 j2
    · cases h
  · split at h
    · rename_i h1 h2 h3 h4
      exact (slice_sound h (aev_sound hf h1) (optO_sound hf h2) (optO_sound hf h3) (optO_sound hf h4)).next
    · cases h
  · split at h
    · rename_i h1; exact (fieldAddr_sound h (aev_sound hf h1)).next
    · cases h
  · split at h
    · rename_i h1; exact (field_sound h (aev_sound hf h1)).next
    · cases h
  · split at h
    · rename_i h1 h2; exact (indexAddr_sound h (aev_sound hf h1) (aev_sound hf h2)).next
    · cases h
  · split at h
    · rename_i h1 h2; exact (index_sound h (aev_sound hf h1) (aev_sound hf h2)).next
    · cases h
  · split at h
    · rename_i vs h1
      have hv := aev_sound hf h1
      obtain ⟨vs', hv', hvs⟩ := hv.tuple_iff
      obtain ⟨y, hy, hr⟩ := hvs.2 _ v (by simpa using h)
      rw [Array.getElem?_toList] at hy
      refine okv.next (.of (v' := y) (fun w => ?_) hr)
      simp [Instr.extract, hv', hy]
    · cases h
  · split at h
    · rename_i h1
      have := mapO_sound hf h1
      exact builtin_sound (ys := Array.map a.eval _) h (by simpa using this)
    · cases h
  · cases h

end Go.Lk
