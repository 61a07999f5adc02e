/- Operations with calls, regions in the text's order, code. -/
import Derived.Test.YtmomainjlncogaaLkAA
namespace Go.Lk
set_option linter.unusedSimpArgs false
set_option linter.unusedVariables false

/-- What is known of the functions: which are pure (of their arguments alone), which leave the heap as it was. -/
structure Cfg where
  P : Program
  ex : Bool
  p : FuncId → Bool
  Gp : FuncId → List Value → Option Value
  q : FuncId → Bool
  G : FuncId → List Value → AHeap → Option (Value × AHeap)

/-- A call of a function by its number: an extern's value, or a body's ending. -/
def CallsTo (P : Program) (f : FuncId) (args : Array Value) (w : World) (R : Value → World → Prop) : Prop :=
  match (callFunc f args).run P w with
  | .ok (.value v) w' => R v w'
  | .ok (.enter g as) w' => Calls P g as w' fun e w'' => ∃ v, e = .returned v ∧ R v w''
  | _ => False

attribute [irreducible] CallsTo

def CallR (P : Program) (ex : Bool) (f : FuncId) (args : List Value) (σ : AHeap) (v : Value) (σ' : AHeap) : Prop :=
  ∀ (B : Nat → Prop) (μ : List (Option Ent)) (w : World) (cargs : Array Value), HR ex B μ σ w → VRs ex μ args cargs.toList →
    CallsTo P f cargs w fun cv w' => ∃ μ', VR ex μ' v cv ∧ HR ex B μ' σ' w' ∧ Ext μ μ' ∧ Blw B w w'

structure Cfg.Ok (C : Cfg) : Prop where
  gp : ∀ f args v, C.p f = true → C.Gp f args = some v → ∀ σ, CallR C.P C.ex f args σ v σ
  g : ∀ f args σ v σ', C.G f args σ = some (v, σ') → CallR C.P C.ex f args σ v σ'
  q : ∀ f args σ v σ', C.q f = true → C.G f args σ = some (v, σ') → σ' = σ
  mono : ∀ f args σ v σ', C.G f args σ = some (v, σ') → σ.length ≤ σ'.length
  mix : C.P.follows .mixedOrders = true

def isMem : Op → Bool
  | .load .. | .store .. | .alloc _ | .box .. | .build .. | .buildSlice .. | .makeSlice .. | .range .. | .next .. => true
  | .call { callee := .builtin .append, .. } | .call { callee := .builtin .copy, .. } => true
  | _ => false

def aCall (C : Cfg) (fr : List Value) (σ : AHeap) (f : Operand) (args : Array Operand) : Option (Value × AHeap) :=
  match aev fr f, mapO (aev fr) args.toList with
  | some (.func (.func g) first captured), some vs =>
    bif C.p g then
      match C.Gp g (first.toList ++ vs ++ captured.toList) with
      | some v => some (v, σ)
      | none => none
    else C.G g (first.toList ++ vs ++ captured.toList) σ
  | _, _ => none

def aOp (C : Cfg) (fr : List Value) (σ : AHeap) (o : Op) : Option (Value × AHeap) :=
  match o with
  | .call { callee := .value f, args, .. } => aCall C fr σ f args
  | o =>
    bif isMem o then aMem C.P fr σ o else
    match aPure C.P C.ex fr o with
    | some v => some (v, σ)
    | none => none

def putA (fr : List Value) (dst : Option Tmp) (v : Value) : List Value :=
  match dst with
  | some d => fr.set d v
  | none => fr

/-- Is an operation wanted? (none: that is not known.) -/
def wantedA (ops : Array Oper) (fr : List Value) (o : Oper) : Option Bool :=
  match o.guard with
  | none => some true
  | some (j, want) =>
    match (ops[j]?).bind (·.dst) with
    | none => some false
    | some d =>
      match fr[d]? with
      | none => some false
      | some (.bool b) => some (b == want)
      | some v => bif isU v then none else some false

def runOps (C : Cfg) (ops : Array Oper) : List Oper → List Value → AHeap → Option (List Value × AHeap)
  | [], fr, σ => some (fr, σ)
  | o :: rest, fr, σ =>
    match wantedA ops fr o with
    | some true =>
      match aOp C fr σ o.op with
      | some (v, σ') => runOps C ops rest (putA fr o.dst v) σ'
      | none => none
    | some false => runOps C ops rest (putA fr o.dst undef) σ
    | none => none

section
variable {C : Cfg} {μ μ' : List (Option Ent)} {B : Nat → Prop} {σ σ' : AHeap} {w w' : World}

theorem FrR.put {ex : Bool} {fr : List Value} {a : Act} {v v' : Value} (h : FrR ex μ fr a.tmps) (hv : VR ex μ v v') (dst : Option Tmp) :
    FrR ex μ (putA fr dst v) (a.put dst v').tmps := by
  cases dst with
  | none => exact h
  | some d =>
    refine ⟨by simp [putA, Act.put, h.1], fun i x hx => ?_⟩
    simp only [putA, Act.put] at hx ⊢
    rw [List.getElem?_set] at hx
    rw [Array.getElem?_setIfInBounds]
    split at hx
    · rename_i e
      rw [if_pos e]
      split at hx
      · rename_i hn; cases hx; exact ⟨v', by rw [if_pos (by rw [← h.1]; exact hn)], .inr hv⟩
      · cases hx
    · rename_i e
      rw [if_neg e]
      exact h.2 i x hx
theorem FrR.mono {ex : Bool} {fr : List Value} {tmps : Array Value} (hs : Sub μ μ') (h : FrR ex μ fr tmps) : FrR ex μ' fr tmps :=
  ⟨h.1, fun i x hx => let ⟨c, hc, hv⟩ := h.2 i x hx; ⟨c, hc, hv.imp id (VR.mono hs)⟩⟩

theorem aCall_sound (hC : C.Ok) {fr : List Value} {a : Act} {o : Oper} {f : Operand} {args : Array Operand} {tys : Array TypeId} {v : Value}
    (ho : o.op = .call { callee := .value f, args, argTypes := tys }) (h : aCall C fr σ f args = some (v, σ'))
    (hf : FrR C.ex μ fr a.tmps) (hr : HR C.ex B μ σ w) {K : Act → World → Prop} {Q : Exit → Act → World → Prop}
    (hK : ∀ v' w' μ', VR C.ex μ' v v' → HR C.ex B μ' σ' w' → Ext μ μ' → Blw B w w' → K (a.put o.dst v') w') : o.wp C.P a w K Q := by
  unfold aCall at h
  split at h
  · rename_i g first captured vs h1 h2
    obtain ⟨first', captured', hfv, v1, v2⟩ := (aev_sound hf h1).func_iff
    have hargs := mapO_sound hf h2
    have hR : CallR C.P C.ex g (first.toList ++ vs ++ captured.toList) σ v σ' := by
      cases hp : C.p g <;> rw [hp] at h <;> simp only [cond_true, cond_false] at h
      · exact hC.g _ _ _ _ _ h
      · split at h
        · rename_i v' hg; cases h; exact hC.gp _ _ _ hp hg σ
        · cases h
    have hcalls := hR B μ w (first' ++ args.map a.eval ++ captured') hr (by
      simp only [Array.toList_append, Array.toList_map]
      exact (v1.append hargs).append v2)
    unfold CallsTo at hcalls
    have hexec : execOp a.eval o = callFunc g (first' ++ args.map a.eval ++ captured') := by
      obtain ⟨dst, op, ty, pos, after, guard⟩ := o
      simp only at ho
      subst ho
      simp only [execOp, resolve, hfv, Deferred.ofValue]
      rfl
    unfold Oper.wp
    rw [hexec]
    split at hcalls
    · rename_i cv w1 hrun
      rw [hrun]
      obtain ⟨μ', q1, q2, q3, q4⟩ := hcalls
      exact hK _ _ _ q1 q2 q3 q4
    · rename_i g' as w1 hrun
      rw [hrun]
      refine Calls.mono hcalls ?_
      rintro e w2 ⟨cv, rfl, μ', q1, q2, q3, q4⟩
      exact hK _ _ _ q1 q2 q3 q4
    · exact hcalls.elim
  · cases h

theorem aOp_sound (hC : C.Ok) {fr : List Value} {a : Act} {o : Oper} {v : Value} (h : aOp C fr σ o.op = some (v, σ'))
    (hf : FrR C.ex μ fr a.tmps) (hr : HR C.ex B μ σ w) {K : Act → World → Prop} {Q : Exit → Act → World → Prop}
    (hK : ∀ v' w' μ', VR C.ex μ' v v' → HR C.ex B μ' σ' w' → Ext μ μ' → Blw B w w' → K (a.put o.dst v') w') : o.wp C.P a w K Q := by
  have fin : okh C.P C.ex B μ σ' (execOp a.eval o) v w → o.wp C.P a w K Q := by
    rintro ⟨nx, w', μ', h1, h2, h3, h4, h5⟩
    unfold Oper.wp
    rw [h1]
    cases nx with
    | value v' => exact hK _ _ _ h2 h3 h4 h5
    | skip => cases h2; exact hK _ _ _ VR.undef h3 h4 h5
    | _ => exact h2.elim
  unfold aOp at h
  split at h
  · rename_i ho; exact aCall_sound hC ho h hf hr hK
  · rename_i hno
    cases hm : isMem o.op <;> rw [hm] at h <;> simp only [cond_true, cond_false] at h
    · split at h
      · rename_i v' hp
        cases h
        exact fin ((aPure_sound hp hf).mem hr)
      · cases h
    · exact fin (aMem_sound h hf hr)

theorem wanted_eq {ex : Bool} {ops : Array Oper} {fr : List Value} {tmps : Array Value} (hf : FrR ex μ fr tmps) {o : Oper} {b : Bool} (h : wantedA ops fr o = some b) : Region.wanted o (yielded ops tmps) = b := by
  unfold wantedA at h
  unfold Region.wanted
  split at h
  · rename_i hg; rw [hg]; cases h; rfl
  · rename_i j want hg
    rw [hg]
    simp only
    unfold yielded
    cases hd : (ops[j]?).bind (·.dst) with
    | none => rw [hd] at h; cases h; rfl
    | some d =>
      rw [hd] at h
      simp only [Option.bind_some] at h ⊢
      split at h
      · rename_i hv
        cases h
        have : tmps[d]? = none := by
          rw [Array.getElem?_eq_none_iff]
          have := List.getElem?_eq_none_iff.1 hv
          rw [hf.1] at this
          exact this
        rw [this]; rfl
      · rename_i b' hv
        cases h
        obtain ⟨y, hy, hvy⟩ := hf.2 d _ hv
        rcases hvy with hu | hvy
        · cases hu
        · rw [hvy.bool_of] at hy
          rw [hy]; rfl
      · rename_i v hnb hv
        cases hu : isU v <;> rw [hu] at h <;> cases h
        obtain ⟨y, hy, hvy⟩ := hf.2 d _ hv
        rcases hvy with hu' | hvy
        · rw [hu] at hu'; cases hu'
        · rw [hy]
          cases hvy <;> first | rfl | (exact absurd rfl (hnb _))

/-- Operations in the text's order. -/
theorem runOps_sound (hC : C.Ok) {ops : Array Oper} {Q : Exit → Act → World → Prop} : ∀ (l : List Oper) (k : Nat) (fr fr' : List Value) (σ σ' : AHeap) (μ : List (Option Ent)) (a : Act) (w : World), (∀ j, l[j]? = ops[k + j]?) →
    runOps C ops l fr σ = some (fr', σ') → FrR C.ex μ fr a.tmps → HR C.ex B μ σ w →
    (∀ μ' tmps' w', FrR C.ex μ' fr' tmps' → HR C.ex B μ' σ' w' → Ext μ μ' → Blw B w w' → Q .normal ⟨tmps', a.defers⟩ w') →
    wpOps C.P ops Q (List.range' k l.length) a w := by
  intro l
  induction l with
  | nil =>
    intro k fr fr' σ σ' μ a w _ h hf hr hQ
    cases h
    exact hQ μ a.tmps w hf hr (Ext.refl _) (Blw.refl _ _)
  | cons o l ih =>
    intro k fr fr' σ σ' μ a w hl h hf hr hQ
    have h0 : ops[k]? = some o := by simpa using (hl 0).symm
    have hl' : ∀ j, l[j]? = ops[k + 1 + j]? := fun j => by have := hl (j + 1); simpa [Nat.add_assoc, Nat.add_comm 1 j] using this
    simp only [List.length_cons, List.range'_succ, wpOps, h0]
    unfold runOps at h
    have hput : ∀ (a : Act) (d : Option Tmp) (v : Value), (a.put d v).defers = a.defers := by intro a d v; cases d <;> rfl
    split at h
    · rename_i hw
      rw [wanted_eq hf hw]
      simp only [if_true]
      left
      split at h
      · rename_i v σ1 hop
        refine aOp_sound hC hop hf hr ?_
        intro v' w1 μ1 r1 r2 r3 r4
        refine ih (k + 1) _ fr' σ1 σ' μ1 (a.put o.dst v') w1 hl' h ((hf.mono r3.sub).put r1 _) r2 ?_
        intro μ' tmps' w' q1 q2 q3 q4
        rw [hput]
        exact hQ μ' tmps' w' q1 q2 (r3.trans q3) (r4.trans q4)
      · cases h
    · rename_i hw
      rw [wanted_eq hf hw]
      simp only [Bool.false_eq_true, if_false]
      refine ih (k + 1) _ fr' σ σ' μ (a.put o.dst undef) w hl' h (hf.put VR.undef _) hr ?_
      intro μ' tmps' w' q1 q2 q3 q4
      rw [hput]
      exact hQ μ' tmps' w' q1 q2 q3 q4
    · cases h

end
end Go.Lk
