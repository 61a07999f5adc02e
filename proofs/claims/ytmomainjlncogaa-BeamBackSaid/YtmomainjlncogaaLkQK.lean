/- Operations in the text's order; of those that are left out it is known. -/
import Derived.Test.YtmomainjlncogaaLkLC
namespace Go.Lk
set_option linter.unusedSimpArgs false
set_option linter.unusedVariables false
/-- Is an operation wanted? (K: the slots of operations that were left out.) -/
def wantedK (ops : Array Oper) (fr : List Value) (K : List Nat) (o : Oper) : Option Bool :=
  match o.guard with
  | some (j, _) => (match (ops[j]?).bind (·.dst) with
    | some d => bif K.contains d then some false else wantedA ops fr o
    | none => wantedA ops fr o)
  | none => some true
def useK (dst : Option Tmp) (K : List Nat) : List Nat := match dst with | some d => K.filter (fun x => x != d) | none => K
def skipK (dst : Option Tmp) (K : List Nat) : List Nat := match dst with | some d => d :: K | none => K
def runOpsK (C : Cfg) (ops : Array Oper) : List Oper → List Value → AHeap → List Nat → Option (List Value × AHeap)
  | [], fr, σ, _ => some (fr, σ)
  | o :: rest, fr, σ, K =>
    match wantedK ops fr K o with
    | some true =>
      match aOp C fr σ o.op with
      | some (v, σ') => runOpsK C ops rest (putA fr o.dst v) σ' (useK o.dst K)
      | none => none
    | some false => runOpsK C ops rest (putA fr o.dst undef) σ (skipK o.dst K)
    | none => none
theorem runOpsK_mono {C : Cfg} (hC : C.Ok) {ops : Array Oper} : ∀ (l : List Oper) (fr fr' : List Value) (σ σ' : AHeap) (K : List Nat), runOpsK C ops l fr σ K = some (fr', σ') → σ.length ≤ σ'.length
  | [], fr, fr', σ, σ', K, h => by cases h; exact Nat.le_refl _
  | o :: l, fr, fr', σ, σ', K, h => by
    unfold runOpsK at h
    split at h
    · split at h
      · rename_i v σ1 hop
        exact Nat.le_trans (aOp_mono hC hop) (runOpsK_mono hC l _ _ _ _ _ h)
      · cases h
    · exact runOpsK_mono hC l _ _ _ _ _ h
    · cases h
/-- The slots that were left out hold nothing. -/
def OutK (K : List Nat) (tmps : Array Value) : Prop := ∀ d, K.contains d = true → tmps[d]? = some undef ∨ tmps[d]? = none
theorem OutK.use {K : List Nat} {a : Act} (h : OutK K a.tmps) (dst : Option Tmp) (v : Value) : OutK (useK dst K) (a.put dst v).tmps := by
  cases dst with
  | none => exact h
  | some d =>
    intro x hx
    simp only [useK, List.contains_eq_mem, List.mem_filter, decide_eq_true_eq, bne_iff_ne, ne_eq] at hx
    simp only [Act.put]
    rw [Array.getElem?_setIfInBounds, if_neg (fun e => hx.2 e.symm)]
    exact h x (by simpa using hx.1)
theorem OutK.skip {K : List Nat} {a : Act} (h : OutK K a.tmps) (dst : Option Tmp) : OutK (skipK dst K) (a.put dst undef).tmps := by
  cases dst with
  | none => exact h
  | some d =>
    intro x hx
    simp only [Act.put]
    rw [Array.getElem?_setIfInBounds]
    by_cases e : d = x
    · rw [if_pos e]
      split
      · exact .inl rfl
      · exact .inr rfl
    · rw [if_neg e]
      simp only [skipK, List.contains_eq_mem, List.mem_cons, decide_eq_true_eq] at hx
      rcases hx with hx | hx
      · exact absurd hx.symm e
      · exact h x (by simpa using hx)
theorem wanted_eqK {ex : Bool} {μ : List (Option Ent)} {ops : Array Oper} {fr : List Value} {tmps : Array Value} {K : List Nat} (hf : FrR ex μ fr tmps) (hk : OutK K tmps) {o : Oper} {b : Bool} (h : wantedK ops fr K o = some b) : Region.wanted o (yielded ops tmps) = b := by
  unfold wantedK at h
  split at h
  · rename_i j want hg
    split at h
    · rename_i d hd
      cases hc : K.contains d
      · rw [hc] at h; exact wanted_eq hf h
      · rw [hc] at h
        cases h
        unfold Region.wanted
        rw [hg]
        simp only
        unfold yielded
        rw [hd]
        simp only [Option.bind_some]
        rcases hk d hc with h1 | h1
        · rw [h1]; rfl
        · rw [h1]; rfl
    · exact wanted_eq hf h
  · rename_i hg
    cases h
    unfold Region.wanted
    rw [hg]
theorem runOpsK_sound {C : Cfg} (hC : C.Ok) {B : Nat → Prop} {ops : Array Oper} {Q : Exit → Act → World → Prop} : ∀ (l : List Oper) (k : Nat) (fr fr' : List Value) (σ σ' : AHeap) (K : List Nat) (μ : List (Option Ent)) (a : Act) (w : World), (∀ j, l[j]? = ops[k + j]?) →
    runOpsK C ops l fr σ K = some (fr', σ') → OutK K a.tmps → FrR C.ex μ fr a.tmps → HR C.ex B μ σ w →
    (∀ μ' tmps' w', FrR C.ex μ' fr' tmps' → HR C.ex B μ' σ' w' → Ext μ μ' → Blw B w w' → Q .normal ⟨tmps', a.defers⟩ w') →
    wpOps C.P ops Q (List.range' k l.length) a w := by
  intro l
  induction l with
  | nil =>
    intro k fr fr' σ σ' K μ a w _ h _ hf hr hQ
    cases h
    exact hQ μ a.tmps w hf hr (Ext.refl _) (Blw.refl _ _)
  | cons o l ih =>
    intro k fr fr' σ σ' K μ a w hl h hk hf hr hQ
    have h0 : ops[k]? = some o := by simpa using (hl 0).symm
    have hl' : ∀ j, l[j]? = ops[k + 1 + j]? := fun j => by have := hl (j + 1); simpa [Nat.add_assoc, Nat.add_comm 1 j] using this
    simp only [List.length_cons, List.range'_succ, wpOps, h0]
    unfold runOpsK at h
    have hput : ∀ (a : Act) (d : Option Tmp) (v : Value), (a.put d v).defers = a.defers := by intro a d v; cases d <;> rfl
    split at h
    · rename_i hw
      rw [wanted_eqK hf hk hw]
      simp only [if_true]
      left
      split at h
      · rename_i v σ1 hop
        refine aOp_sound hC hop hf hr ?_
        intro v' w1 μ1 r1 r2 r3 r4
        refine ih (k + 1) _ fr' σ1 σ' _ μ1 (a.put o.dst v') w1 hl' h (hk.use _ _) ((hf.mono r3.sub).put r1 _) r2 ?_
        intro μ' tmps' w' q1 q2 q3 q4
        rw [hput]
        exact hQ μ' tmps' w' q1 q2 (r3.trans q3) (r4.trans q4)
      · cases h
    · rename_i hw
      rw [wanted_eqK hf hk hw]
      simp only [Bool.false_eq_true, if_false]
      refine ih (k + 1) _ fr' σ σ' _ μ (a.put o.dst undef) w hl' h (hk.skip _) (hf.put VR.undef _) hr ?_
      intro μ' tmps' w' q1 q2 q3 q4
      rw [hput]
      exact hQ μ' tmps' w' q1 q2 q3 q4
    · cases h
theorem Sim.regionK {C : Cfg} (hC : C.Ok) {id : Nat} {ops : Array Oper} {fr fr' : List Value} {σ σ' : AHeap} (h : runOpsK C ops ops.toList fr σ [] = some (fr', σ')) :
    Sim C σ.length (.region id ops false) fr σ .normal fr' σ' := by
  intro B μ tmps defers w Q hf hr hQ
  refine wp_region ?_
  have := runOpsK_sound (B := B) hC (Q := Q) ops.toList 0 fr fr' σ σ' [] μ ⟨tmps, defers⟩ w (fun j => by simp) h (fun d hd => by simp at hd) hf hr (fun μ' tmps' w' q1 q2 q3 q4 => hQ μ' tmps' w' q1 q2 (fun b hb => q3 b (by rw [hr.len]; exact hb)) q4)
  rw [List.range_eq_range']
  simpa using this
end Go.Lk
