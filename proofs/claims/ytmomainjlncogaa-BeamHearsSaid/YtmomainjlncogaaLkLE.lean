import Derived.Test.YtmomainjlncogaaLkLC
import Derived.Test.YtmomainjlncogaaLkLD
section
/- A region whose order is open, with loads that stand in no order with its stores: those go elsewhere. -/
namespace Go.Lk
set_option linter.unusedSimpArgs false
set_option linter.unusedVariables false

/-- Does block b stay? -/
def keeps (C : Cfg) (ops : Array Oper) (b : Nat) : List Oper → List Value → AHeap → Bool
  | [], _, _ => true
  | o :: l, fr, σ =>
    match wantedA ops fr o with
    | some true =>
      match aOp C fr σ o.op with
      | some (v, σ') =>
        (cls C o.op != 2 || (match o.op with
          | .store _ x _ => (match aev fr x with | some (.pointer (some ⟨b', _, none⟩)) => b' != b | _ => false)
          | _ => false)) && keeps C ops b l (putA fr o.dst v) σ'
      | none => false
    | some false => keeps C ops b l (putA fr o.dst undef) σ
    | none => false
/-- The blocks that are loaded from out of order. -/
def loadsOf (C : Cfg) (ops : Array Oper) (sl : List Nat) : Nat → List Oper → List Value → AHeap → Option (List Nat)
  | _, [], _, _ => some []
  | k, o :: l, fr, σ =>
    match (match wantedA ops fr o with
      | some true => (match aOp C fr σ o.op with | some (v, σ') => loadsOf C ops sl (k + 1) l (putA fr o.dst v) σ' | none => none)
      | some false => loadsOf C ops sl (k + 1) l (putA fr o.dst undef) σ
      | none => none) with
    | some bs =>
      bif sl.contains k then
        match o.op with
        | .load _ x => (match aev fr x with | some (.pointer (some ⟨b, _, none⟩)) => some (b :: bs) | _ => none)
        | _ => none
      else some bs
    | none => none
def steadyB (C : Cfg) (ops : Array Oper) (sl : List Nat) (fr : List Value) (σ : AHeap) : Bool :=
  match loadsOf C ops sl 0 ops.toList fr σ with
  | some bs => bs.all fun b => decide (b < σ.length) && keeps C ops b ops.toList fr σ
  | none => false

section
variable {C : Cfg} {ops : Array Oper} {fs : Nat → List Value} {ss : Nat → AHeap} {vs : Nat → Value} {wd : Nat → Bool}

theorem store_else {fr : List Value} {σ σ' : AHeap} {t : TypeId} {x y : Operand} {v : Value} {b' o' b : Nat} (h : aOp C fr σ (.store t x y) = some (v, σ')) (hx : aev fr x = some (.pointer (some ⟨b', o', none⟩))) (hne : b' ≠ b) : σ'[b]? = σ[b]? := by
  simp only [aOp, isMem, cond_true, aMem, hx] at h
  split at h
  · rename_i a v' e1 e2
    cases e1
    split at h
    · rename_i σ1 hs
      cases h
      unfold aStore at hs
      simp only at hs
      split at hs
      · split at hs
        · split at hs
          · cases hs; rw [List.getElem?_set, if_neg hne]
          · cases hs
        · cases hs
      · cases hs
    · cases h
  · cases h

theorem keeps_spec (hC : C.Ok) (ht : Trace C ops fs ss vs wd) {b : Nat} : ∀ (l : List Oper) (k : Nat), (∀ j, l[j]? = ops[k + j]?) → keeps C ops b l (fs k) (ss k) = true → b < (ss k).length → ∀ s, k ≤ s → s ≤ k + l.length → (ss s)[b]? = (ss k)[b]?
  | [], k, _, _, _, s, h1, h2 => by
    have : s = k := by simp at h2; omega
    rw [this]
  | o :: l, k, hl, h, hb, s, h1, h2 => by
    have ho : ops[k]? = some o := by simpa using (hl 0).symm
    have hl' : ∀ j, l[j]? = ops[k + 1 + j]? := fun j => by have := hl (j + 1); simpa [Nat.add_assoc, Nat.add_comm 1 j] using this
    have hf := ht.f k o ho
    have hw := ht.w k o ho
    unfold keeps at h
    rw [hw] at h
    have step : keeps C ops b l (fs (k + 1)) (ss (k + 1)) = true ∧ (ss (k + 1))[b]? = (ss k)[b]? := by
      cases hwd : wd k
      · rw [hwd] at h
        have hno := ht.no k o ho hwd
        rw [hf, hno.1, hno.2]
        exact ⟨h, rfl⟩
      · rw [hwd] at h
        have hy := ht.yes k o ho hwd
        simp only [hy, Bool.and_eq_true, Bool.or_eq_true] at h
        rw [hf]
        refine ⟨h.2, ?_⟩
        rcases cls_le C o.op with h' | h' | h' | h' | h'
        · rw [(cls0 h' hy).1]
        · rw [(cls1 h' hy).1]
        · rcases h.1 with g | g
          · rw [h'] at g; cases g
          · split at g
            · rename_i t x y hop
              split at g
              · rename_i b' o' hx
                rw [hop] at hy
                exact store_else hy hx (by simpa using g)
              · cases g
            · cases g
        · obtain ⟨m, row, _, hrow, _⟩ := cls3 h' hy
          rw [hrow, List.getElem?_append_left hb]
        · rw [cls4 hC h' hy]
    by_cases hsk : s = k
    · rw [hsk]
    · have hb' : b < (ss (k + 1)).length := by
        rcases Nat.lt_or_ge b (ss (k + 1)).length with g | g
        · exact g
        · have := step.2
          rw [List.getElem?_eq_none g, List.getElem?_eq_getElem hb] at this
          cases this
      rw [keeps_spec hC ht l (k + 1) hl' step.1 hb' s (by omega) (by simp at h2; omega), step.2]

theorem loads_spec (ht : Trace C ops fs ss vs wd) {sl : List Nat} : ∀ (l : List Oper) (k : Nat) (bs : List Nat), (∀ j, l[j]? = ops[k + j]?) → loadsOf C ops sl k l (fs k) (ss k) = some bs →
    ∀ (j : Nat) (oj : Oper) (b o : Nat) (t : TypeId) (x : Operand), k ≤ j → ops[j]? = some oj → sl.contains j = true → oj.op = .load t x → aev (fs j) x = some (.pointer (some ⟨b, o, none⟩)) → b ∈ bs
  | [], k, bs, hl, h, j, oj, b, o, t, x, hkj, hoj, hs, hop, hx => by
    have := hl (j - k)
    rw [show k + (j - k) = j by omega, hoj] at this
    simp at this
  | o1 :: l, k, bs, hl, h, j, oj, b, o, t, x, hkj, hoj, hs, hop, hx => by
    have ho : ops[k]? = some o1 := by simpa using (hl 0).symm
    have hl' : ∀ j, l[j]? = ops[k + 1 + j]? := fun j => by have := hl (j + 1); simpa [Nat.add_assoc, Nat.add_comm 1 j] using this
    have hf := ht.f k o1 ho
    have hw := ht.w k o1 ho
    unfold loadsOf at h
    rw [hw] at h
    have hrest : ∃ bs1, loadsOf C ops sl (k + 1) l (fs (k + 1)) (ss (k + 1)) = some bs1 ∧ (bif sl.contains k then
        match o1.op with
        | .load _ x => (match aev (fs k) x with | some (.pointer (some ⟨b, _, none⟩)) => some (b :: bs1) | _ => none)
        | _ => none
      else some bs1) = some bs := by
      cases hwd : wd k
      · rw [hwd] at h
        have hno := ht.no k o1 ho hwd
        rw [hf, hno.1, hno.2]
        simp only at h
        split at h
        · rename_i bs1 e; exact ⟨bs1, e, h⟩
        · cases h
      · rw [hwd] at h
        have hy := ht.yes k o1 ho hwd
        simp only [hy] at h
        rw [hf]
        split at h
        · rename_i bs1 e; exact ⟨bs1, e, h⟩
        · cases h
    obtain ⟨bs1, r1, r2⟩ := hrest
    by_cases hjk : j = k
    · subst hjk
      rw [ho] at hoj
      cases hoj
      rw [hs] at r2
      simp only [cond_true, hop, hx] at r2
      cases r2
      exact List.mem_cons_self
    · have hm := loads_spec ht l (k + 1) bs1 hl' r1 j oj b o t x (by omega) hoj hs hop hx
      generalize List.contains sl k = c at r2
      cases c with
      | false => simp only [cond_false, Option.some.injEq] at r2; rw [← r2]; exact hm
      | true =>
        simp only [cond_true] at r2
        split at r2
        · split at r2
          · simp only [Option.some.injEq] at r2; rw [← r2]; exact List.mem_cons_of_mem _ hm
          · cases r2
        · cases r2

theorem Sim.regionS (hC : C.Ok) {id : Nat} {sl : List Nat} {fr fr' : List Value} {σ σ' : AHeap} (hok : drawOkS C ops sl = true) (h : runOps C ops ops.toList fr σ = some (fr', σ')) (hs : steadyB C ops sl fr σ = true) :
    Sim C σ.length (.region id ops true) fr σ .normal fr' σ' := by
  obtain ⟨fs, ss, vs, wd, e1, e2, e3, e4, ht⟩ := trace_whole h
  refine Sim.draw hC (drawOkS_spec hok) e1 e2 e3 e4 ht ?_
  intro j oj b o t x hj hsj hop hx
  unfold steadyB at hs
  rw [← e1, ← e2] at hs
  split at hs
  · rename_i bs hb
    have hm := loads_spec ht ops.toList 0 bs (fun j => by simp) hb j oj b o t x (Nat.zero_le _) hj hsj hop hx
    have := (List.all_eq_true.1 hs) b hm
    simp only [Bool.and_eq_true, decide_eq_true_eq] at this
    refine ⟨this.1, fun s hsz _ => ?_⟩
    have hk := keeps_spec hC ht ops.toList 0 (fun j => by simp) this.2 this.1
    have hjl : j < ops.size := (Array.getElem?_eq_some_iff.1 hj).1
    rw [hk s (Nat.zero_le _) (by simpa using hsz), hk j (Nat.zero_le _) (by simp; omega)]
  · cases hs
end
/-- The loads of a region. -/
def ldIdx (C : Cfg) (ops : Array Oper) : List Nat := (List.range ops.size).filter fun i => match ops[i]? with | some o => cls C o.op == 1 | none => false
def runS (C : Cfg) (ops : Array Oper) (dr : Bool) (fr : List Value) (σ : AHeap) : Option (List Value × AHeap) :=
  bif dr && (drawOkS C ops (ldIdx C ops) && steadyB C ops (ldIdx C ops) fr σ) then runOps C ops ops.toList fr σ else none
theorem Sim.runS {C : Cfg} (hC : C.Ok) {id : Nat} {ops : Array Oper} {dr : Bool} {fr fr' : List Value} {σ σ' : AHeap} (h : runS C ops dr fr σ = some (fr', σ')) : Sim C σ.length (.region id ops dr) fr σ .normal fr' σ' ∧ runOps C ops ops.toList fr σ = some (fr', σ') := by
  unfold Lk.runS at h
  cases hb : (dr && (drawOkS C ops (ldIdx C ops) && steadyB C ops (ldIdx C ops) fr σ))
  · rw [hb] at h; cases h
  · rw [hb] at h
    simp only [Bool.and_eq_true] at hb
    obtain ⟨rfl, h1, h2⟩ := hb
    exact ⟨Sim.regionS hC h1 h h2, h⟩
end Go.Lk
end

section
/- Operations in the text's order; of those that are left out it is known. -/
namespace Go.Lk
set_option linter.unusedSimpArgs false
set_option linter.unusedVariables false
/-- Is an operation wanted? (K: the slots of operations that were left out.) -/
def wantedK (ops : Array Oper) (fr : List Value) (K : List Nat) (o : Oper) : Option Bool :=
  match o.guard with
  | some (j, _) => (match (ops[j]?).bind (·.dst) with
    | some d => bif K.contains d then some false else wantedA ops fr o
    | none => wantedA ops fr o)
  | none => some true
def useK (dst : Option Tmp) (K : List Nat) : List Nat := match dst with | some d => K.filter (fun x => x != d) | none => K
def skipK (dst : Option Tmp) (K : List Nat) : List Nat := match dst with | some d => d :: K | none => K
def runOpsK (C : Cfg) (ops : Array Oper) : List Oper → List Value → AHeap → List Nat → Option (List Value × AHeap)
  | [], fr, σ, _ => some (fr, σ)
  | o :: rest, fr, σ, K =>
    match wantedK ops fr K o with
    | some true =>
      match aOp C fr σ o.op with
      | some (v, σ') => runOpsK C ops rest (putA fr o.dst v) σ' (useK o.dst K)
      | none => none
    | some false => runOpsK C ops rest (putA fr o.dst undef) σ (skipK o.dst K)
    | none => none
theorem runOpsK_mono {C : Cfg} (hC : C.Ok) {ops : Array Oper} : ∀ (l : List Oper) (fr fr' : List Value) (σ σ' : AHeap) (K : List Nat), runOpsK C ops l fr σ K = some (fr', σ') → σ.length ≤ σ'.length
  | [], fr, fr', σ, σ', K, h => by cases h; exact Nat.le_refl _
  | o :: l, fr, fr', σ, σ', K, h => by
    unfold runOpsK at h
    split at h
    · split at h
      · rename_i v σ1 hop
        exact Nat.le_trans (aOp_mono hC hop) (runOpsK_mono hC l _ _ _ _ _ h)
      · cases h
    · exact runOpsK_mono hC l _ _ _ _ _ h
    · cases h
/-- The slots that were left out hold nothing. -/
def OutK (K : List Nat) (tmps : Array Value) : Prop := ∀ d, K.contains d = true → tmps[d]? = some undef ∨ tmps[d]? = none
theorem OutK.use {K : List Nat} {a : Act} (h : OutK K a.tmps) (dst : Option Tmp) (v : Value) : OutK (useK dst K) (a.put dst v).tmps := by
  cases dst with
  | none => exact h
  | some d =>
    intro x hx
    simp only [useK, List.contains_eq_mem, List.mem_filter, decide_eq_true_eq, bne_iff_ne, ne_eq] at hx
    simp only [Act.put]
    rw [Array.getElem?_setIfInBounds, if_neg (fun e => hx.2 e.symm)]
    exact h x (by simpa using hx.1)
theorem OutK.skip {K : List Nat} {a : Act} (h : OutK K a.tmps) (dst : Option Tmp) : OutK (skipK dst K) (a.put dst undef).tmps := by
  cases dst with
  | none => exact h
  | some d =>
    intro x hx
    simp only [Act.put]
    rw [Array.getElem?_setIfInBounds]
    by_cases e : d = x
    · rw [if_pos e]
      split
      · exact .inl rfl
      · exact .inr rfl
    · rw [if_neg e]
      simp only [skipK, List.contains_eq_mem, List.mem_cons, decide_eq_true_eq] at hx
      rcases hx with hx | hx
      · exact absurd hx.symm e
      · exact h x (by simpa using hx)
theorem wanted_eqK {ex : Bool} {μ : List (Option Ent)} {ops : Array Oper} {fr : List Value} {tmps : Array Value} {K : List Nat} (hf : FrR ex μ fr tmps) (hk : OutK K tmps) {o : Oper} {b : Bool} (h : wantedK ops fr K o = some b) : Region.wanted o (yielded ops tmps) = b := by
  unfold wantedK at h
  split at h
  · rename_i j want hg
    split at h
    · rename_i d hd
      cases hc : K.contains d
      · rw [hc] at h; exact wanted_eq hf h
      · rw [hc] at h
        cases h
        unfold Region.wanted
        rw [hg]
        simp only
        unfold yielded
        rw [hd]
        simp only [Option.bind_some]
        rcases hk d hc with h1 | h1
        · rw [h1]; rfl
        · rw [h1]; rfl
    · exact wanted_eq hf h
  · rename_i hg
    cases h
    unfold Region.wanted
    rw [hg]
theorem runOpsK_sound {C : Cfg} (hC : C.Ok) {B : Nat → Prop} {ops : Array Oper} {Q : Exit → Act → World → Prop} : ∀ (l : List Oper) (k : Nat) (fr fr' : List Value) (σ σ' : AHeap) (K : List Nat) (μ : List (Option Ent)) (a : Act) (w : World), (∀ j, l[j]? = ops[k + j]?) →
    runOpsK C ops l fr σ K = some (fr', σ') → OutK K a.tmps → FrR C.ex μ fr a.tmps → HR C.ex B μ σ w →
    (∀ μ' tmps' w', FrR C.ex μ' fr' tmps' → HR C.ex B μ' σ' w' → Ext μ μ' → Blw B w w' → Q .normal ⟨tmps', a.defers⟩ w') →
    wpOps C.P ops Q (List.range' k l.length) a w := by
  intro l
  induction l with
  | nil =>
    intro k fr fr' σ σ' K μ a w _ h _ hf hr hQ
    cases h
    exact hQ μ a.tmps w hf hr (Ext.refl _) (Blw.refl _ _)
  | cons o l ih =>
    intro k fr fr' σ σ' K μ a w hl h hk hf hr hQ
    have h0 : ops[k]? = some o := by simpa using (hl 0).symm
    have hl' : ∀ j, l[j]? = ops[k + 1 + j]? := fun j => by have := hl (j + 1); simpa [Nat.add_assoc, Nat.add_comm 1 j] using this
    simp only [List.length_cons, List.range'_succ, wpOps, h0]
    unfold runOpsK at h
    have hput : ∀ (a : Act) (d : Option Tmp) (v : Value), (a.put d v).defers = a.defers := by intro a d v; cases d <;> rfl
    split at h
    · rename_i hw
      rw [wanted_eqK hf hk hw]
      simp only [if_true]
      left
      split at h
      · rename_i v σ1 hop
        refine aOp_sound hC hop hf hr ?_
        intro v' w1 μ1 r1 r2 r3 r4
        refine ih (k + 1) _ fr' σ1 σ' _ μ1 (a.put o.dst v') w1 hl' h (hk.use _ _) ((hf.mono r3.sub).put r1 _) r2 ?_
        intro μ' tmps' w' q1 q2 q3 q4
        rw [hput]
        exact hQ μ' tmps' w' q1 q2 (r3.trans q3) (r4.trans q4)
      · cases h
    · rename_i hw
      rw [wanted_eqK hf hk hw]
      simp only [Bool.false_eq_true, if_false]
      refine ih (k + 1) _ fr' σ σ' _ μ (a.put o.dst undef) w hl' h (hk.skip _) (hf.put VR.undef _) hr ?_
      intro μ' tmps' w' q1 q2 q3 q4
      rw [hput]
      exact hQ μ' tmps' w' q1 q2 q3 q4
    · cases h
theorem Sim.regionK {C : Cfg} (hC : C.Ok) {id : Nat} {ops : Array Oper} {fr fr' : List Value} {σ σ' : AHeap} (h : runOpsK C ops ops.toList fr σ [] = some (fr', σ')) :
    Sim C σ.length (.region id ops false) fr σ .normal fr' σ' := by
  intro B μ tmps defers w Q hf hr hQ
  refine wp_region ?_
  have := runOpsK_sound (B := B) hC (Q := Q) ops.toList 0 fr fr' σ σ' [] μ ⟨tmps, defers⟩ w (fun j => by simp) h (fun d hd => by simp at hd) hf hr (fun μ' tmps' w' q1 q2 q3 q4 => hQ μ' tmps' w' q1 q2 (fun b hb => q3 b (by rw [hr.len]; exact hb)) q4)
  rw [List.range_eq_range']
  simpa using this
end Go.Lk
end

section
/- Reckoning with answers given: branches, loads, loops; what they ask for is gathered. -/
namespace Go.Lk
set_option linter.unusedSimpArgs false
set_option linter.unusedVariables false

inductive Item where
  | br (b : Bool)
  | res (v : Value)
  | eff (v : Value) (σ : AHeap)
  | loop (e : Exit) (fr : List Value) (σ : AHeap)
abbrev Orc := List (Nat × Item)

def All : List Prop → Prop
  | [] => True
  | p :: ps => p ∧ All ps
theorem All.append : ∀ {a b : List Prop}, All (a ++ b) → All a ∧ All b
  | [], _, h => ⟨trivial, h⟩
  | _ :: _, _, h => let ⟨h1, h2⟩ := All.append h.2; ⟨⟨h.1, h1⟩, h2⟩

def ansB (orc : Orc) (x : Option Bool) : Option (List Prop × Bool × Orc) := match x with | some b => some ([], b, orc) | none => none
def ansO (orc : Orc) (x : Option (Value × AHeap)) : Option (List Prop × Value × AHeap × Orc) := match x with | some (v, σ') => some ([], v, σ', orc) | none => none
def askB (t : Nat) (orc : Orc) (x : Option Bool) : Option (List Prop × Bool × Orc) :=
  match orc with
  | (k, .br b) :: rest => bif Nat.beq k t then some ([x = some b], b, rest) else ansB orc x
  | _ => ansB orc x
def askO (t : Nat) (orc : Orc) (σ : AHeap) (x : Option (Value × AHeap)) : Option (List Prop × Value × AHeap × Orc) :=
  match orc with
  | (k, .res v) :: rest => bif Nat.beq k t then some ([x = some (v, σ)], v, σ, rest) else ansO orc x
  | (k, .eff v σ') :: rest => bif Nat.beq k t then some ([x = some (v, σ')], v, σ', rest) else ansO orc x
  | _ => ansO orc x

theorem ansB_sound {orc orc' : Orc} {x : Option Bool} {ps : List Prop} {b : Bool} (h : ansB orc x = some (ps, b, orc')) : x = some b := by
  cases x with
  | none => cases h
  | some b' => cases h; rfl
theorem ansO_sound {orc orc' : Orc} {σ' : AHeap} {x : Option (Value × AHeap)} {ps : List Prop} {v : Value} (h : ansO orc x = some (ps, v, σ', orc')) : x = some (v, σ') := by
  cases x with
  | none => cases h
  | some b' => obtain ⟨v', s'⟩ := b'; cases h; rfl
theorem askB_sound {t : Nat} {orc orc' : Orc} {x : Option Bool} {ps : List Prop} {b : Bool} (h : askB t orc x = some (ps, b, orc')) (hp : All ps) : x = some b := by
  unfold askB at h
  split at h
  · rename_i k b' rest
    generalize Nat.beq k t = c at h
    cases c with
    | true => cases h; exact hp.1
    | false => exact ansB_sound h
  · exact ansB_sound h
theorem askO_sound {t : Nat} {orc orc' : Orc} {σ σ' : AHeap} {x : Option (Value × AHeap)} {ps : List Prop} {v : Value} (h : askO t orc σ x = some (ps, v, σ', orc')) (hp : All ps) : x = some (v, σ') := by
  unfold askO at h
  split at h
  · rename_i k b' rest
    generalize Nat.beq k t = c at h
    cases c with
    | true => cases h; exact hp.1
    | false => exact ansO_sound h
  · rename_i k b' s' rest
    generalize Nat.beq k t = c at h
    cases c with
    | true => cases h; exact hp.1
    | false => exact ansO_sound h
  · exact ansO_sound h

def runO (C : Cfg) (ops : Array Oper) : List Oper → Nat → Orc → List Value → AHeap → Option (List Prop × Nat × Orc × List Value × AHeap)
  | [], t, orc, fr, σ => some ([], t, orc, fr, σ)
  | o :: l, t, orc, fr, σ =>
    match askB t orc (wantedA ops fr o) with
    | some (ps1, true, orc1) =>
      match askO (t + 1) orc1 σ (aOp C fr σ o.op) with
      | some (ps2, v, σ', orc2) =>
        match runO C ops l (t + 2) orc2 (putA fr o.dst v) σ' with
        | some (ps3, r) => some (ps1 ++ (ps2 ++ ps3), r)
        | none => none
      | none => none
    | some (ps1, false, orc1) =>
      match runO C ops l (t + 2) orc1 (putA fr o.dst undef) σ with
      | some (ps3, r) => some (ps1 ++ ps3, r)
      | none => none
    | none => none

/-- The same, for a region in the text's order. -/
def runOK (C : Cfg) (ops : Array Oper) : List Oper → Nat → Orc → List Value → AHeap → List Nat → Option (List Prop × Nat × Orc × List Value × AHeap)
  | [], t, orc, fr, σ, _ => some ([], t, orc, fr, σ)
  | o :: l, t, orc, fr, σ, K =>
    match askB t orc (wantedK ops fr K o) with
    | some (ps1, true, orc1) =>
      match askO (t + 1) orc1 σ (aOp C fr σ o.op) with
      | some (ps2, v, σ', orc2) =>
        match runOK C ops l (t + 2) orc2 (putA fr o.dst v) σ' (useK o.dst K) with
        | some (ps3, r) => some (ps1 ++ (ps2 ++ ps3), r)
        | none => none
      | none => none
    | some (ps1, false, orc1) =>
      match runOK C ops l (t + 2) orc1 (putA fr o.dst undef) σ (skipK o.dst K) with
      | some (ps3, r) => some (ps1 ++ ps3, r)
      | none => none
    | none => none
theorem runO_sound {C : Cfg} {ops : Array Oper} : ∀ (l : List Oper) (t : Nat) (orc : Orc) (fr : List Value) (σ : AHeap) {ps : List Prop} {t' : Nat} {orc' : Orc} {fr' : List Value} {σ' : AHeap},
    runO C ops l t orc fr σ = some (ps, t', orc', fr', σ') → All ps → runOps C ops l fr σ = some (fr', σ')
  | [], t, orc, fr, σ, ps, t', orc', fr', σ', h, hp => by cases h; rfl
  | o :: l, t, orc, fr, σ, ps, t', orc', fr', σ', h, hp => by
    unfold runO at h
    unfold runOps
    split at h
    · rename_i ps1 orc1 h1
      split at h
      · rename_i ps2 v σ1 orc2 h2
        split at h
        · rename_i ps3 r h3
          cases h
          obtain ⟨a1, a2⟩ := All.append hp
          obtain ⟨a2, a3⟩ := All.append a2
          rw [askB_sound h1 a1]
          simp only
          rw [askO_sound h2 a2]
          exact runO_sound l _ _ _ _ h3 a3
        · cases h
      · cases h
    · rename_i ps1 orc1 h1
      split at h
      · rename_i ps3 r h3
        cases h
        obtain ⟨a1, a3⟩ := All.append hp
        rw [askB_sound h1 a1]
        exact runO_sound l _ _ _ _ h3 a3
      · cases h
    · cases h

theorem runOK_sound {C : Cfg} {ops : Array Oper} : ∀ (l : List Oper) (t : Nat) (orc : Orc) (fr : List Value) (σ : AHeap) (K : List Nat) {ps : List Prop} {t' : Nat} {orc' : Orc} {fr' : List Value} {σ' : AHeap},
    runOK C ops l t orc fr σ K = some (ps, t', orc', fr', σ') → All ps → runOpsK C ops l fr σ K = some (fr', σ')
  | [], t, orc, fr, σ, K, ps, t', orc', fr', σ', h, hp => by cases h; rfl
  | o :: l, t, orc, fr, σ, K, ps, t', orc', fr', σ', h, hp => by
    unfold runOK at h
    unfold runOpsK
    split at h
    · rename_i ps1 orc1 h1
      split at h
      · rename_i ps2 v σ1 orc2 h2
        split at h
        · rename_i ps3 r h3
          cases h
          obtain ⟨a1, a2⟩ := All.append hp
          obtain ⟨a2, a3⟩ := All.append a2
          rw [askB_sound h1 a1]
          simp only
          rw [askO_sound h2 a2]
          exact runOK_sound l _ _ _ _ _ h3 a3
        · cases h
      · cases h
    · rename_i ps1 orc1 h1
      split at h
      · rename_i ps3 r h3
        cases h
        obtain ⟨a1, a3⟩ := All.append hp
        rw [askB_sound h1 a1]
        exact runOK_sound l _ _ _ _ _ h3 a3
      · cases h
    · cases h

abbrev ResO := Option (List Prop × Exit × Nat × Orc × List Value × AHeap)

def iterO (f : Nat → Orc → List Value → AHeap → ResO) : Nat → Nat → Orc → List Value → AHeap → ResO
  | 0, _, _, _, _ => none
  | n + 1, t, orc, fr, σ =>
    match f t orc fr σ with
    | some (ps, .normal, t1, orc1, fr1, σ1) =>
      match iterO f n t1 orc1 fr1 σ1 with
      | some (ps2, r) => some (ps ++ ps2, r)
      | none => none
    | r => r

def asBool : Option Value → Option Bool
  | some (.bool b) => some b
  | _ => none

def DO (C : Cfg) (X : List Nat) (n : Nat) : Code → Nat → Orc → List Value → AHeap → ResO
  | .skip, t, orc, fr, σ => some ([], .normal, t, orc, fr, σ)
  | .region id ops dr, t, orc, fr, σ =>
    bif X.contains id then
      match runS C ops dr fr σ with
      | some (fr', σ') => some ([], .normal, t + 1, orc, fr', σ')
      | none => none
    else
    bif dr then
    match runO C ops ops.toList t orc fr σ with
    | some (ps, t', orc', fr', σ') => some (ps, .normal, t', orc', fr', σ')
    | none => none
    else
    match runOK C ops ops.toList t orc fr σ [] with
    | some (ps, t', orc', fr', σ') => some (ps, .normal, t', orc', fr', σ')
    | none => none
  | .seq a b, t, orc, fr, σ =>
    match DO C X n a t orc fr σ with
    | some (ps, .normal, t1, orc1, fr1, σ1) =>
      match DO C X n b t1 orc1 fr1 σ1 with
      | some (ps2, r) => some (ps ++ ps2, r)
      | none => none
    | r => r
  | .cond c x y, t, orc, fr, σ =>
    match askB t orc (asBool (aev fr c)) with
    | some (ps, true, orc1) => (match DO C X n x (t + 1) orc1 fr σ with | some (ps2, r) => some (ps ++ ps2, r) | none => none)
    | some (ps, false, orc1) => (match DO C X n y (t + 1) orc1 fr σ with | some (ps2, r) => some (ps ++ ps2, r) | none => none)
    | none => none
  | .block id body, t, orc, fr, σ =>
    match DO C X n body t orc fr σ with
    | some (ps, e, r) => some (ps, outOf id e, r)
    | none => none
  | .loop body, t, orc, fr, σ =>
    match orc with
    | (k, .loop e fr' σ') :: rest =>
      bif Nat.beq k t then some ([Sim C σ.length (.loop body) fr σ e fr' σ', σ.length ≤ σ'.length, Lk.Exit.isG e = false], e, t + 1, rest, fr', σ')
      else iterO (DO C X n body) n t orc fr σ
    | _ => iterO (DO C X n body) n t orc fr σ
  | .exit id, t, orc, fr, σ => some ([], .exit id, t, orc, fr, σ)
  | .ret, t, orc, fr, σ => some ([], .ret, t, orc, fr, σ)
  | .label _, t, orc, fr, σ => some ([], .normal, t, orc, fr, σ)
  | .scope body, t, orc, fr, σ => DO C X n body t orc fr σ
  | _, _, _, _, _ => none

def GoodO (C : Cfg) (c : Code) (fr : List Value) (σ : AHeap) (e : Exit) (fr' : List Value) (σ' : AHeap) : Prop :=
  Sim C σ.length c fr σ e fr' σ' ∧ σ.length ≤ σ'.length ∧ Lk.Exit.isG e = false

theorem iterO_sound {C : Cfg} {c : Code} {f : Nat → Orc → List Value → AHeap → ResO}
    (hf : ∀ t orc fr σ ps e t' orc' fr' σ', f t orc fr σ = some (ps, e, t', orc', fr', σ') → All ps → GoodO C c fr σ e fr' σ') {n0 : Nat} : ∀ (n t : Nat) (orc : Orc) (fr : List Value) (σ : AHeap) {ps : List Prop} {e : Exit} {t' : Nat} {orc' : Orc} {fr' : List Value} {σ' : AHeap}, n0 ≤ σ.length →
    iterO f n t orc fr σ = some (ps, e, t', orc', fr', σ') → All ps → (∃ (S : Nat → List Value × AHeap) (N : Nat), S 0 = (fr, σ) ∧ (∀ k, k < N → Sim C n0 c (S k).1 (S k).2 .normal (S (k + 1)).1 (S (k + 1)).2) ∧ Sim C n0 c (S N).1 (S N).2 e fr' σ' ∧ Lk.Exit.isN e = false) ∧ σ.length ≤ σ'.length ∧ Lk.Exit.isG e = false
  | 0, _, _, _, _, _, _, _, _, _, _, _, h, _ => by cases h
  | n + 1, t, orc, fr, σ, ps, e, t', orc', fr', σ', hn, h, hp => by
    unfold iterO at h
    split at h
    · rename_i ps1 t1 orc1 fr1 σ1 h1
      split at h
      · rename_i ps2 r h2
        cases h
        obtain ⟨a1, a2⟩ := All.append hp
        obtain ⟨g1, g2, g3⟩ := hf _ _ _ _ _ _ _ _ _ _ h1 a1
        obtain ⟨⟨S, N, e0, e1, e2, e3⟩, l1, l2⟩ := iterO_sound hf (n0 := n0) n _ _ _ _ (by omega) h2 a2
        refine ⟨⟨fun k => match k with | 0 => (fr, σ) | k + 1 => S k, N + 1, rfl, fun k hk => ?_, e2, e3⟩, by omega, l2⟩
        cases k with
        | zero =>
          show Sim C n0 c fr σ .normal (S 0).1 (S 0).2
          rw [e0]
          exact g1.le hn
        | succ k => exact e1 k (by omega)
      · cases h
    · rename_i hno
      obtain ⟨g1, g2, g3⟩ := hf _ _ _ _ _ _ _ _ _ _ h hp
      refine ⟨⟨fun _ => (fr, σ), 0, rfl, fun k hk => by omega, g1.le hn, ?_⟩, g2, g3⟩
      cases e <;> first | rfl | skip
      exact absurd h (hno _ _ _ _ _)

/-- Are all regions whose order is open in order, but for those that are given? -/
def codeOkX (C : Cfg) (X : List Nat) : Code → Bool
  | .region id ops draw => X.contains id || (!draw || drawOk C ops)
  | .seq a b => codeOkX C X a && codeOkX C X b
  | .cond _ x y => codeOkX C X x && codeOkX C X y
  | .block _ b | .loop b | .scope b => codeOkX C X b
  | .goto _ => false
  | _ => true
theorem codeOkX_of {C : Cfg} : ∀ {c : Code}, codeOk C c = true → codeOkX C [] c = true := by
  intro c
  induction c with
  | region id ops draw => intro h; exact h
  | seq a b iha ihb => intro h; simp only [codeOk, codeOkX, Bool.and_eq_true] at h ⊢; exact ⟨iha h.1, ihb h.2⟩
  | cond c x y ihx ihy => intro h; simp only [codeOk, codeOkX, Bool.and_eq_true] at h ⊢; exact ⟨ihx h.1, ihy h.2⟩
  | block id b ih => intro h; exact ih h
  | loop b ih => intro h; exact ih h
  | scope b ih => intro h; exact ih h
  | _ => intro h; exact h

theorem DO_sound {C : Cfg} (hC : C.Ok) (X : List Nat) (n : Nat) : ∀ (c : Code) (t : Nat) (orc : Orc) (fr : List Value) (σ : AHeap) {ps : List Prop} {e : Exit} {t' : Nat} {orc' : Orc} {fr' : List Value} {σ' : AHeap}, codeOkX C X c = true →
    DO C X n c t orc fr σ = some (ps, e, t', orc', fr', σ') → All ps → GoodO C c fr σ e fr' σ' := by
  intro c
  induction c with
  | skip => intro t orc fr σ ps e t' orc' fr' σ' _ h _; cases h; exact ⟨Sim.skip, Nat.le_refl _, rfl⟩
  | region id ops draw =>
    intro t orc fr σ ps e t' orc' fr' σ' hok h hp
    simp only [DO] at h
    simp only [codeOkX] at hok
    generalize List.contains X id = c at h hok
    cases c with
    | true =>
      simp only [cond_true] at h
      split at h
      · rename_i h1
        cases h
        have := Sim.runS (id := id) hC h1
        exact ⟨this.1, runOps_mono hC _ _ _ _ _ this.2, rfl⟩
      · cases h
    | false =>
      cases draw with
      | true =>
        simp only [cond_false, cond_true] at h
        split at h
        · rename_i h1
          cases h
          have := runO_sound _ _ _ _ _ h1 hp
          exact ⟨Sim.region hC (by simpa [codeOk] using hok) this, runOps_mono hC _ _ _ _ _ this, rfl⟩
        · cases h
      | false =>
        simp only [cond_false] at h
        split at h
        · rename_i h1
          cases h
          have := runOK_sound _ _ _ _ _ _ h1 hp
          exact ⟨Sim.regionK hC this, runOpsK_mono hC _ _ _ _ _ _ this, rfl⟩
        · cases h
  | seq a b iha ihb =>
    intro t orc fr σ ps e t' orc' fr' σ' hok h hp
    simp only [codeOkX, Bool.and_eq_true] at hok
    simp only [DO] at h
    split at h
    · rename_i h1
      split at h
      · rename_i h2
        cases h
        obtain ⟨a1, a2⟩ := All.append hp
        obtain ⟨g1, g2, g3⟩ := iha _ _ _ _ hok.1 h1 a1
        obtain ⟨k1, k2, k3⟩ := ihb _ _ _ _ hok.2 h2 a2
        exact ⟨g1.seq (k1.le g2), by omega, k3⟩
      · cases h
    · rename_i hno
      obtain ⟨g1, g2, g3⟩ := iha _ _ _ _ hok.1 h hp
      refine ⟨g1.seq_out ?_, g2, g3⟩
      cases e <;> first | rfl | skip
      exact absurd h (hno _ _ _ _ _)
  | cond c x y ihx ihy =>
    intro t orc fr σ ps e t' orc' fr' σ' hok h hp
    simp only [codeOkX, Bool.and_eq_true] at hok
    simp only [DO] at h
    have key : ∀ {b : Bool}, asBool (aev fr c) = some b → aev fr c = some (.bool b) := by
      intro b hb
      unfold asBool at hb
      split at hb
      · rename_i hv; cases hb; exact hv
      · cases hb
    split at h
    · rename_i h1
      split at h
      · rename_i h2
        cases h
        obtain ⟨a1, a2⟩ := All.append hp
        obtain ⟨k1, k2, k3⟩ := ihx _ _ _ _ hok.1 h2 a2
        exact ⟨Sim.cond (t := true) (key (askB_sound h1 a1)) k1, k2, k3⟩
      · cases h
    · rename_i h1
      split at h
      · rename_i h2
        cases h
        obtain ⟨a1, a2⟩ := All.append hp
        obtain ⟨k1, k2, k3⟩ := ihy _ _ _ _ hok.2 h2 a2
        exact ⟨Sim.cond (t := false) (key (askB_sound h1 a1)) k1, k2, k3⟩
      · cases h
    · cases h
  | block id b ih =>
    intro t orc fr σ ps e t' orc' fr' σ' hok h hp
    simp only [codeOkX] at hok
    simp only [DO] at h
    split at h
    · rename_i e1 r h1
      cases h
      obtain ⟨g1, g2, g3⟩ := ih _ _ _ _ hok h1 hp
      refine ⟨g1.block, g2, ?_⟩
      cases e1 <;> first | exact g3 | (unfold outOf; rfl) | skip
      unfold outOf
      simp only
      split <;> rfl
    · cases h
  | loop b ih =>
    intro t orc fr σ ps e t' orc' fr' σ' hok h hp
    simp only [codeOkX] at hok
    have plain : iterO (DO C X n b) n t orc fr σ = some (ps, e, t', orc', fr', σ') → GoodO C (.loop b) fr σ e fr' σ' := by
      intro h
      obtain ⟨⟨S, N, e0, e1, e2, e3⟩, l1, l2⟩ := iterO_sound (n0 := σ.length) (fun t orc fr σ ps e t' orc' fr' σ' h hp => ih t orc fr σ hok h hp) n t orc fr σ (Nat.le_refl _) h hp
      have := Sim.loop S N e1 e2 e3
      rw [e0] at this
      exact ⟨this, l1, l2⟩
    simp only [DO] at h
    split at h
    · rename_i k e1 fr1 σ1 rest
      generalize Nat.beq k t = c at h
      cases c with
      | true => cases h; exact ⟨hp.1, hp.2.1, hp.2.2.1⟩
      | false => exact plain h
    · exact plain h
  | exit id => intro t orc fr σ ps e t' orc' fr' σ' _ h _; cases h; exact ⟨Sim.exit, Nat.le_refl _, rfl⟩
  | ret => intro t orc fr σ ps e t' orc' fr' σ' _ h _; cases h; exact ⟨Sim.ret, Nat.le_refl _, rfl⟩
  | label l => intro t orc fr σ ps e t' orc' fr' σ' _ h _; cases h; exact ⟨Sim.label, Nat.le_refl _, rfl⟩
  | scope b ih =>
    intro t orc fr σ ps e t' orc' fr' σ' hok h hp
    simp only [codeOkX] at hok
    simp only [DO] at h
    obtain ⟨g1, g2, g3⟩ := ih _ _ _ _ hok h hp
    exact ⟨g1.scope g3, g2, g3⟩
  | _ => intro t orc fr σ ps e t' orc' fr' σ' _ h; cases h

/-- A function along a path. -/
def DOfnX (C : Cfg) (X : List Nat) (n : Nat) (fn : Func) (args : List Value) (σ : AHeap) (orc : Orc) : Option (List Prop × Value × AHeap) :=
  match fn.body with
  | some body =>
    match DO C X n body 0 orc (args ++ List.replicate (fn.ntmps - args.length) undef) σ with
    | some (ps, .normal, _, _, fr, σ1) => (match aResults C.P fn fr σ1 with | some v => some (ps, v, σ1) | none => none)
    | some (ps, .ret, _, _, fr, σ1) => (match aResults C.P fn fr σ1 with | some v => some (ps, v, σ1) | none => none)
    | _ => none
  | none => none

def DOfn (C : Cfg) (n : Nat) (fn : Func) (args : List Value) (σ : AHeap) (orc : Orc) : Option (List Prop × Value × AHeap) := DOfnX C [] n fn args σ orc
def fnOkX (C : Cfg) (X : List Nat) (fn : Func) : Bool := (match fn.body with | some b => codeOkX C X b | none => false) && !(fn.name == "runtime.NumGoroutine")
theorem fnOkX_of {C : Cfg} {fn : Func} (h : fnOk C fn = true) : fnOkX C [] fn = true := by
  unfold fnOk at h
  unfold fnOkX
  cases hb : fn.body with
  | none => rw [hb] at h; cases h
  | some b =>
    rw [hb] at h
    simp only [Bool.and_eq_true] at h ⊢
    exact ⟨codeOkX_of h.1, h.2⟩

theorem DOfnX_sim {C : Cfg} (hC : C.Ok) {X : List Nat} {n : Nat} {fn : Func} {args : List Value} {σ σ1 : AHeap} {orc : Orc} {ps : List Prop} {v : Value} (hok : fnOkX C X fn = true) (h : DOfnX C X n fn args σ orc = some (ps, v, σ1)) (hp : All ps) :
    ∃ body e fr1, fn.body = some body ∧ Sim C σ.length body (args ++ List.replicate (fn.ntmps - args.length) undef) σ e fr1 σ1 ∧ (e = .normal ∨ e = .ret) ∧ aResults C.P fn fr1 σ1 = some v ∧ (fn.name == "runtime.NumGoroutine") = false := by
  unfold DOfnX at h
  unfold fnOkX at hok
  cases hb : fn.body with
  | none => rw [hb] at h; cases h
  | some body =>
    rw [hb] at h hok
    simp only [Bool.and_eq_true, Bool.not_eq_true'] at h hok
    split at h
    · rename_i hd
      split at h
      · rename_i hr; cases h; exact ⟨_, _, _, rfl, (DO_sound hC X n _ _ _ _ _ hok.1 hd hp).1, .inl rfl, hr, hok.2⟩
      · cases h
    · rename_i hd
      split at h
      · rename_i hr; cases h; exact ⟨_, _, _, rfl, (DO_sound hC X n _ _ _ _ _ hok.1 hd hp).1, .inr rfl, hr, hok.2⟩
      · cases h
    · cases h

theorem DOfn_sim {C : Cfg} (hC : C.Ok) {n : Nat} {fn : Func} {args : List Value} {σ σ1 : AHeap} {orc : Orc} {ps : List Prop} {v : Value} (hok : fnOk C fn = true) (h : DOfn C n fn args σ orc = some (ps, v, σ1)) (hp : All ps) :
    ∃ body e fr1, fn.body = some body ∧ Sim C σ.length body (args ++ List.replicate (fn.ntmps - args.length) undef) σ e fr1 σ1 ∧ (e = .normal ∨ e = .ret) ∧ aResults C.P fn fr1 σ1 = some v ∧ (fn.name == "runtime.NumGoroutine") = false :=
  DOfnX_sim hC (fnOkX_of hok) h hp

theorem CallR.of_DOX {C : Cfg} (hC : C.Ok) {X : List Nat} {f : FuncId} {fn : Func} {args : List Value} {σ σ1 : AHeap} {v : Value} {n : Nat} {orc : Orc} {ps : List Prop}
    (hf : C.P.funcs[f]? = some fn) (hok : fnOkX C X fn = true) (h : DOfnX C X n fn args σ orc = some (ps, v, σ1)) (hp : All ps) : CallR C.P C.ex f args σ v σ1 := by
  obtain ⟨body, e, fr1, hb, h1, h2, h3, h4⟩ := DOfnX_sim hC hok h hp
  exact CallR.of_sim_raw hC hf hb h4 h1 h2 h3
theorem CallR.of_DO {C : Cfg} (hC : C.Ok) {f : FuncId} {fn : Func} {args : List Value} {σ σ1 : AHeap} {v : Value} {n : Nat} {orc : Orc} {ps : List Prop}
    (hf : C.P.funcs[f]? = some fn) (hok : fnOk C fn = true) (h : DOfn C n fn args σ orc = some (ps, v, σ1)) (hp : All ps) : CallR C.P C.ex f args σ v σ1 := by
  obtain ⟨body, e, fr1, hb, h1, h2, h3, h4⟩ := DOfn_sim hC hok h hp
  exact CallR.of_sim_raw hC hf hb h4 h1 h2 h3
/-- A pure one. -/
theorem CallR.of_DO_pure {C : Cfg} (hC : C.Ok) {f : FuncId} {fn : Func} {args : List Value} {σ σ1 : AHeap} {v : Value} {n : Nat} {orc : Orc} {ps : List Prop}
    (hf : C.P.funcs[f]? = some fn) (hok : fnOk C fn = true) (h : DOfn C n fn args [] orc = some (ps, v, σ1)) (hp : All ps) (ha : args.all plain = true) (hv : plain v = true) : CallR C.P C.ex f args σ v σ := by
  obtain ⟨body, e, fr1, hb, h1, h2, h3, h4⟩ := DOfn_sim hC hok h hp
  refine CallR.frame ha (CallR.of_sim hC hf hb h4 (fun _ => h1) h2 h3 (plain_inert hv _).symm (r := fun b => b + σ1.length) ?_) hv
  exact ⟨Nat.le_refl _, fun b _ => Nat.le_add_left _ _, fun b hb => by simp at hb, fun b b' o o' h => by simp at h, fun b o h => by simp at h⟩
end Go.Lk
end

section
/- What a function does in a small heap it does in a greater one. -/
namespace Go.Lk
set_option linter.unusedSimpArgs false
set_option linter.unusedVariables false

/-- The small heap's rows are rows of the great one; they are only read. -/
structure Reads (σ0 : AHeap) (r : Nat → Nat) (σ : AHeap) : Prop where
  row : ∀ b o, σ0[b]? = some o → ∃ vs opn rw, o = .row vs false opn ∧ σ[r b]? = some (.row vs rw opn) ∧ vs.all plain = true
  out : ∀ b, σ0.length ≤ b → σ.length ≤ r b

theorem VRs.plain_to {ex : Bool} {μ μ' : List (Option Ent)} {vs cs : List Value} (hp : vs.all plain = true) (h : VRs ex μ vs cs) : VRs ex μ' vs cs := h.plain_ren hp

theorem Reads.back {ex : Bool} {B : Nat → Prop} {μ : List (Option Ent)} {σ0 σ : AHeap} {w : World} {r : Nat → Nat} (h : HR ex B μ σ w) (hs : Reads σ0 r σ) : ∀ b e, μ[r b]? = some (some e) → (renM μ r σ0.length)[b]? = some (some e) := by
  intro b e hb
  refine renM_back ?_ hb
  rcases Nat.lt_or_ge b σ0.length with h' | h'
  · exact h'
  · have := hs.out b h'
    have := lt_of_some hb
    have := h.len
    omega
theorem Reads.heap {ex : Bool} {B : Nat → Prop} {μ : List (Option Ent)} {σ0 σ : AHeap} {w : World} {r : Nat → Nat} (h : HR ex B μ σ w) (hs : Reads σ0 r σ) : HR ex (old w) (renM μ r σ0.length) σ0 w := by
  refine ⟨by simp [renM], fun _ hk => hk, fun b o hb hl => ?_, fun b o e hb he => ?_, fun b b' o o' e e' hb hb' he he' ho hl hc => ?_⟩
  · obtain ⟨vs, opn, rw', rfl, h2, h3⟩ := hs.row b o hb
    obtain ⟨e, he⟩ := h.has _ _ h2 rfl
    exact ⟨e, hs.back h b e he⟩
  · obtain ⟨vs, opn, rw', rfl, h2, h3⟩ := hs.row b o hb
    obtain ⟨_, hm⟩ := renM_some he
    obtain ⟨g0, g1, c, el, lo, hi, g2, g3, g4, g5⟩ := h.obj _ _ _ h2 hm
    exact ⟨g0, g1, c, el, lo, hi, g2, g3, g4.plain_to h3, fun h => by cases h⟩
  · obtain ⟨vs, opn, rw', rfl, h2, h3⟩ := hs.row b o hb
    cases ho

theorem VRs.ren' {ex : Bool} {μ1 μ' : List (Option Ent)} {r : Nat → Nat} (hr : ∀ b e, μ1[r b]? = some (some e) → μ'[b]? = some (some e)) {vs cs : List Value} (h : VRs ex μ1 (vs.map (renV r 3)) cs) : VRs ex μ' vs cs :=
  VRs.ren (fun v c => VR.ren hr 3 v c) h

/-- A quiet function. -/
theorem CallR.frameQ {P : Program} {ex : Bool} {f : FuncId} {args0 args : List Value} {σ0 σ0' σ : AHeap} {v : Value} {r : Nat → Nat} (hs : Reads σ0 r σ) (ha : args0.map (renV r 3) = args)
    (h : CallR P ex f args0 σ0 v σ0') (hv : plain v = true) : CallR P ex f args σ v σ := by
  intro B μ w cargs hr hargs
  subst ha
  refine (h (old w) _ w cargs (hs.heap hr) (hargs.ren' (hs.back hr))).mono ?_
  rintro cv w' ⟨μ', q1, q2, q3, q4⟩
  exact ⟨μ, q1.plain_ren hv, hr.below q4, Ext.refl _, ⟨q4.os, q4.tape, q4.output, q4.size, fun k hk => q4.block k (hr.hB k hk)⟩⟩

/-- A function that makes one new row (block k of the small heap) and hands it out. -/
theorem CallR.frameN {P : Program} {ex : Bool} {f : FuncId} {args0 args : List Value} {σ0 σ0' σ : AHeap} {v v0 : Value} {r q : Nat → Nat} {k : Nat} {vs : List Value} {opn : Option Nat} (hs : Reads σ0 r σ) (ha : args0.map (renV r 3) = args)
    (h : CallR P ex f args0 σ0 v0 σ0') (hk : σ0'[k]? = some (.row vs true opn)) (hp : vs.all plain = true) (hq : ∀ b, q b = if b = σ.length then k else b + σ0'.length) (hv : v0 = renV q 3 v) : CallR P ex f args σ v (σ ++ [.row vs true opn]) := by
  intro B μ w cargs hr hargs
  subst ha
  refine (h (old w) _ w cargs (hs.heap hr) (hargs.ren' (hs.back hr))).mono ?_
  rintro cv w' ⟨μ', q1, q2, q3, q4⟩
  obtain ⟨e, he⟩ := q2.has k _ hk rfl
  have hob := q2.obj k _ e hk he
  have hsz : w.heap.size ≤ e.cb := by
    obtain ⟨_, _, c, el, lo, hi, _, _, _, g5⟩ := hob
    have := (g5 rfl).1
    unfold old at this
    omega
  have hbel : Blw B w w' := ⟨q4.os, q4.tape, q4.output, q4.size, fun k hk => q4.block k (hr.hB k hk)⟩
  have hr' := hr.below q4
  have hnew : ∀ b (e' : Ent), (μ ++ [some e])[b]? = some (some e') → (b < μ.length ∧ μ[b]? = some (some e')) ∨ (b = μ.length ∧ e' = e) := by
    intro b e' hb
    rcases Nat.lt_or_ge b μ.length with h' | h'
    · left; rw [List.getElem?_append_left h'] at hb; exact ⟨h', hb⟩
    · right
      rw [List.getElem?_append_right h'] at hb
      have hlt := lt_of_some hb
      simp only [List.length_singleton] at hlt
      have h0 : b - μ.length = 0 := by omega
      rw [h0] at hb
      simp only [List.getElem?_cons_zero, Option.some.injEq] at hb
      exact ⟨by omega, hb.symm⟩
  have hobj : ∀ b o, (σ ++ [AObj.row vs true opn])[b]? = some o → (b < σ.length ∧ σ[b]? = some o) ∨ (b = σ.length ∧ o = .row vs true opn) := by
    intro b o hb
    rcases Nat.lt_or_ge b σ.length with h' | h'
    · left; rw [List.getElem?_append_left h'] at hb; exact ⟨h', hb⟩
    · right
      rw [List.getElem?_append_right h'] at hb
      have hlt := lt_of_some hb
      simp only [List.length_singleton] at hlt
      have h0 : b - σ.length = 0 := by omega
      rw [h0] at hb
      simp only [List.getElem?_cons_zero, Option.some.injEq] at hb
      exact ⟨by omega, hb.symm⟩
  have hl := hr.len
  have old : ∀ (b : Nat) (o : AObj) (e' : Ent), σ[b]? = some o → μ[b]? = some (some e') → o.live = true → e'.cb < w.heap.size := fun b o e' h1 h2 h3 => (hr.obj b o e' h1 h2).lt h3
  refine ⟨μ ++ [some e], ?_, ⟨by simp [hl], fun k hk => by have := q4.size; have := hr.hB k hk; omega, fun b o hb hlv => ?_, fun b o e' hb he' => ?_, fun b b' o o' e1 e2 hb hb' he1 he2 ho hlv hc => ?_⟩, Ext.snoc _ _, hbel⟩
  · rw [hv] at q1
    refine VR.ren (r := q) (fun b e' hb => ?_) 3 _ _ q1
    rw [hq] at hb
    split at hb
    · rename_i h1
      rw [he] at hb
      cases hb
      rw [List.getElem?_append_right (by omega), h1, ← hl]
      simp
    · have := lt_of_some hb
      have := q2.len
      omega
  · rcases hobj b o hb with ⟨h1, h2⟩ | ⟨h1, rfl⟩
    · obtain ⟨e', he'⟩ := hr.has b o h2 hlv
      exact ⟨e', by rw [List.getElem?_append_left (by omega)]; exact he'⟩
    · exact ⟨e, by rw [List.getElem?_append_right (by omega), h1, ← hl]; simp⟩
  · rcases hobj b o hb with ⟨h1, h2⟩ | ⟨h1, rfl⟩
    · rcases hnew b e' he' with ⟨g1, g2⟩ | ⟨g1, g2⟩
      · refine (hr'.obj b o e' h2 g2).mono (Sub.snoc _ _) (fun _ => rfl)
      · omega
    · rcases hnew b e' he' with ⟨g1, g2⟩ | ⟨g1, rfl⟩
      · omega
      · obtain ⟨g0, g1', c, el, lo, hi, g2, g3, g4, g5⟩ := hob
        exact ⟨g0, g1', c, el, lo, hi, g2, g3, g4.plain_to hp, fun h => ⟨fun hk => by have := hr.hB _ hk; omega, (g5 h).2⟩⟩
  · rcases hobj b o hb with ⟨h1, h2⟩ | ⟨h1, rfl⟩
    · rcases hnew b e1 he1 with ⟨g1, g2⟩ | ⟨g1, g2⟩
      · rcases hobj b' o' hb' with ⟨h1', h2'⟩ | ⟨h1', rfl⟩
        · rcases hnew b' e2 he2 with ⟨g1', g2'⟩ | ⟨g1', g2'⟩
          · exact hr.inj b b' o o' e1 e2 h2 h2' g2 g2' ho hlv hc
          · omega
        · rcases hnew b' e2 he2 with ⟨g1', g2'⟩ | ⟨g1', rfl⟩
          · omega
          · have := old b o e1 h2 g2 (by cases o <;> first | rfl | cases ho)
            omega
      · omega
    · rcases hnew b e1 he1 with ⟨g1, g2⟩ | ⟨g1, rfl⟩
      · omega
      · rcases hobj b' o' hb' with ⟨h1', h2'⟩ | ⟨h1', rfl⟩
        · rcases hnew b' e2 he2 with ⟨g1', g2'⟩ | ⟨g1', g2'⟩
          · have := old b' o' e2 h2' g2' hlv
            omega
          · omega
        · omega
end Go.Lk
end
