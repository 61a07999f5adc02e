/- A region whose order is open, with loads that stand in no order with its stores: those go elsewhere. -/
import Derived.Test.YtmomainjlncogaaLkLC
namespace Go.Lk
set_option linter.unusedSimpArgs false
set_option linter.unusedVariables false

/-- Does block b stay? -/
def keeps (C : Cfg) (ops : Array Oper) (b : Nat) : List Oper → List Value → AHeap → Bool
  | [], _, _ => true
  | o :: l, fr, σ =>
    match wantedA ops fr o with
    | some true =>
      match aOp C fr σ o.op with
      | some (v, σ') =>
        (cls C o.op != 2 || (match o.op with
          | .store _ x _ => (match aev fr x with | some (.pointer (some ⟨b', _, none⟩)) => b' != b | _ => false)
          | _ => false)) && keeps C ops b l (putA fr o.dst v) σ'
      | none => false
    | some false => keeps C ops b l (putA fr o.dst undef) σ
    | none => false
/-- The blocks that are loaded from out of order. -/
def loadsOf (C : Cfg) (ops : Array Oper) (sl : List Nat) : Nat → List Oper → List Value → AHeap → Option (List Nat)
  | _, [], _, _ => some []
  | k, o :: l, fr, σ =>
    match (match wantedA ops fr o with
      | some true => (match aOp C fr σ o.op with | some (v, σ') => loadsOf C ops sl (k + 1) l (putA fr o.dst v) σ' | none => none)
      | some false => loadsOf C ops sl (k + 1) l (putA fr o.dst undef) σ
      | none => none) with
    | some bs =>
      bif sl.contains k then
        match o.op with
        | .load _ x => (match aev fr x with | some (.pointer (some ⟨b, _, none⟩)) => some (b :: bs) | _ => none)
        | _ => none
      else some bs
    | none => none
def steadyB (C : Cfg) (ops : Array Oper) (sl : List Nat) (fr : List Value) (σ : AHeap) : Bool :=
  match loadsOf C ops sl 0 ops.toList fr σ with
  | some bs => bs.all fun b => decide (b < σ.length) && keeps C ops b ops.toList fr σ
  | none => false

section
variable {C : Cfg} {ops : Array Oper} {fs : Nat → List Value} {ss : Nat → AHeap} {vs : Nat → Value} {wd : Nat → Bool}

theorem store_else {fr : List Value} {σ σ' : AHeap} {t : TypeId} {x y : Operand} {v : Value} {b' o' b : Nat} (h : aOp C fr σ (.store t x y) = some (v, σ')) (hx : aev fr x = some (.pointer (some ⟨b', o', none⟩))) (hne : b' ≠ b) : σ'[b]? = σ[b]? := by
  simp only [aOp, isMem, cond_true, aMem, hx] at h
  split at h
  · rename_i a v' e1 e2
    cases e1
    split at h
    · rename_i σ1 hs
      cases h
      unfold aStore at hs
      simp only at hs
      split at hs
      · split at hs
        · split at hs
          · cases hs; rw [List.getElem?_set, if_neg hne]
          · cases hs
        · cases hs
      · cases hs
    · cases h
  · cases h

theorem keeps_spec (hC : C.Ok) (ht : Trace C ops fs ss vs wd) {b : Nat} : ∀ (l : List Oper) (k : Nat), (∀ j, l[j]? = ops[k + j]?) → keeps C ops b l (fs k) (ss k) = true → b < (ss k).length → ∀ s, k ≤ s → s ≤ k + l.length → (ss s)[b]? = (ss k)[b]?
  | [], k, _, _, _, s, h1, h2 => by
    have : s = k := by simp at h2; omega
    rw [this]
  | o :: l, k, hl, h, hb, s, h1, h2 => by
    have ho : ops[k]? = some o := by simpa using (hl 0).symm
    have hl' : ∀ j, l[j]? = ops[k + 1 + j]? := fun j => by have := hl (j + 1); simpa [Nat.add_assoc, Nat.add_comm 1 j] using this
    have hf := ht.f k o ho
    have hw := ht.w k o ho
    unfold keeps at h
    rw [hw] at h
    have step : keeps C ops b l (fs (k + 1)) (ss (k + 1)) = true ∧ (ss (k + 1))[b]? = (ss k)[b]? := by
      cases hwd : wd k
      · rw [hwd] at h
        have hno := ht.no k o ho hwd
        rw [hf, hno.1, hno.2]
        exact ⟨h, rfl⟩
      · rw [hwd] at h
        have hy := ht.yes k o ho hwd
        simp only [hy, Bool.and_eq_true, Bool.or_eq_true] at h
        rw [hf]
        refine ⟨h.2, ?_⟩
        rcases cls_le C o.op with h' | h' | h' | h' | h'
        · rw [(cls0 h' hy).1]
        · rw [(cls1 h' hy).1]
        · rcases h.1 with g | g
          · rw [h'] at g; cases g
          · split at g
            · rename_i t x y hop
              split at g
              · rename_i b' o' hx
                rw [hop] at hy
                exact store_else hy hx (by simpa using g)
              · cases g
            · cases g
        · obtain ⟨m, row, _, hrow, _⟩ := cls3 h' hy
          rw [hrow, List.getElem?_append_left hb]
        · rw [cls4 hC h' hy]
    by_cases hsk : s = k
    · rw [hsk]
    · have hb' : b < (ss (k + 1)).length := by
        rcases Nat.lt_or_ge b (ss (k + 1)).length with g | g
        · exact g
        · have := step.2
          rw [List.getElem?_eq_none g, List.getElem?_eq_getElem hb] at this
          cases this
      rw [keeps_spec hC ht l (k + 1) hl' step.1 hb' s (by omega) (by simp at h2; omega), step.2]

theorem loads_spec (ht : Trace C ops fs ss vs wd) {sl : List Nat} : ∀ (l : List Oper) (k : Nat) (bs : List Nat), (∀ j, l[j]? = ops[k + j]?) → loadsOf C ops sl k l (fs k) (ss k) = some bs →
    ∀ (j : Nat) (oj : Oper) (b o : Nat) (t : TypeId) (x : Operand), k ≤ j → ops[j]? = some oj → sl.contains j = true → oj.op = .load t x → aev (fs j) x = some (.pointer (some ⟨b, o, none⟩)) → b ∈ bs
  | [], k, bs, hl, h, j, oj, b, o, t, x, hkj, hoj, hs, hop, hx => by
    have := hl (j - k)
    rw [show k + (j - k) = j by omega, hoj] at this
    simp at this
  | o1 :: l, k, bs, hl, h, j, oj, b, o, t, x, hkj, hoj, hs, hop, hx => by
    have ho : ops[k]? = some o1 := by simpa using (hl 0).symm
    have hl' : ∀ j, l[j]? = ops[k + 1 + j]? := fun j => by have := hl (j + 1); simpa [Nat.add_assoc, Nat.add_comm 1 j] using this
    have hf := ht.f k o1 ho
    have hw := ht.w k o1 ho
    unfold loadsOf at h
    rw [hw] at h
    have hrest : ∃ bs1, loadsOf C ops sl (k + 1) l (fs (k + 1)) (ss (k + 1)) = some bs1 ∧ (bif sl.contains k then
        match o1.op with
        | .load _ x => (match aev (fs k) x with | some (.pointer (some ⟨b, _, none⟩)) => some (b :: bs1) | _ => none)
        | _ => none
      else some bs1) = some bs := by
      cases hwd : wd k
      · rw [hwd] at h
        have hno := ht.no k o1 ho hwd
        rw [hf, hno.1, hno.2]
        simp only at h
        split at h
        · rename_i bs1 e; exact ⟨bs1, e, h⟩
        · cases h
      · rw [hwd] at h
        have hy := ht.yes k o1 ho hwd
        simp only [hy] at h
        rw [hf]
        split at h
        · rename_i bs1 e; exact ⟨bs1, e, h⟩
        · cases h
    obtain ⟨bs1, r1, r2⟩ := hrest
    by_cases hjk : j = k
    · subst hjk
      rw [ho] at hoj
      cases hoj
      rw [hs] at r2
      simp only [cond_true, hop, hx] at r2
      cases r2
      exact List.mem_cons_self
    · have hm := loads_spec ht l (k + 1) bs1 hl' r1 j oj b o t x (by omega) hoj hs hop hx
      generalize List.contains sl k = c at r2
      cases c with
      | false => simp only [cond_false, Option.some.injEq] at r2; rw [← r2]; exact hm
      | true =>
        simp only [cond_true] at r2
        split at r2
        · split at r2
          · simp only [Option.some.injEq] at r2; rw [← r2]; exact List.mem_cons_of_mem _ hm
          · cases r2
        · cases r2

theorem Sim.regionS (hC : C.Ok) {id : Nat} {sl : List Nat} {fr fr' : List Value} {σ σ' : AHeap} (hok : drawOkS C ops sl = true) (h : runOps C ops ops.toList fr σ = some (fr', σ')) (hs : steadyB C ops sl fr σ = true) :
    Sim C σ.length (.region id ops true) fr σ .normal fr' σ' := by
  obtain ⟨fs, ss, vs, wd, e1, e2, e3, e4, ht⟩ := trace_whole h
  refine Sim.draw hC (drawOkS_spec hok) e1 e2 e3 e4 ht ?_
  intro j oj b o t x hj hsj hop hx
  unfold steadyB at hs
  rw [← e1, ← e2] at hs
  split at hs
  · rename_i bs hb
    have hm := loads_spec ht ops.toList 0 bs (fun j => by simp) hb j oj b o t x (Nat.zero_le _) hj hsj hop hx
    have := (List.all_eq_true.1 hs) b hm
    simp only [Bool.and_eq_true, decide_eq_true_eq] at this
    refine ⟨this.1, fun s hsz _ => ?_⟩
    have hk := keeps_spec hC ht ops.toList 0 (fun j => by simp) this.2 this.1
    have hjl : j < ops.size := (Array.getElem?_eq_some_iff.1 hj).1
    rw [hk s (Nat.zero_le _) (by simpa using hsz), hk j (Nat.zero_le _) (by simp; omega)]
  · cases hs
end
/-- The loads of a region. -/
def ldIdx (C : Cfg) (ops : Array Oper) : List Nat := (List.range ops.size).filter fun i => match ops[i]? with | some o => cls C o.op == 1 | none => false
def runS (C : Cfg) (ops : Array Oper) (dr : Bool) (fr : List Value) (σ : AHeap) : Option (List Value × AHeap) :=
  bif dr && (drawOkS C ops (ldIdx C ops) && steadyB C ops (ldIdx C ops) fr σ) then runOps C ops ops.toList fr σ else none
theorem Sim.runS {C : Cfg} (hC : C.Ok) {id : Nat} {ops : Array Oper} {dr : Bool} {fr fr' : List Value} {σ σ' : AHeap} (h : runS C ops dr fr σ = some (fr', σ')) : Sim C σ.length (.region id ops dr) fr σ .normal fr' σ' ∧ runOps C ops ops.toList fr σ = some (fr', σ') := by
  unfold Lk.runS at h
  cases hb : (dr && (drawOkS C ops (ldIdx C ops) && steadyB C ops (ldIdx C ops) fr σ))
  · rw [hb] at h; cases h
  · rw [hb] at h
    simp only [Bool.and_eq_true] at hb
    obtain ⟨rfl, h1, h2⟩ := hb
    exact ⟨Sim.regionS hC h1 h h2, h⟩
end Go.Lk
