import Derived.Test.YtmomainjlncogaaLkZ
section
/- All operations on memory. -/
namespace Go.Lk
set_option linter.unusedSimpArgs false
set_option linter.unusedVariables false

variable {ex : Bool} {μ μ' : List (Option Ent)} {P : Program} {B : Nat → Prop} {σ σ' : AHeap} {w w' : World}

theorem copy_sound {tys : Array TypeId} {xs : List Value} {ys : Array Value} {ty : TypeId} {v : Value} (h : aCopy P σ tys.toList xs = some (v, σ')) (hx : VRs ex μ xs ys.toList) (hr : HR ex B μ σ w) :
    okh P ex B μ σ' (do pure (.value (← Builtin.copy_ tys ty ys))) v w := by
  unfold aCopy at h
  split at h
  · rename_i t ts s x xr hts
    obtain ⟨s', hys0, vs⟩ := hx.2 0 s rfl
    obtain ⟨x', hys1, vx⟩ := hx.2 1 x rfl
    rw [Array.getElem?_toList] at hys0 hys1
    have ht0 : tys[0]? = some t := by rw [← Array.getElem?_toList, hts]; rfl
    split at h
    · rename_i e base len cap n hu hsl
      split at h
      · rename_i sz hsz
        split at h
        · rename_i cs hcs
          obtain ⟨base', cap', rfl, _⟩ := slice_shape vs
          obtain ⟨cs', hrc, vc, hl⟩ := cells_sound (P := P) hcs vx hr
          have hln := lenOf_sound (P := P) hsl vx w
          have hrc' := hrc w rfl
          have hmin : n.min len = min n len := rfl
          split at h
          · rename_i b o z
            split at h
            · rename_i σ1 hput
              cases h
              by_cases hne : cs = []
              · subst hne
                have : cs' = [] := by have := vc.1; simpa using this.symm
                subst this
                simp only [aPut, if_true] at hput
                cases hput
                refine ⟨.value (.int .i64 (min n len : Nat)), w, μ, ?_, .int _ _, hr, Ext.refl _, Blw.refl _ _⟩
                cases base' <;> simp [Builtin.copy_, ht0, hys0, hys1, run_underlying hu, hln, run_sizeOf' hsz, hmin, hrc', goInt, storeCells]
              · cases vs with
                | slice hm hc =>
                  obtain ⟨w2, q1, q2, q3, q4⟩ := put_sound (P := P) hput hm vc hr 0
                  refine ⟨.value (.int .i64 (min n len : Nat)), w2, μ, ?_, .int _ _, q2, Ext.refl _, q3⟩
                  simp [Builtin.copy_, ht0, hys0, hys1, run_underlying hu, hln, run_sizeOf' hsz, hmin, hrc', goInt, q1]
                | sempty hm a =>
                  have : cs = [] := List.length_eq_zero_iff.1 (by rw [hl]; simp)
                  exact absurd this hne
            · cases h
          · cases h
          · split at h
            · rename_i hne
              cases h
              subst hne
              have : cs' = [] := by have := vc.1; simpa using this.symm
              subst this
              refine ⟨.value (.int .i64 (min n len : Nat)), w, μ, ?_, .int _ _, hr, Ext.refl _, Blw.refl _ _⟩
              cases base' <;> simp [Builtin.copy_, ht0, hys0, hys1, run_underlying hu, hln, run_sizeOf' hsz, hmin, hrc', goInt, storeCells]
            · cases h
        · cases h
      · cases h
    · cases h
  · cases h

theorem range_sound {t : TypeId} {x x' v : Value} (h : aRange P σ t x = some (v, σ')) (hx : VR ex μ x x') (hr : HR ex B μ σ w) :
    okh P ex B μ σ' (do pure (.value (← Instr.range t x'))) v w := by
  unfold aRange at h
  split at h
  · rename_i s hu
    cases h
    rw [hx.string_of]
    have hμ : (μ ++ [some (⟨w.heap.size, 0, 0, 0, 0⟩ : Ent)])[σ.length]? = some (some ⟨w.heap.size, 0, 0, 0, 0⟩) := by rw [← hr.len]; simp
    refine ⟨.value (.pointer (some ⟨w.heap.size, 0, none⟩)), { w with heap := w.heap.push (.stringIter s 0) }, μ ++ [some ⟨w.heap.size, 0, 0, 0, 0⟩], ?_, ?_, ?_, Ext.snoc _ _, Blw.push' rfl hr.hB⟩
    · simp [Instr.range, run_underlying hu]
    · have := VR.ptr (ex := ex) (o := 0) hμ
      exact this
    · exact hr.push (.stringIter s 0) _ _ rfl rfl ⟨rfl, by simp, hr.new⟩
  · cases h

theorem next_sound {it it' v : Value} {ty : TypeId} (h : aNext σ it = some (v, σ')) (hi : VR ex μ it it') (hr : HR ex B μ σ w) :
    okh P ex B μ σ' (do pure (.value (← Instr.next it' true ty))) v w := by
  unfold aNext at h
  split at h
  · split at h
    · rename_i b _ s pos hb
      cases hi with
      | ptr hm =>
        rename_i en
        obtain ⟨h1, h2, h3⟩ := hr.obj _ _ _ hb hm
        have hget : (getObj en.cb).run P w = .ok (.stringIter s pos) w := by simp [getObj, Sem.run, h2]
        split at h
        · rename_i hlt
          cases h
          refine ⟨.value (.tuple #[.bool true, .int .i64 pos, .int .i32 (Utf8.decode s pos).1]), setBlock w en.cb (.stringIter s (pos + (Utf8.decode s pos).2)), μ, ?_, ?_, ?_, Ext.refl _, Blw.setBlock' w _ h3⟩
          · have hset : (setObj en.cb (.stringIter s (pos + (Utf8.decode s pos).2))).run P w = .ok () (setBlock w en.cb (.stringIter s (pos + (Utf8.decode s pos).2))) := by
              simp [setObj, Sem.run, h2, setBlock]
            simp [Instr.next, h1, hget, hlt, hset, goInt]
          · exact VRs.toTuple' (c := [_, _, _]) (c' := [_, _, _]) (.cons (.bool _) (.cons (.int _ _) (.cons (.int _ _) .nil)))
          · refine hr.setAt hb hm rfl (fun _ => rfl) ⟨h1, ?_, h3⟩
            rw [setBlock_heap, if_pos ⟨rfl, (Array.getElem?_eq_some_iff.1 h2).1⟩]
        · rename_i hlt
          cases h
          refine ⟨.value (.tuple #[.bool false]), w, μ, ?_, VRs.toTuple' (c := [_]) (c' := [_]) (.cons (.bool _) .nil), hr, Ext.refl _, Blw.refl _ _⟩
          simp [Instr.next, h1, hget, hlt]
    · cases h
  · cases h

theorem aMem_sound {fr : List Value} {a : Act} {o : Oper} {v : Value} (h : aMem P fr σ o.op = some (v, σ')) (hf : FrR ex μ fr a.tmps) (hr : HR ex B μ σ w) :
    okh P ex B μ σ' (execOp a.eval o) v w := by
  obtain ⟨dst, op, ty, pos, after, guard⟩ := o
  unfold aMem at h
  simp only at h
  split at h
  · split at h
    · rename_i h1
      split at h
      · rename_i v' h2
        cases h
        obtain ⟨u, r1, r2⟩ := load_sound (P := P) h2 (aev_sound hf h1) hr
        exact ⟨.value u, w, μ, by simp [execOp, r1], r2, hr, Ext.refl _, Blw.refl _ _⟩
      · cases h
    · cases h
  · split at h
    · rename_i h1 h2
      split at h
      · rename_i h3
        cases h
        obtain ⟨w2, r1, r2, r3⟩ := store_sound (P := P) h3 (aev_sound hf h1) (aev_sound hf h2) hr
        exact ⟨.skip, w2, μ, by simp [execOp, r1], rfl, r2, Ext.refl _, r3⟩
      · cases h
    · cases h
  · split at h
    · rename_i z hz; cases h; exact alloc_sound hz hr
    · cases h
  · split at h
    · rename_i h1; cases h; exact box_sound (aev_sound hf h1) hr
    · cases h
  · split at h
    · rename_i t ps _ vs h1
      split at h
      · rename_i v' h2
        cases h
        obtain ⟨u, r1, r2⟩ := build_sound h2 (mapP_sound hf h1)
        refine ⟨.value u, w, μ, ?_, r2, hr, Ext.refl _, Blw.refl _ _⟩
        have := r1 w
        simp only [execOp, Sem.run_bind]
        rw [show Array.map (fun (x : Nat × Operand) => (x.1, a.eval x.2)) ps = (List.map (fun (x : Nat × Operand) => (x.1, a.eval x.2)) ps.toList).toArray by rw [← Array.toList_map, Array.toArray_toList]] 
        rw [this]
        rfl
      · cases h
    · cases h
  · split at h
    · rename_i t n ps _ vs h1
      obtain ⟨nx, w2, μ2, r1, r2⟩ := buildSlice_sound h (mapP_sound hf h1) hr
      refine ⟨nx, w2, μ2, ?_, r2⟩
      rw [← r1]
      simp only [execOp]
      rw [show Array.map (fun (x : Nat × Operand) => (x.1, a.eval x.2)) ps = (List.map (fun (x : Nat × Operand) => (x.1, a.eval x.2)) ps.toList).toArray by rw [← Array.toList_map, Array.toArray_toList]]
    · cases h
  · split at h
    · rename_i h1 h2; exact make_sound h (aev_sound hf h1) (aev_sound hf h2) hr
    · cases h
  · split at h
    · rename_i h1; exact range_sound h (aev_sound hf h1) hr
    · cases h
  · split at h
    · rename_i h1; exact next_sound h (aev_sound hf h1) hr
    · cases h
  · split at h
    · rename_i args tys _ vs h1
      have := mapO_sound hf h1
      exact append_sound (ty := ty) h (ys := Array.map a.eval args) (by simpa using this) hr
    · cases h
  · split at h
    · rename_i args tys _ vs h1
      have := mapO_sound hf h1
      exact copy_sound (ty := ty) h (ys := Array.map a.eval args) (by simpa using this) hr
    · cases h
  · cases h

end Go.Lk
end

section
/- Operations with calls, regions in the text's order, code. -/
namespace Go.Lk
set_option linter.unusedSimpArgs false
set_option linter.unusedVariables false

/-- What is known of the functions: which are pure (of their arguments alone), which leave the heap as it was. -/
structure Cfg where
  P : Program
  ex : Bool
  p : FuncId → Bool
  Gp : FuncId → List Value → Option Value
  q : FuncId → Bool
  G : FuncId → List Value → AHeap → Option (Value × AHeap)

/-- A call of a function by its number: an extern's value, or a body's ending. -/
def CallsTo (P : Program) (f : FuncId) (args : Array Value) (w : World) (R : Value → World → Prop) : Prop :=
  match (callFunc f args).run P w with
  | .ok (.value v) w' => R v w'
  | .ok (.enter g as) w' => Calls P g as w' fun e w'' => ∃ v, e = .returned v ∧ R v w''
  | _ => False

attribute [irreducible] CallsTo

def CallR (P : Program) (ex : Bool) (f : FuncId) (args : List Value) (σ : AHeap) (v : Value) (σ' : AHeap) : Prop :=
  ∀ (B : Nat → Prop) (μ : List (Option Ent)) (w : World) (cargs : Array Value), HR ex B μ σ w → VRs ex μ args cargs.toList →
    CallsTo P f cargs w fun cv w' => ∃ μ', VR ex μ' v cv ∧ HR ex B μ' σ' w' ∧ Ext μ μ' ∧ Blw B w w'

structure Cfg.Ok (C : Cfg) : Prop where
  gp : ∀ f args v, C.p f = true → C.Gp f args = some v → ∀ σ, CallR C.P C.ex f args σ v σ
  g : ∀ f args σ v σ', C.G f args σ = some (v, σ') → CallR C.P C.ex f args σ v σ'
  q : ∀ f args σ v σ', C.q f = true → C.G f args σ = some (v, σ') → σ' = σ
  mono : ∀ f args σ v σ', C.G f args σ = some (v, σ') → σ.length ≤ σ'.length
  mix : C.P.follows .mixedOrders = true

def isMem : Op → Bool
  | .load .. | .store .. | .alloc _ | .box .. | .build .. | .buildSlice .. | .makeSlice .. | .range .. | .next .. => true
  | .call { callee := .builtin .append, .. } | .call { callee := .builtin .copy, .. } => true
  | _ => false

def aCall (C : Cfg) (fr : List Value) (σ : AHeap) (f : Operand) (args : Array Operand) : Option (Value × AHeap) :=
  match aev fr f, mapO (aev fr) args.toList with
  | some (.func (.func g) first captured), some vs =>
    bif C.p g then
      match C.Gp g (first.toList ++ vs ++ captured.toList) with
      | some v => some (v, σ)
      | none => none
    else C.G g (first.toList ++ vs ++ captured.toList) σ
  | _, _ => none

def aOp (C : Cfg) (fr : List Value) (σ : AHeap) (o : Op) : Option (Value × AHeap) :=
  match o with
  | .call { callee := .value f, args, .. } => aCall C fr σ f args
  | o =>
    bif isMem o then aMem C.P fr σ o else
    match aPure C.P C.ex fr o with
    | some v => some (v, σ)
    | none => none

def putA (fr : List Value) (dst : Option Tmp) (v : Value) : List Value :=
  match dst with
  | some d => fr.set d v
  | none => fr

/-- Is an operation wanted? (none: that is not known.) -/
def wantedA (ops : Array Oper) (fr : List Value) (o : Oper) : Option Bool :=
  match o.guard with
  | none => some true
  | some (j, want) =>
    match (ops[j]?).bind (·.dst) with
    | none => some false
    | some d =>
      match fr[d]? with
      | none => some false
      | some (.bool b) => some (b == want)
      | some v => bif isU v then none else some false

def runOps (C : Cfg) (ops : Array Oper) : List Oper → List Value → AHeap → Option (List Value × AHeap)
  | [], fr, σ => some (fr, σ)
  | o :: rest, fr, σ =>
    match wantedA ops fr o with
    | some true =>
      match aOp C fr σ o.op with
      | some (v, σ') => runOps C ops rest (putA fr o.dst v) σ'
      | none => none
    | some false => runOps C ops rest (putA fr o.dst undef) σ
    | none => none

section
variable {C : Cfg} {μ μ' : List (Option Ent)} {B : Nat → Prop} {σ σ' : AHeap} {w w' : World}

theorem FrR.put {ex : Bool} {fr : List Value} {a : Act} {v v' : Value} (h : FrR ex μ fr a.tmps) (hv : VR ex μ v v') (dst : Option Tmp) :
    FrR ex μ (putA fr dst v) (a.put dst v').tmps := by
  cases dst with
  | none => exact h
  | some d =>
    refine ⟨by simp [putA, Act.put, h.1], fun i x hx => ?_⟩
    simp only [putA, Act.put] at hx ⊢
    rw [List.getElem?_set] at hx
    rw [Array.getElem?_setIfInBounds]
    split at hx
    · rename_i e
      rw [if_pos e]
      split at hx
      · rename_i hn; cases hx; exact ⟨v', by rw [if_pos (by rw [← h.1]; exact hn)], .inr hv⟩
      · cases hx
    · rename_i e
      rw [if_neg e]
      exact h.2 i x hx
theorem FrR.mono {ex : Bool} {fr : List Value} {tmps : Array Value} (hs : Sub μ μ') (h : FrR ex μ fr tmps) : FrR ex μ' fr tmps :=
  ⟨h.1, fun i x hx => let ⟨c, hc, hv⟩ := h.2 i x hx; ⟨c, hc, hv.imp id (VR.mono hs)⟩⟩

theorem aCall_sound (hC : C.Ok) {fr : List Value} {a : Act} {o : Oper} {f : Operand} {args : Array Operand} {tys : Array TypeId} {v : Value}
    (ho : o.op = .call { callee := .value f, args, argTypes := tys }) (h : aCall C fr σ f args = some (v, σ'))
    (hf : FrR C.ex μ fr a.tmps) (hr : HR C.ex B μ σ w) {K : Act → World → Prop} {Q : Exit → Act → World → Prop}
    (hK : ∀ v' w' μ', VR C.ex μ' v v' → HR C.ex B μ' σ' w' → Ext μ μ' → Blw B w w' → K (a.put o.dst v') w') : o.wp C.P a w K Q := by
  unfold aCall at h
  split at h
  · rename_i g first captured vs h1 h2
    obtain ⟨first', captured', hfv, v1, v2⟩ := (aev_sound hf h1).func_iff
    have hargs := mapO_sound hf h2
    have hR : CallR C.P C.ex g (first.toList ++ vs ++ captured.toList) σ v σ' := by
      cases hp : C.p g <;> rw [hp] at h <;> simp only [cond_true, cond_false] at h
      · exact hC.g _ _ _ _ _ h
      · split at h
        · rename_i v' hg; cases h; exact hC.gp _ _ _ hp hg σ
        · cases h
    have hcalls := hR B μ w (first' ++ args.map a.eval ++ captured') hr (by
      simp only [Array.toList_append, Array.toList_map]
      exact (v1.append hargs).append v2)
    unfold CallsTo at hcalls
    have hexec : execOp a.eval o = callFunc g (first' ++ args.map a.eval ++ captured') := by
      obtain ⟨dst, op, ty, pos, after, guard⟩ := o
      simp only at ho
      subst ho
      simp only [execOp, resolve, hfv, Deferred.ofValue]
      rfl
    unfold Oper.wp
    rw [hexec]
    split at hcalls
    · rename_i cv w1 hrun
      rw [hrun]
      obtain ⟨μ', q1, q2, q3, q4⟩ := hcalls
      exact hK _ _ _ q1 q2 q3 q4
    · rename_i g' as w1 hrun
      rw [hrun]
      refine Calls.mono hcalls ?_
      rintro e w2 ⟨cv, rfl, μ', q1, q2, q3, q4⟩
      exact hK _ _ _ q1 q2 q3 q4
    · exact hcalls.elim
  · cases h

theorem aOp_sound (hC : C.Ok) {fr : List Value} {a : Act} {o : Oper} {v : Value} (h : aOp C fr σ o.op = some (v, σ'))
    (hf : FrR C.ex μ fr a.tmps) (hr : HR C.ex B μ σ w) {K : Act → World → Prop} {Q : Exit → Act → World → Prop}
    (hK : ∀ v' w' μ', VR C.ex μ' v v' → HR C.ex B μ' σ' w' → Ext μ μ' → Blw B w w' → K (a.put o.dst v') w') : o.wp C.P a w K Q := by
  have fin : okh C.P C.ex B μ σ' (execOp a.eval o) v w → o.wp C.P a w K Q := by
    rintro ⟨nx, w', μ', h1, h2, h3, h4, h5⟩
    unfold Oper.wp
    rw [h1]
    cases nx with
    | value v' => exact hK _ _ _ h2 h3 h4 h5
    | skip => cases h2; exact hK _ _ _ VR.undef h3 h4 h5
    | _ => exact h2.elim
  unfold aOp at h
  split at h
  · rename_i ho; exact aCall_sound hC ho h hf hr hK
  · rename_i hno
    cases hm : isMem o.op <;> rw [hm] at h <;> simp only [cond_true, cond_false] at h
    · split at h
      · rename_i v' hp
        cases h
        exact fin ((aPure_sound hp hf).mem hr)
      · cases h
    · exact fin (aMem_sound h hf hr)

theorem wanted_eq {ex : Bool} {ops : Array Oper} {fr : List Value} {tmps : Array Value} (hf : FrR ex μ fr tmps) {o : Oper} {b : Bool} (h : wantedA ops fr o = some b) : Region.wanted o (yielded ops tmps) = b := by
  unfold wantedA at h
  unfold Region.wanted
  split at h
  · rename_i hg; rw [hg]; cases h; rfl
  · rename_i j want hg
    rw [hg]
    simp only
    unfold yielded
    cases hd : (ops[j]?).bind (·.dst) with
    | none => rw [hd] at h; cases h; rfl
    | some d =>
      rw [hd] at h
      simp only [Option.bind_some] at h ⊢
      split at h
      · rename_i hv
        cases h
        have : tmps[d]? = none := by
          rw [Array.getElem?_eq_none_iff]
          have := List.getElem?_eq_none_iff.1 hv
          rw [hf.1] at this
          exact this
        rw [this]; rfl
      · rename_i b' hv
        cases h
        obtain ⟨y, hy, hvy⟩ := hf.2 d _ hv
        rcases hvy with hu | hvy
        · cases hu
        · rw [hvy.bool_of] at hy
          rw [hy]; rfl
      · rename_i v hnb hv
        cases hu : isU v <;> rw [hu] at h <;> cases h
        obtain ⟨y, hy, hvy⟩ := hf.2 d _ hv
        rcases hvy with hu' | hvy
        · rw [hu] at hu'; cases hu'
        · rw [hy]
          cases hvy <;> first | rfl | (exact absurd rfl (hnb _))

/-- Operations in the text's order. -/
theorem runOps_sound (hC : C.Ok) {ops : Array Oper} {Q : Exit → Act → World → Prop} : ∀ (l : List Oper) (k : Nat) (fr fr' : List Value) (σ σ' : AHeap) (μ : List (Option Ent)) (a : Act) (w : World), (∀ j, l[j]? = ops[k + j]?) →
    runOps C ops l fr σ = some (fr', σ') → FrR C.ex μ fr a.tmps → HR C.ex B μ σ w →
    (∀ μ' tmps' w', FrR C.ex μ' fr' tmps' → HR C.ex B μ' σ' w' → Ext μ μ' → Blw B w w' → Q .normal ⟨tmps', a.defers⟩ w') →
    wpOps C.P ops Q (List.range' k l.length) a w := by
  intro l
  induction l with
  | nil =>
    intro k fr fr' σ σ' μ a w _ h hf hr hQ
    cases h
    exact hQ μ a.tmps w hf hr (Ext.refl _) (Blw.refl _ _)
  | cons o l ih =>
    intro k fr fr' σ σ' μ a w hl h hf hr hQ
    have h0 : ops[k]? = some o := by simpa using (hl 0).symm
    have hl' : ∀ j, l[j]? = ops[k + 1 + j]? := fun j => by have := hl (j + 1); simpa [Nat.add_assoc, Nat.add_comm 1 j] using this
    simp only [List.length_cons, List.range'_succ, wpOps, h0]
    unfold runOps at h
    have hput : ∀ (a : Act) (d : Option Tmp) (v : Value), (a.put d v).defers = a.defers := by intro a d v; cases d <;> rfl
    split at h
    · rename_i hw
      rw [wanted_eq hf hw]
      simp only [if_true]
      left
      split at h
      · rename_i v σ1 hop
        refine aOp_sound hC hop hf hr ?_
        intro v' w1 μ1 r1 r2 r3 r4
        refine ih (k + 1) _ fr' σ1 σ' μ1 (a.put o.dst v') w1 hl' h ((hf.mono r3.sub).put r1 _) r2 ?_
        intro μ' tmps' w' q1 q2 q3 q4
        rw [hput]
        exact hQ μ' tmps' w' q1 q2 (r3.trans q3) (r4.trans q4)
      · cases h
    · rename_i hw
      rw [wanted_eq hf hw]
      simp only [Bool.false_eq_true, if_false]
      refine ih (k + 1) _ fr' σ σ' μ (a.put o.dst undef) w hl' h (hf.put VR.undef _) hr ?_
      intro μ' tmps' w' q1 q2 q3 q4
      rw [hput]
      exact hQ μ' tmps' w' q1 q2 q3 q4
    · cases h

end
end Go.Lk
end

section
/- A region whose order is open: whatever order is taken, it ends as the text's order does. -/
namespace Go.Lk
set_option linter.unusedSimpArgs false
set_option linter.unusedVariables false

/-- What an operation is to the heap: 0 nothing; 1 it loads; 2 it changes it; 3 it makes one new block; 4 a call that reads it. -/
def cls (C : Cfg) (o : Op) : Nat :=
  match o with
  | .load .. => 1
  | .alloc _ | .box .. | .buildSlice .. | .makeSlice .. => 3
  | .store .. | .range .. | .next .. => 2
  | .call { callee := .builtin .append, .. } | .call { callee := .builtin .copy, .. } => 2
  | .call { callee := .value (.func f), .. } => bif C.p f then 0 else bif C.q f then 4 else 2
  | .call { callee := .value _, .. } => 2
  | _ => 0

/-- The slots that an operation looks at. -/
def looks (ops : Array Oper) (o : Oper) : List Tmp :=
  (o.op.operands.toList.filterMap fun | .tmp t => some t | _ => none) ++
  (match o.guard with
   | some (g, _) => ((ops[g]?).bind (·.dst)).toList
   | none => [])

theorem aev_congr {fr fr' : List Value} {x : Operand} (h : ∀ t, x = .tmp t → fr.getD t undef = fr'.getD t undef) : aev fr x = aev fr' x := by
  cases x with
  | tmp t => simp only [aev]; rw [h t rfl]
  | _ => rfl
theorem mapO_congr {f g : Operand → Option Value} : ∀ {l : List Operand}, (∀ x ∈ l, f x = g x) → mapO f l = mapO g l
  | [], _ => rfl
  | x :: l, h => by
    unfold mapO
    rw [h x (by simp), mapO_congr (fun y hy => h y (by simp [hy]))]
theorem mapP_congr {f g : Operand → Option Value} : ∀ {l : List (Nat × Operand)}, (∀ x ∈ l.map (·.2), f x = g x) → mapP f l = mapP g l
  | [], _ => rfl
  | (i, x) :: l, h => by
    unfold mapP
    rw [h x (by simp), mapP_congr (fun y hy => h y (by simp at hy ⊢; exact .inr hy))]
theorem optO_congr {f g : Operand → Option Value} {x : Option Operand} (h : ∀ y ∈ x.toList, f y = g y) : optO f x = optO g x := by
  cases x with
  | none => rfl
  | some y => unfold optO; simp only; rw [h y (by simp)]

theorem aOp_congr {C : Cfg} {fr fr' : List Value} {σ : AHeap} {o : Op} (h : ∀ t, Operand.tmp t ∈ o.operands.toList → fr.getD t undef = fr'.getD t undef) : aOp C fr σ o = aOp C fr' σ o := by
  have hx : ∀ x ∈ o.operands.toList, aev fr x = aev fr' x := fun x hx => aev_congr fun t e => h t (e ▸ hx)
  clear h
  cases o with
  | call c =>
    obtain ⟨callee, args, tys⟩ := c
    cases callee with
    | value f =>
      simp only [aOp, aCall]
      rw [hx f (by simp [Op.operands, Call.operands]), mapO_congr (fun x h => hx x (by simp [Op.operands, Call.operands]; exact .inr (by simpa using h)))]
    | invoke r m => rfl
    | builtin b =>
      have := mapO_congr (f := aev fr) (g := aev fr') (l := args.toList) (fun x h => hx x (by simp [Op.operands, Call.operands]; simpa using h))
      cases b <;> simp only [aOp, isMem, aMem, aPure, cond_true, cond_false, this]
  | makeFunc fn xs ys =>
    simp only [aOp, isMem, aPure, cond_false]
    rw [mapO_congr (l := xs.toList) (fun x h => hx x (by simp [Op.operands]; exact .inl (by simpa using h))), mapO_congr (l := ys.toList) (fun x h => hx x (by simp [Op.operands]; exact .inr (by simpa using h)))]
  | slice t x lo hi mx =>
    simp only [aOp, isMem, aPure, cond_false]
    rw [hx x (by simp [Op.operands]), optO_congr (x := lo) (fun y h => hx y (by simp [Op.operands]; exact .inr (.inl (by simpa using h)))), optO_congr (x := hi) (fun y h => hx y (by simp [Op.operands]; exact .inr (.inr (.inl (by simpa using h))))),
      optO_congr (x := mx) (fun y h => hx y (by simp [Op.operands]; exact .inr (.inr (.inr (by simpa using h)))))]
  | build t ps =>
    simp only [aOp, isMem, aMem, cond_true]
    rw [mapP_congr (l := ps.toList) (fun x h => hx x (by simpa [Op.operands] using h))]
  | buildSlice t n ps =>
    simp only [aOp, isMem, aMem, cond_true]
    rw [mapP_congr (l := ps.toList) (fun x h => hx x (by simpa [Op.operands] using h))]
  | pick c a b =>
    simp only [aOp, isMem, aPure, cond_false]
    rw [hx c (by simp [Op.operands]), hx a (by simp [Op.operands]), hx b (by simp [Op.operands])]
  | store t x y => simp only [aOp, isMem, aMem, cond_true]; rw [hx x (by simp [Op.operands]), hx y (by simp [Op.operands])]
  | makeSlice t x y => simp only [aOp, isMem, aMem, cond_true]; rw [hx x (by simp [Op.operands]), hx y (by simp [Op.operands])]
  | binOp op t x y t' => simp only [aOp, isMem, aPure, cond_false]; rw [hx x (by simp [Op.operands]), hx y (by simp [Op.operands])]
  | indexAddr t x y => simp only [aOp, isMem, aPure, cond_false]; rw [hx x (by simp [Op.operands]), hx y (by simp [Op.operands])]
  | index t x y => simp only [aOp, isMem, aPure, cond_false]; rw [hx x (by simp [Op.operands]), hx y (by simp [Op.operands])]
  | load t x => simp only [aOp, isMem, aMem, cond_true]; rw [hx x (by simp [Op.operands])]
  | box t x => simp only [aOp, isMem, aMem, cond_true]; rw [hx x (by simp [Op.operands])]
  | range t x => simp only [aOp, isMem, aMem, cond_true]; rw [hx x (by simp [Op.operands])]
  | next x b => cases b <;> simp only [aOp, isMem, aMem, cond_true]; rw [hx x (by simp [Op.operands])]
  | move x => simp only [aOp, isMem, aPure, cond_false]; rw [hx x (by simp [Op.operands])]
  | assign x => simp only [aOp, isMem, aPure, cond_false]; rw [hx x (by simp [Op.operands])]
  | nilCheck x => simp only [aOp, isMem, aPure, cond_false]; rw [hx x (by simp [Op.operands])]
  | unOp op t x => simp only [aOp, isMem, aPure, cond_false]; rw [hx x (by simp [Op.operands])]
  | convert s d x => simp only [aOp, isMem, aPure, cond_false]; rw [hx x (by simp [Op.operands])]
  | makeInterface t x => simp only [aOp, isMem, aPure, cond_false]; rw [hx x (by simp [Op.operands])]
  | fieldAddr t x f => simp only [aOp, isMem, aPure, cond_false]; rw [hx x (by simp [Op.operands])]
  | field t x f => simp only [aOp, isMem, aPure, cond_false]; rw [hx x (by simp [Op.operands])]
  | extract x i => simp only [aOp, isMem, aPure, cond_false]; rw [hx x (by simp [Op.operands])]
  | _ => rfl

/-! ### The classes -/
theorem cls0 {C : Cfg} {fr : List Value} {σ σ' : AHeap} {o : Op} {v : Value} (hc : cls C o = 0) (h : aOp C fr σ o = some (v, σ')) : σ' = σ ∧ ∀ τ, aOp C fr τ o = some (v, τ) := by
  cases o with
  | call c =>
    obtain ⟨callee, args, tys⟩ := c
    cases callee with
    | value f =>
      cases f with
      | func f =>
        simp only [cls] at hc
        cases hp : C.p f <;> rw [hp] at hc <;> simp only [cond_true, cond_false] at hc
        · cases hq : C.q f <;> rw [hq] at hc <;> simp at hc
        · simp only [aOp, aCall, aev] at h ⊢
          split at h
          · rename_i g first captured vs h1 h2
            cases h1
            rw [hp] at h
            simp only [cond_true] at h
            split at h
            · rename_i v' hg
              cases h
              refine ⟨rfl, fun τ => ?_⟩
              have hg' : C.Gp f ((#[] : Array Value).toList ++ vs ++ (#[] : Array Value).toList) = some v := hg
              first
                | (rw [h2]; simp only [hp, cond_true, hg']; done)
                | (simp only [hp, cond_true, hg']; done)
            · cases h
          · cases h
      | _ => simp [cls] at hc
    | invoke r m => simp [aOp, isMem, aPure] at h
    | builtin b =>
      cases b <;> simp only [cls] at hc <;> (try (cases hc; done)) <;>
      · simp only [aOp, isMem, cond_false] at h ⊢
        split at h
        · rename_i v' hv; cases h; exact ⟨rfl, fun τ => by first | rfl | rw [hv]⟩
        · cases h
  | build t ps =>
    simp only [aOp, isMem, aMem, cond_true] at h ⊢
    split at h
    · rename_i vs h1
      split at h
      · rename_i v' h2; cases h; exact ⟨rfl, fun τ => by first | (rw [h1]; simp only [h2]; done) | (simp only [h2]; done) | rfl⟩
      · cases h
    · cases h
  | next x b => cases b <;> simp [aOp, isMem, aMem, cls] at h hc
  | load => simp [cls] at hc
  | store => simp [cls] at hc
  | alloc => simp [cls] at hc
  | box => simp [cls] at hc
  | buildSlice => simp [cls] at hc
  | makeSlice => simp [cls] at hc
  | range => simp [cls] at hc
  | _ =>
    simp only [aOp, isMem, cond_false] at h ⊢
    split at h
    · rename_i v' hv; cases h; exact ⟨rfl, fun τ => by first | rfl | rw [hv]⟩
    · cases h

theorem cls4 {C : Cfg} (hC : C.Ok) {fr : List Value} {σ σ' : AHeap} {o : Op} {v : Value} (hc : cls C o = 4) (h : aOp C fr σ o = some (v, σ')) : σ' = σ := by
  cases o with
  | call c =>
    obtain ⟨callee, args, tys⟩ := c
    cases callee with
    | value f =>
      cases f with
      | func f =>
        simp only [cls] at hc
        cases hp : C.p f <;> rw [hp] at hc <;> simp only [cond_true, cond_false] at hc
        · cases hq : C.q f <;> rw [hq] at hc <;> simp at hc
          simp only [aOp, aCall, aev] at h
          split at h
          · rename_i g first captured vs h1 h2
            cases h1
            rw [hp] at h
            exact hC.q _ _ _ _ _ hq h
          · cases h
        · cases hc
      | _ => simp [cls] at hc
    | invoke r m => simp [cls] at hc
    | builtin b => cases b <;> simp [cls] at hc
  | _ => simp [cls] at hc

/-- What a new block's name looks like. -/
inductive Mk where
  | p
  | s (sz len cap : Nat)
def Mk.at : Mk → Nat → Value
  | .p, n => .pointer (some ⟨n, 0, none⟩)
  | .s sz len cap, n => .slice (some ⟨n, 0, some sz⟩) len cap

theorem cls3 {C : Cfg} {fr : List Value} {σ σ' : AHeap} {o : Op} {v : Value} (hc : cls C o = 3) (h : aOp C fr σ o = some (v, σ')) :
    ∃ (m : Mk) (row : AObj), v = m.at σ.length ∧ σ' = σ ++ [row] ∧ ∀ τ, aOp C fr τ o = some (m.at τ.length, τ ++ [row]) := by
  cases o with
  | alloc t =>
    simp only [aOp, isMem, aMem, cond_true] at h ⊢
    split at h
    · rename_i z hz; cases h; exact ⟨.p, _, rfl, rfl, fun τ => by first | rfl | (rw [hz]; rfl)⟩
    · cases h
  | box t x =>
    simp only [aOp, isMem, aMem, cond_true] at h ⊢
    split at h
    · rename_i v' hv; cases h; exact ⟨.p, _, rfl, rfl, fun τ => by first | rfl | (rw [hv]; rfl)⟩
    · cases h
  | buildSlice t n ps =>
    simp only [aOp, isMem, aMem, cond_true] at h ⊢
    split at h
    · rename_i vs h1
      unfold aBuildSlice at h
      split at h
      · rename_i e hu
        split at h
        · rename_i size z hs hz
          split at h
          · rename_i hcnd
            split at h
            · rename_i cells hfill
              cases h
              refine ⟨.s size n n, _, rfl, rfl, fun τ => ?_⟩
              try rw [h1]
              simp only [aBuildSlice, hu, hs, hz, hfill]
              rw [if_pos hcnd]
              rfl
            · cases h
          · cases h
        · cases h
      · cases h
    · cases h
  | makeSlice t x y =>
    simp only [aOp, isMem, aMem, cond_true] at h ⊢
    split at h
    · rename_i a b h1 h2
      unfold aMake at h
      split at h
      · rename_i e k len k' cap hu
        split at h
        · rename_i inf hi
          split at h
          · rename_i hcnd
            split at h
            · rename_i z hz
              split at h
              · rename_i hcnd2
                cases h
                refine ⟨.s inf.size len.toNat cap.toNat, _, rfl, rfl, fun τ => ?_⟩
                try rw [h1, h2]
                simp only [aMake, hu, hi, hz]
                rw [if_pos hcnd, if_pos hcnd2]
                rfl
              · cases h
            · cases h
          · cases h
        · cases h
      · cases h
    · cases h
  | call c =>
    obtain ⟨callee, args, tys⟩ := c
    cases callee with
    | value f =>
      cases f with
      | func f =>
        simp only [cls] at hc
        cases hp : C.p f <;> rw [hp] at hc <;> simp only [cond_true, cond_false] at hc
        · cases hq : C.q f <;> rw [hq] at hc <;> simp at hc
        · cases hc
      | _ => simp [cls] at hc
    | invoke r m => simp [cls] at hc
    | builtin b => cases b <;> simp [cls] at hc
  | _ => simp [cls] at hc

theorem cls1 {C : Cfg} {fr : List Value} {σ σ' : AHeap} {o : Op} {v : Value} (hc : cls C o = 1) (h : aOp C fr σ o = some (v, σ')) :
    σ' = σ ∧ ∃ t x a, o = .load t x ∧ aev fr x = some a ∧ aLoad C.P σ t a = some v := by
  cases o with
  | load t x =>
    simp only [aOp, isMem, aMem, cond_true] at h
    split at h
    · rename_i a h1
      split at h
      · rename_i v' h2; cases h; exact ⟨rfl, t, x, a, rfl, h1, h2⟩
      · cases h
    · cases h
  | call c =>
    obtain ⟨callee, args, tys⟩ := c
    cases callee with
    | value f =>
      cases f with
      | func f =>
        simp only [cls] at hc
        cases hp : C.p f <;> rw [hp] at hc <;> simp only [cond_true, cond_false] at hc
        · cases hq : C.q f <;> rw [hq] at hc <;> simp at hc
        · cases hc
      | _ => simp [cls] at hc
    | invoke r m => simp [cls] at hc
    | builtin b => cases b <;> simp [cls] at hc
  | _ => simp [cls] at hc

end Go.Lk
end

section
/- New blocks, as the world makes them; holes in the renaming. -/
namespace Go.Lk
set_option linter.unusedSimpArgs false
set_option linter.unusedVariables false

variable {ex : Bool} {μ μ' : List (Option Ent)} {P : Program} {B : Nat → Prop} {σ σ' : AHeap} {w w' : World}

def Mk.conc : Mk → Nat → Value
  | .p, n => .pointer (some ⟨n, 0, none⟩)
  | .s _ len cap, n => .slice (some ⟨n, 0, none⟩) len cap

/-- An operation that makes one new row. -/
def okA (P : Program) (ex : Bool) (μ : List (Option Ent)) (s : Sem Next) (m : Mk) (row : AObj) (w : World) : Prop :=
  ∃ (cs cs' : List Value) (elem : TypeId), row = .row cs true none ∧ VRs ex μ cs cs' ∧
    s.run P w = .ok (.value (m.conc w.heap.size)) { w with heap := w.heap.push (.cells cs'.toArray elem (0, 0)) }

theorem run_newRow (elem : TypeId) (cs : Array Value) (w : World) : (newRow elem cs).run P w = .ok ⟨w.heap.size, 0, none⟩ { w with heap := w.heap.push (.cells cs elem (0, 0)) } := by
  simp [newRow]

theorem okA_alloc {t : TypeId} {z : Value} (h : tZero P t = some z) (w : World) :
    okA P ex μ (do pure (.value (← Instr.alloc t true (.tuple #[])))) .p (.row z.cells.toList true none) w := by
  obtain ⟨hz, hv⟩ := zero_sound (ex := ex) (μ := μ) h
  exact ⟨_, _, t, rfl, hv.cells, by simp [Instr.alloc, hz, newVar, run_newRow, Mk.conc]⟩

theorem okA_box {t : TypeId} {v v' : Value} (hv : VR ex μ v v') (w : World) :
    okA P ex μ (do pure (.value (← Instr.box t v'))) .p (.row v.cells.toList true none) w :=
  ⟨_, _, t, rfl, hv.cells, by simp [Instr.box, newVar, run_newRow, Mk.conc]⟩

theorem okA_buildSlice {t : TypeId} {len : Nat} {ps ps' : List (Nat × Value)} {v : Value} (h : aBuildSlice P σ t len ps = some (v, σ')) (hp : PartsR ex μ ps ps') (w : World) :
    ∃ m row, v = Mk.at m σ.length ∧ σ' = σ ++ [row] ∧ okA P ex μ (do pure (.value (← Instr.buildSlice t len ps'.toArray))) m row w := by
  unfold aBuildSlice at h
  split at h
  · rename_i e hu
    split at h
    · rename_i size z hs hz
      split at h
      · rename_i hc
        obtain ⟨hle, hzs, hs0⟩ := hc
        split at h
        · rename_i cells hfill
          cases h
          obtain ⟨hzr, hzv⟩ := zero_sound (ex := ex) (μ := μ) hz
          have hz0 : z.cells.size ≠ 0 := by rw [hzs]; exact hs0
          have this : ¬ (len * size > 2 ^ 24) := by omega
          refine ⟨.s size len len, _, rfl, rfl, ?_⟩
          by_cases hl : len * size = 0
          · obtain ⟨r', h1, h2⟩ := fill_sound (place' := fun i => some (i * size, size)) ps ps' _ #[] _ (fun _ _ h => h) hfill (by rw [hl]; exact VRs.nil) hp
            refine ⟨cells, r'.toList, e, rfl, h2, ?_⟩
            have hA : (Array.range (len * size)).map (fun x => (#[] : Array Value)[x % (#[] : Array Value).size]!) = #[] := Array.eq_empty_of_size_eq_zero (by simp; omega)
            simp only [Instr.buildSlice, Sem.run_bind, run_underlying hu, Result.andThen_ok, run_sizeOf' hs, if_neg this, if_pos hl, Sem.run_pure, hA, h1, run_newRow, Array.toArray_toList]
            rfl
          · obtain ⟨r', h1, h2⟩ := fill_sound (place' := fun i => some (i * size, size)) ps ps' _ ((Array.range (len * size)).map (z.cells[· % z.cells.size]!)) _ (fun _ _ h => h) hfill (by rw [zrow_eq hz0]; exact VRs.zrow hzv.cells _) hp
            refine ⟨cells, r'.toList, e, rfl, h2, ?_⟩
            simp only [Instr.buildSlice, Sem.run_bind, run_underlying hu, Result.andThen_ok, run_sizeOf' hs, if_neg this, if_neg hl, Sem.run_pure, hzr, h1, run_newRow, Array.toArray_toList]
            rfl
        · cases h
      · cases h
    · cases h
  · cases h

theorem okA_make {t : TypeId} {l l' c c' v : Value} (h : aMake P σ t l c = some (v, σ')) (hl : VR ex μ l l') (hc : VR ex μ c c') (w : World) :
    ∃ m row, v = Mk.at m σ.length ∧ σ' = σ ++ [row] ∧ okA P ex μ (do pure (.value (← Instr.makeSlice t l' c'))) m row w := by
  unfold aMake at h
  split at h
  · rename_i e k len k' cap hu
    rw [hl.int_of, hc.int_of]
    split at h
    · rename_i inf hi
      split at h
      · rename_i hb
        obtain ⟨h0, h1, h2, h3⟩ := hb
        split at h
        · rename_i z hz
          split at h
          · rename_i hzz
            obtain ⟨hzs, hs0, hzo⟩ := hzz
            cases h
            obtain ⟨hzr, hzv⟩ := zero_sound (ex := ex) (μ := μ) hz
            have hz0 : z.cells.size ≠ 0 := by rw [hzs]; exact hs0
            refine ⟨.s inf.size len.toNat cap.toNat, _, rfl, rfl, _, _, e, rfl, VRs.zrow hzv.cells (cap.toNat * inf.size), ?_⟩
            have hwl := wrap_small h0 (by omega)
            have hwc := wrap_small (n := cap) (by omega) (by omega)
            have hlt : ∀ n : Int, n ≤ cap → 0 ≤ n → (decide (n < 0) || decide ((inf.bytes : Int) * n > 2 ^ 48)) = false := by
              intro n hn hn0
              have : (inf.bytes : Int) * n ≤ cap * inf.bytes := by
                rw [Int.mul_comm]
                exact Int.mul_le_mul_of_nonneg_right hn (by omega)
              simp
              omega
            have hbad : ((decide (cap < 0) || decide ((inf.bytes : Int) * cap > 2 ^ 48)) || decide (len < 0) || decide (len > cap)) = false := by
              rw [hlt cap (by omega) (by omega)]
              simp
              omega
            obtain ⟨i1, i2⟩ := info_runs (P := P) hi w
            have hA : ((Array.range (cap.toNat * inf.size)).map (z.cells[· % z.cells.size]!)) = (zrow z.cells.toList (cap.toNat * inf.size)).toArray := by
              rw [← zrow_eq hz0]
            by_cases hn : cap.toNat * inf.size = 0
            · have hA0 : ((Array.range (cap.toNat * inf.size)).map (fun x => (#[] : Array Value)[x % (#[] : Array Value).size]!)) = (zrow z.cells.toList (cap.toNat * inf.size)).toArray := by
                rw [hn]
                rw [show zrow z.cells.toList 0 = [] from rfl]
                exact Array.eq_empty_of_size_eq_zero (by simp)
              simp only [Instr.makeSlice, Sem.run_bind, run_underlying hu, Result.andThen_ok, asInt, asIntOf, Sem.run_pure, i1, hwl, hwc, hbad, Bool.false_eq_true, if_false, run_askRoom, i2, if_pos hn, hA0, run_newRow]
              rfl
            · simp only [Instr.makeSlice, Sem.run_bind, run_underlying hu, Result.andThen_ok, asInt, asIntOf, Sem.run_pure, i1, hwl, hwc, hbad, Bool.false_eq_true, if_false, run_askRoom, i2, if_neg hn, hzr, hA, run_newRow]
              rfl
          · cases h
        · cases h
      · cases h
    · cases h
  · cases h

theorem Mk.inj {m m' : Mk} {n : Nat} (h : m.at n = m'.at n) : m = m' := by
  cases m <;> cases m' <;> simp [Mk.at] at h ⊢
  exact h

theorem cls3_okA {C : Cfg} {fr : List Value} {a : Act} {o : Oper} {v : Value} (hc : cls C o.op = 3) (h : aOp C fr σ o.op = some (v, σ')) (hf : FrR C.ex μ fr a.tmps) (w : World) :
    ∃ m row, v = Mk.at m σ.length ∧ σ' = σ ++ [row] ∧ okA C.P C.ex μ (execOp a.eval o) m row w := by
  obtain ⟨dst, op, ty, pos, after, guard⟩ := o
  simp only at hc h
  cases op with
  | alloc t =>
    simp only [aOp, isMem, aMem, cond_true] at h
    split at h
    · rename_i z hz; cases h; exact ⟨.p, _, rfl, rfl, okA_alloc hz w⟩
    · cases h
  | box t x =>
    simp only [aOp, isMem, aMem, cond_true] at h
    split at h
    · rename_i v' hv; cases h; exact ⟨.p, _, rfl, rfl, okA_box (aev_sound hf hv) w⟩
    · cases h
  | buildSlice t n ps =>
    simp only [aOp, isMem, aMem, cond_true] at h
    split at h
    · rename_i vs h1
      obtain ⟨m, row, e1, e2, e3⟩ := okA_buildSlice (P := C.P) h (mapP_sound hf h1) w
      refine ⟨m, row, e1, e2, ?_⟩
      simp only [execOp]
      rw [show Array.map (fun (x : Nat × Operand) => (x.1, a.eval x.2)) ps = (List.map (fun (x : Nat × Operand) => (x.1, a.eval x.2)) ps.toList).toArray by rw [← Array.toList_map, Array.toArray_toList]]
      exact e3
    · cases h
  | makeSlice t x y =>
    simp only [aOp, isMem, aMem, cond_true] at h
    split at h
    · rename_i u1 u2 h1 h2
      exact okA_make (P := C.P) h (aev_sound hf h1) (aev_sound hf h2) w
    · cases h
  | call c =>
    obtain ⟨callee, args, tys⟩ := c
    cases callee with
    | value f =>
      cases f with
      | func f =>
        simp only [cls] at hc
        cases hp : C.p f <;> rw [hp] at hc <;> simp only [cond_true, cond_false] at hc
        · cases hq : C.q f <;> rw [hq] at hc <;> simp at hc
        · cases hc
      | _ => simp [cls] at hc
    | invoke r m => simp [cls] at hc
    | builtin b => cases b <;> simp [cls] at hc
  | _ => simp [cls] at hc

/-- A hole is filled with a new block. -/
theorem Sub.fill {c : Nat} {e : Ent} (hc : ∀ e', μ[c]? ≠ some (some e')) : Sub μ (μ.set c (some e)) := by
  intro b e' h
  rw [List.getElem?_set]
  by_cases hb : c = b
  · subst hb; exact absurd h (hc e')
  · rw [if_neg hb]; exact h

theorem HR.fill (h : HR ex B μ σ w) {c : Nat} (hd : σ[c]? = some .dead) (hc : ∀ e', μ[c]? ≠ some (some e')) {cs cs' : List Value} {elem : TypeId} (hv : VRs ex μ cs cs') :
    HR ex B (μ.set c (some ⟨w.heap.size, 0, cs.length, 0, 0⟩)) (σ.set c (.row cs true none)) { w with heap := w.heap.push (.cells cs'.toArray elem (0, 0)) } := by
  have hcl := lt_of_some hd
  have hs := Sub.fill (e := ⟨w.heap.size, 0, cs.length, 0, 0⟩) hc
  have hold : ∀ k, k < w.heap.size → (w.heap.push (.cells cs'.toArray elem (0, 0)))[k]? = w.heap[k]? := fun k hk => by rw [Array.getElem?_push, if_neg (by omega)]
  have key : ∀ (b : Nat) (o1 : AObj), (σ.set c (.row cs true none))[b]? = some o1 → (b = c ∧ o1 = .row cs true none) ∨ (b ≠ c ∧ σ[b]? = some o1) := fun b o1 h1 => by
    rw [List.getElem?_set] at h1
    by_cases hb : c = b
    · subst hb; rw [if_pos rfl, if_pos hcl] at h1; cases h1; exact .inl ⟨rfl, rfl⟩
    · rw [if_neg hb] at h1; exact .inr ⟨fun e => hb e.symm, h1⟩
  have keyμ : ∀ (b : Nat) (e1 : Ent), b ≠ c → (μ.set c (some ⟨w.heap.size, 0, cs.length, 0, 0⟩))[b]? = some (some e1) → μ[b]? = some (some e1) := fun b e1 hb h1 => by
    rw [List.getElem?_set, if_neg (fun e => hb e.symm)] at h1; exact h1
  have keyc : (μ.set c (some ⟨w.heap.size, 0, cs.length, 0, 0⟩))[c]? = some (some ⟨w.heap.size, 0, cs.length, 0, 0⟩) := by
    rw [List.getElem?_set, if_pos rfl, if_pos (by rw [h.len]; exact hcl)]
  refine ⟨by simp [h.len], fun k hk => by have := h.hB k hk; simp; omega, ?_, ?_, ?_⟩
  · intro b o1 h1 hl
    rcases key b o1 h1 with ⟨rfl, rfl⟩ | ⟨hb, h1⟩
    · exact ⟨_, keyc⟩
    · obtain ⟨e1, he1⟩ := h.has b o1 h1 hl
      exact ⟨e1, hs _ _ he1⟩
  · intro b o1 e1 h1 h2
    rcases key b o1 h1 with ⟨rfl, rfl⟩ | ⟨hb, h1⟩
    · rw [keyc] at h2; cases h2
      refine ⟨rfl, rfl, cs'.toArray, elem, 0, 0, by simp, by simp [← hv.1], ?_, fun _ => ⟨h.new, Nat.le_refl _⟩⟩
      simp only [List.drop_zero]
      rw [show cs'.take cs.length = cs' by rw [hv.1, List.take_length]]
      exact hv.mono hs
    · have h2' := keyμ b e1 hb h2
      have k := h.obj b o1 e1 h1 h2'
      exact k.mono hs (fun hl => hold _ (k.lt hl))
  · intro b b' o1 o2 e1 e2 h1 h2 h3 h4 hown hlive hcb
    rcases key b o1 h1 with ⟨rfl, rfl⟩ | ⟨hb, h1⟩
    · rw [keyc] at h3; cases h3
      rcases key b' o2 h2 with ⟨rfl, rfl⟩ | ⟨hb', h2⟩
      · rfl
      · have := (h.obj b' o2 e2 h2 (keyμ b' e2 hb' h4)).lt hlive
        simp only at hcb
        omega
    · have hl1 : o1.live = true := by cases o1 <;> first | rfl | cases hown
      have hlt := (h.obj b o1 e1 h1 (keyμ b e1 hb h3)).lt hl1
      rcases key b' o2 h2 with ⟨rfl, rfl⟩ | ⟨hb', h2⟩
      · rw [keyc] at h4; cases h4
        simp only at hcb
        omega
      · exact h.inj b b' o1 o2 e1 e2 h1 h2 (keyμ b e1 hb h3) (keyμ b' e2 hb' h4) hown hlive hcb

/-- Dead blocks are added. -/
theorem HR.dead (h : HR ex B μ σ w) (n : Nat) : HR ex B (μ ++ List.replicate n none) (σ ++ List.replicate n .dead) w := by
  have keyσ : ∀ (b : Nat) (o1 : AObj), (σ ++ List.replicate n .dead)[b]? = some o1 → σ[b]? = some o1 ∨ o1 = .dead := fun b o1 h1 => by
    rcases Nat.lt_or_ge b σ.length with hb | hb
    · rw [List.getElem?_append_left hb] at h1; exact .inl h1
    · rw [List.getElem?_append_right hb, List.getElem?_replicate] at h1
      split at h1
      · cases h1; exact .inr rfl
      · cases h1
  have keyμ : ∀ (b : Nat) (e1 : Ent), (μ ++ List.replicate n none)[b]? = some (some e1) → μ[b]? = some (some e1) := fun b e1 h1 => by
    rcases Nat.lt_or_ge b μ.length with hb | hb
    · rw [List.getElem?_append_left hb] at h1; exact h1
    · rw [List.getElem?_append_right hb, List.getElem?_replicate] at h1
      split at h1 <;> cases h1
  have hs : Sub μ (μ ++ List.replicate n none) := fun b e h => by
    have hb := lt_of_some h
    rw [List.getElem?_append_left hb]; exact h
  refine ⟨by simp [h.len], h.hB, ?_, ?_, ?_⟩
  · intro b o1 h1 hl
    rcases keyσ b o1 h1 with h1 | rfl
    · obtain ⟨e, he⟩ := h.has b o1 h1 hl; exact ⟨e, hs _ _ he⟩
    · cases hl
  · intro b o1 e1 h1 h2
    rcases keyσ b o1 h1 with h1 | rfl
    · exact (h.obj b o1 e1 h1 (keyμ b e1 h2)).mono hs (fun _ => rfl)
    · trivial
  · intro b b' o1 o2 e1 e2 h1 h2 h3 h4 hown hlive hcb
    rcases keyσ b o1 h1 with h1 | rfl
    · rcases keyσ b' o2 h2 with h2 | rfl
      · exact h.inj b b' o1 o2 e1 e2 h1 h2 (keyμ b e1 h3) (keyμ b' e2 h4) hown hlive hcb
      · cases hlive
    · cases hown
theorem Sub.holes (μ : List (Option Ent)) (n : Nat) : Sub μ (μ ++ List.replicate n none) := fun b e h => by
  have hb := lt_of_some h
  rw [List.getElem?_append_left hb]; exact h

end Go.Lk
end
