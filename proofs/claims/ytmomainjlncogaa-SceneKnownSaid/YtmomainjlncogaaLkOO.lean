/- Functions reckoned one within the other. -/
import Derived.Test.YtmomainjlncogaaLkNN
namespace Go.Lk
set_option linter.unusedSimpArgs false
set_option linter.unusedVariables false

/-- One word, or two, or nil. -/
def flat0 : Value → Bool
  | .pointer none | .slice none _ _ | .nilFunc | .nilIface | .map none => true
  | v => flat v
def plain : Value → Bool
  | .tuple cs | .agg cs => cs.toList.all flat0
  | v => flat0 v

theorem flat0_inert {v : Value} (h : flat0 v = true) (d : Nat) (r : Nat → Nat) : renV r d v = v := by
  cases d with
  | zero => cases v with
    | pointer a => cases a with
      | none => rfl
      | some a => exact absurd h Bool.false_ne_true
    | slice a l c => cases a with
      | none => rfl
      | some a => exact absurd h Bool.false_ne_true
    | _ => first | rfl | exact absurd h Bool.false_ne_true
  | succ d =>
    cases v with
    | pointer a => cases a with
      | none => rfl
      | some a => exact absurd h Bool.false_ne_true
    | slice a l c => cases a with
      | none => rfl
      | some a => exact absurd h Bool.false_ne_true
    | _ => first | rfl | exact absurd h Bool.false_ne_true
theorem all_inert {cs : List Value} (h : cs.all flat0 = true) (d : Nat) (r : Nat → Nat) : cs.map (renV r d) = cs := by
  induction cs with
  | nil => rfl
  | cons c cs ih =>
    rw [List.all_cons, Bool.and_eq_true] at h
    rw [List.map_cons, flat0_inert h.1, ih h.2]
theorem plain_inert {v : Value} (h : plain v = true) : inert v := by
  intro r
  cases v with
  | tuple cs => simp only [renV]; rw [all_inert h]
  | agg cs => simp only [renV]; rw [all_inert h]
  | _ => exact flat0_inert (by simpa only [plain] using h) 3 r

theorem VR.flat0_ren {ex : Bool} {μ μ' : List (Option Ent)} {a c : Value} (h : VR ex μ a c) (hf : flat0 a = true) : VR ex μ' a c := by
  cases h <;> first | (constructor; done) | (cases hf; done)
theorem VRs.flat0_ren {ex : Bool} {μ μ' : List (Option Ent)} {as cs : List Value} (h : VRs ex μ as cs) (hf : as.all flat0 = true) : VRs ex μ' as cs :=
  ⟨h.1, fun i a ha => by
    obtain ⟨c, hc, hv⟩ := h.2 i a ha
    exact ⟨c, hc, hv.flat0_ren (List.all_eq_true.1 hf a (List.mem_of_getElem? ha))⟩⟩
theorem VR.plain_ren {ex : Bool} {μ μ' : List (Option Ent)} {a c : Value} (h : VR ex μ a c) (hf : plain a = true) : VR ex μ' a c := by
  cases a with
  | tuple cs => obtain ⟨c', rfl, hv⟩ := h.tuple_iff; exact VRs.toTuple (hv.flat0_ren hf)
  | agg cs => obtain ⟨c', rfl, hv⟩ := h.agg_iff; exact VRs.toAgg (hv.flat0_ren hf)
  | _ => exact h.flat0_ren (by simpa only [plain] using hf)

theorem VRs.plain_ren {ex : Bool} {μ μ' : List (Option Ent)} {as cs : List Value} (h : VRs ex μ as cs) (hf : as.all plain = true) : VRs ex μ' as cs :=
  ⟨h.1, fun i a ha => by
    obtain ⟨c, hc, hv⟩ := h.2 i a ha
    exact ⟨c, hc, hv.plain_ren (List.all_eq_true.1 hf a (List.mem_of_getElem? ha))⟩⟩
theorem flat_flat0 {v : Value} (h : flat v = true) : flat0 v = true := by cases v <;> first | exact h | (cases h; done)

/-- What a function does in an empty heap it does in each. -/
theorem CallR.frame {P : Program} {ex : Bool} {f : FuncId} {args : List Value} {σ : AHeap} {v : Value} (hfl : args.all plain = true)
    (h : CallR P ex f args [] v []) (hv : plain v = true) : CallR P ex f args σ v σ := by
  intro B μ w cargs hr hargs
  refine (h (old w) [] w cargs (HR.none ex w) (hargs.plain_ren hfl)).mono ?_
  rintro cv w' ⟨μ', q1, q2, q3, q4⟩
  exact ⟨μ, q1.plain_ren hv, hr.below q4, Ext.refl _, ⟨q4.os, q4.tape, q4.output, q4.size, fun k hk => q4.block k (hr.hB k hk)⟩⟩

/-! ### Code that only reads -/
def roOp (C : Cfg) : Op → Bool
  | .store .. | .next .. => false
  | .call { callee := .builtin .append, .. } | .call { callee := .builtin .copy, .. } => false
  | .call { callee := .value (.func g), .. } => C.p g || C.q g
  | .call { callee := .value _, .. } => false
  | _ => true

def roCode (C : Cfg) : Code → Bool
  | .region _ ops _ => ops.toList.all fun o => roOp C o.op
  | .seq a b => roCode C a && roCode C b
  | .cond _ x y => roCode C x && roCode C y
  | .block _ b | .loop b | .scope b => roCode C b
  | _ => true

theorem aMem_ro {C : Cfg} {fr : List Value} {σ σ' : AHeap} {o : Op} {v : Value} (hro : roOp C o = true) (h : aMem C.P fr σ o = some (v, σ')) : ∃ g, σ' = σ ++ g := by
  have same : ∃ g, σ = σ ++ g := ⟨[], (List.append_nil σ).symm⟩
  unfold aMem at h
  split at h
  · split at h
    · split at h <;> cases h; exact same
    · cases h
  · cases hro
  · split at h <;> cases h; exact ⟨_, rfl⟩
  · split at h <;> cases h; exact ⟨_, rfl⟩
  · split at h
    · split at h <;> cases h; exact same
    · cases h
  · split at h
    · unfold aBuildSlice at h
      split at h
      · split at h
        · split at h
          · split at h <;> cases h; exact ⟨_, rfl⟩
          · cases h
        · cases h
      · cases h
    · cases h
  · split at h
    · unfold aMake at h
      split at h
      · split at h
        · split at h
          · split at h
            · split at h <;> cases h; exact ⟨_, rfl⟩
            · cases h
          · cases h
        · cases h
      · cases h
    · cases h
  · split at h
    · unfold aRange at h
      split at h <;> cases h; exact ⟨_, rfl⟩
    · cases h
  · cases hro
  · cases hro
  · cases hro
  · cases h

theorem aOp_ro {C : Cfg} (hC : C.Ok) {fr : List Value} {σ σ' : AHeap} {o : Op} {v : Value} (hro : roOp C o = true) (h : aOp C fr σ o = some (v, σ')) : ∃ g, σ' = σ ++ g := by
  have same : ∃ g, σ = σ ++ g := ⟨[], (List.append_nil σ).symm⟩
  unfold aOp at h
  split at h
  · rename_i f args _
    unfold aCall at h
    split at h
    · rename_i g first captured vs h1 h2
      cases f with
      | func g' =>
        cases h1
        cases hp : C.p g <;> rw [hp] at h <;> simp only [cond_true, cond_false] at h
        · have hq : C.q g = true := by simpa [roOp, hp] using hro
          rw [hC.q _ _ _ _ _ hq h]; exact same
        · split at h
          · cases h; exact same
          · cases h
      | _ => cases hro
    · cases h
  · cases hm : isMem o <;> rw [hm] at h <;> simp only [cond_true, cond_false] at h
    · split at h
      · cases h; exact same
      · cases h
    · exact aMem_ro hro h

theorem runOps_ro {C : Cfg} (hC : C.Ok) (ops : Array Oper) : ∀ (l : List Oper) (fr : List Value) (σ : AHeap) (fr' : List Value) (σ' : AHeap), (l.all fun o => roOp C o.op) = true →
    runOps C ops l fr σ = some (fr', σ') → ∃ g, σ' = σ ++ g := by
  intro l
  induction l with
  | nil => intro fr σ fr' σ' _ h; cases h; exact ⟨[], (List.append_nil σ).symm⟩
  | cons o l ih =>
    intro fr σ fr' σ' hro h
    rw [List.all_cons, Bool.and_eq_true] at hro
    simp only [runOps] at h
    split at h
    · split at h
      · rename_i v σ1 ho
        obtain ⟨g1, rfl⟩ := aOp_ro hC hro.1 ho
        obtain ⟨g2, rfl⟩ := ih _ _ _ _ hro.2 h
        exact ⟨g1 ++ g2, by rw [List.append_assoc]⟩
      · cases h
    · exact ih _ _ _ _ hro.2 h
    · cases h

theorem DC_ro {C : Cfg} (hC : C.Ok) (n : Nat) : ∀ (c : Code) (fr : List Value) (σ : AHeap) (e : Exit) (fr' : List Value) (σ' : AHeap), roCode C c = true → DC C n c fr σ = some (e, fr', σ') → ∃ g, σ' = σ ++ g := by
  intro c
  have same : ∀ σ : AHeap, ∃ g, σ = σ ++ g := fun σ => ⟨[], (List.append_nil σ).symm⟩
  induction c with
  | skip => intro fr σ e fr' σ' _ h; cases h; exact same _
  | region id ops draw =>
    intro fr σ e fr' σ' hro h
    simp only [DC] at h
    split at h
    · rename_i h1; cases h; exact runOps_ro hC _ _ _ _ _ _ hro h1
    · cases h
  | seq a b iha ihb =>
    intro fr σ e fr' σ' hro h
    simp only [roCode, Bool.and_eq_true] at hro
    simp only [DC] at h
    split at h
    · rename_i h1
      obtain ⟨g1, rfl⟩ := iha _ _ _ _ _ hro.1 h1
      obtain ⟨g2, rfl⟩ := ihb _ _ _ _ _ hro.2 h
      exact ⟨g1 ++ g2, by rw [List.append_assoc]⟩
    · exact iha _ _ _ _ _ hro.1 h
  | cond c x y ihx ihy =>
    intro fr σ e fr' σ' hro h
    simp only [roCode, Bool.and_eq_true] at hro
    simp only [DC] at h
    split at h
    · rename_i b _
      cases b
      · exact ihy _ _ _ _ _ hro.2 h
      · exact ihx _ _ _ _ _ hro.1 h
    · cases h
  | block id b ih =>
    intro fr σ e fr' σ' hro h
    simp only [DC] at h
    split at h
    · rename_i h1
      split at h <;> cases h
      · exact ih _ _ _ _ _ hro h1
      · exact ih _ _ _ _ _ hro h1
    · exact ih _ _ _ _ _ hro h
  | loop b ih =>
    intro fr σ e fr' σ' hro h
    simp only [DC] at h
    suffices ∀ (m : Nat) (fr : List Value) (σ : AHeap), iter (DC C n b) m fr σ = some (e, fr', σ') → ∃ g, σ' = σ ++ g from this n fr σ h
    intro m
    induction m with
    | zero => intro fr σ h; cases h
    | succ m ihm =>
      intro fr σ h
      unfold iter at h
      split at h
      · rename_i fr1 σ1 h1
        obtain ⟨g1, rfl⟩ := ih _ _ _ _ _ hro h1
        obtain ⟨g2, rfl⟩ := ihm _ _ h
        exact ⟨g1 ++ g2, by rw [List.append_assoc]⟩
      · exact ih _ _ _ _ _ hro h
  | exit id => intro fr σ e fr' σ' _ h; cases h; exact same _
  | ret => intro fr σ e fr' σ' _ h; cases h; exact same _
  | label l => intro fr σ e fr' σ' _ h; cases h; exact same _
  | scope b ih => intro fr σ e fr' σ' hro h; exact ih _ _ _ _ _ hro h
  | _ => intro fr σ e fr' σ' _ h; cases h

theorem DFn_some {C : Cfg} {n : Nat} {fn : Func} {args : List Value} {σ σ1 : AHeap} {v : Value} (h : DFn C n fn args σ = some (v, σ1)) :
    ∃ body e fr, fn.body = some body ∧ DC C n body (args ++ List.replicate (fn.ntmps - args.length) undef) σ = some (e, fr, σ1) ∧ (e = .normal ∨ e = .ret) ∧ aResults C.P fn fr σ1 = some v := by
  unfold DFn at h
  split at h
  · rename_i body hb
    split at h
    · rename_i fr σ2 hd
      split at h
      · rename_i v' hr; cases h; exact ⟨_, _, _, hb, hd, .inl rfl, hr⟩
      · cases h
    · rename_i fr σ2 hd
      split at h
      · rename_i v' hr; cases h; exact ⟨_, _, _, hb, hd, .inr rfl, hr⟩
      · cases h
    · cases h
  · cases h

/-- No new names. -/
theorem CallR.of_sim_raw {C : Cfg} (hC : C.Ok) {f : FuncId} {fn : Func} {body : Code} {args : List Value} {σ σ1 : AHeap} {e : Exit} {fr1 : List Value} {v : Value}
    (hf : C.P.funcs[f]? = some fn) (hb : fn.body = some body) (hnm : (fn.name == "runtime.NumGoroutine") = false)
    (hsim : Sim C σ.length body (args ++ List.replicate (fn.ntmps - args.length) undef) σ e fr1 σ1) (he : e = .normal ∨ e = .ret)
    (hres : aResults C.P fn fr1 σ1 = some v) : CallR C.P C.ex f args σ v σ1 := by
  intro B μ w cargs hr hargs
  have hcf : (callFunc f cargs).run C.P w = .ok (.enter f cargs) w := by
    have hnm' : ¬ fn.name = "runtime.NumGoroutine" := by simpa using hnm
    simp [callFunc, hf, hnm', hb]
  unfold CallsTo
  rw [hcf]
  refine calls_of_wp hf hb ?_
  have hfr : FrR C.ex μ (args ++ List.replicate (fn.ntmps - args.length) undef) (cargs ++ Array.replicate (fn.ntmps - cargs.size) undef) := by
    have hl : args.length = cargs.size := by have := hargs.1; simpa using this
    have h1 : VRs C.ex μ (args ++ List.replicate (fn.ntmps - args.length) undef) (cargs ++ Array.replicate (fn.ntmps - cargs.size) undef).toList := by
      rw [Array.toList_append, Array.toList_replicate, ← hl]
      exact hargs.append (VRs.replicate _ VR.undef)
    refine ⟨by simpa using h1.1, fun i a ha => ?_⟩
    obtain ⟨c, hc, hv⟩ := h1.2 i a ha
    exact ⟨c, by rw [Array.getElem?_toList] at hc; exact hc, .inr hv⟩
  refine hsim B μ _ [] w _ hfr hr ?_
  intro μ1 tmps' w' q1 q2 q3 q4
  obtain ⟨c, hc, hvc⟩ := results_sound q1 q2 hres
  have hpost : ∃ v2, (results fn tmps').run C.P w' = .ok v2 w' ∧ ∃ v3, Ending.returned v2 = Ending.returned v3 ∧ ∃ μ', VR C.ex μ' v v3 ∧ HR C.ex B μ' σ1 w' ∧ Ext μ μ' ∧ Blw B w w' :=
    ⟨c, hc, c, rfl, μ1, hvc, q2, fun b hb => q3 b (by rw [← hr.len]; exact hb), q4⟩
  rcases he with rfl | rfl
  · exact ⟨rfl, hpost⟩
  · exact ⟨rfl, hpost⟩

theorem CallR.of_DFn {C : Cfg} (hC : C.Ok) {f : FuncId} {fn : Func} {args : List Value} {σ σ1 : AHeap} {v : Value} {n : Nat}
    (hf : C.P.funcs[f]? = some fn) (hok : (match fn.body with | some b => codeOk C b | none => false) = true) (hnm : (fn.name == "runtime.NumGoroutine") = false)
    (h : DFn C n fn args σ = some (v, σ1)) : CallR C.P C.ex f args σ v σ1 := by
  obtain ⟨body, e, fr1, hb, h1, h2, h3⟩ := DFn_some h
  rw [hb] at hok
  exact CallR.of_sim_raw hC hf hb hnm (DC_sound hC n _ _ _ _ _ _ hok h1) h2 h3

/-- A quiet function. -/
theorem CallR.of_DFn_ro {C : Cfg} (hC : C.Ok) {f : FuncId} {fn : Func} {args : List Value} {σ σ1 : AHeap} {v : Value} {n : Nat}
    (hf : C.P.funcs[f]? = some fn) (hok : (match fn.body with | some b => codeOk C b | none => false) = true) (hro : (match fn.body with | some b => roCode C b | none => false) = true) (hnm : (fn.name == "runtime.NumGoroutine") = false)
    (h : DFn C n fn args σ = some (v, σ1)) (hv : plain v = true) : CallR C.P C.ex f args σ v σ := by
  obtain ⟨body, e, fr1, hb, h1, h2, h3⟩ := DFn_some h
  rw [hb] at hro
  obtain ⟨g, rfl⟩ := DC_ro hC n _ _ _ _ _ _ hro h1
  exact CallR.of_fn hC n g hf hok hnm h (plain_inert hv)

/-- Out of the empty heap. -/
theorem CallR.of_DFn_nil {C : Cfg} (hC : C.Ok) {f : FuncId} {fn : Func} {args : List Value} {σ1 : AHeap} {v : Value} {n : Nat}
    (hf : C.P.funcs[f]? = some fn) (hok : (match fn.body with | some b => codeOk C b | none => false) = true) (hnm : (fn.name == "runtime.NumGoroutine") = false)
    (h : DFn C n fn args [] = some (v, σ1)) (hv : plain v = true) : CallR C.P C.ex f args [] v [] := by
  obtain ⟨body, e, fr1, hb, h1, h2, h3⟩ := DFn_some h
  rw [hb] at hok
  refine CallR.of_sim hC hf hb hnm (fun _ => DC_sound hC n _ _ _ _ _ _ hok h1) h2 h3 (plain_inert hv _).symm (r := fun b => b + σ1.length) ?_
  exact ⟨Nat.le_refl _, fun b _ => Nat.le_add_left _ _, fun b hb => by simp at hb, fun b b' o o' h => by simp at h, fun b o h => by simp at h⟩

/-! ### Functions reckoned out of their bodies -/
def iPure (C : Cfg) (n : Nat) (fn : Func) : PureFn := fun args =>
  bif args.all plain then
    match DFn C n fn args [] with
    | some (v, _) => bif plain v then some v else none
    | none => none
  else none
def iHeap (C : Cfg) (n : Nat) (quiet : Bool) (fn : Func) : HeapFn := fun args σ =>
  match DFn C n fn args σ with
  | some (v, σ1) => bif quiet then (bif plain v then some (v, σ) else none) else some (v, σ1)
  | none => none

/-- Pure functions and others, by their bodies; above them a table. -/
structure Lib where
  P : Program
  ex : Bool
  base : Tab
  pures : List (Nat × Func)
  heaps : List (Nat × Bool × Func)

def Lib.mk' (L : Lib) (gp : Nat → PureFn) (g : Nat → HeapFn) : Cfg :=
  { P := L.P, ex := L.ex,
    p := fun f => (look L.base.pure f).isSome || (look L.pures f).isSome,
    Gp := fun f args => match look L.base.pure f with | some s => s args | none => gp f args,
    q := fun f => match look L.base.heap f with | some (q, _) => q | none => (match look L.heaps f with | some (q, _) => q | none => false),
    G := fun f args σ => match look L.base.heap f with | some (_, s) => s args σ | none => g f args σ }

def Lib.gs (L : Lib) (n : Nat) : Nat → (Nat → PureFn) × (Nat → HeapFn)
  | 0 => (fun _ _ => none, fun _ _ _ => none)
  | k + 1 =>
    (fun f args => match look L.pures f with | some fn => iPure (L.mk' (L.gs n k).1 (L.gs n k).2) n fn args | none => none,
     fun f args σ => match look L.heaps f with | some (q, fn) => iHeap (L.mk' (L.gs n k).1 (L.gs n k).2) n q fn args σ | none => none)

def Lib.cfg (L : Lib) (n k : Nat) : Cfg := L.mk' (L.gs n k).1 (L.gs n k).2

theorem fs_nil {P : Program} : ∀ e, e ∈ ([] : List (Nat × Func)) → P.funcs[e.1]? = some e.2 := fun _ h => nomatch h
theorem fs_cons {P : Program} {f : Nat} {fn : Func} {l : List (Nat × Func)} (h : P.funcs[f]? = some fn) (t : ∀ e, e ∈ l → P.funcs[e.1]? = some e.2) : ∀ e, e ∈ (f, fn) :: l → P.funcs[e.1]? = some e.2 := by
  intro e he
  cases he with
  | head => exact h
  | tail _ he => exact t e he
theorem gs_nil {P : Program} : ∀ e, e ∈ ([] : List (Nat × Bool × Func)) → P.funcs[e.1]? = some e.2.2 := fun _ h => nomatch h
theorem gs_cons {P : Program} {f : Nat} {q : Bool} {fn : Func} {l : List (Nat × Bool × Func)} (h : P.funcs[f]? = some fn) (t : ∀ e, e ∈ l → P.funcs[e.1]? = some e.2.2) : ∀ e, e ∈ (f, q, fn) :: l → P.funcs[e.1]? = some e.2.2 := by
  intro e he
  cases he with
  | head => exact h
  | tail _ he => exact t e he

def fnOk (C : Cfg) (fn : Func) : Bool := (match fn.body with | some b => codeOk C b | none => false) && !(fn.name == "runtime.NumGoroutine")
def fnRo (C : Cfg) (fn : Func) : Bool := match fn.body with | some b => roCode C b | none => false

structure Lib.Ok (L : Lib) : Prop where
  base : L.base.Ok L.P L.ex
  mix : L.P.follows .mixedOrders = true
  fp : ∀ e, e ∈ L.pures → L.P.funcs[e.1]? = some e.2
  fh : ∀ e, e ∈ L.heaps → L.P.funcs[e.1]? = some e.2.2
  pures : ∀ gp g, (L.pures.all fun e => fnOk (L.mk' gp g) e.2) = true
  heaps : ∀ gp g, (L.heaps.all fun e => fnOk (L.mk' gp g) e.2.2 && (!e.2.1 || fnRo (L.mk' gp g) e.2.2)) = true

theorem Lib.Ok.cfg {L : Lib} (h : L.Ok) (n : Nat) : ∀ k, (L.cfg n k).Ok := by
  suffices ∀ gp g, (∀ f args v, (look L.base.pure f).isSome = false → gp f args = some v → ∀ σ, CallR L.P L.ex f args σ v σ) →
      (∀ f args σ v σ', look L.base.heap f = none → g f args σ = some (v, σ') → CallR L.P L.ex f args σ v σ' ∧ σ.length ≤ σ'.length ∧
        ((match look L.heaps f with | some (q, _) => q | none => false) = true → σ' = σ)) → (L.mk' gp g).Ok by
    intro k
    induction k with
    | zero => exact this _ _ (fun _ _ _ _ h => by cases h) (fun _ _ _ _ _ _ h => by cases h)
    | succ k ih =>
      refine this _ _ (fun f args v hb hv σ => ?_) (fun f args σ v σ' hb hv => ?_)
      · simp only [Lib.gs] at hv
        split at hv
        · rename_i fn hl
          have hm := look_mem hl
          have hok := List.all_eq_true.1 (h.pures (L.gs n k).1 (L.gs n k).2) _ hm
          simp only [Bool.and_eq_true, fnOk, Bool.not_eq_true'] at hok
          unfold iPure at hv
          cases hfl : args.all plain with
          | false => rw [hfl] at hv; cases hv
          | true =>
            rw [hfl] at hv
            simp only [cond_true] at hv
            split at hv
            · rename_i v' σ1 hd
              cases hp : plain v' with
              | false => rw [hp] at hv; cases hv
              | true =>
                rw [hp] at hv
                cases hv
                exact CallR.frame hfl (CallR.of_DFn_nil ih (h.fp _ hm) hok.1 hok.2 hd hp) hp
            · cases hv
        · cases hv
      · simp only [Lib.gs] at hv
        split at hv
        · rename_i q fn hl
          have hm := look_mem hl
          have hok := List.all_eq_true.1 (h.heaps (L.gs n k).1 (L.gs n k).2) _ hm
          simp only [Bool.and_eq_true, fnOk, Bool.not_eq_true'] at hok
          unfold iHeap at hv
          split at hv
          · rename_i v' σ1 hd
            cases q with
            | true =>
              simp only [cond_true] at hv
              cases hp : plain v' with
              | false => rw [hp] at hv; cases hv
              | true =>
                rw [hp] at hv
                cases hv
                exact ⟨CallR.of_DFn_ro ih (h.fh _ hm) hok.1.1 (by have h2 := hok.2; simp only [Bool.not_true, Bool.false_or] at h2; exact h2) hok.1.2 hd hp, Nat.le_refl _, fun _ => rfl⟩
            | false =>
              simp only [cond_false] at hv
              cases hv
              obtain ⟨body, e, fr1, hb', h1, h2, h3⟩ := DFn_some hd
              refine ⟨CallR.of_DFn ih (h.fh _ hm) hok.1.1 hok.1.2 hd, (DC_mono ih n _ _ _ _ _ _ h1).1, fun hq => ?_⟩
              first | (cases hq; done) | (rw [hl] at hq; cases hq)
          · cases hv
        · cases hv
  intro gp g hp hg
  refine ⟨fun f args v hp' hv σ => ?_, fun f args σ v σ' hv => ?_, fun f args σ v σ' hq hv => ?_, fun f args σ v σ' hv => ?_, h.mix⟩
  · simp only [Lib.mk'] at hv ⊢
    split at hv
    · rename_i s hs; exact h.base.pure _ (look_mem hs) _ _ _ hv
    · rename_i hs; exact hp _ _ _ (by rw [hs]; rfl) hv σ
  · simp only [Lib.mk'] at hv ⊢
    split at hv
    · rename_i q s hs; exact (h.base.heap _ (look_mem hs)).call _ _ _ _ hv
    · rename_i hs; exact (hg _ _ _ _ _ hs hv).1
  · simp only [Lib.mk'] at hv hq
    split at hv
    · rename_i q s hs
      rw [hs] at hq
      exact (h.base.heap _ (look_mem hs)).quiet hq _ _ _ _ hv
    · rename_i hs
      rw [hs] at hq
      exact (hg _ _ _ _ _ hs hv).2.2 hq
  · simp only [Lib.mk'] at hv
    split at hv
    · rename_i q s hs; exact (h.base.heap _ (look_mem hs)).mono _ _ _ _ hv
    · rename_i hs; exact (hg _ _ _ _ _ hs hv).2.1
end Go.Lk
