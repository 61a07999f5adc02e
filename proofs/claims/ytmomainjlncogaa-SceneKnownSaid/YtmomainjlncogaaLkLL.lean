/- Functions: the contract out of the reckoning. -/
import Derived.Test.YtmomainjlncogaaLkKK
namespace Go.Lk
set_option linter.unusedSimpArgs false
set_option linter.unusedVariables false

/-- A function's body, reckoned. -/
def DFn (C : Cfg) (n : Nat) (fn : Func) (args : List Value) (σ : AHeap) : Option (Value × AHeap) :=
  match fn.body with
  | some body =>
    match DC C n body (args ++ List.replicate (fn.ntmps - args.length) undef) σ with
    | some (.normal, fr, σ1) => match aResults C.P fn fr σ1 with | some v => some (v, σ1) | none => none
    | some (.ret, fr, σ1) => match aResults C.P fn fr σ1 with | some v => some (v, σ1) | none => none
    | _ => none
  | none => none

/-- New names: those below n0 stay; then a list; the others lead nowhere. -/
def mkR (n0 : Nat) (l : List Nat) (big : Nat) (b : Nat) : Nat :=
  if b < n0 then b else match l[b - n0]? with | some x => x | none => b + big

theorem CallR.of_sim {C : Cfg} (hC : C.Ok) {f : FuncId} {fn : Func} {body : Code} {args : List Value} {σ σ1 σ' : AHeap} {e : Exit} {fr1 : List Value} {v v1 : Value} {r : Nat → Nat}
    (hf : C.P.funcs[f]? = some fn) (hb : fn.body = some body) (hnm : (fn.name == "runtime.NumGoroutine") = false)
    (hsim : Stood C.ex σ → Sim C σ.length body (args ++ List.replicate (fn.ntmps - args.length) undef) σ e fr1 σ1) (he : e = .normal ∨ e = .ret)
    (hres : aResults C.P fn fr1 σ1 = some v1) (hv : v1 = renV r 3 v) (hemb : Emb σ r σ' σ1) : CallR C.P C.ex f args σ v σ' := by
  intro B μ w cargs hr hargs
  have hst : Stood C.ex σ := ⟨B, μ, w, hr⟩
  have hcf : (callFunc f cargs).run C.P w = .ok (.enter f cargs) w := by
    have hnm' : ¬ fn.name = "runtime.NumGoroutine" := by simpa using hnm
    simp [callFunc, hf, hnm', hb]
  unfold CallsTo
  rw [hcf]
  refine calls_of_wp hf hb ?_
  have hfr : FrR C.ex μ (args ++ List.replicate (fn.ntmps - args.length) undef) (cargs ++ Array.replicate (fn.ntmps - cargs.size) undef) := by
    have hl : args.length = cargs.size := by have := hargs.1; simpa using this
    have h1 : VRs C.ex μ (args ++ List.replicate (fn.ntmps - args.length) undef) (cargs ++ Array.replicate (fn.ntmps - cargs.size) undef).toList := by
      rw [Array.toList_append, Array.toList_replicate, ← hl]
      exact hargs.append (VRs.replicate _ VR.undef)
    refine ⟨by simpa using h1.1, fun i a ha => ?_⟩
    obtain ⟨c, hc, hv⟩ := h1.2 i a ha
    exact ⟨c, by rw [Array.getElem?_toList] at hc; exact hc, .inr hv⟩
  refine hsim hst B μ _ [] w _ hfr hr ?_
  intro μ1 tmps' w' q1 q2 q3 q4
  obtain ⟨c, hc, hvc⟩ := results_sound q1 q2 hres
  have hle := hemb.le
  have hpost : ∃ v2, (results fn tmps').run C.P w' = .ok v2 w' ∧ ∃ v3, Ending.returned v2 = Ending.returned v3 ∧ ∃ μ', VR C.ex μ' v v3 ∧ HR C.ex B μ' σ' w' ∧ Ext μ μ' ∧ Blw B w w' := by
    refine ⟨c, hc, c, rfl, renM μ1 r σ'.length, ?_, hemb.heap q2 hst, ?_, q4⟩
    · rw [hv] at hvc
      exact VR.ren (hemb.back q2) 3 _ _ hvc
    · intro b hb
      have hb' : b < σ.length := by rw [← hr.len]; exact hb
      rw [renM_get (by omega), hemb.fix b hb', q3 b hb', List.getElem?_eq_getElem hb]
      rfl
  rcases he with rfl | rfl
  · exact ⟨rfl, hpost⟩
  · exact ⟨rfl, hpost⟩

theorem mkR_fix {n0 : Nat} {l : List Nat} {big b : Nat} (h : b < n0) : mkR n0 l big b = b := by unfold mkR; rw [if_pos h]

theorem emb_same (σ g : AHeap) : Emb σ (mkR σ.length [] (σ ++ g).length) σ (σ ++ g) := by
  refine ⟨Nat.le_refl _, fun b hb => ?_, fun b hb => mkR_fix hb, fun b b' o o' h1 h2 _ _ h => ?_, fun b o h1 _ => .inl ⟨lt_of_some h1, h1, ?_⟩⟩
  · unfold mkR
    rw [if_neg (by omega)]
    simp
  · rw [mkR_fix (lt_of_some h1), mkR_fix (lt_of_some h2)] at h; exact h
  · rw [List.getElem?_append_left (lt_of_some h1)]; exact h1

/-- Its value bears no names. -/
def inert (v : Value) : Prop := ∀ r, renV r 3 v = v

theorem CallR.of_sim_pure {C : Cfg} (hC : C.Ok) {f : FuncId} {fn : Func} {body : Code} {args : List Value} {σ g : AHeap} {e : Exit} {fr1 : List Value} {v : Value}
    (hf : C.P.funcs[f]? = some fn) (hb : fn.body = some body) (hnm : (fn.name == "runtime.NumGoroutine") = false)
    (hsim : Stood C.ex σ → Sim C σ.length body (args ++ List.replicate (fn.ntmps - args.length) undef) σ e fr1 (σ ++ g)) (he : e = .normal ∨ e = .ret)
    (hres : aResults C.P fn fr1 (σ ++ g) = some v) (hv : inert v) : CallR C.P C.ex f args σ v σ :=
  CallR.of_sim hC hf hb hnm hsim he hres (hv _).symm (emb_same σ g)

theorem DFn_sim {C : Cfg} (hC : C.Ok) {n : Nat} {fn : Func} {body : Code} {args : List Value} {σ σ1 : AHeap} {v : Value} (hb : fn.body = some body) (hok : codeOk C body = true) (h : DFn C n fn args σ = some (v, σ1)) :
    ∃ e fr1, Sim C σ.length body (args ++ List.replicate (fn.ntmps - args.length) undef) σ e fr1 σ1 ∧ (e = .normal ∨ e = .ret) ∧ aResults C.P fn fr1 σ1 = some v := by
  unfold DFn at h
  rw [hb] at h
  simp only at h
  split at h
  · rename_i fr σ2 hd
    split at h
    · rename_i v' hr; cases h; exact ⟨_, _, DC_sound hC n _ _ _ _ _ _ hok hd, .inl rfl, hr⟩
    · cases h
  · rename_i fr σ2 hd
    split at h
    · rename_i v' hr; cases h; exact ⟨_, _, DC_sound hC n _ _ _ _ _ _ hok hd, .inr rfl, hr⟩
    · cases h
  · cases h

/-- A pure function: its value out of the reckoning. -/
theorem CallR.of_fn {C : Cfg} (hC : C.Ok) {f : FuncId} {fn : Func} {args : List Value} {σ : AHeap} {v : Value} (n : Nat) (g : AHeap)
    (hf : C.P.funcs[f]? = some fn) (hok : (match fn.body with | some b => codeOk C b | none => false) = true) (hnm : (fn.name == "runtime.NumGoroutine") = false)
    (h : DFn C n fn args σ = some (v, σ ++ g)) (hv : inert v) : CallR C.P C.ex f args σ v σ := by
  cases hb : fn.body with
  | none => rw [hb] at hok; cases hok
  | some body =>
    rw [hb] at hok
    obtain ⟨e, fr1, h1, h2, h3⟩ := DFn_sim hC hb hok h
    exact CallR.of_sim_pure hC hf hb hnm (fun _ => h1) h2 h3 hv

end Go.Lk
