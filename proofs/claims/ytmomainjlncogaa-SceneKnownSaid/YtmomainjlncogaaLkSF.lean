/- Reckoning with frames and heaps that are laid out at each step. -/
import Derived.Test.YtmomainjlncogaaLkQT
import Derived.Test.YtmomainjlncogaaLkOO
namespace Go.Lk
set_option linter.unusedSimpArgs false
set_option linter.unusedVariables false
/-- A list laid out, and then what is wanted of it. -/
noncomputable def forceL {α β : Type} (l : List α) : (List α → β) → β := List.rec (motive := fun _ => (List α → β) → β) (fun k => k []) (fun v _ ih k => ih fun l' => k (v :: l')) l
theorem forceL_eq {α β : Type} : ∀ (l : List α) (k : List α → β), forceL l k = k l
  | [], _ => rfl
  | v :: l, k => forceL_eq l fun l' => k (v :: l')
noncomputable def forceV {β : Type} (v : Value) (k : Value → β) : β :=
  match v with
  | .bool b => k (.bool b)
  | .int t n => k (.int t n)
  | .float t n => k (.float t n)
  | .complex t x y => k (.complex t x y)
  | v => k v
theorem forceV_eq {β : Type} (v : Value) (k : Value → β) : forceV v k = k v := by cases v <;> rfl
noncomputable def runOpsF (C : Cfg) (ops : Array Oper) : List Oper → List Value → AHeap → Option (List Value × AHeap)
  | [], fr, σ => some (fr, σ)
  | o :: rest, fr, σ =>
    match wantedA ops fr o with
    | some true =>
      match aOp C fr σ o.op with
      | some (v, σ') => forceV v fun v' => forceL (putA fr o.dst v') fun fr' => forceL σ' fun σ'' => runOpsF C ops rest fr' σ''
      | none => none
    | some false => forceL (putA fr o.dst undef) fun fr' => runOpsF C ops rest fr' σ
    | none => none
theorem runOpsF_eq (C : Cfg) (ops : Array Oper) : ∀ (l : List Oper) (fr : List Value) (σ : AHeap), runOpsF C ops l fr σ = runOps C ops l fr σ
  | [], _, _ => rfl
  | o :: l, fr, σ => by
    unfold runOpsF runOps
    cases wantedA ops fr o with
    | none => rfl
    | some b =>
      cases b with
      | false => simp only [forceL_eq, runOpsF_eq C ops l]
      | true =>
        cases aOp C fr σ o.op with
        | none => rfl
        | some p => simp only [forceL_eq, forceV_eq, runOpsF_eq C ops l]
noncomputable def runTF (C : Cfg) (ops : Array Oper) (dr : Bool) (fr : List Value) (σ : AHeap) : Option (List Value × AHeap) :=
  bif dr && (drawOkS C ops (ldIdx C ops) && steadyT C ops (ldIdx C ops) fr σ) then runOpsF C ops ops.toList fr σ else none
theorem runTF_eq (C : Cfg) (ops : Array Oper) (dr : Bool) (fr : List Value) (σ : AHeap) : runTF C ops dr fr σ = runT C ops dr fr σ := by unfold runTF runT; rw [runOpsF_eq]
noncomputable def DCX (C : Cfg) (X : List Nat) (n : Nat) : Code → List Value → AHeap → Res
  | .skip, fr, σ => some (.normal, fr, σ)
  | .region id ops dr, fr, σ =>
    match (bif X.contains id then runTF C ops dr fr σ else runOpsF C ops ops.toList fr σ) with
    | some (fr', σ') => some (.normal, fr', σ')
    | none => none
  | .seq a b, fr, σ =>
    match DCX C X n a fr σ with
    | some (.normal, fr', σ') => DCX C X n b fr' σ'
    | r => r
  | .cond c x y, fr, σ =>
    match aev fr c with
    | some (.bool b) => bif b then DCX C X n x fr σ else DCX C X n y fr σ
    | _ => none
  | .block id body, fr, σ =>
    match DCX C X n body fr σ with
    | some (.exit id', fr', σ') => if id' = id then some (.normal, fr', σ') else some (.exit id', fr', σ')
    | r => r
  | .loop body, fr, σ => iter (DCX C X n body) n fr σ
  | .exit id, fr, σ => some (.exit id, fr, σ)
  | .ret, fr, σ => some (.ret, fr, σ)
  | .label _, fr, σ => some (.normal, fr, σ)
  | .scope body, fr, σ => DCX C X n body fr σ
  | _, _, _ => none
theorem DCX_nil (C : Cfg) (n : Nat) : ∀ (c : Code) (fr : List Value) (σ : AHeap), DCX C [] n c fr σ = DC C n c fr σ := by
  intro c
  induction c with
  | region id ops dr => intro fr σ; simp only [DCX, DC, List.contains_nil, cond_false, runOpsF_eq]; rfl
  | seq a b iha ihb => intro fr σ; simp only [DCX, DC, iha, ihb]; rfl
  | cond c x y ihx ihy => intro fr σ; simp only [DCX, DC, ihx, ihy]; rfl
  | block id b ih => intro fr σ; simp only [DCX, DC, ih]; rfl
  | loop b ih =>
    intro fr σ
    have : DCX C [] n b = DC C n b := funext fun fr => funext fun σ => ih fr σ
    simp only [DCX, DC, this]
  | scope b ih => intro fr σ; simp only [DCX, DC, ih]
  | _ => intro fr σ; rfl
def GoodX (C : Cfg) (c : Code) (fr : List Value) (σ : AHeap) (e : Exit) (fr' : List Value) (σ' : AHeap) : Prop := Sim C σ.length c fr σ e fr' σ' ∧ σ.length ≤ σ'.length ∧ Lk.Exit.isG e = false
theorem DCX_sound {C : Cfg} (hC : C.Ok) (X : List Nat) (n : Nat) : ∀ (c : Code) (fr : List Value) (σ : AHeap) (e : Exit) (fr' : List Value) (σ' : AHeap), codeOkX C X c = true → DCX C X n c fr σ = some (e, fr', σ') → GoodX C c fr σ e fr' σ' := by
  intro c
  induction c with
  | skip => intro fr σ e fr' σ' _ h; cases h; exact ⟨Sim.skip, Nat.le_refl _, rfl⟩
  | region id ops draw =>
    intro fr σ e fr' σ' hok h
    simp only [DCX] at h
    simp only [codeOkX] at hok
    generalize List.contains X id = c at h hok
    cases c with
    | true =>
      simp only [cond_true, runTF_eq] at h
      split at h
      · rename_i h1
        cases h
        have := Sim.runT (id := id) hC h1
        cases draw with
        | true => exact ⟨this.1, runOps_mono hC _ _ _ _ _ this.2, rfl⟩
        | false => unfold Lk.runT at h1; cases h1
      · cases h
    | false =>
      simp only [cond_false, runOpsF_eq] at h
      split at h
      · rename_i h1
        cases h
        exact ⟨Sim.region hC (by simpa [codeOk] using hok) h1, runOps_mono hC _ _ _ _ _ h1, rfl⟩
      · cases h
  | seq a b iha ihb =>
    intro fr σ e fr' σ' hok h
    simp only [codeOkX, Bool.and_eq_true] at hok
    simp only [DCX] at h
    split at h
    · rename_i h1
      obtain ⟨g1, g2, g3⟩ := iha _ _ _ _ _ hok.1 h1
      obtain ⟨k1, k2, k3⟩ := ihb _ _ _ _ _ hok.2 h
      exact ⟨g1.seq (k1.le g2), by omega, k3⟩
    · rename_i hno
      obtain ⟨g1, g2, g3⟩ := iha _ _ _ _ _ hok.1 h
      refine ⟨g1.seq_out ?_, g2, g3⟩
      cases e <;> first | rfl | skip
      exact absurd h (hno _ _)
  | cond c x y ihx ihy =>
    intro fr σ e fr' σ' hok h
    simp only [codeOkX, Bool.and_eq_true] at hok
    simp only [DCX] at h
    split at h
    · rename_i b hb
      cases b
      · obtain ⟨g1, g2, g3⟩ := ihy _ _ _ _ _ hok.2 h
        exact ⟨Sim.cond hb g1, g2, g3⟩
      · obtain ⟨g1, g2, g3⟩ := ihx _ _ _ _ _ hok.1 h
        exact ⟨Sim.cond hb g1, g2, g3⟩
    · cases h
  | block id b ih =>
    intro fr σ e fr' σ' hok h
    simp only [codeOkX] at hok
    simp only [DCX] at h
    split at h
    · rename_i id' fr1 σ1 h1
      obtain ⟨g1, g2, g3⟩ := ih _ _ _ _ _ hok h1
      have := g1.block (id := id)
      split at h
      · rename_i hid
        cases h
        exact ⟨by simpa only [outOf, if_pos hid] using this, g2, rfl⟩
      · rename_i hid
        cases h
        exact ⟨by simpa only [outOf, if_neg hid] using this, g2, rfl⟩
    · rename_i hno
      obtain ⟨g1, g2, g3⟩ := ih _ _ _ _ _ hok h
      have := g1.block (id := id)
      have he : outOf id e = e := by
        cases e <;> first | rfl | skip
        exact absurd h (hno _ _ _)
      rw [he] at this
      exact ⟨this, g2, g3⟩
  | loop b ih =>
    intro fr σ e fr' σ' hok h
    simp only [codeOkX] at hok
    simp only [DCX] at h
    obtain ⟨S, N, e0, e1, e2, e3⟩ := iter_sound (n0 := σ.length) (fun _ _ _ _ _ h => (ih _ _ _ _ _ hok h).2.1) (fun _ _ _ _ _ h => (ih _ _ _ _ _ hok h).1) n fr σ e fr' σ' (Nat.le_refl _) h
    have := Sim.loop S N e1 e2 e3
    rw [e0] at this
    obtain ⟨m1, m2⟩ := iter_mono (fun _ _ _ _ _ h => (ih _ _ _ _ _ hok h).2) n _ _ _ _ _ h
    exact ⟨this, m1, m2⟩
  | exit id => intro fr σ e fr' σ' _ h; cases h; exact ⟨Sim.exit, Nat.le_refl _, rfl⟩
  | ret => intro fr σ e fr' σ' _ h; cases h; exact ⟨Sim.ret, Nat.le_refl _, rfl⟩
  | label l => intro fr σ e fr' σ' _ h; cases h; exact ⟨Sim.label, Nat.le_refl _, rfl⟩
  | scope b ih =>
    intro fr σ e fr' σ' hok h
    simp only [codeOkX] at hok
    simp only [DCX] at h
    obtain ⟨g1, g2, g3⟩ := ih _ _ _ _ _ hok h
    exact ⟨g1.scope g3, g2, g3⟩
  | _ => intro fr σ e fr' σ' _ h; cases h
/-- A function reckoned. -/
noncomputable def DFX (C : Cfg) (X : List Nat) (n : Nat) (fn : Func) (args : List Value) (σ : AHeap) : Option (Value × AHeap) :=
  match fn.body with
  | some body =>
    match DCX C X n body (args ++ List.replicate (fn.ntmps - args.length) undef) σ with
    | some (.normal, fr, σ1) => match aResults C.P fn fr σ1 with | some v => forceV v fun v' => some (v', σ1) | none => none
    | some (.ret, fr, σ1) => match aResults C.P fn fr σ1 with | some v => forceV v fun v' => some (v', σ1) | none => none
    | _ => none
  | none => none
theorem DFX_nil (C : Cfg) (n : Nat) (fn : Func) (args : List Value) (σ : AHeap) : DFX C [] n fn args σ = DFn C n fn args σ := by
  unfold DFX DFn
  simp only [DCX_nil, forceV_eq]
  rfl
noncomputable def iPureF (C : Cfg) (n : Nat) (fn : Func) : PureFn := fun args =>
  bif args.all plain then
    match DFX C [] n fn args [] with
    | some (v, _) => bif plain v then some v else none
    | none => none
  else none
noncomputable def iHeapF (C : Cfg) (n : Nat) (quiet : Bool) (fn : Func) : HeapFn := fun args σ =>
  match DFX C [] n fn args σ with
  | some (v, σ1) => bif quiet then (bif plain v then some (v, σ) else none) else some (v, σ1)
  | none => none
theorem iPureF_eq (C : Cfg) (n : Nat) (fn : Func) : iPureF C n fn = iPure C n fn := by funext args; unfold iPureF iPure; rw [DFX_nil]; rfl
theorem iHeapF_eq (C : Cfg) (n : Nat) (q : Bool) (fn : Func) : iHeapF C n q fn = iHeap C n q fn := by funext args σ; unfold iHeapF iHeap; rw [DFX_nil]; rfl
noncomputable def Lib.gsF (L : Lib) (n : Nat) : Nat → (Nat → PureFn) × (Nat → HeapFn)
  | 0 => (fun _ _ => none, fun _ _ _ => none)
  | k + 1 =>
    (fun f args => match look L.pures f with | some fn => iPureF (L.mk' (L.gsF n k).1 (L.gsF n k).2) n fn args | none => none,
     fun f args σ => match look L.heaps f with | some (q, fn) => iHeapF (L.mk' (L.gsF n k).1 (L.gsF n k).2) n q fn args σ | none => none)
theorem Lib.gsF_eq (L : Lib) (n : Nat) : ∀ k, L.gsF n k = L.gs n k
  | 0 => rfl
  | k + 1 => by unfold Lib.gsF Lib.gs; simp only [Lib.gsF_eq L n k, iPureF_eq, iHeapF_eq]; rfl
noncomputable def Lib.cfgF (L : Lib) (n k : Nat) : Cfg := L.mk' (L.gsF n k).1 (L.gsF n k).2
theorem Lib.cfgF_eq (L : Lib) (n k : Nat) : L.cfgF n k = L.cfg n k := by unfold Lib.cfgF Lib.cfg; rw [Lib.gsF_eq]
theorem Lib.Ok.cfgF {L : Lib} (h : L.Ok) (n k : Nat) : (L.cfgF n k).Ok := by rw [Lib.cfgF_eq]; exact h.cfg n k
theorem CallR.of_DFX {C : Cfg} (hC : C.Ok) {X : List Nat} {f : FuncId} {fn : Func} {args : List Value} {σ σ1 : AHeap} {v : Value} {n : Nat}
    (hf : C.P.funcs[f]? = some fn) (hok : fnOkX C X fn = true) (h : DFX C X n fn args σ = some (v, σ1)) : CallR C.P C.ex f args σ v σ1 ∧ σ.length ≤ σ1.length := by
  unfold fnOkX at hok
  unfold DFX at h
  cases hb : fn.body with
  | none => rw [hb] at h; cases h
  | some body =>
    rw [hb] at h hok
    simp only [Bool.and_eq_true, forceV_eq] at h hok
    have key : ∀ {e : Exit} {fr1 : List Value}, DCX C X n body (args ++ List.replicate (fn.ntmps - args.length) undef) σ = some (e, fr1, σ1) → (e = .normal ∨ e = .ret) → aResults C.P fn fr1 σ1 = some v → CallR C.P C.ex f args σ v σ1 ∧ σ.length ≤ σ1.length := by
      intro e fr1 hd he hr
      obtain ⟨g1, g2, g3⟩ := DCX_sound hC X n _ _ _ _ _ _ (by simpa using hok.1) hd
      exact ⟨CallR.of_sim_raw hC hf hb (by simpa using hok.2) g1 he hr, g2⟩
    split at h
    · rename_i hd
      split at h
      · rename_i hr; cases h; exact key hd (.inl rfl) hr
      · cases h
    · rename_i hd
      split at h
      · rename_i hr; cases h; exact key hd (.inr rfl) hr
      · cases h
    · cases h
end Go.Lk
