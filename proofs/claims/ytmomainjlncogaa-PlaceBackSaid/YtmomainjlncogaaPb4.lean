import Derived.Test.YtmomainjlncogaaPb3
import Derived.WideShapes
section
/- Reckoning with answers given: branches, loads, loops; what they ask for is gathered. -/
namespace Go.Lk
set_option linter.unusedSimpArgs false
set_option linter.unusedVariables false

inductive Item where
  | br (b : Bool)
  | res (v : Value)
  | eff (v : Value) (σ : AHeap)
  | loop (e : Exit) (fr : List Value) (σ : AHeap)
abbrev Orc := List (Nat × Item)

def All : List Prop → Prop
  | [] => True
  | p :: ps => p ∧ All ps
theorem All.append : ∀ {a b : List Prop}, All (a ++ b) → All a ∧ All b
  | [], _, h => ⟨trivial, h⟩
  | _ :: _, _, h => let ⟨h1, h2⟩ := All.append h.2; ⟨⟨h.1, h1⟩, h2⟩

def ansB (orc : Orc) (x : Option Bool) : Option (List Prop × Bool × Orc) := match x with | some b => some ([], b, orc) | none => none
def ansO (orc : Orc) (x : Option (Value × AHeap)) : Option (List Prop × Value × AHeap × Orc) := match x with | some (v, σ') => some ([], v, σ', orc) | none => none
def askB (t : Nat) (orc : Orc) (x : Option Bool) : Option (List Prop × Bool × Orc) :=
  match orc with
  | (k, .br b) :: rest => bif Nat.beq k t then some ([x = some b], b, rest) else ansB orc x
  | _ => ansB orc x
def askO (t : Nat) (orc : Orc) (σ : AHeap) (x : Option (Value × AHeap)) : Option (List Prop × Value × AHeap × Orc) :=
  match orc with
  | (k, .res v) :: rest => bif Nat.beq k t then some ([x = some (v, σ)], v, σ, rest) else ansO orc x
  | (k, .eff v σ') :: rest => bif Nat.beq k t then some ([x = some (v, σ')], v, σ', rest) else ansO orc x
  | _ => ansO orc x

theorem ansB_sound {orc orc' : Orc} {x : Option Bool} {ps : List Prop} {b : Bool} (h : ansB orc x = some (ps, b, orc')) : x = some b := by
  cases x with
  | none => cases h
  | some b' => cases h; rfl
theorem ansO_sound {orc orc' : Orc} {σ' : AHeap} {x : Option (Value × AHeap)} {ps : List Prop} {v : Value} (h : ansO orc x = some (ps, v, σ', orc')) : x = some (v, σ') := by
  cases x with
  | none => cases h
  | some b' => obtain ⟨v', s'⟩ := b'; cases h; rfl
theorem askB_sound {t : Nat} {orc orc' : Orc} {x : Option Bool} {ps : List Prop} {b : Bool} (h : askB t orc x = some (ps, b, orc')) (hp : All ps) : x = some b := by
  unfold askB at h
  split at h
  · rename_i k b' rest
    generalize Nat.beq k t = c at h
    cases c with
    | true => cases h; exact hp.1
    | false => exact ansB_sound h
  · exact ansB_sound h
theorem askO_sound {t : Nat} {orc orc' : Orc} {σ σ' : AHeap} {x : Option (Value × AHeap)} {ps : List Prop} {v : Value} (h : askO t orc σ x = some (ps, v, σ', orc')) (hp : All ps) : x = some (v, σ') := by
  unfold askO at h
  split at h
  · rename_i k b' rest
    generalize Nat.beq k t = c at h
    cases c with
    | true => cases h; exact hp.1
    | false => exact ansO_sound h
  · rename_i k b' s' rest
    generalize Nat.beq k t = c at h
    cases c with
    | true => cases h; exact hp.1
    | false => exact ansO_sound h
  · exact ansO_sound h

def runO (C : Cfg) (ops : Array Oper) : List Oper → Nat → Orc → List Value → AHeap → Option (List Prop × Nat × Orc × List Value × AHeap)
  | [], t, orc, fr, σ => some ([], t, orc, fr, σ)
  | o :: l, t, orc, fr, σ =>
    match askB t orc (wantedA ops fr o) with
    | some (ps1, true, orc1) =>
      match askO (t + 1) orc1 σ (aOp C fr σ o.op) with
      | some (ps2, v, σ', orc2) =>
        match runO C ops l (t + 2) orc2 (putA fr o.dst v) σ' with
        | some (ps3, r) => some (ps1 ++ (ps2 ++ ps3), r)
        | none => none
      | none => none
    | some (ps1, false, orc1) =>
      match runO C ops l (t + 2) orc1 (putA fr o.dst undef) σ with
      | some (ps3, r) => some (ps1 ++ ps3, r)
      | none => none
    | none => none

/-- The same, for a region in the text's order. -/
def runOK (C : Cfg) (ops : Array Oper) : List Oper → Nat → Orc → List Value → AHeap → List Nat → Option (List Prop × Nat × Orc × List Value × AHeap)
  | [], t, orc, fr, σ, _ => some ([], t, orc, fr, σ)
  | o :: l, t, orc, fr, σ, K =>
    match askB t orc (wantedK ops fr K o) with
    | some (ps1, true, orc1) =>
      match askO (t + 1) orc1 σ (aOp C fr σ o.op) with
      | some (ps2, v, σ', orc2) =>
        match runOK C ops l (t + 2) orc2 (putA fr o.dst v) σ' (useK o.dst K) with
        | some (ps3, r) => some (ps1 ++ (ps2 ++ ps3), r)
        | none => none
      | none => none
    | some (ps1, false, orc1) =>
      match runOK C ops l (t + 2) orc1 (putA fr o.dst undef) σ (skipK o.dst K) with
      | some (ps3, r) => some (ps1 ++ ps3, r)
      | none => none
    | none => none
theorem runO_sound {C : Cfg} {ops : Array Oper} : ∀ (l : List Oper) (t : Nat) (orc : Orc) (fr : List Value) (σ : AHeap) {ps : List Prop} {t' : Nat} {orc' : Orc} {fr' : List Value} {σ' : AHeap},
    runO C ops l t orc fr σ = some (ps, t', orc', fr', σ') → All ps → runOps C ops l fr σ = some (fr', σ')
  | [], t, orc, fr, σ, ps, t', orc', fr', σ', h, hp => by cases h; rfl
  | o :: l, t, orc, fr, σ, ps, t', orc', fr', σ', h, hp => by
    unfold runO at h
    unfold runOps
    split at h
    · rename_i ps1 orc1 h1
      split at h
      · rename_i ps2 v σ1 orc2 h2
        split at h
        · rename_i ps3 r h3
          cases h
          obtain ⟨a1, a2⟩ := All.append hp
          obtain ⟨a2, a3⟩ := All.append a2
          rw [askB_sound h1 a1]
          simp only
          rw [askO_sound h2 a2]
          exact runO_sound l _ _ _ _ h3 a3
        · cases h
      · cases h
    · rename_i ps1 orc1 h1
      split at h
      · rename_i ps3 r h3
        cases h
        obtain ⟨a1, a3⟩ := All.append hp
        rw [askB_sound h1 a1]
        exact runO_sound l _ _ _ _ h3 a3
      · cases h
    · cases h

theorem runOK_sound {C : Cfg} {ops : Array Oper} : ∀ (l : List Oper) (t : Nat) (orc : Orc) (fr : List Value) (σ : AHeap) (K : List Nat) {ps : List Prop} {t' : Nat} {orc' : Orc} {fr' : List Value} {σ' : AHeap},
    runOK C ops l t orc fr σ K = some (ps, t', orc', fr', σ') → All ps → runOpsK C ops l fr σ K = some (fr', σ')
  | [], t, orc, fr, σ, K, ps, t', orc', fr', σ', h, hp => by cases h; rfl
  | o :: l, t, orc, fr, σ, K, ps, t', orc', fr', σ', h, hp => by
    unfold runOK at h
    unfold runOpsK
    split at h
    · rename_i ps1 orc1 h1
      split at h
      · rename_i ps2 v σ1 orc2 h2
        split at h
        · rename_i ps3 r h3
          cases h
          obtain ⟨a1, a2⟩ := All.append hp
          obtain ⟨a2, a3⟩ := All.append a2
          rw [askB_sound h1 a1]
          simp only
          rw [askO_sound h2 a2]
          exact runOK_sound l _ _ _ _ _ h3 a3
        · cases h
      · cases h
    · rename_i ps1 orc1 h1
      split at h
      · rename_i ps3 r h3
        cases h
        obtain ⟨a1, a3⟩ := All.append hp
        rw [askB_sound h1 a1]
        exact runOK_sound l _ _ _ _ _ h3 a3
      · cases h
    · cases h

abbrev ResO := Option (List Prop × Exit × Nat × Orc × List Value × AHeap)

def iterO (f : Nat → Orc → List Value → AHeap → ResO) : Nat → Nat → Orc → List Value → AHeap → ResO
  | 0, _, _, _, _ => none
  | n + 1, t, orc, fr, σ =>
    match f t orc fr σ with
    | some (ps, .normal, t1, orc1, fr1, σ1) =>
      match iterO f n t1 orc1 fr1 σ1 with
      | some (ps2, r) => some (ps ++ ps2, r)
      | none => none
    | r => r

def asBool : Option Value → Option Bool
  | some (.bool b) => some b
  | _ => none

def DO (C : Cfg) (X : List Nat) (n : Nat) : Code → Nat → Orc → List Value → AHeap → ResO
  | .skip, t, orc, fr, σ => some ([], .normal, t, orc, fr, σ)
  | .region id ops dr, t, orc, fr, σ =>
    bif X.contains id then
      match runS C ops dr fr σ with
      | some (fr', σ') => some ([], .normal, t + 1, orc, fr', σ')
      | none => none
    else
    bif dr then
    match runO C ops ops.toList t orc fr σ with
    | some (ps, t', orc', fr', σ') => some (ps, .normal, t', orc', fr', σ')
    | none => none
    else
    match runOK C ops ops.toList t orc fr σ [] with
    | some (ps, t', orc', fr', σ') => some (ps, .normal, t', orc', fr', σ')
    | none => none
  | .seq a b, t, orc, fr, σ =>
    match DO C X n a t orc fr σ with
    | some (ps, .normal, t1, orc1, fr1, σ1) =>
      match DO C X n b t1 orc1 fr1 σ1 with
      | some (ps2, r) => some (ps ++ ps2, r)
      | none => none
    | r => r
  | .cond c x y, t, orc, fr, σ =>
    match askB t orc (asBool (aev fr c)) with
    | some (ps, true, orc1) => (match DO C X n x (t + 1) orc1 fr σ with | some (ps2, r) => some (ps ++ ps2, r) | none => none)
    | some (ps, false, orc1) => (match DO C X n y (t + 1) orc1 fr σ with | some (ps2, r) => some (ps ++ ps2, r) | none => none)
    | none => none
  | .block id body, t, orc, fr, σ =>
    match DO C X n body t orc fr σ with
    | some (ps, e, r) => some (ps, outOf id e, r)
    | none => none
  | .loop body, t, orc, fr, σ =>
    match orc with
    | (k, .loop e fr' σ') :: rest =>
      bif Nat.beq k t then some ([Sim C σ.length (.loop body) fr σ e fr' σ', σ.length ≤ σ'.length, Lk.Exit.isG e = false], e, t + 1, rest, fr', σ')
      else iterO (DO C X n body) n t orc fr σ
    | _ => iterO (DO C X n body) n t orc fr σ
  | .exit id, t, orc, fr, σ => some ([], .exit id, t, orc, fr, σ)
  | .ret, t, orc, fr, σ => some ([], .ret, t, orc, fr, σ)
  | .label _, t, orc, fr, σ => some ([], .normal, t, orc, fr, σ)
  | .scope body, t, orc, fr, σ => DO C X n body t orc fr σ
  | _, _, _, _, _ => none

def GoodO (C : Cfg) (c : Code) (fr : List Value) (σ : AHeap) (e : Exit) (fr' : List Value) (σ' : AHeap) : Prop :=
  Sim C σ.length c fr σ e fr' σ' ∧ σ.length ≤ σ'.length ∧ Lk.Exit.isG e = false

theorem iterO_sound {C : Cfg} {c : Code} {f : Nat → Orc → List Value → AHeap → ResO}
    (hf : ∀ t orc fr σ ps e t' orc' fr' σ', f t orc fr σ = some (ps, e, t', orc', fr', σ') → All ps → GoodO C c fr σ e fr' σ') {n0 : Nat} : ∀ (n t : Nat) (orc : Orc) (fr : List Value) (σ : AHeap) {ps : List Prop} {e : Exit} {t' : Nat} {orc' : Orc} {fr' : List Value} {σ' : AHeap}, n0 ≤ σ.length →
    iterO f n t orc fr σ = some (ps, e, t', orc', fr', σ') → All ps → (∃ (S : Nat → List Value × AHeap) (N : Nat), S 0 = (fr, σ) ∧ (∀ k, k < N → Sim C n0 c (S k).1 (S k).2 .normal (S (k + 1)).1 (S (k + 1)).2) ∧ Sim C n0 c (S N).1 (S N).2 e fr' σ' ∧ Lk.Exit.isN e = false) ∧ σ.length ≤ σ'.length ∧ Lk.Exit.isG e = false
  | 0, _, _, _, _, _, _, _, _, _, _, _, h, _ => by cases h
  | n + 1, t, orc, fr, σ, ps, e, t', orc', fr', σ', hn, h, hp => by
    unfold iterO at h
    split at h
    · rename_i ps1 t1 orc1 fr1 σ1 h1
      split at h
      · rename_i ps2 r h2
        cases h
        obtain ⟨a1, a2⟩ := All.append hp
        obtain ⟨g1, g2, g3⟩ := hf _ _ _ _ _ _ _ _ _ _ h1 a1
        obtain ⟨⟨S, N, e0, e1, e2, e3⟩, l1, l2⟩ := iterO_sound hf (n0 := n0) n _ _ _ _ (by omega) h2 a2
        refine ⟨⟨fun k => match k with | 0 => (fr, σ) | k + 1 => S k, N + 1, rfl, fun k hk => ?_, e2, e3⟩, by omega, l2⟩
        cases k with
        | zero =>
          show Sim C n0 c fr σ .normal (S 0).1 (S 0).2
          rw [e0]
          exact g1.le hn
        | succ k => exact e1 k (by omega)
      · cases h
    · rename_i hno
      obtain ⟨g1, g2, g3⟩ := hf _ _ _ _ _ _ _ _ _ _ h hp
      refine ⟨⟨fun _ => (fr, σ), 0, rfl, fun k hk => by omega, g1.le hn, ?_⟩, g2, g3⟩
      cases e <;> first | rfl | skip
      exact absurd h (hno _ _ _ _ _)

/-- Are all regions whose order is open in order, but for those that are given? -/
def codeOkX (C : Cfg) (X : List Nat) : Code → Bool
  | .region id ops draw => X.contains id || (!draw || drawOk C ops)
  | .seq a b => codeOkX C X a && codeOkX C X b
  | .cond _ x y => codeOkX C X x && codeOkX C X y
  | .block _ b | .loop b | .scope b => codeOkX C X b
  | .goto _ => false
  | _ => true
theorem codeOkX_of {C : Cfg} : ∀ {c : Code}, codeOk C c = true → codeOkX C [] c = true := by
  intro c
  induction c with
  | region id ops draw => intro h; exact h
  | seq a b iha ihb => intro h; simp only [codeOk, codeOkX, Bool.and_eq_true] at h ⊢; exact ⟨iha h.1, ihb h.2⟩
  | cond c x y ihx ihy => intro h; simp only [codeOk, codeOkX, Bool.and_eq_true] at h ⊢; exact ⟨ihx h.1, ihy h.2⟩
  | block id b ih => intro h; exact ih h
  | loop b ih => intro h; exact ih h
  | scope b ih => intro h; exact ih h
  | _ => intro h; exact h

theorem DO_sound {C : Cfg} (hC : C.Ok) (X : List Nat) (n : Nat) : ∀ (c : Code) (t : Nat) (orc : Orc) (fr : List Value) (σ : AHeap) {ps : List Prop} {e : Exit} {t' : Nat} {orc' : Orc} {fr' : List Value} {σ' : AHeap}, codeOkX C X c = true →
    DO C X n c t orc fr σ = some (ps, e, t', orc', fr', σ') → All ps → GoodO C c fr σ e fr' σ' := by
  intro c
  induction c with
  | skip => intro t orc fr σ ps e t' orc' fr' σ' _ h _; cases h; exact ⟨Sim.skip, Nat.le_refl _, rfl⟩
  | region id ops draw =>
    intro t orc fr σ ps e t' orc' fr' σ' hok h hp
    simp only [DO] at h
    simp only [codeOkX] at hok
    generalize List.contains X id = c at h hok
    cases c with
    | true =>
      simp only [cond_true] at h
      split at h
      · rename_i h1
        cases h
        have := Sim.runS (id := id) hC h1
        exact ⟨this.1, runOps_mono hC _ _ _ _ _ this.2, rfl⟩
      · cases h
    | false =>
      cases draw with
      | true =>
        simp only [cond_false, cond_true] at h
        split at h
        · rename_i h1
          cases h
          have := runO_sound _ _ _ _ _ h1 hp
          exact ⟨Sim.region hC (by simpa [codeOk] using hok) this, runOps_mono hC _ _ _ _ _ this, rfl⟩
        · cases h
      | false =>
        simp only [cond_false] at h
        split at h
        · rename_i h1
          cases h
          have := runOK_sound _ _ _ _ _ _ h1 hp
          exact ⟨Sim.regionK hC this, runOpsK_mono hC _ _ _ _ _ _ this, rfl⟩
        · cases h
  | seq a b iha ihb =>
    intro t orc fr σ ps e t' orc' fr' σ' hok h hp
    simp only [codeOkX, Bool.and_eq_true] at hok
    simp only [DO] at h
    split at h
    · rename_i h1
      split at h
      · rename_i h2
        cases h
        obtain ⟨a1, a2⟩ := All.append hp
        obtain ⟨g1, g2, g3⟩ := iha _ _ _ _ hok.1 h1 a1
        obtain ⟨k1, k2, k3⟩ := ihb _ _ _ _ hok.2 h2 a2
        exact ⟨g1.seq (k1.le g2), by omega, k3⟩
      · cases h
    · rename_i hno
      obtain ⟨g1, g2, g3⟩ := iha _ _ _ _ hok.1 h hp
      refine ⟨g1.seq_out ?_, g2, g3⟩
      cases e <;> first | rfl | skip
      exact absurd h (hno _ _ _ _ _)
  | cond c x y ihx ihy =>
    intro t orc fr σ ps e t' orc' fr' σ' hok h hp
    simp only [codeOkX, Bool.and_eq_true] at hok
    simp only [DO] at h
    have key : ∀ {b : Bool}, asBool (aev fr c) = some b → aev fr c = some (.bool b) := by
      intro b hb
      unfold asBool at hb
      split at hb
      · rename_i hv; cases hb; exact hv
      · cases hb
    split at h
    · rename_i h1
      split at h
      · rename_i h2
        cases h
        obtain ⟨a1, a2⟩ := All.append hp
        obtain ⟨k1, k2, k3⟩ := ihx _ _ _ _ hok.1 h2 a2
        exact ⟨Sim.cond (t := true) (key (askB_sound h1 a1)) k1, k2, k3⟩
      · cases h
    · rename_i h1
      split at h
      · rename_i h2
        cases h
        obtain ⟨a1, a2⟩ := All.append hp
        obtain ⟨k1, k2, k3⟩ := ihy _ _ _ _ hok.2 h2 a2
        exact ⟨Sim.cond (t := false) (key (askB_sound h1 a1)) k1, k2, k3⟩
      · cases h
    · cases h
  | block id b ih =>
    intro t orc fr σ ps e t' orc' fr' σ' hok h hp
    simp only [codeOkX] at hok
    simp only [DO] at h
    split at h
    · rename_i e1 r h1
      cases h
      obtain ⟨g1, g2, g3⟩ := ih _ _ _ _ hok h1 hp
      refine ⟨g1.block, g2, ?_⟩
      cases e1 <;> first | exact g3 | (unfold outOf; rfl) | skip
      unfold outOf
      simp only
      split <;> rfl
    · cases h
  | loop b ih =>
    intro t orc fr σ ps e t' orc' fr' σ' hok h hp
    simp only [codeOkX] at hok
    have plain : iterO (DO C X n b) n t orc fr σ = some (ps, e, t', orc', fr', σ') → GoodO C (.loop b) fr σ e fr' σ' := by
      intro h
      obtain ⟨⟨S, N, e0, e1, e2, e3⟩, l1, l2⟩ := iterO_sound (n0 := σ.length) (fun t orc fr σ ps e t' orc' fr' σ' h hp => ih t orc fr σ hok h hp) n t orc fr σ (Nat.le_refl _) h hp
      have := Sim.loop S N e1 e2 e3
      rw [e0] at this
      exact ⟨this, l1, l2⟩
    simp only [DO] at h
    split at h
    · rename_i k e1 fr1 σ1 rest
      generalize Nat.beq k t = c at h
      cases c with
      | true => cases h; exact ⟨hp.1, hp.2.1, hp.2.2.1⟩
      | false => exact plain h
    · exact plain h
  | exit id => intro t orc fr σ ps e t' orc' fr' σ' _ h _; cases h; exact ⟨Sim.exit, Nat.le_refl _, rfl⟩
  | ret => intro t orc fr σ ps e t' orc' fr' σ' _ h _; cases h; exact ⟨Sim.ret, Nat.le_refl _, rfl⟩
  | label l => intro t orc fr σ ps e t' orc' fr' σ' _ h _; cases h; exact ⟨Sim.label, Nat.le_refl _, rfl⟩
  | scope b ih =>
    intro t orc fr σ ps e t' orc' fr' σ' hok h hp
    simp only [codeOkX] at hok
    simp only [DO] at h
    obtain ⟨g1, g2, g3⟩ := ih _ _ _ _ hok h hp
    exact ⟨g1.scope g3, g2, g3⟩
  | _ => intro t orc fr σ ps e t' orc' fr' σ' _ h; cases h

/-- A function along a path. -/
def DOfnX (C : Cfg) (X : List Nat) (n : Nat) (fn : Func) (args : List Value) (σ : AHeap) (orc : Orc) : Option (List Prop × Value × AHeap) :=
  match fn.body with
  | some body =>
    match DO C X n body 0 orc (args ++ List.replicate (fn.ntmps - args.length) undef) σ with
    | some (ps, .normal, _, _, fr, σ1) => (match aResults C.P fn fr σ1 with | some v => some (ps, v, σ1) | none => none)
    | some (ps, .ret, _, _, fr, σ1) => (match aResults C.P fn fr σ1 with | some v => some (ps, v, σ1) | none => none)
    | _ => none
  | none => none

def DOfn (C : Cfg) (n : Nat) (fn : Func) (args : List Value) (σ : AHeap) (orc : Orc) : Option (List Prop × Value × AHeap) := DOfnX C [] n fn args σ orc
def fnOkX (C : Cfg) (X : List Nat) (fn : Func) : Bool := (match fn.body with | some b => codeOkX C X b | none => false) && !(fn.name == "runtime.NumGoroutine")
theorem fnOkX_of {C : Cfg} {fn : Func} (h : fnOk C fn = true) : fnOkX C [] fn = true := by
  unfold fnOk at h
  unfold fnOkX
  cases hb : fn.body with
  | none => rw [hb] at h; cases h
  | some b =>
    rw [hb] at h
    simp only [Bool.and_eq_true] at h ⊢
    exact ⟨codeOkX_of h.1, h.2⟩

theorem DOfnX_sim {C : Cfg} (hC : C.Ok) {X : List Nat} {n : Nat} {fn : Func} {args : List Value} {σ σ1 : AHeap} {orc : Orc} {ps : List Prop} {v : Value} (hok : fnOkX C X fn = true) (h : DOfnX C X n fn args σ orc = some (ps, v, σ1)) (hp : All ps) :
    ∃ body e fr1, fn.body = some body ∧ Sim C σ.length body (args ++ List.replicate (fn.ntmps - args.length) undef) σ e fr1 σ1 ∧ (e = .normal ∨ e = .ret) ∧ aResults C.P fn fr1 σ1 = some v ∧ (fn.name == "runtime.NumGoroutine") = false := by
  unfold DOfnX at h
  unfold fnOkX at hok
  cases hb : fn.body with
  | none => rw [hb] at h; cases h
  | some body =>
    rw [hb] at h hok
    simp only [Bool.and_eq_true, Bool.not_eq_true'] at h hok
    split at h
    · rename_i hd
      split at h
      · rename_i hr; cases h; exact ⟨_, _, _, rfl, (DO_sound hC X n _ _ _ _ _ hok.1 hd hp).1, .inl rfl, hr, hok.2⟩
      · cases h
    · rename_i hd
      split at h
      · rename_i hr; cases h; exact ⟨_, _, _, rfl, (DO_sound hC X n _ _ _ _ _ hok.1 hd hp).1, .inr rfl, hr, hok.2⟩
      · cases h
    · cases h

theorem DOfn_sim {C : Cfg} (hC : C.Ok) {n : Nat} {fn : Func} {args : List Value} {σ σ1 : AHeap} {orc : Orc} {ps : List Prop} {v : Value} (hok : fnOk C fn = true) (h : DOfn C n fn args σ orc = some (ps, v, σ1)) (hp : All ps) :
    ∃ body e fr1, fn.body = some body ∧ Sim C σ.length body (args ++ List.replicate (fn.ntmps - args.length) undef) σ e fr1 σ1 ∧ (e = .normal ∨ e = .ret) ∧ aResults C.P fn fr1 σ1 = some v ∧ (fn.name == "runtime.NumGoroutine") = false :=
  DOfnX_sim hC (fnOkX_of hok) h hp

theorem CallR.of_DOX {C : Cfg} (hC : C.Ok) {X : List Nat} {f : FuncId} {fn : Func} {args : List Value} {σ σ1 : AHeap} {v : Value} {n : Nat} {orc : Orc} {ps : List Prop}
    (hf : C.P.funcs[f]? = some fn) (hok : fnOkX C X fn = true) (h : DOfnX C X n fn args σ orc = some (ps, v, σ1)) (hp : All ps) : CallR C.P C.ex f args σ v σ1 := by
  obtain ⟨body, e, fr1, hb, h1, h2, h3, h4⟩ := DOfnX_sim hC hok h hp
  exact CallR.of_sim_raw hC hf hb h4 h1 h2 h3
/-- A pure one. -/
theorem CallR.of_DO_pure {C : Cfg} (hC : C.Ok) {f : FuncId} {fn : Func} {args : List Value} {σ σ1 : AHeap} {v : Value} {n : Nat} {orc : Orc} {ps : List Prop}
    (hf : C.P.funcs[f]? = some fn) (hok : fnOk C fn = true) (h : DOfn C n fn args [] orc = some (ps, v, σ1)) (hp : All ps) (ha : args.all plain = true) (hv : plain v = true) : CallR C.P C.ex f args σ v σ := by
  obtain ⟨body, e, fr1, hb, h1, h2, h3, h4⟩ := DOfn_sim hC hok h hp
  refine CallR.frame ha (CallR.of_sim hC hf hb h4 (fun _ => h1) h2 h3 (plain_inert hv _).symm (r := fun b => b + σ1.length) ?_) hv
  exact ⟨Nat.le_refl _, fun b _ => Nat.le_add_left _ _, fun b hb => by simp at hb, fun b b' o o' h => by simp at h, fun b o h => by simp at h⟩
end Go.Lk
end

section
/- What a function does in a small heap it does in a greater one. -/
namespace Go.Lk
set_option linter.unusedSimpArgs false
set_option linter.unusedVariables false

/-- The small heap's rows are rows of the great one; they are only read. -/
structure Reads (σ0 : AHeap) (r : Nat → Nat) (σ : AHeap) : Prop where
  row : ∀ b o, σ0[b]? = some o → ∃ vs opn rw, o = .row vs false opn ∧ σ[r b]? = some (.row vs rw opn) ∧ vs.all plain = true
  out : ∀ b, σ0.length ≤ b → σ.length ≤ r b

theorem VRs.plain_to {ex : Bool} {μ μ' : List (Option Ent)} {vs cs : List Value} (hp : vs.all plain = true) (h : VRs ex μ vs cs) : VRs ex μ' vs cs := h.plain_ren hp

theorem Reads.back {ex : Bool} {B : Nat → Prop} {μ : List (Option Ent)} {σ0 σ : AHeap} {w : World} {r : Nat → Nat} (h : HR ex B μ σ w) (hs : Reads σ0 r σ) : ∀ b e, μ[r b]? = some (some e) → (renM μ r σ0.length)[b]? = some (some e) := by
  intro b e hb
  refine renM_back ?_ hb
  rcases Nat.lt_or_ge b σ0.length with h' | h'
  · exact h'
  · have := hs.out b h'
    have := lt_of_some hb
    have := h.len
    omega
theorem Reads.heap {ex : Bool} {B : Nat → Prop} {μ : List (Option Ent)} {σ0 σ : AHeap} {w : World} {r : Nat → Nat} (h : HR ex B μ σ w) (hs : Reads σ0 r σ) : HR ex (old w) (renM μ r σ0.length) σ0 w := by
  refine ⟨by simp [renM], fun _ hk => hk, fun b o hb hl => ?_, fun b o e hb he => ?_, fun b b' o o' e e' hb hb' he he' ho hl hc => ?_⟩
  · obtain ⟨vs, opn, rw', rfl, h2, h3⟩ := hs.row b o hb
    obtain ⟨e, he⟩ := h.has _ _ h2 rfl
    exact ⟨e, hs.back h b e he⟩
  · obtain ⟨vs, opn, rw', rfl, h2, h3⟩ := hs.row b o hb
    obtain ⟨_, hm⟩ := renM_some he
    obtain ⟨g0, g1, c, el, lo, hi, g2, g3, g4, g5⟩ := h.obj _ _ _ h2 hm
    exact ⟨g0, g1, c, el, lo, hi, g2, g3, g4.plain_to h3, fun h => by cases h⟩
  · obtain ⟨vs, opn, rw', rfl, h2, h3⟩ := hs.row b o hb
    cases ho

theorem VRs.ren' {ex : Bool} {μ1 μ' : List (Option Ent)} {r : Nat → Nat} (hr : ∀ b e, μ1[r b]? = some (some e) → μ'[b]? = some (some e)) {vs cs : List Value} (h : VRs ex μ1 (vs.map (renV r 3)) cs) : VRs ex μ' vs cs :=
  VRs.ren (fun v c => VR.ren hr 3 v c) h

/-- A quiet function. -/
theorem CallR.frameQ {P : Program} {ex : Bool} {f : FuncId} {args0 args : List Value} {σ0 σ0' σ : AHeap} {v : Value} {r : Nat → Nat} (hs : Reads σ0 r σ) (ha : args0.map (renV r 3) = args)
    (h : CallR P ex f args0 σ0 v σ0') (hv : plain v = true) : CallR P ex f args σ v σ := by
  intro B μ w cargs hr hargs
  subst ha
  refine (h (old w) _ w cargs (hs.heap hr) (hargs.ren' (hs.back hr))).mono ?_
  rintro cv w' ⟨μ', q1, q2, q3, q4⟩
  exact ⟨μ, q1.plain_ren hv, hr.below q4, Ext.refl _, ⟨q4.os, q4.tape, q4.output, q4.size, fun k hk => q4.block k (hr.hB k hk)⟩⟩

end Go.Lk
end

section
/- Arguments: what comes in, as abstract values. -/
namespace Go.Lk
set_option linter.unusedSimpArgs false
set_option linter.unusedVariables false

section
variable {P : Program} {W : World} {r : Reach} {base : Nat} {t : TypeId} {v : Value}

theorem cell_float (ht : P.underlying t = some (.float .f64)) (h : Cell.okWide P W r base t v) : ∃ b, v = .float .f64 b ∧ b < 2 ^ 64 := by
  unfold Cell.okWide at h
  rw [ht] at h
  simp only at h
  unfold Cell.ok at h
  rw [ht] at h
  cases v <;> simp only [] at h <;> try exact h.elim
  obtain ⟨h1, h2⟩ := h
  exact ⟨_, by rw [h1], h2⟩
theorem cell_int {k : IntKind} (ht : P.underlying t = some (.int k)) (h : Cell.okWide P W r base t v) : ∃ n, v = .int k n ∧ k.min ≤ n ∧ n ≤ k.max := by
  unfold Cell.okWide at h
  rw [ht] at h
  simp only at h
  unfold Cell.ok at h
  rw [ht] at h
  cases v <;> simp only [] at h <;> try exact h.elim
  obtain ⟨h1, h2⟩ := h
  exact ⟨_, by rw [h1], h2⟩
theorem wide_float (ht : P.underlying t = some (.float .f64)) (h : Value.okWide P W r base t v) : ∃ b, v = .float .f64 b ∧ b < 2 ^ 64 :=
  cell_float ht (by simp only [Value.okWide, ht] at h; exact h)
theorem wide_int {k : IntKind} (ht : P.underlying t = some (.int k)) (h : Value.okWide P W r base t v) : ∃ n, v = .int k n ∧ k.min ≤ n ∧ n ≤ k.max :=
  cell_int ht (by simp only [Value.okWide, ht] at h; exact h)
/-- A struct or an array: its cells. -/
theorem wide_agg {ts : List TypeId} {d : TypeDesc} (ht : P.underlying t = some d) (hd : isAggD d = true) (hc : P.cellTypes P.depth t = some ts) (hl : P.cellsOf t = ts.length) (h : Value.okWide P W r base t v) :
    ∃ cs : Array Value, v = .agg cs ∧ cs.size = ts.length ∧ ∀ (i : Nat) (u : TypeId), ts[i]? = some u → ∃ x, cs[i]? = some x ∧ Cell.okWide P W r base u x := by
  have : ∃ cs, v = .agg cs ∧ cs.size = P.cellsOf t ∧ Row.okWide P W r base t cs := by
    unfold Value.okWide at h
    rw [ht] at h
    cases d <;> first | exact h | cases hd
  obtain ⟨cs, h1, h2, ts', h3, h4, h5⟩ := this
  rw [hc] at h3
  cases h3
  refine ⟨cs, h1, by rw [h2, hl], fun i u hu => ?_⟩
  have hi : i < ts.length := (List.getElem?_eq_some_iff.1 hu).1
  have hi' : i < cs.size := by rw [h2, hl]; exact hi
  obtain ⟨u', g1, g2⟩ := h5 i cs[i] (by simp [hi'])
  rw [Nat.mod_eq_of_lt hi, hu] at g1
  cases g1
  exact ⟨_, by simp [hi'], g2⟩
end

theorem VR.f64 {μ : List (Option Ent)} (b : Nat) : VR false μ (.float .f64 (can b)) (.float .f64 b) := VR.float .f64 b

/-- A law without memory that comes to true. -/
theorem Calls.of_pure {P : Program} {f : FuncId} {fn : Func} {args : List Value} {cargs : Array Value} {σ' : AHeap} {W : World}
    (hf : P.funcs[f]? = some fn) (hok : (fn.body.isSome && !(fn.name == "runtime.NumGoroutine")) = true) (h : CallR P false f args [] (.bool true) σ')
    (ha : VRs false [] args cargs.toList) : Calls P f cargs W fun e w' => e = .returned (.bool true) ∧ Go.RowKit.Below W.heap.size W w' :=
  Calls.of_callR hf hok h (HR.none false W) ha

theorem CallR.bif {P : Program} {ex : Bool} {f : FuncId} {args : List Value} {σ σ' : AHeap} {a b : Value} {c : Bool} (ht : c = true → CallR P ex f args σ a σ') (hf : c = false → CallR P ex f args σ b σ') :
    CallR P ex f args σ (bif c then a else b) σ' := by
  cases c
  · exact hf rfl
  · exact ht rfl
/-- A natural number as an integer. -/
def iN (n : Nat) : Int := Int.ofNat n
theorem iN_eq (n : Nat) : iN n = (n : Int) := rfl
/-- One of two values. -/
def pF (a b : Option Value) (σ : AHeap) (c : Bool) : Option (Value × AHeap) :=
  match (bif c then a else b : Option Value) with
  | some v => some (v, σ)
  | none => none
theorem pF_t (a : Value) (b : Option Value) (σ : AHeap) {c : Bool} (h : c = true) : pF (some a) b σ c = some (a, σ) := by subst h; rfl
theorem pF_f (a : Option Value) (b : Value) (σ : AHeap) {c : Bool} (h : c = false) : pF a (some b) σ c = some (b, σ) := by subst h; rfl
/-- A quotient or a remainder. -/
def qF (V : Value) (σ : AHeap) (b : Int) : Option (Value × AHeap) :=
  match (if b = 0 then none else some V : Option Value) with
  | some v => some (v, σ)
  | none => none
theorem qF_ok (V : Value) (σ : AHeap) {b : Int} (h : b ≠ 0) : qF V σ b = some (V, σ) := by unfold qF; rw [if_neg h]
/-- A pure call's answer under a test. -/
def gF (V : Value) (σ : AHeap) (b : Bool) : Option (Value × AHeap) :=
  match (bif b then some V else none : Option Value) with
  | some v => some (v, σ)
  | none => none
theorem gF_true (V : Value) (σ : AHeap) {b : Bool} (h : b = true) : gF V σ b = some (V, σ) := by subst h; rfl
/-- The same, as it is asked for. -/
def gP (V : Value) (σ : AHeap) (b : Bool) : Prop := gF V σ b = some (V, σ)
theorem gP_true (V : Value) (σ : AHeap) {b : Bool} (h : b = true) : gP V σ b := gF_true V σ h
def pP (a b : Option Value) (σ : AHeap) (c : Bool) (V : Value) : Prop := pF a b σ c = some (V, σ)
theorem pP_t (a : Value) (b : Option Value) (σ : AHeap) {c : Bool} (h : c = true) : pP (some a) b σ c a := pF_t a b σ h
theorem pP_f (a : Option Value) (b : Value) (σ : AHeap) {c : Bool} (h : c = false) : pP a (some b) σ c b := pF_f a b σ h
def bP (c b : Bool) : Prop := some c = some b
theorem bP_of (f : Bool → Bool) {c v : Bool} (h : c = v) : bP (f c) (f v) := congrArg (fun b => some (f b)) h
end Go.Lk
end

section
/- Loops: their bodies, their rounds; rows as functions. -/
namespace Go.Lk
set_option linter.unusedSimpArgs false
set_option linter.unusedVariables false

def loopsOf : Code → List Code
  | .loop b => b :: loopsOf b
  | .seq a b => loopsOf a ++ loopsOf b
  | .cond _ x y => loopsOf x ++ loopsOf y
  | .block _ b | .scope b => loopsOf b
  | _ => []
/-- The body of loop k of a function (in the text's order). -/
def loopOf (fn : Func) (k : Nat) : Code := match fn.body with | some b => (loopsOf b).getD k .skip | none => .skip
/-! ### Rows as functions -/
def rowOf (f : Nat → List Value) (n : Nat) : List Value := (List.range n).flatMap f
theorem rowOf_len {f : Nat → List Value} {s : Nat} (hf : ∀ i, (f i).length = s) : ∀ n, (rowOf f n).length = n * s := by
  intro n
  unfold rowOf
  induction n with
  | zero => simp
  | succ n ih => rw [List.range_succ, List.flatMap_append, List.length_append, ih]; simp [hf, Nat.succ_mul]
theorem rowOf_succ (f : Nat → List Value) (n : Nat) : rowOf f (n + 1) = rowOf f n ++ f n := by
  unfold rowOf; rw [List.range_succ, List.flatMap_append]; simp
theorem rowOf_at {f : Nat → List Value} {s : Nat} (hf : ∀ i, (f i).length = s) {k : Nat} : ∀ {n : Nat}, k < n → ((rowOf f n).drop (k * s)).take s = f k := by
  intro n
  induction n with
  | zero => intro h; omega
  | succ n ih =>
    intro h
    rw [rowOf_succ]
    have hl := rowOf_len hf n
    rcases Nat.lt_or_eq_of_le (Nat.le_of_lt_succ h) with h' | h'
    · have h1 : k * s + s ≤ n * s := by
        have := Nat.mul_le_mul_right s (show k + 1 ≤ n from h')
        rw [Nat.succ_mul] at this; exact this
      rw [List.drop_append_of_le_length (by omega), List.take_append_of_le_length (by rw [List.length_drop]; omega)]
      exact ih h'
    · subst h'
      rw [List.drop_append, hl, Nat.sub_self, List.drop_of_length_le (by omega)]
      simp only [List.drop_zero, List.nil_append]
      exact List.take_of_length_le (by rw [hf]; exact Nat.le_refl _)

/-- A sum of integers that stays in bounds. -/
def wF (k : IntKind) (e : Int) (σ : AHeap) : Option (Value × AHeap) := some (.int k (k.wrap e), σ)
theorem i64_wrap {e : Int} (h : -9223372036854775808 ≤ e ∧ e ≤ 9223372036854775807) : IntKind.i64.wrap e = e := by
  unfold IntKind.wrap
  simp [IntKind.bits, IntKind.signed]
  omega
theorem wF_ok {e e' : Int} (σ : AHeap) (h : -9223372036854775808 ≤ e ∧ e ≤ 9223372036854775807) (he : e = e') : wF .i64 e σ = some (.int .i64 e', σ) := by
  unfold wF; rw [i64_wrap h, he]
/-- An element's address. -/
def ixF (V : Value) (σ : AHeap) (n : Int) (len : Nat) : Option (Value × AHeap) :=
  match (if 0 ≤ n ∧ n < (len : Int) then some V else none : Option Value) with
  | some v => some (v, σ)
  | none => none
theorem ixF_ok (V : Value) (σ : AHeap) {n : Int} {len : Nat} (h : 0 ≤ n ∧ n < (len : Int)) : ixF V σ n len = some (V, σ) := by unfold ixF; rw [if_pos h]
/-- A load. -/
def ldF (o : Option Value) (σ : AHeap) : Option (Value × AHeap) :=
  match o with
  | some v => some (v, σ)
  | none => none
theorem ldF_ok {o : Option Value} {v : Value} {σ : AHeap} (h : o = some v) : ldF o σ = some (v, σ) := by rw [h]; rfl
theorem load_agg {P : Program} {σ : AHeap} {t : TypeId} {b s off k n : Nat} {f : Nat → List Value} {rw' : Bool} {opn : Option Nat} (hσ : σ[b]? = some (.row (rowOf f n) rw' opn)) (hd : (P.underlying t).map isAggD = some true)
    (hs : tSize P t = some s) (hf : ∀ i, (f i).length = s) (ho : off = k * s) (hk : k < n) : aLoad P σ t (.pointer (some ⟨b, off, none⟩)) = some (.agg (f k).toArray) := by
  cases hu : P.underlying t with
  | none => rw [hu] at hd; cases hd
  | some d =>
  rw [hu] at hd
  have hd : isAggD d = true := by simpa using hd
  unfold aLoad
  simp only [hσ, hu, hd, hs, cond_true]
  have hl := rowOf_len hf n
  have h1 : k * s + s ≤ n * s := by
    have := Nat.mul_le_mul_right s (show k + 1 ≤ n from hk)
    rw [Nat.succ_mul] at this; exact this
  rw [if_pos (by omega), ho, rowOf_at hf hk]
/-! ### What is kept of a round -/
/-- No names from m on. -/
def named0 (m : Nat) : Value → Bool
  | .pointer (some ⟨b, _, _⟩) => Nat.blt b m
  | .slice (some ⟨b, _, _⟩) _ _ => Nat.blt b m
  | v => flat0 v
def closedV (m : Nat) : Value → Bool
  | .agg cs => cs.toList.all (named0 m)
  | .tuple cs => cs.toList.all (named0 m)
  | v => named0 m v
theorem named0_inert {m : Nat} {v : Value} {r : Nat → Nat} (hr : ∀ b, b < m → r b = b) (h : named0 m v = true) (d : Nat) : renV r d v = v := by
  unfold named0 at h
  split at h
  · rename_i b o s
    have := hr b (by simpa [Nat.blt_eq] using h)
    cases d <;> simp only [renV, this]
  · rename_i b o s l c
    have := hr b (by simpa [Nat.blt_eq] using h)
    cases d <;> simp only [renV, this]
  · exact flat0_inert h d r
theorem namedL_inert {m : Nat} {r : Nat → Nat} (hr : ∀ b, b < m → r b = b) (d : Nat) : ∀ {cs : List Value}, cs.all (named0 m) = true → cs.map (renV r d) = cs
  | [], _ => rfl
  | c :: cs, h => by
    rw [List.all_cons, Bool.and_eq_true] at h
    rw [List.map_cons, named0_inert hr h.1, namedL_inert hr d h.2]
theorem closedV_inert {m : Nat} {v : Value} {r : Nat → Nat} (hr : ∀ b, b < m → r b = b) (h : closedV m v = true) : renV r 3 v = v := by
  unfold closedV at h
  split at h
  · simp only [renV]; rw [namedL_inert hr _ h]
  · simp only [renV]; rw [namedL_inert hr _ h]
  · exact named0_inert hr h 3
def closedO (m : Nat) : AObj → Bool
  | .row vs _ _ => vs.all (named0 m)
  | _ => true
def maskF : List Bool → List Value → List Value
  | b :: bs, v :: vs => (bif b then v else undef) :: maskF bs vs
  | _, vs => vs.map fun _ => undef
def closedF (m : Nat) : List Bool → List Value → Bool
  | b :: bs, v :: vs => (!b || closedV m v) && closedF m bs vs
  | _, _ => true
theorem maskF_emb {m : Nat} {r : Nat → Nat} (hr : ∀ b, b < m → r b = b) : ∀ (bs : List Bool) (vs : List Value), closedF m bs vs = true → FrEmb r (maskF bs vs) vs
  | b :: bs, v :: vs, h => by
    unfold closedF at h
    rw [Bool.and_eq_true] at h
    refine ⟨?_, maskF_emb hr bs vs h.2⟩
    cases b
    · left; rfl
    · right
      have h1 : closedV m v = true := by simpa using h.1
      exact (closedV_inert hr h1).symm
  | [], v :: vs, h => ⟨.inl rfl, by
    have : ∀ vs : List Value, FrEmb r (vs.map fun _ => undef) vs := by
      intro vs
      induction vs with
      | nil => trivial
      | cons v vs ih => exact ⟨.inl rfl, ih⟩
    exact this vs⟩
  | [], [], _ => trivial
  | _ :: _, [], _ => trivial

/-- The end of a stretch, its blocks renamed; the first n0 keep their names. -/
theorem Sim.embN {C : Cfg} {c : Code} {fr fr1 fr' : List Value} {σ0 σ σ1 σ' : AHeap} {e : Exit} {r : Nat → Nat} {n0 : Nat} (h : Sim C n0 c fr σ e fr1 σ1) (hs : Stood C.ex σ0) (hn : n0 ≤ σ.length) (hn' : n0 ≤ σ'.length) (hfix : ∀ b, b < n0 → r b = b) (he : Emb σ0 r σ' σ1) (hf : FrEmb r fr' fr1) :
    Sim C n0 c fr σ e fr' σ' := by
  intro B μ tmps defers w Q hf0 hr hQ
  refine h B μ tmps defers w Q hf0 hr ?_
  intro μ1 tmps' w' q1 q2 q3 q4
  have hback := he.back q2
  refine hQ (renM μ1 r σ'.length) tmps' w' ⟨by rw [hf.len]; exact q1.1, fun i a ha => ?_⟩ (he.heap q2 hs) (fun b hb => ?_) q4
  · have hlt := lt_of_some ha
    rcases hf.get i a ha with hu | hb
    · obtain ⟨c, hc⟩ : ∃ c, tmps'[i]? = some c := ⟨_, Array.getElem?_eq_getElem (by rw [← q1.1, ← hf.len]; exact hlt)⟩
      exact ⟨c, hc, .inl hu⟩
    · obtain ⟨c, hc, hv⟩ := q1.2 i _ hb
      refine ⟨c, hc, ?_⟩
      rcases hv with hu | hv
      · exact .inl (isU_ren hu)
      · exact .inr (VR.ren hback 3 _ _ hv)
  · have hlt : b < μ.length := by rw [hr.len]; omega
    rw [renM_get (by omega), hfix b hb, q3 b hb, List.getElem?_eq_getElem hlt]
    rfl

/-- A frame that is known better. -/
theorem Sim.enter {C : Cfg} {c : Code} {fr fr0 fr1 : List Value} {σ σ1 : AHeap} {e : Exit} {n0 : Nat} (h : Sim C n0 c fr σ e fr1 σ1) (mask : List Bool) (hm : maskF mask fr0 = fr) : Sim C n0 c fr0 σ e fr1 σ1 := by
  subst hm
  intro B μ tmps defers w Q hf0 hr hQ
  refine h B μ tmps defers w Q ?_ hr hQ
  have hl : ∀ (bs : List Bool) (vs : List Value), (maskF bs vs).length = vs.length := by
    intro bs
    induction bs with
    | nil => intro vs; cases vs <;> simp [maskF]
    | cons b bs ih => intro vs; cases vs with
      | nil => simp [maskF]
      | cons v vs => simp [maskF, ih]
  have hg : ∀ (bs : List Bool) (vs : List Value) (i : Nat) (a : Value), (maskF bs vs)[i]? = some a → isU a = true ∨ vs[i]? = some a := by
    intro bs
    induction bs with
    | nil =>
      intro vs i a h
      left
      have : maskF [] vs = vs.map fun _ => undef := by cases vs <;> rfl
      rw [this, List.getElem?_map] at h
      cases hv : vs[i]? with
      | none => rw [hv] at h; cases h
      | some v => rw [hv] at h; cases h; rfl
    | cons b bs ih =>
      intro vs i a h
      cases vs with
      | nil => simp [maskF] at h
      | cons v vs =>
        cases i with
        | zero =>
          simp only [maskF, List.getElem?_cons_zero, Option.some.injEq] at h
          cases b
          · left; rw [← h]; rfl
          · right; rw [← h]; rfl
        | succ i =>
          simp only [maskF, List.getElem?_cons_succ] at h ⊢
          exact ih vs i a h
  refine ⟨by rw [hl]; exact hf0.1, fun i a ha => ?_⟩
  rcases hg mask fr0 i a ha with hu | hb
  · have hlt := lt_of_some ha
    rw [hl] at hlt
    exact ⟨_, Array.getElem?_eq_getElem (by rw [← hf0.1]; exact hlt), .inl hu⟩
  · exact hf0.2 i a hb

/-- The end of a stretch: the scratch slots and the blocks from m on are given up. -/
theorem Sim.keep {C : Cfg} {c : Code} {fr fr1 : List Value} {σ0 σ σ1 : AHeap} {e : Exit} {n0 : Nat} (h : Sim C n0 c fr σ e fr1 σ1) (hs : Stood C.ex σ0) (hn : n0 ≤ σ.length) (m : Nat) (mask : List Bool)
    (hnm : n0 ≤ m) (h0 : σ0.length ≤ m) (hm : m ≤ σ1.length) (hfix : σ1.take σ0.length = σ0) (hc : ((σ1.take m).drop σ0.length).all (closedO m) = true) (hf : closedF m mask fr1 = true) : Sim C n0 c fr σ e (maskF mask fr1) (σ1.take m) := by
  have hr : ∀ b, b < m → (fun b => if b < m then b else b + σ1.length) b = b := fun b hb => by simp [hb]
  refine h.embN (r := fun b => if b < m then b else b + σ1.length) hs hn (by simp; omega) (fun b hb => hr b (by omega)) ⟨by simp; omega, fun b hb => ?_, fun b hb => hr b (by omega), fun b b' o o' hb hb' _ _ e => ?_, fun b o hb hl => ?_⟩ (maskF_emb hr mask fr1 hf)
  · simp only [List.length_take] at hb
    have : ¬ b < m := by omega
    simp only [this, if_false]; omega
  · have h1 := lt_of_some hb
    have h2 := lt_of_some hb'
    simp only [List.length_take] at h1 h2
    have g1 : b < m := by omega
    have g2 : b' < m := by omega
    simpa [g1, g2] using e
  · have h1 := lt_of_some hb
    simp only [List.length_take] at h1
    have hb1 : σ1[b]? = some o := by
      rw [List.getElem?_take] at hb
      split at hb
      · exact hb
      · cases hb
    rcases Nat.lt_or_ge b σ0.length with h' | h'
    · left
      refine ⟨h', ?_, hb1⟩
      rw [← hfix, List.getElem?_take, if_pos h']
      exact hb1
    · right
      have hbm : b < m := by omega
      simp only [hbm, if_true]
      rw [hb1]
      congr 1
      have hmem : o ∈ (σ1.take m).drop σ0.length := by
        have : ((σ1.take m).drop σ0.length)[b - σ0.length]? = some o := by
          rw [List.getElem?_drop, show σ0.length + (b - σ0.length) = b by omega]; exact hb
        exact List.mem_of_getElem? this
      have := List.all_eq_true.1 hc o hmem
      cases o with
      | row vs rw' opn => simp only [closedO] at this; simp only [renO]; rw [namedL_inert hr 3 this]
      | dead => rfl
      | iter s p => rfl
theorem CallR.of_DOXs {C : Cfg} (hC : C.Ok) {X : List Nat} {f : FuncId} {fn : Func} {args : List Value} {σ σ1 : AHeap} {v : Value} {n : Nat} {orc : Orc} {ps : List Prop}
    (hf : C.P.funcs[f]? = some fn) (hok : fnOkX C X fn = true) (h : DOfnX C X n fn args σ orc = some (ps, v, σ1)) (hp : Stood C.ex σ → All ps) : CallR C.P C.ex f args σ v σ1 :=
  fun B μ w cargs hr hargs => CallR.of_DOX hC hf hok h (hp ⟨B, μ, w, hr⟩) B μ w cargs hr hargs
theorem Sim.cast {C : Cfg} {c : Code} {fr fr' fr1 fr1' : List Value} {σ σ' σ1 σ1' : AHeap} {e : Exit} {n0 : Nat} (h : Sim C n0 c fr σ e fr1 σ1) (e1 : fr = fr') (e2 : σ = σ') (e3 : fr1 = fr1') (e4 : σ1 = σ1') : Sim C n0 c fr' σ' e fr1' σ1' := by
  subst e1 e2 e3 e4; exact h

/-- A round of a loop: what is asked, how it ends, what is kept. -/
def roundR (C : Cfg) (X : List Nat) (n : Nat) (body : Code) (orc : Orc) (s0 m : Nat) (mask : List Bool) (fr : List Value) (σ : AHeap) : Option (List Prop × Exit × List Value × AHeap) :=
  match DO C X n body 0 orc fr σ with
  | some (ps, e, _, _, fr1, σ1) =>
    bif Nat.ble m σ.length && (Nat.ble m σ1.length && (closedF m mask fr1 && ((σ1.take m).drop s0).all (closedO m))) then some (ps, e, maskF mask fr1, σ1.take m) else none
  | none => none
theorem Sim.of_round {C : Cfg} (hC : C.Ok) {X : List Nat} {n : Nat} {body : Code} {orc : Orc} {m : Nat} {mask : List Bool} {fr fr' : List Value} {σ σ' σ0 : AHeap} {ps : List Prop} {e : Exit} (hok : codeOkX C X body = true)
    (h : roundR C X n body orc σ0.length m mask fr σ = some (ps, e, fr', σ')) (hp : All ps) (hst : Stood C.ex σ0) (h0 : Nat.ble σ0.length m = true) (hfix : σ'.take σ0.length = σ0) : Sim C m body fr σ e fr' σ' := by
  unfold roundR at h
  split at h
  · rename_i ps1 e1 t1 o1 fr1 σ1 hd
    cases hb : (Nat.ble m σ.length && (Nat.ble m σ1.length && (closedF m mask fr1 && ((σ1.take m).drop σ0.length).all (closedO m))))
    · rw [hb] at h; cases h
    · rw [hb] at h
      simp only [cond_true, Option.some.injEq, Prod.mk.injEq] at h
      obtain ⟨rfl, rfl, rfl, rfl⟩ := h
      simp only [Bool.and_eq_true] at hb
      obtain ⟨b1, b2, b3, b4⟩ := hb
      have h0' := Nat.le_of_ble_eq_true h0
      have b1' := Nat.le_of_ble_eq_true b1
      refine Sim.keep ((DO_sound hC X n _ _ _ _ _ hok hd hp).1.le b1') hst b1' m mask (Nat.le_refl _) h0' (Nat.le_of_ble_eq_true b2) ?_ b4 b3
      rw [List.take_take, Nat.min_eq_left h0'] at hfix
      exact hfix
  · cases h
end Go.Lk
end

section
/- Rounding keeps the order; bounds. -/
namespace Go.Lk
open Ieee (Format Datum Toward)
set_option linter.unusedSimpArgs false
set_option linter.unusedVariables false

theorem rne_le_of {m D v : Nat} (h : m ≤ v * 2 ^ D) : rne m D ≤ v := by
  have hp : 0 < 2 ^ D := Nat.two_pow_pos D
  have hd : m / 2 ^ D ≤ v := by
    rw [Nat.div_le_iff_le_mul_add_pred hp]
    have : v * 2 ^ D = 2 ^ D * v := Nat.mul_comm _ _
    omega
  rcases Nat.lt_or_eq_of_le hd with h1 | h1
  · have := rne_le m D; omega
  · have h0 : m % 2 ^ D = 0 := by
      have := Nat.div_add_mod m (2 ^ D)
      rw [h1] at this
      have : 2 ^ D * v = v * 2 ^ D := Nat.mul_comm _ _
      omega
    unfold rne
    rw [h0, h1]
    have : (2 ^ D == 2 * 0) = false := by simp
    rw [this]
    simp

/-- The rung of m / 2^q units. -/
def rungQ (m q : Nat) : Nat := (max (m.log2 - 52) q - q) * 2 ^ 52 + rne m (max (m.log2 - 52) q)

theorem rungQ_kept (m q : Nat) : (max (m.log2 - 52) q - q = 0 ∧ rne m (max (m.log2 - 52) q) < 2 ^ 53) ∨ (2 ^ 52 ≤ rne m (max (m.log2 - 52) q) ∧ rne m (max (m.log2 - 52) q) ≤ 2 ^ 53) := by
  rcases Nat.lt_or_ge q (m.log2 - 52) with h | h
  · rw [Nat.max_eq_left (by omega)]
    right
    have := kept_range m
    unfold kd52 at this
    omega
  · rw [Nat.max_eq_right (by omega)]
    rcases Nat.lt_or_ge (rne m q) (2 ^ 53) with h1 | h1
    · left; omega
    · right
      refine ⟨by omega, ?_⟩
      have hm : m ≤ 2 ^ 53 * 2 ^ q := by
        rcases Nat.eq_zero_or_pos m with rfl | hm
        · omega
        · have : m < 2 ^ (m.log2 + 1) := Nat.lt_log2_self
          have h2 : 2 ^ (m.log2 + 1) ≤ 2 ^ 53 * 2 ^ q := by rw [← Nat.pow_add]; exact pow_ge (by omega)
          exact Nat.le_of_lt (Nat.lt_of_lt_of_le this h2)
      exact rne_le_of hm
theorem rungQ_val (m q : Nat) : fxr (rungQ m q) = rne m (max (m.log2 - 52) q) * 2 ^ (max (m.log2 - 52) q - q) := fxr_add (rungQ_kept m q)

theorem rungQ_le {m q R : Nat} (h : m ≤ fxr R * 2 ^ q) : rungQ m q ≤ R := by
  refine fxr_le.1 ?_
  rw [rungQ_val]
  rcases Nat.lt_or_ge q (m.log2 - 52) with hq | hq
  · rw [Nat.max_eq_left (by omega)]
    generalize hD : m.log2 - 52 = D at *
    have hm0 : m ≠ 0 := by rintro rfl; simp at hD; omega
    have h1 : 2 ^ m.log2 ≤ m := Nat.log2_self_le hm0
    have hl : m.log2 = 52 + D := by omega
    rw [hl] at h1
    obtain ⟨c, j, e, hc⟩ := fxr_form R
    -- fxr R is a multiple of 2^(D-q)
    have hj : D - q ≤ j := by
      rcases Nat.lt_or_ge j (D - q) with hlt | hge
      · exfalso
        have h2 : fxr R * 2 ^ q < 2 ^ 53 * 2 ^ (j + q) := by
          rw [e, Nat.mul_assoc, ← Nat.pow_add]
          exact Nat.mul_lt_mul_of_pos_right hc (Nat.two_pow_pos _)
        rw [← Nat.pow_add] at h2
        have h3 : 2 ^ (53 + (j + q)) ≤ 2 ^ (52 + D) := pow_ge (by omega)
        omega
      · exact hge
    have e2 : fxr R = c * 2 ^ (j - (D - q)) * 2 ^ (D - q) := by rw [e, Nat.mul_assoc, ← Nat.pow_add]; congr 2; omega
    have h4 : m ≤ c * 2 ^ (j - (D - q)) * 2 ^ D := by
      rw [e2, Nat.mul_assoc, ← Nat.pow_add, show D - q + q = D by omega] at h
      exact h
    rw [e2]
    exact Nat.mul_le_mul_right _ (rne_le_of h4)
  · rw [Nat.max_eq_right (by omega), Nat.sub_self, Nat.pow_zero, Nat.mul_one]
    exact rne_le_of h
theorem rung_le_of {T R : Nat} (h : T ≤ fxr R) : rung T ≤ R := by
  have h1 : rungQ T 0 ≤ R := rungQ_le (by simpa using h)
  unfold rungQ at h1
  unfold rung kd52
  simp only [Nat.max_zero, Nat.sub_zero] at h1
  omega

theorem nearest_neg (s : Bool) (m : Nat) (p : Int) (q : Nat) (hp : p = -1074 - (q : Int)) (hm : m ≠ 0) : dbl.nearest s m p = wd s (min (rungQ m q) (2047 * 2 ^ 52)) := by
  unfold Format.nearest
  rw [if_neg hm]
  simp only [fb_eq, lp_eq, bin_eq, inf_eq, word_eq, cut_even, Nat.shiftLeft_eq]
  have hlast : max (p + m.log2 - (52 : Nat)) (-1074) = p + (max (m.log2 - 52) q : Nat) := by omega
  rw [hlast]
  have e1 : (p - (p + (max (m.log2 - 52) q : Nat))).toNat = 0 := by omega
  have e2 : (p + (max (m.log2 - 52) q : Nat) - p).toNat = max (m.log2 - 52) q := by omega
  have e3 : (p + (max (m.log2 - 52) q : Nat) - -1074).toNat = max (m.log2 - 52) q - q := by omega
  rw [e1, e2, e3, Nat.pow_zero, Nat.mul_one]
  rfl

theorem rnd_le {z : Bool} {T : Int} {R : Nat} (hR : R < 2047 * 2 ^ 52) (h : T.natAbs ≤ fxr R) : isFin (rnd z T) = true ∧ fxr (rg (rnd z T)) ≤ fxr R := by
  unfold rnd
  split
  · have : rg (wd z 0) = 0 := rg_wd (by decide)
    exact ⟨fin_wd (by decide), by rw [this, fxr_zero]; exact Nat.zero_le _⟩
  · have h1 := rung_le_of h
    exact ⟨fin_wd (by omega), by rw [rg_wd (by omega)]; exact fxr_le.2 h1⟩

/-! ### Wrapped numbers -/
theorem fxr_one : fxr (rg fone) = U := by decide +kernel
theorem fx_one : fx fone = (U : Int) := by decide +kernel
theorem rg_one_lt : rg fone < 2047 * 2 ^ 52 := by decide
theorem fx_half : fx half * 2 = (U : Int) := by decide +kernel
theorem fx_mhalf : fx mhalf * 2 = -(U : Int) := by decide +kernel
theorem fx_abs (x : Nat) : (fx x).natAbs = fxr (rg x) := sgn_abs _ _
end Go.Lk
end

section
/- Between what each operation's result lies: products, quotients, roots; how far from them it may be. -/
namespace Go.Lk
open Ieee (Format Datum Toward)
set_option linter.unusedSimpArgs false
set_option linter.unusedVariables false

def infR : Nat := 2047 * 2 ^ 52
theorem rne_ge_of {m D v : Nat} (h : v * 2 ^ D ≤ m) : v ≤ rne m D :=
  Nat.le_trans ((Nat.le_div_iff_mul_le (Nat.two_pow_pos D)).2 h) (rne_ge m D)
theorem rungQ_ge {m q R : Nat} (h : fxr R * 2 ^ q ≤ m) : R ≤ rungQ m q := by
  refine fxr_le.1 ?_
  rw [rungQ_val]
  rcases Nat.lt_or_ge q (m.log2 - 52) with hq | hq
  · rw [Nat.max_eq_left (by omega)]
    generalize hD : m.log2 - 52 = D at *
    have hm0 : m ≠ 0 := by rintro rfl; simp at hD; omega
    have h1 : 2 ^ m.log2 ≤ m := Nat.log2_self_le hm0
    have hl : m.log2 = 52 + D := by omega
    rw [hl] at h1
    obtain ⟨c, j, e, hc⟩ := fxr_form R
    rcases Nat.lt_or_ge j (D - q) with hlt | hge
    · have h2 : fxr R < 2 ^ 53 * 2 ^ j := by rw [e]; exact Nat.mul_lt_mul_of_pos_right hc (Nat.two_pow_pos _)
      have h3 : 2 ^ 52 ≤ rne m D := rne_ge_of (by rw [← Nat.pow_add]; exact h1)
      have h4 : 2 ^ 53 * 2 ^ j ≤ 2 ^ 52 * 2 ^ (D - q) := by rw [← Nat.pow_add, ← Nat.pow_add]; exact pow_ge (by omega)
      exact Nat.le_of_lt (Nat.lt_of_lt_of_le h2 (Nat.le_trans h4 (Nat.mul_le_mul_right _ h3)))
    · have e2 : fxr R = c * 2 ^ (j - (D - q)) * 2 ^ (D - q) := by rw [e, Nat.mul_assoc, ← Nat.pow_add]; congr 2; omega
      have h4 : c * 2 ^ (j - (D - q)) * 2 ^ D ≤ m := by
        rw [e2, Nat.mul_assoc, ← Nat.pow_add, show D - q + q = D by omega] at h
        exact h
      rw [e2]
      exact Nat.mul_le_mul_right _ (rne_ge_of h4)
  · rw [Nat.max_eq_right (by omega), Nat.sub_self, Nat.pow_zero, Nat.mul_one]
    exact rne_ge_of h
theorem rungQ_shl (m q k : Nat) (hm : m ≠ 0) : rungQ (m * 2 ^ k) (q + k) = rungQ m q := by
  unfold rungQ
  rw [log2_shl k hm]
  have : max (m.log2 + k - 52) (q + k) = max (m.log2 - 52) q + k := by omega
  rw [this, rne_shl]
  congr 2
  omega
theorem rungQ_0 (q : Nat) : rungQ 0 q = 0 := Nat.le_zero.1 (rungQ_le (by rw [fxr_zero]; omega))
theorem rung_Q (T : Nat) : rung T = min (rungQ T 0) (2047 * 2 ^ 52) := by
  unfold rung rungQ kd52
  simp only [Nat.max_zero, Nat.sub_zero]
theorem nearest_any (s : Bool) (m : Nat) (p : Int) (M q : Nat) (hq : 0 ≤ p + 1074 + q) (h : M = m * 2 ^ (p + 1074 + q).toNat) : dbl.nearest s m p = wd s (min (rungQ M q) (2047 * 2 ^ 52)) := by
  by_cases hm : m = 0
  · subst hm
    rw [Nat.zero_mul] at h
    subst h
    rw [rungQ_0]
    unfold Format.nearest
    rw [if_pos rfl, word_eq]
    rfl
  · rcases Int.lt_or_le (p + 1074) 0 with hp | hp
    · rw [nearest_neg s m p (-1074 - p).toNat (by omega) hm, h]
      have e := rungQ_shl m (-1074 - p).toNat (p + 1074 + q).toNat hm
      rw [show (-1074 - p).toNat + (p + 1074 + q).toNat = q by omega] at e
      rw [e]
    · rw [nearest_eq s m p (by omega), rung_Q, h]
      have e := rungQ_shl (m * 2 ^ (p + 1074).toNat) 0 q (Nat.mul_ne_zero hm (Nat.ne_of_gt (Nat.two_pow_pos _)))
      rw [Nat.mul_assoc, ← Nat.pow_add, show (p + 1074).toNat + q = (p + 1074 + q).toNat by omega, Nat.zero_add] at e
      rw [e]

/-- The rung r is one that num / den lies at: it is between each two that num / den lies between. -/
def Near (num den r : Nat) : Prop := r ≤ infR ∧ ∀ R, R ≤ infR → (fxr R * den ≤ num → R ≤ r) ∧ (num ≤ fxr R * den → r ≤ R)
theorem near_rungQ (m q : Nat) : Near m (2 ^ q) (min (rungQ m q) (2047 * 2 ^ 52)) :=
  ⟨Nat.min_le_right .., fun R hR => ⟨fun h => Nat.le_min.2 ⟨rungQ_ge h, hR⟩, fun h => Nat.le_trans (Nat.min_le_left ..) (rungQ_le h)⟩⟩
theorem near_rung (T : Nat) : Near T 1 (rung T) := by
  have := near_rungQ T 0
  rw [← rung_Q, Nat.pow_zero] at this
  exact this
theorem Near.cast {n d n' d' r : Nat} (h : Near n d r) (h1 : ∀ R, R ≤ infR → (fxr R * d' ≤ n' → fxr R * d ≤ n)) (h2 : ∀ R, R ≤ infR → (n' ≤ fxr R * d' → n ≤ fxr R * d)) : Near n' d' r :=
  ⟨h.1, fun R hR => ⟨fun k => (h.2 R hR).1 (h1 R hR k), fun k => (h.2 R hR).2 (h2 R hR k)⟩⟩
theorem fmul_near {x y : Nat} (hx : isFin x = true) (hy : isFin y = true) : ∃ r, fmul x y = wd (sg x ^^ sg y) r ∧ Near (fxr (rg x) * fxr (rg y)) U r := by
  obtain ⟨m, i, e1, h1, h2, _⟩ := read_fin hx
  obtain ⟨n, j, e2, h3, h4, _⟩ := read_fin hy
  have hr : fmul x y = dbl.nearest (sg x ^^ sg y) (m * n) (i + j) := by
    unfold fmul Format.mul
    rw [e1, e2]
    rfl
  obtain ⟨u, hu, hU⟩ := U_spec
  have h5 := nearest_any (sg x ^^ sg y) (m * n) (i + j) (m * n * 2 ^ (i + j + 1074 + (u : Int)).toNat) u (by clear hU; omega) rfl
  refine ⟨_, hr.trans h5, ?_⟩
  have e : m * n * 2 ^ (i + j + 1074 + (u : Int)).toNat = fxr (rg x) * fxr (rg y) := by
    rw [← h2, ← h4]
    have : (i + j + 1074 + (u : Int)).toNat = (i + 1074).toNat + (j + 1074).toNat := by clear hU h5; omega
    rw [this, Nat.pow_add]
    ac_rfl
  rw [e, hU]
  exact near_rungQ _ _

theorem div_core {m n a b w more F : Nat} {c e : Nat} (hm : m ≠ 0) (hn : n ≠ 0) (hmore : more = 54 + n.log2 - m.log2) (hF : F = c * 2 ^ e) (hc : c < 2 ^ 53) (he : b + more ≤ e) :
    (F * n ≤ m * 2 ^ more * 2 ^ (a + w) → F * 2 ≤ (2 * (m * 2 ^ more / n) + (m * 2 ^ more % n != 0).toNat) * 2 ^ (a + w)) ∧
    (m * 2 ^ more * 2 ^ (a + w) ≤ F * n → (2 * (m * 2 ^ more / n) + (m * 2 ^ more % n != 0).toNat) * 2 ^ (a + w) ≤ F * 2) := by
  have hD : 2 ^ (54 + n.log2) ≤ m * 2 ^ more := by
    have h1 : 2 ^ m.log2 ≤ m := Nat.log2_self_le hm
    calc 2 ^ (54 + n.log2) ≤ 2 ^ (m.log2 + more) := pow_ge (by omega)
      _ = 2 ^ m.log2 * 2 ^ more := Nat.pow_add ..
      _ ≤ _ := Nat.mul_le_mul_right _ h1
  generalize m * 2 ^ more = D at *
  have hn2 : n < 2 ^ (n.log2 + 1) := Nat.lt_log2_self
  have hn0 : 0 < n := by omega
  have hDn : 2 ^ 53 * n < D := by
    have : 2 ^ 53 * 2 ^ (n.log2 + 1) = 2 ^ (54 + n.log2) := by rw [← Nat.pow_add]; congr 1; omega
    omega
  have hq0 : 2 ^ 53 ≤ D / n := (Nat.le_div_iff_mul_le hn0).2 (Nat.le_of_lt hDn)
  have hdm := Nat.div_add_mod D n
  have hml : D % n < n := Nat.mod_lt _ hn0
  have hbit : (D % n != 0).toNat = if D % n = 0 then 0 else 1 := by by_cases h : D % n = 0 <;> simp [h]
  rw [hbit]
  generalize a + w = g
  have hG : 0 < 2 ^ g := Nat.two_pow_pos g
  rcases Nat.lt_or_ge e g with hlt | hge
  · have hFs : F < 2 ^ 52 * 2 ^ g := by
      have h2 : F < 2 ^ 53 * 2 ^ e := by rw [hF]; exact Nat.mul_lt_mul_of_pos_right hc (Nat.two_pow_pos _)
      have h4 : 2 ^ 53 * 2 ^ e ≤ 2 ^ 52 * 2 ^ g := by rw [← Nat.pow_add, ← Nat.pow_add]; exact pow_ge (by omega)
      omega
    constructor
    · intro _
      have h1 : 2 ^ 53 * 2 ^ g ≤ D / n * 2 ^ g := Nat.mul_le_mul_right _ hq0
      have h2 : D / n * 2 ^ g ≤ (2 * (D / n) + if D % n = 0 then 0 else 1) * 2 ^ g := Nat.mul_le_mul_right _ (by omega)
      omega
    · intro h
      exfalso
      have h1 : F * n < 2 ^ 52 * 2 ^ g * n := Nat.mul_lt_mul_of_pos_right hFs hn0
      have h2 : 2 ^ 53 * n * 2 ^ g < D * 2 ^ g := Nat.mul_lt_mul_of_pos_right hDn hG
      have h3 : 2 ^ 53 * n * 2 ^ g = 2 * (2 ^ 52 * 2 ^ g * n) := by
        rw [show (2 : Nat) ^ 53 = 2 * 2 ^ 52 by decide]; ac_rfl
      omega
  · have hf : F = c * 2 ^ (e - g) * 2 ^ g := by rw [hF, Nat.mul_assoc, ← Nat.pow_add]; congr 2; omega
    generalize c * 2 ^ (e - g) = f at hf
    rw [hf]
    constructor
    · intro h
      have h1 : f * n ≤ D := Nat.le_of_mul_le_mul_right (by rw [show f * n * 2 ^ g = f * 2 ^ g * n by ac_rfl]; exact h) hG
      have h2 : f ≤ D / n := (Nat.le_div_iff_mul_le hn0).2 h1
      rw [show f * 2 ^ g * 2 = (2 * f) * 2 ^ g by ac_rfl]
      exact Nat.mul_le_mul_right _ (by omega)
    · intro h
      have h1 : D ≤ f * n := Nat.le_of_mul_le_mul_right (by rw [show f * n * 2 ^ g = f * 2 ^ g * n by ac_rfl]; exact h) hG
      rw [show f * 2 ^ g * 2 = (2 * f) * 2 ^ g by ac_rfl]
      refine Nat.mul_le_mul_right _ ?_
      have hcm : n * (D / n) = D / n * n := Nat.mul_comm _ _
      split
      · rename_i h0
        have : D / n * n ≤ f * n := by omega
        have := Nat.le_of_mul_le_mul_right this hn0
        omega
      · rename_i h0
        have h2 : D / n * n < f * n := by omega
        have := Nat.lt_of_mul_lt_mul_right h2
        omega

theorem fdiv_near {x y : Nat} (hx : isFin x = true) (hy : isFin y = true) (hy0 : fxr (rg y) ≠ 0) : ∃ r, fdiv x y = wd (sg x ^^ sg y) r ∧ Near (fxr (rg x) * U) (fxr (rg y)) r := by
  obtain ⟨m, i, e1, h1, h2, _⟩ := read_fin hx
  obtain ⟨n, j, e2, h3, h4, _⟩ := read_fin hy
  have hn : n ≠ 0 := by rintro rfl; rw [Nat.zero_mul] at h4; exact hy0 h4.symm
  generalize hmo : 54 + n.log2 - m.log2 = more
  have hr : fdiv x y = dbl.nearest (sg x ^^ sg y) (2 * (m * 2 ^ more / n) + (m * 2 ^ more % n != 0).toNat) (i - j - more - 1) := by
    unfold fdiv Format.div
    rw [e1, e2]
    simp only [Datum.quotient, if_neg hn, fb_eq, Nat.shiftLeft_eq]
    rw [show 52 + 2 + n.log2 - m.log2 = more by omega]
    rfl
  obtain ⟨u, hu, hU⟩ := U_spec
  generalize ha : (i + 1074).toNat = a at *
  generalize hb : (j + 1074).toNat = b at *
  have hpl : i - j - more - 1 + 1074 + ((b + more + 1 : Nat) : Int) = ((a + u : Nat) : Int) := by clear hU; omega
  have h5 := nearest_any (sg x ^^ sg y) (2 * (m * 2 ^ more / n) + (m * 2 ^ more % n != 0).toNat) (i - j - more - 1) _ (b + more + 1) (by rw [hpl]; omega) rfl
  rw [hpl, Int.toNat_natCast] at h5
  refine ⟨_, hr.trans h5, ?_⟩
  by_cases hm : m = 0
  · subst hm
    rw [Nat.zero_mul] at h2
    have e0 : 2 * (0 * 2 ^ more / n) + (0 * 2 ^ more % n != 0).toNat = 0 := by simp
    rw [e0, Nat.zero_mul, rungQ_0, ← h2, Nat.zero_mul]
    refine ⟨by decide, fun R hR => ⟨fun h => ?_, fun _ => Nat.zero_le _⟩⟩
    have h6 : fxr R = 0 := by
      rcases Nat.mul_eq_zero.1 (Nat.le_zero.1 h) with h | h
      · exact h
      · exact absurd h hy0
    rw [← fxr_zero] at h6
    have := fxr_inj h6
    omega
  · refine (near_rungQ _ _).cast (fun R hR h => ?_) (fun R hR h => ?_)
    · obtain ⟨c, e, hR', hc⟩ := fxr_form R
      have k := (div_core (m := m) (n := n) (a := a) (b := b) (w := u) (more := more) (F := fxr R * 2 ^ (b + more)) (c := c) (e := e + (b + more)) hm hn hmo.symm (by rw [hR', Nat.mul_assoc, ← Nat.pow_add]) hc (by omega)).1
      rw [← h2, ← h4, hU] at h
      have := k (by
        calc fxr R * 2 ^ (b + more) * n = fxr R * (n * 2 ^ b) * 2 ^ more := by rw [Nat.pow_add]; ac_rfl
          _ ≤ m * 2 ^ a * 2 ^ u * 2 ^ more := Nat.mul_le_mul_right _ h
          _ = _ := by rw [Nat.pow_add]; ac_rfl)
      calc fxr R * 2 ^ (b + more + 1) = fxr R * 2 ^ (b + more) * 2 := by rw [Nat.pow_succ]; ac_rfl
        _ ≤ _ := this
    · obtain ⟨c, e, hR', hc⟩ := fxr_form R
      have k := (div_core (m := m) (n := n) (a := a) (b := b) (w := u) (more := more) (F := fxr R * 2 ^ (b + more)) (c := c) (e := e + (b + more)) hm hn hmo.symm (by rw [hR', Nat.mul_assoc, ← Nat.pow_add]) hc (by omega)).2
      rw [← h2, ← h4, hU] at h
      have := k (by
        calc m * 2 ^ more * 2 ^ (a + u) = m * 2 ^ a * 2 ^ u * 2 ^ more := by rw [Nat.pow_add]; ac_rfl
          _ ≤ fxr R * (n * 2 ^ b) * 2 ^ more := Nat.mul_le_mul_right _ h
          _ = _ := by rw [Nat.pow_add]; ac_rfl)
      calc _ ≤ fxr R * 2 ^ (b + more) * 2 := this
        _ = fxr R * 2 ^ (b + more + 1) := by rw [Nat.pow_succ]; ac_rfl

/-! ### How far -/
/-- The next one is no further than 1, or 2^-52 of it. -/
theorem fxr_gap (L : Nat) : 2 ^ 52 * fxr (L + 1) ≤ 2 ^ 52 * fxr L + max (2 ^ 52) (fxr L) := by
  rcases Nat.lt_or_ge L (2 ^ 52) with h | h
  · have e1 := fxr_add (k := 0) (c := L) (.inl ⟨rfl, by omega⟩)
    have e2 := fxr_add (k := 0) (c := L + 1) (.inl ⟨rfl, by omega⟩)
    simp only [Nat.zero_mul, Nat.zero_add, Nat.pow_zero, Nat.mul_one] at e1 e2
    rw [e1, e2]
    omega
  · have hL : L = (L / 2 ^ 52 - 1) * 2 ^ 52 + (2 ^ 52 + L % 2 ^ 52) := by omega
    generalize L / 2 ^ 52 - 1 = k at hL
    have hc : L % 2 ^ 52 < 2 ^ 52 := Nat.mod_lt _ (by decide)
    generalize L % 2 ^ 52 = c at hL hc
    have e1 := fxr_add (k := k) (c := 2 ^ 52 + c) (.inr ⟨by omega, by omega⟩)
    have e2 := fxr_add (k := k) (c := 2 ^ 52 + c + 1) (.inr ⟨by omega, by omega⟩)
    rw [hL, show k * 2 ^ 52 + (2 ^ 52 + c) + 1 = k * 2 ^ 52 + (2 ^ 52 + c + 1) by omega, e1, e2]
    have e3 : (2 ^ 52 + c + 1) * 2 ^ k = (2 ^ 52 + c) * 2 ^ k + 2 ^ k := by rw [Nat.add_mul (2 ^ 52 + c) 1, Nat.one_mul]
    have : 2 ^ 52 * 2 ^ k ≤ (2 ^ 52 + c) * 2 ^ k := Nat.mul_le_mul_right _ (by omega)
    rw [e3]
    omega

theorem Near.le_of {num den r R : Nat} (h : Near num den r) (hR : R ≤ infR) (k : num ≤ fxr R * den) : r ≤ R := (h.2 R hR).2 k
theorem Near.ge_of {num den r R : Nat} (h : Near num den r) (hR : R ≤ infR) (k : fxr R * den ≤ num) : R ≤ r := (h.2 R hR).1 k
/-- Two rungs, next to each other, between which num / den lies. -/
theorem Near.between {num den r : Nat} (h : Near num den r) (hd : 0 < den) (hr : r < infR) : ∃ L, L < infR ∧ fxr L * den ≤ num ∧ num < fxr (L + 1) * den ∧ (r = L ∨ r = L + 1) := by
  -- the greatest L with fxr L * den ≤ num
  have hz : fxr 0 * den ≤ num := by rw [fxr_zero]; omega
  have hbig : num < fxr infR * den := by
    rcases Nat.lt_or_ge num (fxr infR * den) with k | k
    · exact k
    · have := h.ge_of (Nat.le_refl _) k; omega
  have key : ∀ k, k ≤ infR → fxr (infR - k) * den ≤ num → ∃ L, L < infR ∧ fxr L * den ≤ num ∧ num < fxr (L + 1) * den := by
    intro k
    induction k with
    | zero => intro _ k; rw [Nat.sub_zero] at k; omega
    | succ k ih =>
      intro hk hL
      rcases Nat.lt_or_ge num (fxr (infR - k) * den) with h1 | h1
      · refine ⟨infR - (k + 1), by omega, hL, ?_⟩
        rw [show infR - (k + 1) + 1 = infR - k by omega]
        exact h1
      · exact ih (by omega) h1
  obtain ⟨L, hL, h1, h2⟩ := key infR (Nat.le_refl _) (by rw [Nat.sub_self]; exact hz)
  refine ⟨L, hL, h1, h2, ?_⟩
  have h3 := h.ge_of (by omega) h1
  have h4 := h.le_of (R := L + 1) (by omega) (Nat.le_of_lt h2)
  omega
/-- How far a result is from what it stands for. -/
theorem Near.err {num den r : Nat} (h : Near num den r) (hd : 0 < den) (hr : r < infR) :
    2 ^ 52 * (fxr r * den) ≤ 2 ^ 52 * num + max (2 ^ 52 * den) num ∧ 2 ^ 52 * num ≤ 2 ^ 52 * (fxr r * den) + max (2 ^ 52 * den) num := by
  obtain ⟨L, _, h1, h2, h3⟩ := h.between hd hr
  have hg := Nat.mul_le_mul_right den (fxr_gap L)
  have hm : max (2 ^ 52) (fxr L) * den ≤ max (2 ^ 52 * den) num := by
    rcases Nat.le_total (2 ^ 52) (fxr L) with k | k
    · rw [Nat.max_eq_right k]; exact Nat.le_trans h1 (Nat.le_max_right ..)
    · rw [Nat.max_eq_left k]; exact Nat.le_max_left ..
  rw [Nat.add_mul, Nat.mul_assoc, Nat.mul_assoc] at hg
  generalize max (2 ^ 52) (fxr L) * den = g at *
  generalize max (2 ^ 52 * den) num = G at *
  have hmono := Nat.mul_le_mul_right den (Nat.le_of_lt (fxr_step L))
  rcases h3 with rfl | rfl
  · omega
  · omega
end Go.Lk
end

section
/- Roots: between what they lie. -/
namespace Go.Lk
open Ieee (Format Datum Toward)
open Ieee.Datum (rootFrom)
set_option linter.unusedSimpArgs false
set_option linter.unusedVariables false

theorem rootFrom_spec (n : Nat) : ∀ (todo root : Nat), root * root ≤ n → n < (root + 2 ^ todo) * (root + 2 ^ todo) →
    rootFrom n todo root * rootFrom n todo root ≤ n ∧ n < (rootFrom n todo root + 1) * (rootFrom n todo root + 1)
  | 0, root, h1, h2 => ⟨h1, by simpa [rootFrom] using h2⟩
  | todo + 1, root, h1, h2 => by
    have h2' : n < (root + 2 ^ todo + 2 ^ todo) * (root + 2 ^ todo + 2 ^ todo) := by
      rw [show root + 2 ^ todo + 2 ^ todo = root + 2 ^ (todo + 1) by rw [Nat.pow_succ]; omega]
      exact h2
    have e : rootFrom n (todo + 1) root = rootFrom n todo (if (root + 2 ^ todo) * (root + 2 ^ todo) ≤ n then root + 2 ^ todo else root) := by
      show rootFrom n todo _ = _
      simp only [Nat.shiftLeft_eq, Nat.one_mul]
    rw [e]
    split
    · rename_i h; exact rootFrom_spec n todo _ h h2'
    · rename_i h; exact rootFrom_spec n todo _ h1 (by omega)

theorem sq_le {a b : Nat} (h : a * a ≤ b * b) : a ≤ b := by
  rcases Nat.lt_or_ge b a with k | k
  · have := Nat.mul_self_lt_mul_self k
    omega
  · exact k
theorem sq_lt {a b : Nat} (h : a * a < b * b) : a < b := by
  rcases Nat.lt_or_ge a b with k | k
  · exact k
  · have := Nat.mul_self_le_mul_self k
    omega

theorem root_core {n w T F c e : Nat} (hn : 2 ^ 108 ≤ n) (h1 : w * w ≤ n) (h2 : n < (w + 1) * (w + 1)) (hF : F = c * 2 ^ e) (hc : c < 2 ^ 53) :
    (F * F ≤ n * 2 ^ (2 * T) → F * 2 ≤ (2 * w + (w * w != n).toNat) * 2 ^ T) ∧ (n * 2 ^ (2 * T) ≤ F * F → (2 * w + (w * w != n).toNat) * 2 ^ T ≤ F * 2) := by
  have hw : 2 ^ 54 ≤ w + 1 := by
    refine sq_le (Nat.le_trans ?_ (Nat.le_of_lt h2))
    rw [← Nat.pow_add]; exact hn
  have hG : 0 < 2 ^ T := Nat.two_pow_pos T
  have h2T : 2 ^ (2 * T) = 2 ^ T * 2 ^ T := by rw [← Nat.pow_add]; congr 1; omega
  rw [h2T]
  have hbit : (w * w != n).toNat = if w * w = n then 0 else 1 := by by_cases h : w * w = n <;> simp [h]
  rw [hbit]
  rcases Nat.lt_or_ge e T with hlt | hge
  · have hFs : F < 2 ^ 52 * 2 ^ T := by
      have h3 : F < 2 ^ 53 * 2 ^ e := by rw [hF]; exact Nat.mul_lt_mul_of_pos_right hc (Nat.two_pow_pos _)
      have h4 : 2 ^ 53 * 2 ^ e ≤ 2 ^ 52 * 2 ^ T := by rw [← Nat.pow_add, ← Nat.pow_add]; exact pow_ge (by omega)
      omega
    constructor
    · intro _
      have h3 : 2 ^ 53 * 2 ^ T ≤ (2 * w + if w * w = n then 0 else 1) * 2 ^ T := Nat.mul_le_mul_right _ (by omega)
      omega
    · intro h
      exfalso
      have h3 : F * F < 2 ^ 52 * 2 ^ T * (2 ^ 52 * 2 ^ T) := Nat.mul_self_lt_mul_self hFs
      have h4 : 2 ^ 108 * (2 ^ T * 2 ^ T) ≤ n * (2 ^ T * 2 ^ T) := Nat.mul_le_mul_right _ hn
      have h5 : 2 ^ 52 * 2 ^ T * (2 ^ 52 * 2 ^ T) = 2 ^ 104 * (2 ^ T * 2 ^ T) := by
        rw [show (2 : Nat) ^ 104 = 2 ^ 52 * 2 ^ 52 by decide]; ac_rfl
      have h6 : 2 ^ 104 * (2 ^ T * 2 ^ T) ≤ 2 ^ 108 * (2 ^ T * 2 ^ T) := Nat.mul_le_mul_right _ (by decide)
      omega
  · have hf : F = c * 2 ^ (e - T) * 2 ^ T := by rw [hF, Nat.mul_assoc, ← Nat.pow_add]; congr 2; omega
    generalize c * 2 ^ (e - T) = f at hf
    have hFF : F * F = f * f * (2 ^ T * 2 ^ T) := by rw [hf]; ac_rfl
    rw [hFF, hf]
    have hGG : 0 < 2 ^ T * 2 ^ T := Nat.mul_pos hG hG
    constructor
    · intro h
      have h3 := Nat.le_of_mul_le_mul_right h hGG
      have h4 : f < w + 1 := sq_lt (Nat.lt_of_le_of_lt h3 h2)
      rw [show f * 2 ^ T * 2 = (2 * f) * 2 ^ T by ac_rfl]
      exact Nat.mul_le_mul_right _ (by omega)
    · intro h
      have h3 := Nat.le_of_mul_le_mul_right h hGG
      rw [show f * 2 ^ T * 2 = (2 * f) * 2 ^ T by ac_rfl]
      refine Nat.mul_le_mul_right _ ?_
      split
      · rename_i h0
        have := sq_le (a := w) (b := f) (by omega)
        omega
      · rename_i h0
        have := sq_lt (a := w) (b := f) (by omega)
        omega

theorem fsqrt_near {x : Nat} (hx : isFin x = true) (hs : sg x = false) : ∃ r, fsqrt x = wd false r ∧ r ≤ infR ∧
    ∀ R, R ≤ infR → (fxr R * fxr R ≤ fxr (rg x) * U → R ≤ r) ∧ (fxr (rg x) * U ≤ fxr R * fxr R → r ≤ R) := by
  obtain ⟨m, i, e1, h1, h2, hlt⟩ := read_fin hx
  rw [hs] at e1
  by_cases hm : m = 0
  · subst hm
    rw [Nat.zero_mul] at h2
    have hr : fsqrt x = dbl.nearest false 0 i := by
      unfold fsqrt Format.sqrt
      rw [e1]
      rfl
    refine ⟨0, ?_, Nat.zero_le _, fun R hR => ⟨fun h => ?_, fun _ => Nat.zero_le _⟩⟩
    · rw [hr]; unfold Format.nearest; rw [if_pos rfl, word_eq]
    · rw [← h2, Nat.zero_mul] at h
      have h6 : fxr R = 0 := by
        rcases Nat.mul_eq_zero.1 (Nat.le_zero.1 h) with h | h <;> exact h
      rw [← fxr_zero] at h6
      have := fxr_inj h6
      omega
  · generalize hmo : 2 * 54 - m.log2 = m0
    generalize hm1 : m0 + ((i - m0) % 2).toNat = more
    have hn : 2 ^ 108 ≤ m * 2 ^ more := by
      have h1 : 2 ^ m.log2 ≤ m := Nat.log2_self_le hm
      calc 2 ^ 108 ≤ 2 ^ (m.log2 + more) := pow_ge (by omega)
        _ = 2 ^ m.log2 * 2 ^ more := Nat.pow_add ..
        _ ≤ _ := Nat.mul_le_mul_right _ h1
    have hw := rootFrom_spec (m * 2 ^ more) ((m * 2 ^ more).log2 / 2 + 1) 0 (by omega) (by
      have h3 : m * 2 ^ more < 2 ^ ((m * 2 ^ more).log2 + 1) := Nat.lt_log2_self
      refine Nat.lt_of_lt_of_le h3 ?_
      rw [Nat.zero_add, ← Nat.pow_add]
      exact pow_ge (by omega))
    have hr : fsqrt x = dbl.nearest false (2 * rootFrom (m * 2 ^ more) ((m * 2 ^ more).log2 / 2 + 1) 0 + (rootFrom (m * 2 ^ more) ((m * 2 ^ more).log2 / 2 + 1) 0 * rootFrom (m * 2 ^ more) ((m * 2 ^ more).log2 / 2 + 1) 0 != m * 2 ^ more).toNat) ((i - more) / 2 - 1) := by
      unfold fsqrt Format.sqrt
      rw [e1]
      simp only [Datum.root, if_neg hm, fb_eq, Nat.shiftLeft_eq]
      rw [show 2 * (52 + 2) - m.log2 = m0 by omega, hm1]
      rfl
    generalize rootFrom (m * 2 ^ more) ((m * 2 ^ more).log2 / 2 + 1) 0 = w at *
    have hl : m.log2 < 53 := (Nat.log2_lt hm).2 hlt
    generalize hT : ((i - more) / 2 + 1074).toNat = T
    have hT1 : (i - more) / 2 + 1074 = (T : Int) := by omega
    have hp : (i - more) / 2 - 1 + 1074 + ((1 : Nat) : Int) = (T : Int) := by omega
    have h5 := nearest_any false (2 * w + (w * w != m * 2 ^ more).toNat) ((i - more) / 2 - 1) _ 1 (by rw [hp]; omega) rfl
    rw [hp, Int.toNat_natCast] at h5
    obtain ⟨u, hu, hU⟩ := U_spec
    have hX : fxr (rg x) * U = m * 2 ^ more * 2 ^ (2 * T) := by
      have he : (i + 1074).toNat + u = more + 2 * T := by clear hU hn hr hw h5; omega
      rw [← h2, hU, Nat.mul_assoc, Nat.mul_assoc, ← Nat.pow_add, ← Nat.pow_add, he]
    refine ⟨_, hr.trans h5, (near_rungQ _ _).1, fun R hR => ?_⟩
    obtain ⟨c, e, hR', hc⟩ := fxr_form R
    have k := root_core (T := T) hn hw.1 hw.2 hR' hc
    have nq := (near_rungQ ((2 * w + (w * w != m * 2 ^ more).toNat) * 2 ^ T) 1).2 R hR
    rw [hX]
    exact ⟨fun h => nq.1 (k.1 h), fun h => nq.2 (k.2 h)⟩
end Go.Lk
end

section
/- PlaceSquares: the plain law of sectors. -/
namespace Go.Lk
open Ieee (Format Datum Toward)
set_option linter.unusedSimpArgs false
set_option linter.unusedVariables false

theorem fxr_big : fxr 4850376798678024192 = 2 ^ 54 * U := by decide +kernel
/-- A whole number below 2^53, as a float. -/
theorem near_fx {n : Int} (h : n.natAbs < 2 ^ 53) : isFin (FloatKind.f64.nearest n) = true ∧ fx (FloatKind.f64.nearest n) = n * (U : Int) ∧ sg (FloatKind.f64.nearest n) = decide (n < 0) := by
  have e : FloatKind.f64.nearest n = dbl.nearest (decide (n < 0)) n.natAbs 0 := rfl
  rw [e, nearest_eq _ _ _ (by omega), U_of]
  obtain ⟨u, hu, hU⟩ := U_spec
  obtain ⟨h1, h2⟩ := rung_small (T := n.natAbs * U) (r := 4850376798678024192) (by rw [fxr_big]; exact Nat.mul_le_mul_right _ (by omega)) (by decide) ⟨n.natAbs, u, by rw [hU], h⟩
  refine ⟨fin_wd h1, ?_, sg_wd (rung_lt _)⟩
  have hs : sgn (decide (n < 0)) n.natAbs = n := by
    unfold sgn
    by_cases h0 : n < 0
    · rw [decide_eq_true h0, if_pos rfl]; omega
    · rw [decide_eq_false h0, if_neg (by decide)]; omega
  rw [fx_wd (rung_lt _), h2, sgn_mul, hs]
theorem rnd_exact {z : Bool} {T : Int} {R : Nat} (hR : R < 2047 * 2 ^ 52) (h : T.natAbs ≤ fxr R) (he : ∃ c j, T.natAbs = c * 2 ^ j ∧ c < 2 ^ 53) :
    isFin (rnd z T) = true ∧ fx (rnd z T) = T ∧ (T ≠ 0 → sg (rnd z T) = decide (T < 0)) := by
  unfold rnd
  split
  · rename_i h0
    subst h0
    exact ⟨fin_wd (by decide), by rw [fx_wd (by decide), fxr_zero, sgn_zero], fun h => absurd rfl h⟩
  · rename_i h0
    obtain ⟨h1, h2⟩ := rung_small h hR he
    refine ⟨fin_wd h1, ?_, fun _ => sg_wd (rung_lt _)⟩
    rw [fx_wd (rung_lt _), h2]
    unfold sgn
    by_cases hT : T < 0
    · rw [decide_eq_true hT, if_pos rfl]; omega
    · rw [decide_eq_false hT, if_neg (by decide)]; omega
theorem fx_form (x : Nat) : ∃ c j, (fx x).natAbs = c * 2 ^ j ∧ c < 2 ^ 53 := by rw [fx_abs]; exact fxr_form _
/-- What is left of 1, or lacks to it: exact. -/
theorem sterb {D : Nat} (h : ∃ c j, D = c * 2 ^ j ∧ c < 2 ^ 53) (h1 : U ≤ 2 * D) (h2 : D ≤ U) : ∃ c j, U - D = c * 2 ^ j ∧ c < 2 ^ 53 := by
  obtain ⟨c, j, e, hc⟩ := h
  obtain ⟨u, hu, hU⟩ := U_spec
  rw [hU] at h1 h2 ⊢
  clear hU
  rcases Nat.lt_or_ge u j with hj | hj
  · exfalso
    have h3 : 2 ^ (u + 1) ≤ 2 ^ j := pow_ge hj
    have h4 := Nat.two_pow_pos u
    rcases Nat.eq_zero_or_pos c with rfl | hc0
    · rw [Nat.zero_mul] at e; omega
    · have h5 : 1 * 2 ^ j ≤ c * 2 ^ j := Nat.mul_le_mul_right _ hc0
      rw [Nat.pow_succ] at h3
      omega
  · have e1 : 2 ^ u = 2 ^ (u - j) * 2 ^ j := by rw [← Nat.pow_add]; congr 1; omega
    have hp := Nat.two_pow_pos j
    refine ⟨2 ^ (u - j) - c, j, ?_, ?_⟩
    · rw [e, e1, Nat.sub_mul]
    · rw [e1, e, ← Nat.mul_assoc] at h1
      have := Nat.le_of_mul_le_mul_right h1 hp
      omega
theorem sg_fx {x : Nat} (h : fx x ≠ 0) : sg x = decide (fx x < 0) := sgn_neg h
theorem sgn_add (s : Bool) (a b : Nat) : sgn s (a + b) = sgn s a + sgn s b := by unfold sgn; cases s <;> simp <;> omega

/-- Wrapped: whole turns less, between the halves. -/
theorem wrap_val {x : Nat} (hc : Canon x) (hf : isFin x = true) : isFin (wrapP x) = true ∧ (∃ t : Int, fx (wrapP x) = fx x + t * (U : Int)) ∧ -(U : Int) ≤ 2 * fx (wrapP x) ∧ 2 * fx (wrapP x) < (U : Int) ∧ (fx (wrapP x) = 0 → sg (wrapP x) = false) := by
  have hw : wrapP x = wStep (fsub x (ftrunc x)) := by rw [wrap_eq hc]; unfold wrapR; rw [hf, cond_true, floor_eq_trunc hc.lt hf]
  obtain ⟨h1, h2, h3⟩ := frac_val hf
  have hdiv : fx x = sgn (sg x) (fxr (rg x) / U) * (U : Int) + sgn (sg x) (fxr (rg x) % U) := by
    rw [← sgn_mul, ← sgn_add]
    unfold fx
    congr 1
    have := Nat.div_add_mod (fxr (rg x)) U
    rw [Nat.mul_comm] at this
    exact this.symm
  have hd : isFin (fsub x (ftrunc x)) = true ∧ (∃ t : Int, fx (fsub x (ftrunc x)) = fx x + t * (U : Int)) ∧ (fx (fsub x (ftrunc x))).natAbs < U ∧ (fx (fsub x (ftrunc x)) = 0 → sg (fsub x (ftrunc x)) = false) := by
    rw [h1]
    split
    · rename_i h0
      refine ⟨fin_zero, ⟨-sgn (sg x) (fxr (rg x) / U), ?_⟩, by rw [fx_0]; exact U_pos, fun _ => rfl⟩
      rw [h0, sgn_zero] at hdiv
      rw [fx_0, hdiv, Int.neg_mul]; omega
    · rename_i h0
      have e : fx (wd (sg x) (rung (fxr (rg x) % U))) = sgn (sg x) (fxr (rg x) % U) := by rw [fx_wd (by omega), h3]
      refine ⟨fin_wd h2, ⟨-sgn (sg x) (fxr (rg x) / U), ?_⟩, ?_, fun h => ?_⟩
      · rw [e, hdiv, Int.neg_mul]; omega
      · rw [e, sgn_abs]; exact Nat.mod_lt _ U_pos
      · rw [e] at h; exact absurd (sgn_eq_zero.1 h) h0
  rw [hw]
  generalize fsub x (ftrunc x) = d at hd
  obtain ⟨d1, ⟨t, d2⟩, d3, d4⟩ := hd
  have ho := fx_one
  have hh := fx_half
  have hm := fx_mhalf
  unfold wStep
  rw [fge_fin d1 fin_half, flt_fin d1 fin_mhalf]
  by_cases g1 : fx half ≤ fx d
  · rw [decide_eq_true g1, cond_true, fsub_fin d1 fin_one, ho]
    obtain ⟨r1, r2, r3⟩ := rnd_exact (z := sg d && !sg fone) (T := fx d - (U : Int)) (R := rg fone) rg_one_lt (by rw [fxr_one]; omega) (by
      have := sterb (fx_form d) (by omega) (by omega)
      rwa [show U - (fx d).natAbs = (fx d - (U : Int)).natAbs by omega] at this)
    refine ⟨r1, ⟨t - 1, ?_⟩, by rw [r2]; omega, by rw [r2]; omega, fun h => by rw [r2] at h; omega⟩
    rw [r2, d2, Int.sub_mul]; omega
  · rw [decide_eq_false g1, cond_false]
    by_cases g2 : fx d < fx mhalf
    · rw [decide_eq_true g2, cond_true, fadd_fin d1 fin_one, ho]
      obtain ⟨r1, r2, r3⟩ := rnd_exact (z := sg d && sg fone) (T := fx d + (U : Int)) (R := rg fone) rg_one_lt (by rw [fxr_one]; omega) (by
        have := sterb (fx_form d) (by omega) (by omega)
        rwa [show U - (fx d).natAbs = (fx d + (U : Int)).natAbs by omega] at this)
      refine ⟨r1, ⟨t + 1, ?_⟩, by rw [r2]; omega, by rw [r2]; omega, fun h => by rw [r2] at h; omega⟩
      rw [r2, d2, Int.add_mul]; omega
    · rw [decide_eq_false g2, cond_false]
      exact ⟨d1, ⟨t, d2⟩, by omega, by omega, d4⟩
theorem fx_rg {x : Nat} (h : sg x = false) : fx x = (fxr (rg x) : Int) := by unfold fx sgn; rw [h, if_neg (by decide)]
/-- H is half of U. -/
theorem U_half : ∃ H, U = 2 * H ∧ fx half = (H : Int) ∧ 0 < H ∧ ∃ Q, H = 2 * Q ∧ 0 < Q ∧ 2 ^ 100 ≤ Q ∧ ∃ q, Q = 2 ^ q := by
  obtain ⟨u, hu, hU⟩ := U_spec
  have h1 : U = 2 * 2 ^ (u - 1) := by rw [hU, ← Nat.pow_succ', show (u - 1).succ = u by omega]
  have h2 : 2 ^ (u - 1) = 2 * 2 ^ (u - 2) := by rw [← Nat.pow_succ', show (u - 2).succ = u - 1 by omega]
  have h3 := fx_half
  have h4 : (2 : Nat) ^ 100 ≤ 2 ^ (u - 2) := pow_ge (by omega)
  exact ⟨2 ^ (u - 1), h1, by omega, Nat.two_pow_pos _, 2 ^ (u - 2), h2, Nat.two_pow_pos _, h4, _, rfl⟩

end Go.Lk
end

section
/- Rounds that grow rows, write rows: what they keep. -/
namespace Go.Lk
set_option linter.unusedSimpArgs false
set_option linter.unusedVariables false

/-! ### Rows as functions: more -/
/-! ### What is kept, under other names -/
def rOf (ks : List Nat) (big : Nat) (b : Nat) : Nat := match ks[b]? with | some x => x | none => b + big
def pickH (ks : List Nat) (σ : AHeap) : AHeap := ks.map fun k => σ.getD k .dead
def plainO : AObj → Prop
  | .row vs _ _ => vs.all plain = true
  | _ => True
theorem plainO.ren {r : Nat → Nat} {o : AObj} (h : plainO o) : renO r o = o := by
  cases o with
  | row vs rw' opn =>
    simp only [renO]
    congr 1
    have key : ∀ l : List Value, l.all plain = true → l.map (renV r 3) = l := by
      intro l
      induction l with
      | nil => intro _; rfl
      | cons v l ih =>
        intro h
        rw [List.all_cons, Bool.and_eq_true] at h
        rw [List.map_cons, plain_inert h.1, ih h.2]
    exact key vs h
  | dead => rfl
  | iter s p => rfl

theorem emb_of_map {r : Nat → Nat} : ∀ (mask : List Bool) (fr1 fr' : List Value), maskF mask fr1 = fr'.map (renV r 3) → FrEmb r fr' fr1
  | _, [], [], _ => trivial
  | mask, [], b :: bs, h => by cases mask <;> simp [maskF] at h
  | mask, a :: as, [], h => by cases mask <;> simp [maskF] at h
  | [], a :: as, b :: bs, h => by
    simp only [maskF, List.map_cons, List.cons.injEq] at h
    have hm : maskF [] as = as.map fun _ => undef := by cases as <;> rfl
    refine ⟨.inl (isU_ren (by rw [← h.1]; rfl)), emb_of_map [] as bs (by rw [hm]; exact h.2)⟩
  | m :: ms, a :: as, b :: bs, h => by
    simp only [maskF, List.map_cons, List.cons.injEq] at h
    refine ⟨?_, emb_of_map ms as bs h.2⟩
    cases m
    · left; exact isU_ren (by rw [← h.1]; rfl)
    · right; exact h.1

theorem Sim.keepR {C : Cfg} {c : Code} {fr fr1 fr' : List Value} {σ0 σ σ1 σ' : AHeap} {e : Exit} {n0 : Nat} (h : Sim C n0 c fr σ e fr1 σ1) (hs : Stood C.ex σ0) (hn : n0 ≤ σ.length) (ks : List Nat) (mask : List Bool)
    (hn0 : ks.take n0 = List.range n0) (hk0 : ks.take σ0.length = List.range σ0.length) (hlt : ks.all (fun k => Nat.blt k σ1.length) = true) (hnd : ks.Nodup) (hσ : pickH ks σ1 = σ') (hfix : σ'.take σ0.length = σ0)
    (hp : ∀ b o, σ0.length ≤ b → σ'[b]? = some o → plainO o) (hf : maskF mask fr1 = fr'.map (renV (rOf ks σ1.length) 3)) : Sim C n0 c fr σ e fr' σ' := by
  have hlen : σ'.length = ks.length := by rw [← hσ]; simp [pickH]
  have hget : ∀ (b k : Nat), ks[b]? = some k → σ'[b]? = some (σ1.getD k .dead) ∧ k < σ1.length := by
    intro b k hb
    refine ⟨by rw [← hσ]; simp [pickH, hb], ?_⟩
    have := List.all_eq_true.1 hlt k (List.mem_of_getElem? hb)
    simpa [Nat.blt_eq] using this
  have hfixr : ∀ (m : Nat), ks.take m = List.range m → ∀ b, b < m → rOf ks σ1.length b = b ∧ b < ks.length := by
    intro m hm b hb
    have h1 : (ks.take m)[b]? = some b := by rw [hm, List.getElem?_range hb]
    rw [List.getElem?_take, if_pos hb] at h1
    exact ⟨by unfold rOf; rw [h1], lt_of_some h1⟩
  have hn0l : n0 ≤ ks.length := by
    rcases Nat.eq_zero_or_pos n0 with h0 | h0
    · omega
    · have := (hfixr n0 hn0 (n0 - 1) (by omega)).2; omega
  have hk0l : σ0.length ≤ ks.length := by
    rcases Nat.eq_zero_or_pos σ0.length with h0 | h0
    · omega
    · have := (hfixr _ hk0 (σ0.length - 1) (by omega)).2; omega
  refine h.embN (r := rOf ks σ1.length) hs hn (by omega) (fun b hb => (hfixr n0 hn0 b hb).1) ⟨by omega, fun b hb => ?_, fun b hb => (hfixr _ hk0 b hb).1, fun b b' o o' hb hb' _ _ e => ?_, fun b o hb hl => ?_⟩ (emb_of_map mask fr1 fr' hf)
  · unfold rOf
    rw [List.getElem?_eq_none (by omega)]
    simp only; omega
  · have h1 := lt_of_some hb
    have h2 := lt_of_some hb'
    obtain ⟨k, hk⟩ : ∃ k, ks[b]? = some k := ⟨_, List.getElem?_eq_getElem (by omega)⟩
    obtain ⟨k', hk'⟩ : ∃ k, ks[b']? = some k := ⟨_, List.getElem?_eq_getElem (by omega)⟩
    unfold rOf at e
    rw [hk, hk'] at e
    simp only at e
    subst e
    exact (List.getElem?_inj (lt_of_some hk) hnd).1 (hk.trans hk'.symm)
  · have h1 := lt_of_some hb
    obtain ⟨k, hk⟩ : ∃ k, ks[b]? = some k := ⟨_, List.getElem?_eq_getElem (by omega)⟩
    obtain ⟨g1, g2⟩ := hget b k hk
    rw [hb] at g1
    have hk1 : σ1[k]? = some o := by
      cases g1
      rw [List.getD_eq_getElem?_getD, List.getElem?_eq_getElem g2]
      rfl
    rcases Nat.lt_or_ge b σ0.length with h' | h'
    · left
      refine ⟨h', by rw [← hfix, List.getElem?_take, if_pos h']; exact hb, ?_⟩
      have := (hfixr _ hk0 b h').1
      unfold rOf at this
      rw [hk] at this
      simp only at this
      rw [← this]; exact hk1
    · right
      have : rOf ks σ1.length b = k := by unfold rOf; rw [hk]
      rw [this, (hp b o h' hb).ren]
      exact hk1
end Go.Lk
end

section
/- append, make and stores on rows that are told by functions. -/
namespace Go.Lk
set_option linter.unusedSimpArgs false
set_option linter.unusedVariables false

/-! ### append -/
/-! ### make -/
/-! ### stores -/
/-! ### Rounds under other names -/
def PlainL : List AObj → Prop
  | [] => True
  | o :: l => plainO o ∧ PlainL l
theorem PlainL.get : ∀ {l : List AObj}, PlainL l → ∀ (b : Nat) (o : AObj), l[b]? = some o → plainO o
  | [], _, b, o, h => by simp at h
  | x :: l, hp, 0, o, h => by simp at h; rw [← h]; exact hp.1
  | x :: l, hp, b + 1, o, h => by simp at h; exact PlainL.get hp.2 b o h
def roundQ (C : Cfg) (X : List Nat) (n : Nat) (body : Code) (orc : Orc) (ks : List Nat) (mask : List Bool) (fr : List Value) (σ : AHeap) : Option (List Prop × Exit × List Value × AHeap × Nat) :=
  match DO C X n body 0 orc fr σ with
  | some (ps, e, _, _, fr1, σ1) => bif ks.all (fun k => Nat.blt k σ1.length) then some (ps, e, maskF mask fr1, pickH ks σ1, σ1.length) else none
  | none => none
theorem Sim.of_roundQ {C : Cfg} (hC : C.Ok) {X : List Nat} {n : Nat} {body : Code} {orc : Orc} {ks : List Nat} {mask : List Bool} {fr fr' : List Value} {σ σ' σ0 : AHeap} {ps : List Prop} {e : Exit} {L : Nat} (n0 : Nat) (hok : codeOkX C X body = true)
    (h : roundQ C X n body orc ks mask fr σ = some (ps, e, fr'.map (renV (rOf ks L) 3), σ', L)) (hp : All ps) (hst : Stood C.ex σ0) (hn : Nat.ble n0 σ.length = true) (hn0 : ks.take n0 = List.range n0) (hk0 : ks.take σ0.length = List.range σ0.length) (hnd : ks.Nodup)
    (hfix : σ'.take σ0.length = σ0) (hpl : PlainL (σ'.drop σ0.length)) : Sim C n0 body fr σ e fr' σ' := by
  unfold roundQ at h
  split at h
  · rename_i ps1 e1 t1 o1 fr1 σ1 hd
    cases hb : (ks.all fun k => Nat.blt k σ1.length)
    · rw [hb] at h; cases h
    · rw [hb] at h
      simp only [cond_true, Option.some.injEq, Prod.mk.injEq] at h
      obtain ⟨h1, h2, h3, h4, h5⟩ := h
      subst h1 h2 h5
      have hn' := Nat.le_of_ble_eq_true hn
      exact Sim.keepR ((DO_sound hC X n _ _ _ _ _ hok hd hp).1.le hn') hst hn' ks mask hn0 hk0 hb hnd h4 hfix (fun b o h1 h2 => PlainL.get hpl (b - σ0.length) o (by rw [List.getElem?_drop, show σ0.length + (b - σ0.length) = b by omega]; exact h2)) h3
  · cases h
end Go.Lk
end

section
/- A function that writes into rows: what stands elsewhere is as it was. -/
namespace Go.Lk
set_option linter.unusedSimpArgs false
set_option linter.unusedVariables false

theorem Stood.none {ex : Bool} {σ : AHeap} (h : Stood ex σ) : Stood ex [] := by
  obtain ⟨B, μ, w, h⟩ := h
  exact ⟨B, [], w, rfl, h.hB, fun b o hb => by simp at hb, fun b o e hb => by simp at hb, fun b b' o o' e e' hb => by simp at hb⟩
/-- Is the small heap's block k one that may be written? -/
def wrk (σ0 : AHeap) (k : Nat) : Bool := match σ0[k]? with | some (.row _ true _) => true | _ => false
theorem wrk_of {σ0 : AHeap} {k : Nat} {vs : List Value} {opn : Option Nat} (h : σ0[k]? = some (.row vs true opn)) : wrk σ0 k = true := by unfold wrk; rw [h]
/-- The small heap's rows are rows of the great one. -/
structure Part (σ0 : AHeap) (r : Nat → Nat) (σ : AHeap) : Prop where
  row : ∀ b o, σ0[b]? = some o → ∃ vs rw rw' opn, o = .row vs rw opn ∧ σ[r b]? = some (.row vs rw' opn) ∧ (rw = true → rw' = true) ∧ vs.all plain = true
  inj : ∀ b b', b < σ0.length → b' < σ0.length → r b = r b' → b = b'
  out : ∀ b, σ0.length ≤ b → σ.length ≤ r b

/-- What the small call must not touch. -/
def rest (B : Nat → Prop) (μ : List (Option Ent)) (σ0 : AHeap) (r : Nat → Nat) (w : World) : Nat → Prop :=
  fun c => B c ∨ (c < w.heap.size ∧ ∀ k e, wrk σ0 k = true → μ[r k]? = some (some e) → e.cb ≠ c)

theorem Part.back {ex : Bool} {B : Nat → Prop} {μ : List (Option Ent)} {σ0 σ : AHeap} {w : World} {r : Nat → Nat} (h : HR ex B μ σ w) (hs : Part σ0 r σ) : ∀ b e, μ[r b]? = some (some e) → (renM μ r σ0.length)[b]? = some (some e) := by
  intro b e hb
  refine renM_back ?_ hb
  rcases Nat.lt_or_ge b σ0.length with h' | h'
  · exact h'
  · have := hs.out b h'
    have := lt_of_some hb
    have := h.len
    omega

theorem Part.heap {ex : Bool} {B : Nat → Prop} {μ : List (Option Ent)} {σ0 σ : AHeap} {w : World} {r : Nat → Nat} (h : HR ex B μ σ w) (hs : Part σ0 r σ) : HR ex (rest B μ σ0 r w) (renM μ r σ0.length) σ0 w := by
  refine ⟨by simp [renM], fun k hk => ?_, fun b o hb hl => ?_, fun b o e hb he => ?_, fun b b' o o' e e' hb hb' he he' ho hl hc => ?_⟩
  · rcases hk with hk | hk
    · exact h.hB k hk
    · exact hk.1
  · obtain ⟨vs, rw, rw', opn, rfl, h2, h3, h4⟩ := hs.row b o hb
    obtain ⟨e, he⟩ := h.has _ _ h2 rfl
    exact ⟨e, hs.back h b e he⟩
  · obtain ⟨vs, rw, rw', opn, rfl, h2, h3, h4⟩ := hs.row b o hb
    obtain ⟨_, hm⟩ := renM_some he
    obtain ⟨g0, g1, c, el, lo, hi, g2, g3, g4, g5⟩ := h.obj _ _ _ h2 hm
    refine ⟨g0, g1, c, el, lo, hi, g2, g3, g4.plain_to h4, fun hw => ⟨?_, (g5 (h3 hw)).2⟩⟩
    rintro (hb1 | hb1)
    · exact (g5 (h3 hw)).1 hb1
    · subst hw
      exact hb1.2 b e (wrk_of hb) hm rfl
  · obtain ⟨vs, rw, rw', opn, rfl, h2, h3, h4⟩ := hs.row b o hb
    obtain ⟨vs2, rw2, rw2', opn2, rfl, k2, k3, k4⟩ := hs.row b' o' hb'
    obtain ⟨_, hm⟩ := renM_some he
    obtain ⟨_, hm'⟩ := renM_some he'
    have hw : rw = true := by simpa [AObj.owned] using ho
    have := h.inj _ _ _ _ _ _ h2 k2 hm hm' (by simp [AObj.owned, h3 hw]) rfl hc
    exact hs.inj _ _ (lt_of_some hb) (lt_of_some hb') this

/-! ### A row without spare room is one of unknown spare room -/
end Go.Lk
end

section
/- append within a slice's room; rows of rows. -/
namespace Go.Lk
set_option linter.unusedSimpArgs false
set_option linter.unusedVariables false
theorem qF_eq {k : IntKind} {z c b : Int} {σ : AHeap} (h : z = c) (hb : b ≠ 0) : qF (.int k z) σ b = some (.int k c, σ) := by rw [h]; exact qF_ok _ _ hb
end Go.Lk
end

section
/- A row of which one element is written. -/
namespace Go.Lk
set_option linter.unusedVariables false
end Go.Lk
end

section
/- Parts of a body: its row of statements. -/
namespace Go.Lk
def spine : Code → List Code
  | .seq a b => a :: spine b
  | c => [c]
/-- Part 10 k + i: statement k of the body's row; i = 1, 2: its left, its right half; 3: from statement k on. -/
def partIn (b : Code) (m : Nat) : Code :=
  let c := ((spine b)[m / 10]?).getD .skip
  match m % 10, c with
  | 1, .seq a _ => a
  | 2, .seq _ b => b
  | _, c => c
def partOf (fn : Func) (m : Nat) : Code := match fn.body with | some b => partIn b m | none => .skip
end Go.Lk
end

section
/- Arguments: structs of floats. -/
namespace Go.Lk
set_option linter.unusedSimpArgs false
set_option linter.unusedVariables false
section
variable {P : Program} {W : World} {r : Reach} {base : Nat} {t u : TypeId} {v : Value}
theorem wide_agg' {ts : List TypeId} (ht : (P.underlying t).map isAggD = some true) (hc : P.cellTypes P.depth t = some ts) (hl : P.cellsOf t = ts.length) (h : Value.okWide P W r base t v) :
    ∃ cs : Array Value, v = .agg cs ∧ cs.size = ts.length ∧ ∀ (i : Nat) (u : TypeId), ts[i]? = some u → ∃ x, cs[i]? = some x ∧ Cell.okWide P W r base u x := by
  cases hu : P.underlying t with
  | none => rw [hu] at ht; cases ht
  | some d => rw [hu] at ht; exact wide_agg hu (by simpa using ht) hc hl h
theorem wide_two (hu : P.underlying u = some (.float .f64)) (ht : (P.underlying t).map isAggD = some true) (hc : P.cellTypes P.depth t = some [u, u]) (hl : P.cellsOf t = 2) (h : Value.okWide P W r base t v) :
    ∃ a b, v = .agg #[.float .f64 a, .float .f64 b] ∧ a < 2 ^ 64 ∧ b < 2 ^ 64 := by
  obtain ⟨cs, rfl, hs, hcs⟩ := wide_agg' ht hc hl h
  obtain ⟨x, hx, hx'⟩ := hcs 0 u rfl
  obtain ⟨y, hy, hy'⟩ := hcs 1 u rfl
  obtain ⟨a, rfl, ha⟩ := cell_float hu hx'
  obtain ⟨b, rfl, hb⟩ := cell_float hu hy'
  refine ⟨a, b, ?_, ha, hb⟩
  congr 1
  apply Array.ext_getElem?
  intro i
  match i with
  | 0 => rw [hx]; rfl
  | 1 => rw [hy]; rfl
  | i + 2 => rw [Array.getElem?_eq_none (by rw [hs]; simp), Array.getElem?_eq_none (by simp)]
theorem wide_three (hu : P.underlying u = some (.float .f64)) (ht : (P.underlying t).map isAggD = some true) (hc : P.cellTypes P.depth t = some [u, u, u]) (hl : P.cellsOf t = 3) (h : Value.okWide P W r base t v) :
    ∃ a b c, v = .agg #[.float .f64 a, .float .f64 b, .float .f64 c] ∧ a < 2 ^ 64 ∧ b < 2 ^ 64 ∧ c < 2 ^ 64 := by
  obtain ⟨cs, rfl, hs, hcs⟩ := wide_agg' ht hc hl h
  obtain ⟨x, hx, hx'⟩ := hcs 0 u rfl
  obtain ⟨y, hy, hy'⟩ := hcs 1 u rfl
  obtain ⟨z, hz, hz'⟩ := hcs 2 u rfl
  obtain ⟨a, rfl, ha⟩ := cell_float hu hx'
  obtain ⟨b, rfl, hb⟩ := cell_float hu hy'
  obtain ⟨c, rfl, hc'⟩ := cell_float hu hz'
  refine ⟨a, b, c, ?_, ha, hb, hc'⟩
  congr 1
  apply Array.ext_getElem?
  intro i
  match i with
  | 0 => rw [hx]; rfl
  | 1 => rw [hy]; rfl
  | 2 => rw [hz]; rfl
  | i + 3 => rw [Array.getElem?_eq_none (by rw [hs]; simp), Array.getElem?_eq_none (by simp)]
end
theorem VR.pt {μ : List (Option Ent)} (a b : Nat) : VR false μ (.agg #[.float .f64 (can a), .float .f64 (can b)]) (.agg #[.float .f64 a, .float .f64 b]) :=
  VRs.toAgg (VRs.cons (VR.f64 a) (VRs.cons (VR.f64 b) VRs.nil))
theorem VR.pt3 {μ : List (Option Ent)} (a b c : Nat) : VR false μ (.agg #[.float .f64 (can a), .float .f64 (can b), .float .f64 (can c)]) (.agg #[.float .f64 a, .float .f64 b, .float .f64 c]) :=
  VRs.toAgg (VRs.cons (VR.f64 a) (VRs.cons (VR.f64 b) (VRs.cons (VR.f64 c) VRs.nil)))
end Go.Lk
end
