/- Reckoning with answers given: branches, loads, loops; what they ask for is gathered. -/
import Derived.Test.YtmomainjlncogaaLkLD
import Derived.Test.YtmomainjlncogaaLkRS
import Derived.Test.YtmomainjlncogaaLkQK
namespace Go.Lk
set_option linter.unusedSimpArgs false
set_option linter.unusedVariables false

inductive Item where
  | br (b : Bool)
  | res (v : Value)
  | eff (v : Value) (σ : AHeap)
  | loop (e : Exit) (fr : List Value) (σ : AHeap)
abbrev Orc := List (Nat × Item)

def All : List Prop → Prop
  | [] => True
  | p :: ps => p ∧ All ps
theorem All.append : ∀ {a b : List Prop}, All (a ++ b) → All a ∧ All b
  | [], _, h => ⟨trivial, h⟩
  | _ :: _, _, h => let ⟨h1, h2⟩ := All.append h.2; ⟨⟨h.1, h1⟩, h2⟩

def ansB (orc : Orc) (x : Option Bool) : Option (List Prop × Bool × Orc) := match x with | some b => some ([], b, orc) | none => none
def ansO (orc : Orc) (x : Option (Value × AHeap)) : Option (List Prop × Value × AHeap × Orc) := match x with | some (v, σ') => some ([], v, σ', orc) | none => none
def askB (t : Nat) (orc : Orc) (x : Option Bool) : Option (List Prop × Bool × Orc) :=
  match orc with
  | (k, .br b) :: rest => bif Nat.beq k t then some ([x = some b], b, rest) else ansB orc x
  | _ => ansB orc x
def askO (t : Nat) (orc : Orc) (σ : AHeap) (x : Option (Value × AHeap)) : Option (List Prop × Value × AHeap × Orc) :=
  match orc with
  | (k, .res v) :: rest => bif Nat.beq k t then some ([x = some (v, σ)], v, σ, rest) else ansO orc x
  | (k, .eff v σ') :: rest => bif Nat.beq k t then some ([x = some (v, σ')], v, σ', rest) else ansO orc x
  | _ => ansO orc x

theorem ansB_sound {orc orc' : Orc} {x : Option Bool} {ps : List Prop} {b : Bool} (h : ansB orc x = some (ps, b, orc')) : x = some b := by
  cases x with
  | none => cases h
  | some b' => cases h; rfl
theorem ansO_sound {orc orc' : Orc} {σ' : AHeap} {x : Option (Value × AHeap)} {ps : List Prop} {v : Value} (h : ansO orc x = some (ps, v, σ', orc')) : x = some (v, σ') := by
  cases x with
  | none => cases h
  | some b' => obtain ⟨v', s'⟩ := b'; cases h; rfl
theorem askB_sound {t : Nat} {orc orc' : Orc} {x : Option Bool} {ps : List Prop} {b : Bool} (h : askB t orc x = some (ps, b, orc')) (hp : All ps) : x = some b := by
  unfold askB at h
  split at h
  · rename_i k b' rest
    generalize Nat.beq k t = c at h
    cases c with
    | true => cases h; exact hp.1
    | false => exact ansB_sound h
  · exact ansB_sound h
theorem askO_sound {t : Nat} {orc orc' : Orc} {σ σ' : AHeap} {x : Option (Value × AHeap)} {ps : List Prop} {v : Value} (h : askO t orc σ x = some (ps, v, σ', orc')) (hp : All ps) : x = some (v, σ') := by
  unfold askO at h
  split at h
  · rename_i k b' rest
    generalize Nat.beq k t = c at h
    cases c with
    | true => cases h; exact hp.1
    | false => exact ansO_sound h
  · rename_i k b' s' rest
    generalize Nat.beq k t = c at h
    cases c with
    | true => cases h; exact hp.1
    | false => exact ansO_sound h
  · exact ansO_sound h

def runO (C : Cfg) (ops : Array Oper) : List Oper → Nat → Orc → List Value → AHeap → Option (List Prop × Nat × Orc × List Value × AHeap)
  | [], t, orc, fr, σ => some ([], t, orc, fr, σ)
  | o :: l, t, orc, fr, σ =>
    match askB t orc (wantedA ops fr o) with
    | some (ps1, true, orc1) =>
      match askO (t + 1) orc1 σ (aOp C fr σ o.op) with
      | some (ps2, v, σ', orc2) =>
        match runO C ops l (t + 2) orc2 (putA fr o.dst v) σ' with
        | some (ps3, r) => some (ps1 ++ (ps2 ++ ps3), r)
        | none => none
      | none => none
    | some (ps1, false, orc1) =>
      match runO C ops l (t + 2) orc1 (putA fr o.dst undef) σ with
      | some (ps3, r) => some (ps1 ++ ps3, r)
      | none => none
    | none => none

/-- The same, for a region in the text's order. -/
def runOK (C : Cfg) (ops : Array Oper) : List Oper → Nat → Orc → List Value → AHeap → List Nat → Option (List Prop × Nat × Orc × List Value × AHeap)
  | [], t, orc, fr, σ, _ => some ([], t, orc, fr, σ)
  | o :: l, t, orc, fr, σ, K =>
    match askB t orc (wantedK ops fr K o) with
    | some (ps1, true, orc1) =>
      match askO (t + 1) orc1 σ (aOp C fr σ o.op) with
      | some (ps2, v, σ', orc2) =>
        match runOK C ops l (t + 2) orc2 (putA fr o.dst v) σ' (useK o.dst K) with
        | some (ps3, r) => some (ps1 ++ (ps2 ++ ps3), r)
        | none => none
      | none => none
    | some (ps1, false, orc1) =>
      match runOK C ops l (t + 2) orc1 (putA fr o.dst undef) σ (skipK o.dst K) with
      | some (ps3, r) => some (ps1 ++ ps3, r)
      | none => none
    | none => none
theorem runO_sound {C : Cfg} {ops : Array Oper} : ∀ (l : List Oper) (t : Nat) (orc : Orc) (fr : List Value) (σ : AHeap) {ps : List Prop} {t' : Nat} {orc' : Orc} {fr' : List Value} {σ' : AHeap},
    runO C ops l t orc fr σ = some (ps, t', orc', fr', σ') → All ps → runOps C ops l fr σ = some (fr', σ')
  | [], t, orc, fr, σ, ps, t', orc', fr', σ', h, hp => by cases h; rfl
  | o :: l, t, orc, fr, σ, ps, t', orc', fr', σ', h, hp => by
    unfold runO at h
    unfold runOps
    split at h
    · rename_i ps1 orc1 h1
      split at h
      · rename_i ps2 v σ1 orc2 h2
        split at h
        · rename_i ps3 r h3
          cases h
          obtain ⟨a1, a2⟩ := All.append hp
          obtain ⟨a2, a3⟩ := All.append a2
          rw [askB_sound h1 a1]
          simp only
          rw [askO_sound h2 a2]
          exact runO_sound l _ _ _ _ h3 a3
        · cases h
      · cases h
    · rename_i ps1 orc1 h1
      split at h
      · rename_i ps3 r h3
        cases h
        obtain ⟨a1, a3⟩ := All.append hp
        rw [askB_sound h1 a1]
        exact runO_sound l _ _ _ _ h3 a3
      · cases h
    · cases h

theorem runOK_sound {C : Cfg} {ops : Array Oper} : ∀ (l : List Oper) (t : Nat) (orc : Orc) (fr : List Value) (σ : AHeap) (K : List Nat) {ps : List Prop} {t' : Nat} {orc' : Orc} {fr' : List Value} {σ' : AHeap},
    runOK C ops l t orc fr σ K = some (ps, t', orc', fr', σ') → All ps → runOpsK C ops l fr σ K = some (fr', σ')
  | [], t, orc, fr, σ, K, ps, t', orc', fr', σ', h, hp => by cases h; rfl
  | o :: l, t, orc, fr, σ, K, ps, t', orc', fr', σ', h, hp => by
    unfold runOK at h
    unfold runOpsK
    split at h
    · rename_i ps1 orc1 h1
      split at h
      · rename_i ps2 v σ1 orc2 h2
        split at h
        · rename_i ps3 r h3
          cases h
          obtain ⟨a1, a2⟩ := All.append hp
          obtain ⟨a2, a3⟩ := All.append a2
          rw [askB_sound h1 a1]
          simp only
          rw [askO_sound h2 a2]
          exact runOK_sound l _ _ _ _ _ h3 a3
        · cases h
      · cases h
    · rename_i ps1 orc1 h1
      split at h
      · rename_i ps3 r h3
        cases h
        obtain ⟨a1, a3⟩ := All.append hp
        rw [askB_sound h1 a1]
        exact runOK_sound l _ _ _ _ _ h3 a3
      · cases h
    · cases h

abbrev ResO := Option (List Prop × Exit × Nat × Orc × List Value × AHeap)

def iterO (f : Nat → Orc → List Value → AHeap → ResO) : Nat → Nat → Orc → List Value → AHeap → ResO
  | 0, _, _, _, _ => none
  | n + 1, t, orc, fr, σ =>
    match f t orc fr σ with
    | some (ps, .normal, t1, orc1, fr1, σ1) =>
      match iterO f n t1 orc1 fr1 σ1 with
      | some (ps2, r) => some (ps ++ ps2, r)
      | none => none
    | r => r

def asBool : Option Value → Option Bool
  | some (.bool b) => some b
  | _ => none

def DO (C : Cfg) (X : List Nat) (n : Nat) : Code → Nat → Orc → List Value → AHeap → ResO
  | .skip, t, orc, fr, σ => some ([], .normal, t, orc, fr, σ)
  | .region id ops dr, t, orc, fr, σ =>
    bif X.contains id then
      match runS C ops dr fr σ with
      | some (fr', σ') => some ([], .normal, t + 1, orc, fr', σ')
      | none => none
    else
    bif dr then
    match runO C ops ops.toList t orc fr σ with
    | some (ps, t', orc', fr', σ') => some (ps, .normal, t', orc', fr', σ')
    | none => none
    else
    match runOK C ops ops.toList t orc fr σ [] with
    | some (ps, t', orc', fr', σ') => some (ps, .normal, t', orc', fr', σ')
    | none => none
  | .seq a b, t, orc, fr, σ =>
    match DO C X n a t orc fr σ with
    | some (ps, .normal, t1, orc1, fr1, σ1) =>
      match DO C X n b t1 orc1 fr1 σ1 with
      | some (ps2, r) => some (ps ++ ps2, r)
      | none => none
    | r => r
  | .cond c x y, t, orc, fr, σ =>
    match askB t orc (asBool (aev fr c)) with
    | some (ps, true, orc1) => (match DO C X n x (t + 1) orc1 fr σ with | some (ps2, r) => some (ps ++ ps2, r) | none => none)
    | some (ps, false, orc1) => (match DO C X n y (t + 1) orc1 fr σ with | some (ps2, r) => some (ps ++ ps2, r) | none => none)
    | none => none
  | .block id body, t, orc, fr, σ =>
    match DO C X n body t orc fr σ with
    | some (ps, e, r) => some (ps, outOf id e, r)
    | none => none
  | .loop body, t, orc, fr, σ =>
    match orc with
    | (k, .loop e fr' σ') :: rest =>
      bif Nat.beq k t then some ([Sim C σ.length (.loop body) fr σ e fr' σ', σ.length ≤ σ'.length, Lk.Exit.isG e = false], e, t + 1, rest, fr', σ')
      else iterO (DO C X n body) n t orc fr σ
    | _ => iterO (DO C X n body) n t orc fr σ
  | .exit id, t, orc, fr, σ => some ([], .exit id, t, orc, fr, σ)
  | .ret, t, orc, fr, σ => some ([], .ret, t, orc, fr, σ)
  | .label _, t, orc, fr, σ => some ([], .normal, t, orc, fr, σ)
  | .scope body, t, orc, fr, σ => DO C X n body t orc fr σ
  | _, _, _, _, _ => none

def GoodO (C : Cfg) (c : Code) (fr : List Value) (σ : AHeap) (e : Exit) (fr' : List Value) (σ' : AHeap) : Prop :=
  Sim C σ.length c fr σ e fr' σ' ∧ σ.length ≤ σ'.length ∧ Lk.Exit.isG e = false

theorem iterO_sound {C : Cfg} {c : Code} {f : Nat → Orc → List Value → AHeap → ResO}
    (hf : ∀ t orc fr σ ps e t' orc' fr' σ', f t orc fr σ = some (ps, e, t', orc', fr', σ') → All ps → GoodO C c fr σ e fr' σ') {n0 : Nat} : ∀ (n t : Nat) (orc : Orc) (fr : List Value) (σ : AHeap) {ps : List Prop} {e : Exit} {t' : Nat} {orc' : Orc} {fr' : List Value} {σ' : AHeap}, n0 ≤ σ.length →
    iterO f n t orc fr σ = some (ps, e, t', orc', fr', σ') → All ps → (∃ (S : Nat → List Value × AHeap) (N : Nat), S 0 = (fr, σ) ∧ (∀ k, k < N → Sim C n0 c (S k).1 (S k).2 .normal (S (k + 1)).1 (S (k + 1)).2) ∧ Sim C n0 c (S N).1 (S N).2 e fr' σ' ∧ Lk.Exit.isN e = false) ∧ σ.length ≤ σ'.length ∧ Lk.Exit.isG e = false
  | 0, _, _, _, _, _, _, _, _, _, _, _, h, _ => by cases h
  | n + 1, t, orc, fr, σ, ps, e, t', orc', fr', σ', hn, h, hp => by
    unfold iterO at h
    split at h
    · rename_i ps1 t1 orc1 fr1 σ1 h1
      split at h
      · rename_i ps2 r h2
        cases h
        obtain ⟨a1, a2⟩ := All.append hp
        obtain ⟨g1, g2, g3⟩ := hf _ _ _ _ _ _ _ _ _ _ h1 a1
        obtain ⟨⟨S, N, e0, e1, e2, e3⟩, l1, l2⟩ := iterO_sound hf (n0 := n0) n _ _ _ _ (by omega) h2 a2
        refine ⟨⟨fun k => match k with | 0 => (fr, σ) | k + 1 => S k, N + 1, rfl, fun k hk => ?_, e2, e3⟩, by omega, l2⟩
        cases k with
        | zero =>
          show Sim C n0 c fr σ .normal (S 0).1 (S 0).2
          rw [e0]
          exact g1.le hn
        | succ k => exact e1 k (by omega)
      · cases h
    · rename_i hno
      obtain ⟨g1, g2, g3⟩ := hf _ _ _ _ _ _ _ _ _ _ h hp
      refine ⟨⟨fun _ => (fr, σ), 0, rfl, fun k hk => by omega, g1.le hn, ?_⟩, g2, g3⟩
      cases e <;> first | rfl | skip
      exact absurd h (hno _ _ _ _ _)

/-- Are all regions whose order is open in order, but for those that are given? -/
def codeOkX (C : Cfg) (X : List Nat) : Code → Bool
  | .region id ops draw => X.contains id || (!draw || drawOk C ops)
  | .seq a b => codeOkX C X a && codeOkX C X b
  | .cond _ x y => codeOkX C X x && codeOkX C X y
  | .block _ b | .loop b | .scope b => codeOkX C X b
  | .goto _ => false
  | _ => true
theorem codeOkX_of {C : Cfg} : ∀ {c : Code}, codeOk C c = true → codeOkX C [] c = true := by
  intro c
  induction c with
  | region id ops draw => intro h; exact h
  | seq a b iha ihb => intro h; simp only [codeOk, codeOkX, Bool.and_eq_true] at h ⊢; exact ⟨iha h.1, ihb h.2⟩
  | cond c x y ihx ihy => intro h; simp only [codeOk, codeOkX, Bool.and_eq_true] at h ⊢; exact ⟨ihx h.1, ihy h.2⟩
  | block id b ih => intro h; exact ih h
  | loop b ih => intro h; exact ih h
  | scope b ih => intro h; exact ih h
  | _ => intro h; exact h

theorem DO_sound {C : Cfg} (hC : C.Ok) (X : List Nat) (n : Nat) : ∀ (c : Code) (t : Nat) (orc : Orc) (fr : List Value) (σ : AHeap) {ps : List Prop} {e : Exit} {t' : Nat} {orc' : Orc} {fr' : List Value} {σ' : AHeap}, codeOkX C X c = true →
    DO C X n c t orc fr σ = some (ps, e, t', orc', fr', σ') → All ps → GoodO C c fr σ e fr' σ' := by
  intro c
  induction c with
  | skip => intro t orc fr σ ps e t' orc' fr' σ' _ h _; cases h; exact ⟨Sim.skip, Nat.le_refl _, rfl⟩
  | region id ops draw =>
    intro t orc fr σ ps e t' orc' fr' σ' hok h hp
    simp only [DO] at h
    simp only [codeOkX] at hok
    generalize List.contains X id = c at h hok
    cases c with
    | true =>
      simp only [cond_true] at h
      split at h
      · rename_i h1
        cases h
        have := Sim.runS (id := id) hC h1
        exact ⟨this.1, runOps_mono hC _ _ _ _ _ this.2, rfl⟩
      · cases h
    | false =>
      cases draw with
      | true =>
        simp only [cond_false, cond_true] at h
        split at h
        · rename_i h1
          cases h
          have := runO_sound _ _ _ _ _ h1 hp
          exact ⟨Sim.region hC (by simpa [codeOk] using hok) this, runOps_mono hC _ _ _ _ _ this, rfl⟩
        · cases h
      | false =>
        simp only [cond_false] at h
        split at h
        · rename_i h1
          cases h
          have := runOK_sound _ _ _ _ _ _ h1 hp
          exact ⟨Sim.regionK hC this, runOpsK_mono hC _ _ _ _ _ _ this, rfl⟩
        · cases h
  | seq a b iha ihb =>
    intro t orc fr σ ps e t' orc' fr' σ' hok h hp
    simp only [codeOkX, Bool.and_eq_true] at hok
    simp only [DO] at h
    split at h
    · rename_i h1
      split at h
      · rename_i h2
        cases h
        obtain ⟨a1, a2⟩ := All.append hp
        obtain ⟨g1, g2, g3⟩ := iha _ _ _ _ hok.1 h1 a1
        obtain ⟨k1, k2, k3⟩ := ihb _ _ _ _ hok.2 h2 a2
        exact ⟨g1.seq (k1.le g2), by omega, k3⟩
      · cases h
    · rename_i hno
      obtain ⟨g1, g2, g3⟩ := iha _ _ _ _ hok.1 h hp
      refine ⟨g1.seq_out ?_, g2, g3⟩
      cases e <;> first | rfl | skip
      exact absurd h (hno _ _ _ _ _)
  | cond c x y ihx ihy =>
    intro t orc fr σ ps e t' orc' fr' σ' hok h hp
    simp only [codeOkX, Bool.and_eq_true] at hok
    simp only [DO] at h
    have key : ∀ {b : Bool}, asBool (aev fr c) = some b → aev fr c = some (.bool b) := by
      intro b hb
      unfold asBool at hb
      split at hb
      · rename_i hv; cases hb; exact hv
      · cases hb
    split at h
    · rename_i h1
      split at h
      · rename_i h2
        cases h
        obtain ⟨a1, a2⟩ := All.append hp
        obtain ⟨k1, k2, k3⟩ := ihx _ _ _ _ hok.1 h2 a2
        exact ⟨Sim.cond (t := true) (key (askB_sound h1 a1)) k1, k2, k3⟩
      · cases h
    · rename_i h1
      split at h
      · rename_i h2
        cases h
        obtain ⟨a1, a2⟩ := All.append hp
        obtain ⟨k1, k2, k3⟩ := ihy _ _ _ _ hok.2 h2 a2
        exact ⟨Sim.cond (t := false) (key (askB_sound h1 a1)) k1, k2, k3⟩
      · cases h
    · cases h
  | block id b ih =>
    intro t orc fr σ ps e t' orc' fr' σ' hok h hp
    simp only [codeOkX] at hok
    simp only [DO] at h
    split at h
    · rename_i e1 r h1
      cases h
      obtain ⟨g1, g2, g3⟩ := ih _ _ _ _ hok h1 hp
      refine ⟨g1.block, g2, ?_⟩
      cases e1 <;> first | exact g3 | (unfold outOf; rfl) | skip
      unfold outOf
      simp only
      split <;> rfl
    · cases h
  | loop b ih =>
    intro t orc fr σ ps e t' orc' fr' σ' hok h hp
    simp only [codeOkX] at hok
    have plain : iterO (DO C X n b) n t orc fr σ = some (ps, e, t', orc', fr', σ') → GoodO C (.loop b) fr σ e fr' σ' := by
      intro h
      obtain ⟨⟨S, N, e0, e1, e2, e3⟩, l1, l2⟩ := iterO_sound (n0 := σ.length) (fun t orc fr σ ps e t' orc' fr' σ' h hp => ih t orc fr σ hok h hp) n t orc fr σ (Nat.le_refl _) h hp
      have := Sim.loop S N e1 e2 e3
      rw [e0] at this
      exact ⟨this, l1, l2⟩
    simp only [DO] at h
    split at h
    · rename_i k e1 fr1 σ1 rest
      generalize Nat.beq k t = c at h
      cases c with
      | true => cases h; exact ⟨hp.1, hp.2.1, hp.2.2.1⟩
      | false => exact plain h
    · exact plain h
  | exit id => intro t orc fr σ ps e t' orc' fr' σ' _ h _; cases h; exact ⟨Sim.exit, Nat.le_refl _, rfl⟩
  | ret => intro t orc fr σ ps e t' orc' fr' σ' _ h _; cases h; exact ⟨Sim.ret, Nat.le_refl _, rfl⟩
  | label l => intro t orc fr σ ps e t' orc' fr' σ' _ h _; cases h; exact ⟨Sim.label, Nat.le_refl _, rfl⟩
  | scope b ih =>
    intro t orc fr σ ps e t' orc' fr' σ' hok h hp
    simp only [codeOkX] at hok
    simp only [DO] at h
    obtain ⟨g1, g2, g3⟩ := ih _ _ _ _ hok h hp
    exact ⟨g1.scope g3, g2, g3⟩
  | _ => intro t orc fr σ ps e t' orc' fr' σ' _ h; cases h

/-- A function along a path. -/
def DOfnX (C : Cfg) (X : List Nat) (n : Nat) (fn : Func) (args : List Value) (σ : AHeap) (orc : Orc) : Option (List Prop × Value × AHeap) :=
  match fn.body with
  | some body =>
    match DO C X n body 0 orc (args ++ List.replicate (fn.ntmps - args.length) undef) σ with
    | some (ps, .normal, _, _, fr, σ1) => (match aResults C.P fn fr σ1 with | some v => some (ps, v, σ1) | none => none)
    | some (ps, .ret, _, _, fr, σ1) => (match aResults C.P fn fr σ1 with | some v => some (ps, v, σ1) | none => none)
    | _ => none
  | none => none

def DOfn (C : Cfg) (n : Nat) (fn : Func) (args : List Value) (σ : AHeap) (orc : Orc) : Option (List Prop × Value × AHeap) := DOfnX C [] n fn args σ orc
def fnOkX (C : Cfg) (X : List Nat) (fn : Func) : Bool := (match fn.body with | some b => codeOkX C X b | none => false) && !(fn.name == "runtime.NumGoroutine")
theorem fnOkX_of {C : Cfg} {fn : Func} (h : fnOk C fn = true) : fnOkX C [] fn = true := by
  unfold fnOk at h
  unfold fnOkX
  cases hb : fn.body with
  | none => rw [hb] at h; cases h
  | some b =>
    rw [hb] at h
    simp only [Bool.and_eq_true] at h ⊢
    exact ⟨codeOkX_of h.1, h.2⟩

theorem DOfnX_sim {C : Cfg} (hC : C.Ok) {X : List Nat} {n : Nat} {fn : Func} {args : List Value} {σ σ1 : AHeap} {orc : Orc} {ps : List Prop} {v : Value} (hok : fnOkX C X fn = true) (h : DOfnX C X n fn args σ orc = some (ps, v, σ1)) (hp : All ps) :
    ∃ body e fr1, fn.body = some body ∧ Sim C σ.length body (args ++ List.replicate (fn.ntmps - args.length) undef) σ e fr1 σ1 ∧ (e = .normal ∨ e = .ret) ∧ aResults C.P fn fr1 σ1 = some v ∧ (fn.name == "runtime.NumGoroutine") = false := by
  unfold DOfnX at h
  unfold fnOkX at hok
  cases hb : fn.body with
  | none => rw [hb] at h; cases h
  | some body =>
    rw [hb] at h hok
    simp only [Bool.and_eq_true, Bool.not_eq_true'] at h hok
    split at h
    · rename_i hd
      split at h
      · rename_i hr; cases h; exact ⟨_, _, _, rfl, (DO_sound hC X n _ _ _ _ _ hok.1 hd hp).1, .inl rfl, hr, hok.2⟩
      · cases h
    · rename_i hd
      split at h
      · rename_i hr; cases h; exact ⟨_, _, _, rfl, (DO_sound hC X n _ _ _ _ _ hok.1 hd hp).1, .inr rfl, hr, hok.2⟩
      · cases h
    · cases h

theorem DOfn_sim {C : Cfg} (hC : C.Ok) {n : Nat} {fn : Func} {args : List Value} {σ σ1 : AHeap} {orc : Orc} {ps : List Prop} {v : Value} (hok : fnOk C fn = true) (h : DOfn C n fn args σ orc = some (ps, v, σ1)) (hp : All ps) :
    ∃ body e fr1, fn.body = some body ∧ Sim C σ.length body (args ++ List.replicate (fn.ntmps - args.length) undef) σ e fr1 σ1 ∧ (e = .normal ∨ e = .ret) ∧ aResults C.P fn fr1 σ1 = some v ∧ (fn.name == "runtime.NumGoroutine") = false :=
  DOfnX_sim hC (fnOkX_of hok) h hp

theorem CallR.of_DOX {C : Cfg} (hC : C.Ok) {X : List Nat} {f : FuncId} {fn : Func} {args : List Value} {σ σ1 : AHeap} {v : Value} {n : Nat} {orc : Orc} {ps : List Prop}
    (hf : C.P.funcs[f]? = some fn) (hok : fnOkX C X fn = true) (h : DOfnX C X n fn args σ orc = some (ps, v, σ1)) (hp : All ps) : CallR C.P C.ex f args σ v σ1 := by
  obtain ⟨body, e, fr1, hb, h1, h2, h3, h4⟩ := DOfnX_sim hC hok h hp
  exact CallR.of_sim_raw hC hf hb h4 h1 h2 h3
theorem CallR.of_DO {C : Cfg} (hC : C.Ok) {f : FuncId} {fn : Func} {args : List Value} {σ σ1 : AHeap} {v : Value} {n : Nat} {orc : Orc} {ps : List Prop}
    (hf : C.P.funcs[f]? = some fn) (hok : fnOk C fn = true) (h : DOfn C n fn args σ orc = some (ps, v, σ1)) (hp : All ps) : CallR C.P C.ex f args σ v σ1 := by
  obtain ⟨body, e, fr1, hb, h1, h2, h3, h4⟩ := DOfn_sim hC hok h hp
  exact CallR.of_sim_raw hC hf hb h4 h1 h2 h3
/-- A pure one. -/
theorem CallR.of_DO_pure {C : Cfg} (hC : C.Ok) {f : FuncId} {fn : Func} {args : List Value} {σ σ1 : AHeap} {v : Value} {n : Nat} {orc : Orc} {ps : List Prop}
    (hf : C.P.funcs[f]? = some fn) (hok : fnOk C fn = true) (h : DOfn C n fn args [] orc = some (ps, v, σ1)) (hp : All ps) (ha : args.all plain = true) (hv : plain v = true) : CallR C.P C.ex f args σ v σ := by
  obtain ⟨body, e, fr1, hb, h1, h2, h3, h4⟩ := DOfn_sim hC hok h hp
  refine CallR.frame ha (CallR.of_sim hC hf hb h4 (fun _ => h1) h2 h3 (plain_inert hv _).symm (r := fun b => b + σ1.length) ?_) hv
  exact ⟨Nat.le_refl _, fun b _ => Nat.le_add_left _ _, fun b hb => by simp at hb, fun b b' o o' h => by simp at h, fun b o h => by simp at h⟩
end Go.Lk
