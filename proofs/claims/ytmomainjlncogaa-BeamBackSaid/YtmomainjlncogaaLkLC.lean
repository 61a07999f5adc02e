import Derived.Test.YtmomainjlncogaaLkLB
import Derived.Scope
import Derived.LoopN
section
/- The check of a region whose order is open; the region. -/
namespace Go.Lk
set_option linter.unusedSimpArgs false
set_option linter.unusedVariables false

def maskOf (acc : List Nat) (o : Oper) : Nat :=
  o.after.toList.foldl (fun s e => bif Region.binds .any e then s ||| (2 ^ e.on ||| acc.getD e.on 0) else s) 0
def masks : List Oper → List Nat → List Nat
  | [], acc => acc
  | o :: l, acc => masks l (acc ++ [maskOf acc o])

def ordB (m : List Nat) (i j : Nat) : Bool := (m.getD j 0).testBit i || (m.getD i 0).testBit j

def pairOk (C : Cfg) (ops : Array Oper) (sl : List Nat) (m : List Nat) (i j : Nat) (oi oj : Oper) : Bool :=
  (match oi.dst with
    | none => true
    | some t => !((looks ops oj).contains t || oj.dst == some t) || ordB m i j) &&
  (!(cls C oi.op == 2 && cls C oj.op != 0) || sl.contains j || ordB m i j) &&
  (!(cls C oi.op == 3 && cls C oj.op == 4) || (m.getD j 0).testBit i)

def drawOkS (C : Cfg) (ops : Array Oper) (sl : List Nat) : Bool :=
  let m := masks ops.toList []
  (sl.all fun j => match ops[j]? with | some o => cls C o.op == 1 | none => true) && (List.range ops.size).all fun j =>
    match ops[j]? with
    | none => true
    | some oj =>
      (oj.after.toList.all fun e => !Region.binds .any e || decide (e.on < j)) &&
      (List.range ops.size).all fun i =>
        match ops[i]? with
        | none => true
        | some oi => i == j || pairOk C ops sl m i j oi oj

theorem fold_bits {acc : List Nat} {i : Nat} : ∀ (l : List Edge) (s : Nat), (l.foldl (fun s e => bif Region.binds .any e then s ||| (2 ^ e.on ||| acc.getD e.on 0) else s) s).testBit i = true →
    s.testBit i = true ∨ ∃ e ∈ l, Region.binds .any e = true ∧ (e.on = i ∨ (acc.getD e.on 0).testBit i = true)
  | [], s, h => .inl h
  | e :: l, s, h => by
    rcases fold_bits l _ h with h | ⟨e', he', hb, hor⟩
    · simp only at h
      cases hb : Region.binds .any e
      · rw [hb] at h; exact .inl h
      · rw [hb] at h
        simp only [cond_true, Nat.testBit_or, Bool.or_eq_true] at h
        rcases h with h | h | h
        · exact .inl h
        · rw [Nat.testBit_two_pow] at h
          exact .inr ⟨e, by simp, hb, .inl (by simpa using h)⟩
        · exact .inr ⟨e, by simp, hb, .inr h⟩
    · exact .inr ⟨e', by simp [he'], hb, hor⟩

theorem masks_get {ops : Array Oper} : ∀ (l : List Oper) (acc : List Nat), (∀ j, l[j]? = ops[acc.length + j]?) → (∀ i j, (acc.getD j 0).testBit i = true → Anc ops i j) →
    ∀ i j, ((masks l acc).getD j 0).testBit i = true → Anc ops i j
  | [], acc, _, h, i, j, hb => h i j hb
  | o :: l, acc, hl, h, i, j, hb => by
    refine masks_get l (acc ++ [maskOf acc o]) (fun k => by have := hl (k + 1); simpa [Nat.add_assoc, Nat.add_comm 1 k] using this) (fun i j hij => ?_) i j hb
    rw [List.getD_eq_getElem?_getD] at hij
    rcases Nat.lt_or_ge j acc.length with hj | hj
    · rw [List.getElem?_append_left hj, ← List.getD_eq_getElem?_getD] at hij
      exact h i j hij
    · rw [List.getElem?_append_right hj] at hij
      by_cases h0 : j - acc.length = 0
      · have hj' : j = acc.length := by omega
        rw [h0] at hij
        simp only [List.getElem?_cons_zero, Option.getD_some] at hij
        have ho : ops[j]? = some o := by have := hl 0; rw [hj']; simpa using this.symm
        rcases fold_bits _ _ hij with hz | ⟨e, he, hbd, hor⟩
        · simp at hz
        · rcases hor with h1 | h1
          · exact .one ho (by simpa using he) hbd h1
          · exact .step ho (by simpa using he) hbd (h _ _ h1)
      · rw [List.getElem?_eq_none (by simp; omega)] at hij
        simp at hij

theorem drawOkS_spec {C : Cfg} {ops : Array Oper} {sl : List Nat} (h : drawOkS C ops sl = true) : DrawOk C ops (fun j => sl.contains j) := by
  have hm : ∀ i j, ((masks ops.toList []).getD j 0).testBit i = true → Anc ops i j := masks_get ops.toList [] (fun j => by simp) (fun i j h => by simp at h)
  have ho : ∀ i j, ordB (masks ops.toList []) i j = true → Anc ops i j ∨ Anc ops j i := by
    intro i j h
    unfold ordB at h
    rw [Bool.or_eq_true] at h
    exact h.imp (hm _ _) (hm _ _)
  unfold drawOkS at h
  rw [Bool.and_eq_true] at h
  obtain ⟨hsl, h⟩ := h
  simp only [List.all_eq_true, List.mem_range] at h
  have hj : ∀ j oj, ops[j]? = some oj → (oj.after.toList.all fun e => !Region.binds .any e || decide (e.on < j)) = true ∧
      ∀ i oi, ops[i]? = some oi → i ≠ j → pairOk C ops sl (masks ops.toList []) i j oi oj = true := by
    intro j oj hoj
    have h1 := h j (Array.getElem?_eq_some_iff.1 hoj).1
    rw [hoj] at h1
    simp only [Bool.and_eq_true, List.all_eq_true, List.mem_range] at h1
    refine ⟨by rw [List.all_eq_true]; exact h1.1, fun i oi hoi hne => ?_⟩
    have h2 := h1.2 i (Array.getElem?_eq_some_iff.1 hoi).1
    rw [hoi] at h2
    simpa [hne] using h2
  refine ⟨fun j o e hoj he hb => ?_, fun i j oi oj t hoi hoj hne hd hl => ?_, fun i j oi oj hoi hoj hne h2 h0 hsj => ?_, fun j oj hoj hsj => ?_, fun i j oi oj hoi hoj h3 h4 => ?_⟩
  · have := (hj j o hoj).1
    rw [List.all_eq_true] at this
    have := this e (by simpa using he)
    simpa [hb] using this
  · have := (hj j oj hoj).2 i oi hoi hne
    unfold pairOk at this
    simp only [Bool.and_eq_true] at this
    have h1 := this.1.1
    rw [hd] at h1
    simp only [Bool.or_eq_true, Bool.not_eq_true'] at h1
    rcases h1 with h1 | h1
    · exfalso
      rw [Bool.or_eq_false_iff] at h1
      rcases hl with hl | hl
      · have := h1.1; simp at this; exact this hl
      · have := h1.2; simp [hl] at this
    · exact ho _ _ h1
  · have := (hj j oj hoj).2 i oi hoi hne
    unfold pairOk at this
    simp only [Bool.and_eq_true] at this
    have h1 := this.1.2
    rw [hsj] at h1
    simp only [Bool.or_eq_true, Bool.not_eq_true', h2] at h1
    rcases h1 with (h1 | h1) | h1
    · simp [h0] at h1
    · cases h1
    · exact ho _ _ h1
  · rw [List.all_eq_true] at hsl
    have := hsl j (by simpa using hsj)
    rw [hoj] at this
    simpa using this
  · have hne : i ≠ j := by rintro rfl; rw [hoi] at hoj; cases hoj; omega
    have := (hj j oj hoj).2 i oi hoi hne
    unfold pairOk at this
    simp only [Bool.and_eq_true] at this
    have h1 := this.2
    simp only [Bool.or_eq_true, Bool.not_eq_true', h3, h4] at h1
    rcases h1 with h1 | h1
    · simp at h1
    · exact hm _ _ h1

def drawOk (C : Cfg) (ops : Array Oper) : Bool := drawOkS C ops []
theorem drawOk_spec {C : Cfg} {ops : Array Oper} (h : drawOk C ops = true) : DrawOk C ops (fun _ => false) := drawOkS_spec (sl := []) h
theorem Steady.none {C : Cfg} {ops : Array Oper} {fs : Nat → List Value} {ss : Nat → AHeap} : Steady C ops fs ss (fun _ => false) := fun _ _ _ _ _ _ _ h => by cases h
end Go.Lk
end

section
/- Code: what it does to a frame and an abstract heap. -/
namespace Go.Lk
set_option linter.unusedSimpArgs false
set_option linter.unusedVariables false

abbrev Res := Option (Exit × List Value × AHeap)

def iter (f : List Value → AHeap → Res) : Nat → List Value → AHeap → Res
  | 0, _, _ => none
  | n + 1, fr, σ =>
    match f fr σ with
    | some (.normal, fr', σ') => iter f n fr' σ'
    | r => r

/-- CODE, in at most n rounds of each loop. -/
def DC (C : Cfg) (n : Nat) : Code → List Value → AHeap → Res
  | .skip, fr, σ => some (.normal, fr, σ)
  | .region _ ops _, fr, σ =>
    match runOps C ops ops.toList fr σ with
    | some (fr', σ') => some (.normal, fr', σ')
    | none => none
  | .seq a b, fr, σ =>
    match DC C n a fr σ with
    | some (.normal, fr', σ') => DC C n b fr' σ'
    | r => r
  | .cond c x y, fr, σ =>
    match aev fr c with
    | some (.bool b) => bif b then DC C n x fr σ else DC C n y fr σ
    | _ => none
  | .block id body, fr, σ =>
    match DC C n body fr σ with
    | some (.exit id', fr', σ') => if id' = id then some (.normal, fr', σ') else some (.exit id', fr', σ')
    | r => r
  | .loop body, fr, σ => iter (DC C n body) n fr σ
  | .exit id, fr, σ => some (.exit id, fr, σ)
  | .ret, fr, σ => some (.ret, fr, σ)
  | .label _, fr, σ => some (.normal, fr, σ)
  | .scope body, fr, σ => DC C n body fr σ
  | _, _, _ => none

/-- Are all regions whose order is open in order? -/
def codeOk (C : Cfg) : Code → Bool
  | .region _ ops draw => !draw || drawOk C ops
  | .seq a b => codeOk C a && codeOk C b
  | .cond _ x y => codeOk C x && codeOk C y
  | .block _ b | .loop b | .scope b => codeOk C b
  | .goto _ => false
  | _ => true

/-- WHAT CODE DOES: from each state that fits it comes to one that fits what is told. (n0: blocks below it keep their names.) -/
def Sim (C : Cfg) (n0 : Nat) (c : Code) (fr : List Value) (σ : AHeap) (e : Exit) (fr' : List Value) (σ' : AHeap) : Prop :=
  ∀ (B : Nat → Prop) (μ : List (Option Ent)) (tmps : Array Value) (defers : List Deferred) (w : World) (Q : Exit → Act → World → Prop),
    FrR C.ex μ fr tmps → HR C.ex B μ σ w →
    (∀ μ' tmps' w', FrR C.ex μ' fr' tmps' → HR C.ex B μ' σ' w' → (∀ b, b < n0 → μ'[b]? = μ[b]?) → Blw B w w' → Q e ⟨tmps', defers⟩ w') →
    c.wp C.P Q ⟨tmps, defers⟩ w

end Go.Lk
end

section
/- What code does: the rules. -/
namespace Go.Lk
set_option linter.unusedSimpArgs false
set_option linter.unusedVariables false

section
variable {C : Cfg}

theorem runOps_mono (hC : C.Ok) {ops : Array Oper} : ∀ (l : List Oper) (fr fr' : List Value) (σ σ' : AHeap), runOps C ops l fr σ = some (fr', σ') → σ.length ≤ σ'.length
  | [], fr, fr', σ, σ', h => by cases h; exact Nat.le_refl _
  | o :: l, fr, fr', σ, σ', h => by
    unfold runOps at h
    split at h
    · split at h
      · rename_i v σ1 hop
        exact Nat.le_trans (aOp_mono hC hop) (runOps_mono hC l _ _ _ _ h)
      · cases h
    · exact runOps_mono hC l _ _ _ _ h
    · cases h

theorem Sim.le {n0 n1 : Nat} {c : Code} {fr fr' : List Value} {σ σ' : AHeap} {e : Exit} (h : Sim C n1 c fr σ e fr' σ') (hn : n0 ≤ n1) : Sim C n0 c fr σ e fr' σ' := by
  intro B μ tmps defers w Q hf hr hQ
  exact h B μ tmps defers w Q hf hr (fun μ' tmps' w' q1 q2 q3 q4 => hQ μ' tmps' w' q1 q2 (fun b hb => q3 b (by omega)) q4)

/-- A region. -/
theorem Sim.draw (hC : C.Ok) {id : Nat} {ops : Array Oper} {st : Nat → Bool} {fr fr' : List Value} {σ σ' : AHeap} (hd : DrawOk C ops st) {fs : Nat → List Value} {ss : Nat → AHeap} {vs : Nat → Value} {wd : Nat → Bool}
    (e1 : fs 0 = fr) (e2 : ss 0 = σ) (e3 : fs ops.size = fr') (e4 : ss ops.size = σ') (ht : Trace C ops fs ss vs wd) (hsd : Steady C ops fs ss st) :
    Sim C σ.length (.region id ops true) fr σ .normal fr' σ' := by
  intro B μ tmps defers w Q hf hr hQ
  refine wp_region_any hC.mix ?_
  -- the first stop
  obtain ⟨s, hs2, hs3, hs4⟩ : ∃ s', s' ≤ ops.size ∧ (∀ i, i < s' → kd C ops wd i ≠ 2) ∧ (s' = ops.size ∨ kd C ops wd s' = 2) := by
    have key : ∀ d, ∃ s', s' ≤ d ∧ (∀ i, i < s' → kd C ops wd i ≠ 2) ∧ (s' = d ∨ kd C ops wd s' = 2) := by
      intro d
      induction d with
      | zero => exact ⟨0, by omega, fun i h => by omega, .inl rfl⟩
      | succ d ih =>
        obtain ⟨s', g2, g3, g4⟩ := ih
        rcases g4 with g4 | g4
        · by_cases h : kd C ops wd s' = 2
          · exact ⟨s', by omega, g3, .inr h⟩
          · exact ⟨s' + 1, by omega, fun i h2 => by
              rcases Nat.lt_or_eq_of_le (Nat.le_of_lt_succ h2) with h' | h'
              · exact g3 i h'
              · rw [h']; exact h, .inl (by omega)⟩
        · exact ⟨s', by omega, g3, .inr g4⟩
    exact key ops.size
  obtain ⟨ext, he, hpos⟩ := ht.grow hC (a := 0) (s := s) (Nat.zero_le _) hs2 (fun i _ h2 => hs3 i h2)
  have hlen' : (ss s).length = σ.length + ext.length := by rw [he, e2]; simp
  have hfalse : ∀ i, (Array.replicate ops.size false).getD i false = false := by
    intro i
    by_cases hi : i < ops.size
    · simp [hi]
    · simp [hi]
  have hge : ∀ i, i ≤ s → σ.length ≤ (ss i).length := by
    intro i hi
    have := ht.mono hC i (by omega)
    rw [e2] at this; exact this
  refine draw_all (B := B) hC ht hsd hd (n0 := σ.length) (fun i hi => by have := ht.mono hC i hi; rw [e2] at this; exact this) (μ0 := μ ++ List.replicate ext.length none) (w0 := w) (defers := defers) ?_
    ops.size (Array.replicate ops.size false) ⟨tmps, defers⟩ { w with drawn := w.drawn + 1 } (μ ++ List.replicate ext.length none) (by simp) (fun i j _ hj => absurd hj (by show ¬ (Array.replicate ops.size false).getD j false = true; rw [hfalse j]; decide)) ?_ ?_ rfl (Sub.refl _) (fun _ _ => rfl) (Blw.drawn _ _)
  · intro a' w' μ' q1 q2 q3 q4 q5 q6
    obtain ⟨tmps', d'⟩ := a'
    cases q3
    refine hQ μ' tmps' w' (by rw [← e3]; exact q1) (by rw [← e4]; exact q2) (fun b hb => ?_) q6
    rw [q5 b hb, List.getElem?_append_left (by rw [hr.len]; exact hb)]
  · have := List.countP_le_length (p := fun i => !(Array.replicate ops.size false).getD i false) (l := List.range ops.size)
    simpa using this
  · refine ⟨⟨s, σ ++ List.replicate ext.length .dead, (hr.of_heap (w' := { w with drawn := w.drawn + 1 }) rfl).dead _, ?_, ?_⟩, ?_⟩
    · refine ⟨hs2, ?_, fun i hi h2 => absurd h2 (hs3 i hi), by simp [hlen'], ?_, ?_⟩
      · rcases hs4 with h | h
        · exact .inl h
        · exact .inr ⟨h, hfalse s⟩
      · intro i hi hk3 _
        have h1 := hge i (by omega)
        have h2' : (ss i).length < (ss s).length := by
          obtain ⟨m, row, _, hrow⟩ := ht.made hk3
          obtain ⟨e, he', _⟩ := ht.grow hC (a := i + 1) (s := s) (by omega) hs2 (fun m g1 g2 => hs3 m g2)
          rw [he', hrow]; simp
        rw [List.getElem?_append_right h1, List.getElem?_replicate, if_pos (by omega)]
      · intro b hb
        rcases Nat.lt_or_ge b σ.length with h | h
        · rw [List.getElem?_append_left h, he, e2, List.getElem?_append_left h]
        · rcases Nat.lt_or_ge b (ss s).length with h' | h'
          · obtain ⟨i, g1, g2, g3, g4⟩ := hpos b (by rw [e2]; exact h) h'
            exact absurd g4 (hb i g2 g3 (hfalse i))
          · rw [List.getElem?_eq_none h', List.getElem?_eq_none (by simp; omega)]
    · intro i hi hk3 _ e
      have h1 := hge i (by omega)
      rw [List.getElem?_append_right (by rw [hr.len]; exact h1), List.getElem?_replicate]
      split <;> simp
    · rw [fsF_none _ _ _ _ _ (fun i _ _ => hfalse i), e1]
      exact hf.mono (Sub.holes _ _)


theorem Sim.region (hC : C.Ok) {id : Nat} {ops : Array Oper} {draw : Bool} {fr fr' : List Value} {σ σ' : AHeap} (hok : codeOk C (.region id ops draw) = true) (h : runOps C ops ops.toList fr σ = some (fr', σ')) :
    Sim C σ.length (.region id ops draw) fr σ .normal fr' σ' := by
  cases draw with
  | false =>
    intro B μ tmps defers w Q hf hr hQ
    refine wp_region ?_
    have := runOps_sound (B := B) hC (Q := Q) ops.toList 0 fr fr' σ σ' μ ⟨tmps, defers⟩ w (fun j => by simp) h hf hr (fun μ' tmps' w' q1 q2 q3 q4 => hQ μ' tmps' w' q1 q2 (fun b hb => q3 b (by rw [hr.len]; exact hb)) q4)
    rw [List.range_eq_range']
    simpa using this
  | true =>
    obtain ⟨fs, ss, vs, wd, e1, e2, e3, e4, ht⟩ := trace_whole h
    exact Sim.draw hC (drawOk_spec (C := C) (ops := ops) (by simpa [codeOk] using hok)) e1 e2 e3 e4 ht Steady.none

theorem Sim.seq {n0 : Nat} {a b : Code} {fr fr1 fr2 : List Value} {σ σ1 σ2 : AHeap} {e : Exit} (h1 : Sim C n0 a fr σ .normal fr1 σ1) (h2 : Sim C n0 b fr1 σ1 e fr2 σ2) : Sim C n0 (.seq a b) fr σ e fr2 σ2 := by
  intro B μ tmps defers w Q hf hr hQ
  refine wp_seq (h1 B μ tmps defers w _ hf hr ?_)
  intro μ' tmps' w' q1 q2 q3 q4
  refine h2 B μ' tmps' defers w' Q q1 q2 ?_
  intro μ'' tmps'' w'' r1 r2 r3 r4
  exact hQ μ'' tmps'' w'' r1 r2 (fun b hb => (r3 b hb).trans (q3 b hb)) (q4.trans r4)

def Exit.isN : Exit → Bool
  | .normal => true
  | _ => false
theorem then_ne {next : Act → World → Prop} {Q : Exit → Act → World → Prop} {e : Exit} {a : Act} {w : World} (he : Lk.Exit.isN e = false) (h : Q e a w) : Exit.then next Q e a w := by
  cases e <;> first | exact h | cases he

theorem Sim.seq_out {n0 : Nat} {a b : Code} {fr fr1 : List Value} {σ σ1 : AHeap} {e : Exit} (h1 : Sim C n0 a fr σ e fr1 σ1) (he : Lk.Exit.isN e = false) : Sim C n0 (.seq a b) fr σ e fr1 σ1 := by
  intro B μ tmps defers w Q hf hr hQ
  refine wp_seq (h1 B μ tmps defers w _ hf hr ?_)
  intro μ' tmps' w' q1 q2 q3 q4
  exact then_ne he (hQ μ' tmps' w' q1 q2 q3 q4)

theorem Sim.skip {n0 : Nat} {fr : List Value} {σ : AHeap} : Sim C n0 .skip fr σ .normal fr σ := by
  intro B μ tmps defers w Q hf hr hQ
  exact wp_skip (hQ μ tmps w hf hr (fun _ _ => rfl) (Blw.refl _ _))
theorem Sim.label {n0 : Nat} {l : Nat} {fr : List Value} {σ : AHeap} : Sim C n0 (.label l) fr σ .normal fr σ := by
  intro B μ tmps defers w Q hf hr hQ
  exact wp_label (hQ μ tmps w hf hr (fun _ _ => rfl) (Blw.refl _ _))
theorem Sim.ret {n0 : Nat} {fr : List Value} {σ : AHeap} : Sim C n0 .ret fr σ .ret fr σ := by
  intro B μ tmps defers w Q hf hr hQ
  exact wp_ret (hQ μ tmps w hf hr (fun _ _ => rfl) (Blw.refl _ _))
theorem Sim.exit {n0 : Nat} {id : Nat} {fr : List Value} {σ : AHeap} : Sim C n0 (.exit id) fr σ (.exit id) fr σ := by
  intro B μ tmps defers w Q hf hr hQ
  exact wp_exit (hQ μ tmps w hf hr (fun _ _ => rfl) (Blw.refl _ _))
theorem Sim.cond {n0 : Nat} {c : Operand} {x y : Code} {t : Bool} {fr fr' : List Value} {σ σ' : AHeap} {e : Exit} (hc : aev fr c = some (.bool t)) (h : Sim C n0 (bif t then x else y) fr σ e fr' σ') : Sim C n0 (.cond c x y) fr σ e fr' σ' := by
  intro B μ tmps defers w Q hf hr hQ
  have hv := (aev_sound (a := ⟨tmps, defers⟩) hf hc).bool_of
  refine wp_cond hv ?_
  cases t
  · exact h B μ tmps defers w Q hf hr hQ
  · exact h B μ tmps defers w Q hf hr hQ

def outOf (id : Nat) : Exit → Exit
  | .exit id' => if id' = id then .normal else .exit id'
  | e => e
theorem inBlock_of {id : Nat} {Q : Exit → Act → World → Prop} {e : Exit} {a : Act} {w : World} (h : Q (outOf id e) a w) : Exit.inBlock id Q e a w := by
  cases e <;> first | exact h | skip
  rename_i id'
  unfold outOf at h
  unfold Exit.inBlock
  by_cases hid : id' = id
  · simp only [hid, if_true] at h ⊢; exact h
  · simp only [hid, if_false] at h ⊢; exact h
theorem Sim.block {n0 : Nat} {id : Nat} {c : Code} {fr fr' : List Value} {σ σ' : AHeap} {e : Exit} (h : Sim C n0 c fr σ e fr' σ') : Sim C n0 (.block id c) fr σ (outOf id e) fr' σ' := by
  intro B μ tmps defers w Q hf hr hQ
  refine wp_block (h B μ tmps defers w _ hf hr ?_)
  intro μ' tmps' w' q1 q2 q3 q4
  exact inBlock_of (hQ μ' tmps' w' q1 q2 q3 q4)
def Exit.isG : Exit → Bool
  | .goto _ => true
  | _ => false
theorem Sim.scope {n0 : Nat} {c : Code} {fr fr' : List Value} {σ σ' : AHeap} {e : Exit} (h : Sim C n0 c fr σ e fr' σ') (hg : Lk.Exit.isG e = false) : Sim C n0 (.scope c) fr σ e fr' σ' := by
  intro B μ tmps defers w Q hf hr hQ
  refine wp_scope_straight (h B μ tmps defers w _ hf hr ?_)
  intro μ' tmps' w' q1 q2 q3 q4
  have := hQ μ' tmps' w' q1 q2 q3 q4
  cases e <;> first | exact this | cases hg

/-- A LOOP: N rounds that go on, and one that ends it. -/
theorem Sim.loop {n0 : Nat} {c : Code} (S : Nat → List Value × AHeap) (N : Nat) {fr' : List Value} {σ' : AHeap} {e : Exit} (hr : ∀ k, k < N → Sim C n0 c (S k).1 (S k).2 .normal (S (k + 1)).1 (S (k + 1)).2)
    (hl : Sim C n0 c (S N).1 (S N).2 e fr' σ') (he : Lk.Exit.isN e = false) : Sim C n0 (.loop c) (S 0).1 (S 0).2 e fr' σ' := by
  intro B μ tmps defers w Q hf hh hQ
  refine wp_loop_rounds (N + 1) ?_
  have key : ∀ (d k : Nat), k + d = N → ∀ (μ' : List (Option Ent)) (tmps' : Array Value) (w' : World), FrR C.ex μ' (S k).1 tmps' → HR C.ex B μ' (S k).2 w' → (∀ b, b < n0 → μ'[b]? = μ[b]?) → Blw B w w' →
      Code.rounds C.P c Q (d + 1) ⟨tmps', defers⟩ w' := by
    intro d
    induction d with
    | zero =>
      intro k hk μ' tmps' w' q1 q2 q3 q4
      have : k = N := by omega
      subst this
      rw [rounds_succ]
      refine hl B μ' tmps' defers w' _ q1 q2 ?_
      intro μ'' tmps'' w'' r1 r2 r3 r4
      exact then_ne he (hQ μ'' tmps'' w'' r1 r2 (fun b hb => (r3 b hb).trans (q3 b hb)) (q4.trans r4))
    | succ d ih =>
      intro k hk μ' tmps' w' q1 q2 q3 q4
      rw [rounds_succ]
      refine hr k (by omega) B μ' tmps' defers w' _ q1 q2 ?_
      intro μ'' tmps'' w'' r1 r2 r3 r4
      exact ih (k + 1) (by omega) μ'' tmps'' w'' r1 r2 (fun b hb => (r3 b hb).trans (q3 b hb)) (q4.trans r4)
  exact key N 0 (by omega) μ tmps w hf hh (fun _ _ => rfl) (Blw.refl _ _)

end
end Go.Lk
end

section
/- Code by reckoning; blocks renamed; whole functions. -/
namespace Go.Lk
set_option linter.unusedSimpArgs false
set_option linter.unusedVariables false

section
variable {C : Cfg}

theorem iter_mono {f : List Value → AHeap → Res} (hf : ∀ fr σ e fr' σ', f fr σ = some (e, fr', σ') → σ.length ≤ σ'.length ∧ Lk.Exit.isG e = false) : ∀ (n : Nat) (fr : List Value) (σ : AHeap) (e : Exit) (fr' : List Value) (σ' : AHeap),
    iter f n fr σ = some (e, fr', σ') → σ.length ≤ σ'.length ∧ Lk.Exit.isG e = false
  | 0, _, _, _, _, _, h => by cases h
  | n + 1, fr, σ, e, fr', σ', h => by
    unfold iter at h
    split at h
    · rename_i fr1 σ1 h1
      have := iter_mono hf n _ _ _ _ _ h
      exact ⟨Nat.le_trans (hf _ _ _ _ _ h1).1 this.1, this.2⟩
    · exact hf _ _ _ _ _ h

theorem DC_mono (hC : C.Ok) (n : Nat) : ∀ (c : Code) (fr : List Value) (σ : AHeap) (e : Exit) (fr' : List Value) (σ' : AHeap), DC C n c fr σ = some (e, fr', σ') → σ.length ≤ σ'.length ∧ Lk.Exit.isG e = false := by
  intro c
  induction c with
  | skip => intro fr σ e fr' σ' h; cases h; exact ⟨Nat.le_refl _, rfl⟩
  | region id ops draw =>
    intro fr σ e fr' σ' h
    simp only [DC] at h
    split at h
    · rename_i h1; cases h; exact ⟨runOps_mono hC _ _ _ _ _ h1, rfl⟩
    · cases h
  | seq a b iha ihb =>
    intro fr σ e fr' σ' h
    simp only [DC] at h
    split at h
    · rename_i h1
      have := ihb _ _ _ _ _ h
      exact ⟨Nat.le_trans (iha _ _ _ _ _ h1).1 this.1, this.2⟩
    · exact iha _ _ _ _ _ h
  | cond c x y ihx ihy =>
    intro fr σ e fr' σ' h
    simp only [DC] at h
    split at h
    · rename_i b _
      cases b
      · exact ihy _ _ _ _ _ h
      · exact ihx _ _ _ _ _ h
    · cases h
  | block id b ih =>
    intro fr σ e fr' σ' h
    simp only [DC] at h
    split at h
    · rename_i h1
      have := ih _ _ _ _ _ h1
      split at h <;> cases h
      · exact ⟨this.1, rfl⟩
      · exact ⟨this.1, rfl⟩
    · exact ih _ _ _ _ _ h
  | loop b ih =>
    intro fr σ e fr' σ' h
    simp only [DC] at h
    exact iter_mono ih n _ _ _ _ _ h
  | exit id => intro fr σ e fr' σ' h; cases h; exact ⟨Nat.le_refl _, rfl⟩
  | ret => intro fr σ e fr' σ' h; cases h; exact ⟨Nat.le_refl _, rfl⟩
  | label l => intro fr σ e fr' σ' h; cases h; exact ⟨Nat.le_refl _, rfl⟩
  | scope b ih => intro fr σ e fr' σ' h; exact ih _ _ _ _ _ h
  | _ => intro fr σ e fr' σ' h; cases h

theorem iter_sound {f : List Value → AHeap → Res} {c : Code} {n0 : Nat} (hm : ∀ fr σ e fr' σ', f fr σ = some (e, fr', σ') → σ.length ≤ σ'.length)
    (hf : ∀ fr σ e fr' σ', f fr σ = some (e, fr', σ') → Sim C σ.length c fr σ e fr' σ') : ∀ (n : Nat) (fr : List Value) (σ : AHeap) (e : Exit) (fr' : List Value) (σ' : AHeap), n0 ≤ σ.length →
    iter f n fr σ = some (e, fr', σ') → ∃ (S : Nat → List Value × AHeap) (N : Nat), S 0 = (fr, σ) ∧ (∀ k, k < N → Sim C n0 c (S k).1 (S k).2 .normal (S (k + 1)).1 (S (k + 1)).2) ∧ Sim C n0 c (S N).1 (S N).2 e fr' σ' ∧ Lk.Exit.isN e = false
  | 0, _, _, _, _, _, _, h => by cases h
  | n + 1, fr, σ, e, fr', σ', hn, h => by
    unfold iter at h
    split at h
    · rename_i fr1 σ1 h1
      have hle := hm _ _ _ _ _ h1
      obtain ⟨S, N, e0, e1, e2, e3⟩ := iter_sound (n0 := n0) hm hf n fr1 σ1 e fr' σ' (by omega) h
      refine ⟨fun k => match k with | 0 => (fr, σ) | k + 1 => S k, N + 1, rfl, fun k hk => ?_, e2, e3⟩
      cases k with
      | zero =>
        show Sim C n0 c fr σ .normal (S 0).1 (S 0).2
        rw [e0]
        exact (hf _ _ _ _ _ h1).le hn
      | succ k => exact e1 k (by omega)
    · rename_i hno
      refine ⟨fun _ => (fr, σ), 0, rfl, fun k hk => by omega, (hf _ _ _ _ _ h).le hn, ?_⟩
      cases e <;> first | rfl | skip
      exact absurd h (hno _ _)

/-- WHAT IS RECKONED HOLDS. -/
theorem DC_sound (hC : C.Ok) (n : Nat) : ∀ (c : Code) (fr : List Value) (σ : AHeap) (e : Exit) (fr' : List Value) (σ' : AHeap), codeOk C c = true → DC C n c fr σ = some (e, fr', σ') → Sim C σ.length c fr σ e fr' σ' := by
  intro c
  induction c with
  | skip => intro fr σ e fr' σ' _ h; cases h; exact Sim.skip
  | region id ops draw =>
    intro fr σ e fr' σ' hok h
    simp only [DC] at h
    split at h
    · rename_i h1; cases h; exact Sim.region hC hok h1
    · cases h
  | seq a b iha ihb =>
    intro fr σ e fr' σ' hok h
    simp only [codeOk, Bool.and_eq_true] at hok
    simp only [DC] at h
    split at h
    · rename_i h1
      exact (iha _ _ _ _ _ hok.1 h1).seq ((ihb _ _ _ _ _ hok.2 h).le (DC_mono hC n _ _ _ _ _ _ h1).1)
    · rename_i hno
      refine (iha _ _ _ _ _ hok.1 h).seq_out ?_
      cases e <;> first | rfl | skip
      exact absurd h (hno _ _)
  | cond c x y ihx ihy =>
    intro fr σ e fr' σ' hok h
    simp only [codeOk, Bool.and_eq_true] at hok
    simp only [DC] at h
    split at h
    · rename_i b hb
      refine Sim.cond hb ?_
      cases b
      · exact ihy _ _ _ _ _ hok.2 h
      · exact ihx _ _ _ _ _ hok.1 h
    · cases h
  | block id b ih =>
    intro fr σ e fr' σ' hok h
    simp only [codeOk] at hok
    simp only [DC] at h
    split at h
    · rename_i id' fr1 σ1 h1
      have := (ih _ _ _ _ _ hok h1).block (id := id)
      split at h
      · rename_i hid
        cases h
        simpa only [outOf, if_pos hid] using this
      · rename_i hid
        cases h
        simpa only [outOf, if_neg hid] using this
    · rename_i hno
      have := (ih _ _ _ _ _ hok h).block (id := id)
      have he : outOf id e = e := by
        cases e <;> first | rfl | skip
        exact absurd h (hno _ _ _)
      rwa [he] at this
  | loop b ih =>
    intro fr σ e fr' σ' hok h
    simp only [codeOk] at hok
    simp only [DC] at h
    obtain ⟨S, N, e0, e1, e2, e3⟩ := iter_sound (n0 := σ.length) (fun _ _ _ _ _ h => (DC_mono hC n _ _ _ _ _ _ h).1) (fun _ _ _ _ _ h => ih _ _ _ _ _ hok h) n fr σ e fr' σ' (Nat.le_refl _) h
    have := Sim.loop S N e1 e2 e3
    rwa [e0] at this
  | exit id => intro fr σ e fr' σ' _ h; cases h; exact Sim.exit
  | ret => intro fr σ e fr' σ' _ h; cases h; exact Sim.ret
  | label l => intro fr σ e fr' σ' _ h; cases h; exact Sim.label
  | scope b ih =>
    intro fr σ e fr' σ' hok h
    simp only [codeOk] at hok
    simp only [DC] at h
    exact (ih _ _ _ _ _ hok h).scope (DC_mono hC n _ _ _ _ _ _ h).2
  | _ => intro fr σ e fr' σ' _ h; cases h

end

/-! ### Blocks renamed -/
/-- A value with its blocks renamed, to a depth. -/
def renV (r : Nat → Nat) : Nat → Value → Value
  | _, .pointer (some ⟨b, o, s⟩) => .pointer (some ⟨r b, o, s⟩)
  | _, .slice (some ⟨b, o, s⟩) l c => .slice (some ⟨r b, o, s⟩) l c
  | d + 1, .agg cs => .agg (cs.toList.map (renV r d)).toArray
  | d + 1, .tuple cs => .tuple (cs.toList.map (renV r d)).toArray
  | d + 1, .func f xs ys => .func f (xs.toList.map (renV r d)).toArray (ys.toList.map (renV r d)).toArray
  | d + 1, .iface t v => .iface t (renV r d v)
  | 0, .agg _ => .map (some 0)
  | 0, .tuple _ => .map (some 0)
  | 0, .func .. => .map (some 0)
  | 0, .iface .. => .map (some 0)
  | _, v => v

theorem VR.no_map {ex : Bool} {μ : List (Option Ent)} {n : Nat} {v : Value} (h : VR ex μ (.map (some n)) v) : False := by cases h

theorem VRs.ren {ex : Bool} {μ1 μ' : List (Option Ent)} {f : Value → Value} (hf : ∀ v c, VR ex μ1 (f v) c → VR ex μ' v c) {vs cs : List Value} (h : VRs ex μ1 (vs.map f) cs) : VRs ex μ' vs cs := by
  refine ⟨by simpa using h.1, fun i a ha => ?_⟩
  obtain ⟨c, hc, hv⟩ := h.2 i (f a) (by simp [ha])
  exact ⟨c, hc, hf _ _ hv⟩

theorem VR.ren {ex : Bool} {μ1 μ' : List (Option Ent)} {r : Nat → Nat} (hr : ∀ b e, μ1[r b]? = some (some e) → μ'[b]? = some (some e)) : ∀ (d : Nat) (v c : Value), VR ex μ1 (renV r d v) c → VR ex μ' v c := by
  intro d
  induction d with
  | zero =>
    intro v c h
    cases v with
    | pointer a =>
      cases a with
      | none => cases h; exact .pnil
      | some a =>
        obtain ⟨b, o, s⟩ := a
        simp only [renV] at h
        cases h with
        | ptr hm => exact .ptr (hr _ _ hm)
    | slice a l cp =>
      cases a with
      | none => cases h; exact .snil _ _
      | some a =>
        obtain ⟨b, o, s⟩ := a
        simp only [renV] at h
        cases h with
        | slice hm hc => exact .slice (hr _ _ hm) hc
        | sempty hm a => exact .sempty (hr _ _ hm) a
    | agg cs => exact (VR.no_map h).elim
    | tuple cs => exact (VR.no_map h).elim
    | func f xs ys => exact (VR.no_map h).elim
    | iface t v => exact (VR.no_map h).elim
    | map m => cases m with | none => cases h; exact .mapNil | some m => exact (VR.no_map h).elim
    | chan m => cases h
    | _ => cases h; constructor
  | succ d ih =>
    intro v c h
    cases v with
    | pointer a =>
      cases a with
      | none => cases h; exact .pnil
      | some a =>
        obtain ⟨b, o, s⟩ := a
        simp only [renV] at h
        cases h with
        | ptr hm => exact .ptr (hr _ _ hm)
    | slice a l cp =>
      cases a with
      | none => cases h; exact .snil _ _
      | some a =>
        obtain ⟨b, o, s⟩ := a
        simp only [renV] at h
        cases h with
        | slice hm hc => exact .slice (hr _ _ hm) hc
        | sempty hm a => exact .sempty (hr _ _ hm) a
    | agg cs =>
      simp only [renV] at h
      obtain ⟨c', rfl, hv⟩ := h.agg_iff
      exact VRs.toAgg (VRs.ren ih (by simpa using hv))
    | tuple cs =>
      simp only [renV] at h
      obtain ⟨c', rfl, hv⟩ := h.tuple_iff
      exact VRs.toTuple (VRs.ren ih (by simpa using hv))
    | func f xs ys =>
      simp only [renV] at h
      obtain ⟨xs', ys', rfl, h1, h2⟩ := h.func_iff
      have k1 : VRs ex μ' xs.toList xs'.toList := VRs.ren ih (by simpa using h1)
      have k2 : VRs ex μ' ys.toList ys'.toList := VRs.ren ih (by simpa using h2)
      obtain ⟨e1, j1⟩ := k1.elems
      obtain ⟨e2, j2⟩ := k2.elems
      exact .func _ e1 e2 j1 j2
    | iface t v =>
      simp only [renV] at h
      cases h with
      | iface _ h => exact .iface _ (ih _ _ h)
    | map m => cases m with | none => cases h; exact .mapNil | some m => exact (VR.no_map h).elim
    | chan m => cases h
    | _ => cases h; constructor

/-- What stood under the old names stands under the new ones. -/
theorem VR.again {ex : Bool} {μ μ1 μ' : List (Option Ent)} {a c : Value} (h : VR ex μ a c) (hr : ∀ b e, b < μ.length → μ1[b]? = some (some e) → μ'[b]? = some (some e)) : ∀ {c' : Value}, VR ex μ1 a c' → VR ex μ' a c' := by
  induction h with
  | ptr h => intro c' h'; cases h' with | ptr hm => exact .ptr (hr _ _ (lt_of_some h) hm)
  | slice h hc =>
    intro c' h'
    cases h' with
    | slice hm hc' => exact .slice (hr _ _ (lt_of_some h) hm) hc'
    | sempty hm a => exact .sempty (hr _ _ (lt_of_some h) hm) a
  | sempty h a =>
    intro c' h'
    cases h' with
    | slice hm hc' => exact .slice (hr _ _ (lt_of_some h) hm) hc'
    | sempty hm a => exact .sempty (hr _ _ (lt_of_some h) hm) a
  | func fn hf hc _ _ ih1 ih2 =>
    intro c' h'
    cases h' with
    | func _ hf' hc' h1 h2 => exact .func _ hf' hc' (fun i hi => ih1 i hi (h1 i hi)) (fun i hi => ih2 i hi (h2 i hi))
  | iface t _ ih => intro c' h'; cases h' with | iface _ h => exact .iface _ (ih h)
  | agg hc _ ih => intro c' h'; cases h' with | agg hc' h => exact .agg hc' (fun i hi => ih i hi (h i hi))
  | tuple hc _ ih => intro c' h'; cases h' with | tuple hc' h => exact .tuple hc' (fun i hi => ih i hi (h i hi))
  | float k x => intro c' h'; obtain ⟨x', rfl, hx⟩ := h'.float_of; rw [hx]; exact .float _ _
  | complex k x y => intro c' h'; obtain ⟨x', y', rfl, hx, hy⟩ := h'.complex_of; rw [hx, hy]; exact .complex _ _ _
  | _ => intro c' h'; cases h'; constructor
theorem VRs.again {ex : Bool} {μ μ1 μ' : List (Option Ent)} {a c c' : List Value} (h : VRs ex μ a c) (hr : ∀ b e, b < μ.length → μ1[b]? = some (some e) → μ'[b]? = some (some e)) (h' : VRs ex μ1 a c') : VRs ex μ' a c' :=
  ⟨h'.1, fun i x hx => let ⟨y, hy, hv⟩ := h'.2 i x hx; let ⟨_, _, hv0⟩ := h.2 i x hx; ⟨y, hy, hv0.again hr hv⟩⟩

def renO (r : Nat → Nat) : AObj → AObj
  | .row vs rw opn => .row (vs.map (renV r 3)) rw opn
  | o => o

/-- A heap that stood somewhere. -/
def Stood (ex : Bool) (σ : AHeap) : Prop := ∃ B μ w, HR ex B μ σ w

/-- σ' is σ1 with its blocks renamed and some left out; σ0: the heap at the call's begin. -/
structure Emb (σ0 : AHeap) (r : Nat → Nat) (σ' σ1 : AHeap) : Prop where
  le : σ0.length ≤ σ'.length
  out : ∀ b, σ'.length ≤ b → σ1.length ≤ r b
  fix : ∀ b, b < σ0.length → r b = b
  inj : ∀ b b' o o', σ'[b]? = some o → σ'[b']? = some o' → o.live = true → o'.live = true → r b = r b' → b = b'
  obj : ∀ b o, σ'[b]? = some o → o.live = true → (b < σ0.length ∧ σ0[b]? = some o ∧ σ1[b]? = some o) ∨ σ1[r b]? = some (renO r o)

theorem renO_live (r : Nat → Nat) (o : AObj) : (renO r o).live = o.live := by cases o <;> rfl
theorem renO_owned (r : Nat → Nat) (o : AObj) : (renO r o).owned = o.owned := by cases o <;> rfl

theorem ObjR.ren {ex : Bool} {μ1 μ' : List (Option Ent)} {B : Nat → Prop} {w : World} {e : Ent} {r : Nat → Nat} (hr : ∀ b e, μ1[r b]? = some (some e) → μ'[b]? = some (some e)) {o : AObj} (h : ObjR ex μ1 B w e (renO r o)) : ObjR ex μ' B w e o := by
  cases o with
  | dead => trivial
  | iter s p => exact h
  | row vs rw opn =>
    obtain ⟨h0, h1, c, el, lo, hi, h2, h3, h4, h5⟩ := h
    simp only [List.length_map] at h0 h3 h4
    exact ⟨h0, h1, c, el, lo, hi, h2, h3, VRs.ren (fun v c => VR.ren hr 3 v c) h4, h5⟩

/-- The new names. -/
def renM (μ1 : List (Option Ent)) (r : Nat → Nat) (n : Nat) : List (Option Ent) := (List.range n).map fun b => (μ1[r b]?).getD none

theorem renM_get {μ1 : List (Option Ent)} {r : Nat → Nat} {n b : Nat} (hb : b < n) : (renM μ1 r n)[b]? = some ((μ1[r b]?).getD none) := by
  unfold renM
  rw [List.getElem?_map, List.getElem?_range hb]; rfl
theorem renM_some {μ1 : List (Option Ent)} {r : Nat → Nat} {n b : Nat} {e : Ent} (hb : (renM μ1 r n)[b]? = some (some e)) : b < n ∧ μ1[r b]? = some (some e) := by
  have hlt : b < n := by have := lt_of_some hb; simpa [renM] using this
  rw [renM_get hlt] at hb
  refine ⟨hlt, ?_⟩
  cases hm : μ1[r b]? with
  | none => rw [hm] at hb; cases hb
  | some x => rw [hm] at hb; simpa using hb
theorem renM_back {μ1 : List (Option Ent)} {r : Nat → Nat} {n b : Nat} {e : Ent} (hb : b < n) (h : μ1[r b]? = some (some e)) : (renM μ1 r n)[b]? = some (some e) := by
  rw [renM_get hb, h]; rfl

theorem Emb.back {ex : Bool} {B : Nat → Prop} {μ1 : List (Option Ent)} {σ0 σ' σ1 : AHeap} {w : World} {r : Nat → Nat} (h : HR ex B μ1 σ1 w) (he : Emb σ0 r σ' σ1) : ∀ b e, μ1[r b]? = some (some e) → (renM μ1 r σ'.length)[b]? = some (some e) := by
  intro b e hb
  refine renM_back ?_ hb
  rcases Nat.lt_or_ge b σ'.length with h' | h'
  · exact h'
  · have := he.out b h'
    have := lt_of_some hb
    have := h.len
    omega

theorem Emb.heap {ex : Bool} {B : Nat → Prop} {μ1 : List (Option Ent)} {σ0 σ' σ1 : AHeap} {w : World} {r : Nat → Nat} (h : HR ex B μ1 σ1 w) (hs : Stood ex σ0) (he : Emb σ0 r σ' σ1) : HR ex B (renM μ1 r σ'.length) σ' w := by
  have hback := he.back h
  have hle := he.le
  obtain ⟨B0, μ0, w0, h0⟩ := hs
  have hold : ∀ b e, b < μ0.length → μ1[b]? = some (some e) → (renM μ1 r σ'.length)[b]? = some (some e) := by
    intro b e hb hm
    rw [h0.len] at hb
    exact hback b e (by rw [he.fix b hb]; exact hm)
  -- what stands in σ1 where b goes
  have there : ∀ b o, σ'[b]? = some o → o.live = true → ∃ o1, σ1[r b]? = some o1 ∧ o1.live = true ∧ (o.owned = true → o1.owned = true) := by
    intro b o hb hl
    rcases he.obj b o hb hl with ⟨hlt, h1, h2⟩ | h2
    · exact ⟨o, by rw [he.fix b hlt]; exact h2, hl, id⟩
    · exact ⟨_, h2, by rw [renO_live]; exact hl, by rw [renO_owned]; exact id⟩
  refine ⟨by simp [renM], h.hB, ?_, ?_, ?_⟩
  · intro b o hb hl
    obtain ⟨o1, h1, h2, _⟩ := there b o hb hl
    obtain ⟨e, he1⟩ := h.has _ _ h1 h2
    exact ⟨e, hback b e he1⟩
  · intro b o e hb hm
    obtain ⟨_, hm1⟩ := renM_some hm
    cases hl : o.live with
    | false => cases o <;> first | trivial | cases hl
    | true =>
      rcases he.obj b o hb hl with ⟨hlt, h1, h2⟩ | h2
      · rw [he.fix b hlt] at hm1
        have hobj := h.obj b o e h2 hm1
        obtain ⟨e0, he0, hobj0⟩ := h0.at h1 hl
        cases o with
        | dead => trivial
        | iter s p => exact hobj
        | row vs rw opn =>
          obtain ⟨g0, g1, c, el, lo, hi, g2, g3, g4, g5⟩ := hobj
          obtain ⟨_, _, c0, el0, lo0, hi0, _, _, k4, _⟩ := hobj0
          exact ⟨g0, g1, c, el, lo, hi, g2, g3, VRs.again k4 hold g4, g5⟩
      · exact (h.obj (r b) _ e h2 hm1).ren hback
  · intro b b' o o' e e' hb hb' hm hm' hown hlive hcb
    obtain ⟨_, hm1⟩ := renM_some hm
    obtain ⟨_, hm1'⟩ := renM_some hm'
    have hl : o.live = true := by cases o <;> first | rfl | cases hown
    obtain ⟨o1, h1, _, h3⟩ := there b o hb hl
    obtain ⟨o1', h1', h2', _⟩ := there b' o' hb' hlive
    exact he.inj b b' o o' hb hb' hl hlive (h.inj (r b) (r b') o1 o1' e e' h1 h1' hm1 hm1' (h3 hown) h2' hcb)

/-- The frame, with the blocks renamed: each slot is unknown, or as it was. -/
def FrEmb (r : Nat → Nat) : List Value → List Value → Prop
  | [], [] => True
  | a :: as, b :: bs => (isU a = true ∨ b = renV r 3 a) ∧ FrEmb r as bs
  | _, _ => False

theorem FrEmb.len {r : Nat → Nat} : ∀ {as bs : List Value}, FrEmb r as bs → as.length = bs.length
  | [], [], _ => rfl
  | _ :: _, _ :: _, h => by simp [FrEmb.len h.2]
  | [], _ :: _, h => h.elim
  | _ :: _, [], h => h.elim
theorem FrEmb.get {r : Nat → Nat} : ∀ {as bs : List Value}, FrEmb r as bs → ∀ (i : Nat) (a : Value), as[i]? = some a → isU a = true ∨ bs[i]? = some (renV r 3 a)
  | [], [], _, i, a, h => by simp at h
  | a :: as, b :: bs, h, i, x, hx => by
    cases i with
    | zero => simp at hx; subst hx; rcases h.1 with h | h; exact .inl h; exact .inr (by simp [h])
    | succ i => simp at hx; simpa using FrEmb.get h.2 i x hx
  | [], _ :: _, h, _, _, _ => h.elim
  | _ :: _, [], h, _, _, _ => h.elim

theorem isU_ren {r : Nat → Nat} {a : Value} (h : isU (renV r 3 a) = true) : isU a = true := by
  cases a with
  | tuple cs => simp only [renV, isU] at h ⊢; simpa using h
  | pointer a => cases a <;> cases h
  | slice a l c => cases a <;> cases h
  | _ => cases h

/-- The end of a stretch, its blocks renamed. -/
theorem Sim.emb {C : Cfg} {c : Code} {fr fr1 fr' : List Value} {σ0 σ σ1 σ' : AHeap} {e : Exit} {r : Nat → Nat} (h : Sim C σ0.length c fr σ e fr1 σ1) (hs : Stood C.ex σ0) (hn : σ0.length ≤ σ.length) (he : Emb σ0 r σ' σ1) (hf : FrEmb r fr' fr1) :
    Sim C σ0.length c fr σ e fr' σ' := by
  intro B μ tmps defers w Q hf0 hr hQ
  refine h B μ tmps defers w Q hf0 hr ?_
  intro μ1 tmps' w' q1 q2 q3 q4
  have hback := he.back q2
  refine hQ (renM μ1 r σ'.length) tmps' w' ⟨by rw [hf.len]; exact q1.1, fun i a ha => ?_⟩ (he.heap q2 hs) (fun b hb => ?_) q4
  · have hlt := lt_of_some ha
    rcases hf.get i a ha with hu | hb
    · obtain ⟨c, hc⟩ : ∃ c, tmps'[i]? = some c := ⟨_, Array.getElem?_eq_getElem (by rw [← q1.1, ← hf.len]; exact hlt)⟩
      exact ⟨c, hc, .inl hu⟩
    · obtain ⟨c, hc, hv⟩ := q1.2 i _ hb
      refine ⟨c, hc, ?_⟩
      rcases hv with hu | hv
      · exact .inl (isU_ren hu)
      · exact .inr (VR.ren hback 3 _ _ hv)
  · have hle := he.le
    have hlt : b < μ.length := by rw [hr.len]; omega
    rw [renM_get (by omega), he.fix b hb, q3 b hb, List.getElem?_eq_getElem hlt]
    rfl

/-! ### Functions -/
def aRes1 (P : Program) (fr : List Value) (σ : AHeap) : ResultVar → Option Value
  | .tmp t => aev fr (.tmp t)
  | .cell a t => match aev fr (.tmp a) with | some v => aLoad P σ t v | none => none

def aResL (P : Program) (fr : List Value) (σ : AHeap) : List ResultVar → Option (List Value)
  | [] => some []
  | r :: rs => match aRes1 P fr σ r, aResL P fr σ rs with
    | some v, some vs => some (v :: vs)
    | _, _ => none

def aResults (P : Program) (fn : Func) (fr : List Value) (σ : AHeap) : Option Value :=
  match aResL P fr σ fn.results.toList with
  | some [v] => some v
  | some vs => some (.tuple vs.toArray)
  | none => none

theorem res1_sound {C : Cfg} {B : Nat → Prop} {μ : List (Option Ent)} {fr : List Value} {σ : AHeap} {tmps : Array Value} {w : World} (hf : FrR C.ex μ fr tmps) (hr : HR C.ex B μ σ w) {rv : ResultVar} {v : Value} (h : aRes1 C.P fr σ rv = some v) :
    ∃ c, ((match rv with | .tmp t => pure (tmps.getD t undef) | .cell a t => do loadVar t (← asAddr (tmps.getD a undef)) : Sem Value)).run C.P w = .ok c w ∧ VR C.ex μ v c := by
  cases rv with
  | tmp t =>
    have h : aev fr (.tmp t) = some v := h
    have := aev_sound (a := ⟨tmps, []⟩) hf h
    exact ⟨_, rfl, this⟩
  | cell a t =>
    simp only [aRes1] at h
    split at h
    · rename_i p hp
      have hv := aev_sound (a := ⟨tmps, []⟩) hf hp
      obtain ⟨c, hc, hvc⟩ := load_sound (P := C.P) h hv hr
      refine ⟨c, ?_, hvc⟩
      rw [← hc]
      show (do loadVar t (← asAddr (tmps.getD a undef)) : Sem Value).run C.P w = _
      have he : Act.eval ⟨tmps, []⟩ (.tmp a) = tmps.getD a undef := rfl
      rw [he] at hv ⊢
      generalize tmps.getD a undef = y at hv ⊢
      unfold aLoad at h
      split at h
      · cases hv; rfl
      · cases h
    · cases h

theorem resL_sound {C : Cfg} {B : Nat → Prop} {μ : List (Option Ent)} {fr : List Value} {σ : AHeap} {tmps : Array Value} {w : World} (hf : FrR C.ex μ fr tmps) (hr : HR C.ex B μ σ w) : ∀ (rs : List ResultVar) (vs : List Value), aResL C.P fr σ rs = some vs →
    ∃ cs : List Value, VRs C.ex μ vs cs ∧ ∀ (acc : Array Value), (rs.foldlM (fun (bs : Array Value) (a : ResultVar) => bs.push <$> (match a with | .tmp t => pure (tmps.getD t undef) | .cell a t => do loadVar t (← asAddr (tmps.getD a undef)) : Sem Value)) acc : Sem (Array Value)).run C.P w = .ok (acc ++ cs.toArray) w
  | [], vs, h => by cases h; exact ⟨[], .nil, fun acc => by simp⟩
  | r :: rs, vs, h => by
    unfold aResL at h
    split at h
    · rename_i v vs' h1 h2
      cases h
      obtain ⟨c, hc, hv⟩ := res1_sound hf hr h1
      obtain ⟨cs, hvs, hrun⟩ := resL_sound hf hr rs vs' h2
      refine ⟨c :: cs, .cons hv hvs, fun acc => ?_⟩
      rw [List.foldlM_cons, Sem.run_bind, Sem.run_map, hc]
      simp only [Result.andThen_ok]
      rw [hrun]
      simp
    · cases h

theorem results_sound {C : Cfg} {B : Nat → Prop} {μ : List (Option Ent)} {fr : List Value} {σ : AHeap} {tmps : Array Value} {w : World} (hf : FrR C.ex μ fr tmps) (hr : HR C.ex B μ σ w) {fn : Func} {v : Value} (h : aResults C.P fn fr σ = some v) :
    ∃ c, (results fn tmps).run C.P w = .ok c w ∧ VR C.ex μ v c := by
  have main : ∀ vs, aResL C.P fr σ fn.results.toList = some vs → ∃ cs : List Value, VRs C.ex μ vs cs ∧ (results fn tmps).run C.P w = .ok (if h : cs.toArray.size = 1 then cs.toArray[0] else .tuple cs.toArray) w := by
    intro vs hvs
    obtain ⟨cs, h1, h2⟩ := resL_sound hf hr _ _ hvs
    refine ⟨cs, h1, ?_⟩
    unfold results
    rw [Sem.run_bind, Array.mapM_eq_foldlM, ← Array.foldlM_toList]
    have := h2 #[]
    rw [Array.empty_append] at this
    rw [show (fun (bs : Array Value) (a : ResultVar) => bs.push <$> (match a with | .tmp t => pure (tmps.getD t undef) | .cell a t => do loadVar t (← asAddr (tmps.getD a undef)) : Sem Value)) = _ from rfl] at this
    erw [this]
    rfl
  unfold aResults at h
  split at h
  · rename_i v' hl
    cases h
    obtain ⟨cs, h1, h2⟩ := main _ hl
    obtain ⟨c, rfl, hv⟩ := h1.one_of
    exact ⟨c, by rw [h2]; rfl, hv⟩
  · rename_i vs hne hl
    cases h
    obtain ⟨cs, h1, h2⟩ := main _ hl
    refine ⟨.tuple cs.toArray, ?_, VRs.toTuple' h1⟩
    rw [h2, dif_neg]
    intro hsz
    have : vs.length = 1 := by rw [h1.1]; simpa using hsz
    match vs, this with
    | [x], _ => exact hne x rfl
  · cases h

end Go.Lk
end

section
/- Functions: the contract out of the reckoning. -/
namespace Go.Lk
set_option linter.unusedSimpArgs false
set_option linter.unusedVariables false

/-- A function's body, reckoned. -/
def DFn (C : Cfg) (n : Nat) (fn : Func) (args : List Value) (σ : AHeap) : Option (Value × AHeap) :=
  match fn.body with
  | some body =>
    match DC C n body (args ++ List.replicate (fn.ntmps - args.length) undef) σ with
    | some (.normal, fr, σ1) => match aResults C.P fn fr σ1 with | some v => some (v, σ1) | none => none
    | some (.ret, fr, σ1) => match aResults C.P fn fr σ1 with | some v => some (v, σ1) | none => none
    | _ => none
  | none => none

/-- New names: those below n0 stay; then a list; the others lead nowhere. -/
def mkR (n0 : Nat) (l : List Nat) (big : Nat) (b : Nat) : Nat :=
  if b < n0 then b else match l[b - n0]? with | some x => x | none => b + big

theorem CallR.of_sim {C : Cfg} (hC : C.Ok) {f : FuncId} {fn : Func} {body : Code} {args : List Value} {σ σ1 σ' : AHeap} {e : Exit} {fr1 : List Value} {v v1 : Value} {r : Nat → Nat}
    (hf : C.P.funcs[f]? = some fn) (hb : fn.body = some body) (hnm : (fn.name == "runtime.NumGoroutine") = false)
    (hsim : Stood C.ex σ → Sim C σ.length body (args ++ List.replicate (fn.ntmps - args.length) undef) σ e fr1 σ1) (he : e = .normal ∨ e = .ret)
    (hres : aResults C.P fn fr1 σ1 = some v1) (hv : v1 = renV r 3 v) (hemb : Emb σ r σ' σ1) : CallR C.P C.ex f args σ v σ' := by
  intro B μ w cargs hr hargs
  have hst : Stood C.ex σ := ⟨B, μ, w, hr⟩
  have hcf : (callFunc f cargs).run C.P w = .ok (.enter f cargs) w := by
    have hnm' : ¬ fn.name = "runtime.NumGoroutine" := by simpa using hnm
    simp [callFunc, hf, hnm', hb]
  unfold CallsTo
  rw [hcf]
  refine calls_of_wp hf hb ?_
  have hfr : FrR C.ex μ (args ++ List.replicate (fn.ntmps - args.length) undef) (cargs ++ Array.replicate (fn.ntmps - cargs.size) undef) := by
    have hl : args.length = cargs.size := by have := hargs.1; simpa using this
    have h1 : VRs C.ex μ (args ++ List.replicate (fn.ntmps - args.length) undef) (cargs ++ Array.replicate (fn.ntmps - cargs.size) undef).toList := by
      rw [Array.toList_append, Array.toList_replicate, ← hl]
      exact hargs.append (VRs.replicate _ VR.undef)
    refine ⟨by simpa using h1.1, fun i a ha => ?_⟩
    obtain ⟨c, hc, hv⟩ := h1.2 i a ha
    exact ⟨c, by rw [Array.getElem?_toList] at hc; exact hc, .inr hv⟩
  refine hsim hst B μ _ [] w _ hfr hr ?_
  intro μ1 tmps' w' q1 q2 q3 q4
  obtain ⟨c, hc, hvc⟩ := results_sound q1 q2 hres
  have hle := hemb.le
  have hpost : ∃ v2, (results fn tmps').run C.P w' = .ok v2 w' ∧ ∃ v3, Ending.returned v2 = Ending.returned v3 ∧ ∃ μ', VR C.ex μ' v v3 ∧ HR C.ex B μ' σ' w' ∧ Ext μ μ' ∧ Blw B w w' := by
    refine ⟨c, hc, c, rfl, renM μ1 r σ'.length, ?_, hemb.heap q2 hst, ?_, q4⟩
    · rw [hv] at hvc
      exact VR.ren (hemb.back q2) 3 _ _ hvc
    · intro b hb
      have hb' : b < σ.length := by rw [← hr.len]; exact hb
      rw [renM_get (by omega), hemb.fix b hb', q3 b hb', List.getElem?_eq_getElem hb]
      rfl
  rcases he with rfl | rfl
  · exact ⟨rfl, hpost⟩
  · exact ⟨rfl, hpost⟩

theorem mkR_fix {n0 : Nat} {l : List Nat} {big b : Nat} (h : b < n0) : mkR n0 l big b = b := by unfold mkR; rw [if_pos h]

theorem emb_same (σ g : AHeap) : Emb σ (mkR σ.length [] (σ ++ g).length) σ (σ ++ g) := by
  refine ⟨Nat.le_refl _, fun b hb => ?_, fun b hb => mkR_fix hb, fun b b' o o' h1 h2 _ _ h => ?_, fun b o h1 _ => .inl ⟨lt_of_some h1, h1, ?_⟩⟩
  · unfold mkR
    rw [if_neg (by omega)]
    simp
  · rw [mkR_fix (lt_of_some h1), mkR_fix (lt_of_some h2)] at h; exact h
  · rw [List.getElem?_append_left (lt_of_some h1)]; exact h1

/-- Its value bears no names. -/
def inert (v : Value) : Prop := ∀ r, renV r 3 v = v

theorem CallR.of_sim_pure {C : Cfg} (hC : C.Ok) {f : FuncId} {fn : Func} {body : Code} {args : List Value} {σ g : AHeap} {e : Exit} {fr1 : List Value} {v : Value}
    (hf : C.P.funcs[f]? = some fn) (hb : fn.body = some body) (hnm : (fn.name == "runtime.NumGoroutine") = false)
    (hsim : Stood C.ex σ → Sim C σ.length body (args ++ List.replicate (fn.ntmps - args.length) undef) σ e fr1 (σ ++ g)) (he : e = .normal ∨ e = .ret)
    (hres : aResults C.P fn fr1 (σ ++ g) = some v) (hv : inert v) : CallR C.P C.ex f args σ v σ :=
  CallR.of_sim hC hf hb hnm hsim he hres (hv _).symm (emb_same σ g)

theorem DFn_sim {C : Cfg} (hC : C.Ok) {n : Nat} {fn : Func} {body : Code} {args : List Value} {σ σ1 : AHeap} {v : Value} (hb : fn.body = some body) (hok : codeOk C body = true) (h : DFn C n fn args σ = some (v, σ1)) :
    ∃ e fr1, Sim C σ.length body (args ++ List.replicate (fn.ntmps - args.length) undef) σ e fr1 σ1 ∧ (e = .normal ∨ e = .ret) ∧ aResults C.P fn fr1 σ1 = some v := by
  unfold DFn at h
  rw [hb] at h
  simp only at h
  split at h
  · rename_i fr σ2 hd
    split at h
    · rename_i v' hr; cases h; exact ⟨_, _, DC_sound hC n _ _ _ _ _ _ hok hd, .inl rfl, hr⟩
    · cases h
  · rename_i fr σ2 hd
    split at h
    · rename_i v' hr; cases h; exact ⟨_, _, DC_sound hC n _ _ _ _ _ _ hok hd, .inr rfl, hr⟩
    · cases h
  · cases h

/-- A pure function: its value out of the reckoning. -/
theorem CallR.of_fn {C : Cfg} (hC : C.Ok) {f : FuncId} {fn : Func} {args : List Value} {σ : AHeap} {v : Value} (n : Nat) (g : AHeap)
    (hf : C.P.funcs[f]? = some fn) (hok : (match fn.body with | some b => codeOk C b | none => false) = true) (hnm : (fn.name == "runtime.NumGoroutine") = false)
    (h : DFn C n fn args σ = some (v, σ ++ g)) (hv : inert v) : CallR C.P C.ex f args σ v σ := by
  cases hb : fn.body with
  | none => rw [hb] at hok; cases hok
  | some body =>
    rw [hb] at hok
    obtain ⟨e, fr1, h1, h2, h3⟩ := DFn_sim hC hb hok h
    exact CallR.of_sim_pure hC hf hb hnm (fun _ => h1) h2 h3 hv

end Go.Lk
end
