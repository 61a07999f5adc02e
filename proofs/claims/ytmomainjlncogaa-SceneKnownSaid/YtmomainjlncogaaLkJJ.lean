/- What code does: the rules. -/
import Derived.Test.YtmomainjlncogaaLkII
import Derived.LoopN
namespace Go.Lk
set_option linter.unusedSimpArgs false
set_option linter.unusedVariables false

section
variable {C : Cfg}

theorem runOps_mono (hC : C.Ok) {ops : Array Oper} : ∀ (l : List Oper) (fr fr' : List Value) (σ σ' : AHeap), runOps C ops l fr σ = some (fr', σ') → σ.length ≤ σ'.length
  | [], fr, fr', σ, σ', h => by cases h; exact Nat.le_refl _
  | o :: l, fr, fr', σ, σ', h => by
    unfold runOps at h
    split at h
    · split at h
      · rename_i v σ1 hop
        exact Nat.le_trans (aOp_mono hC hop) (runOps_mono hC l _ _ _ _ h)
      · cases h
    · exact runOps_mono hC l _ _ _ _ h
    · cases h

theorem Sim.le {n0 n1 : Nat} {c : Code} {fr fr' : List Value} {σ σ' : AHeap} {e : Exit} (h : Sim C n1 c fr σ e fr' σ') (hn : n0 ≤ n1) : Sim C n0 c fr σ e fr' σ' := by
  intro B μ tmps defers w Q hf hr hQ
  exact h B μ tmps defers w Q hf hr (fun μ' tmps' w' q1 q2 q3 q4 => hQ μ' tmps' w' q1 q2 (fun b hb => q3 b (by omega)) q4)

/-- A region. -/
theorem Sim.draw (hC : C.Ok) {id : Nat} {ops : Array Oper} {st : Nat → Bool} {fr fr' : List Value} {σ σ' : AHeap} (hd : DrawOk C ops st) {fs : Nat → List Value} {ss : Nat → AHeap} {vs : Nat → Value} {wd : Nat → Bool}
    (e1 : fs 0 = fr) (e2 : ss 0 = σ) (e3 : fs ops.size = fr') (e4 : ss ops.size = σ') (ht : Trace C ops fs ss vs wd) (hsd : Steady C ops fs ss st) :
    Sim C σ.length (.region id ops true) fr σ .normal fr' σ' := by
  intro B μ tmps defers w Q hf hr hQ
  refine wp_region_any hC.mix ?_
  -- the first stop
  obtain ⟨s, hs2, hs3, hs4⟩ : ∃ s', s' ≤ ops.size ∧ (∀ i, i < s' → kd C ops wd i ≠ 2) ∧ (s' = ops.size ∨ kd C ops wd s' = 2) := by
    have key : ∀ d, ∃ s', s' ≤ d ∧ (∀ i, i < s' → kd C ops wd i ≠ 2) ∧ (s' = d ∨ kd C ops wd s' = 2) := by
      intro d
      induction d with
      | zero => exact ⟨0, by omega, fun i h => by omega, .inl rfl⟩
      | succ d ih =>
        obtain ⟨s', g2, g3, g4⟩ := ih
        rcases g4 with g4 | g4
        · by_cases h : kd C ops wd s' = 2
          · exact ⟨s', by omega, g3, .inr h⟩
          · exact ⟨s' + 1, by omega, fun i h2 => by
              rcases Nat.lt_or_eq_of_le (Nat.le_of_lt_succ h2) with h' | h'
              · exact g3 i h'
              · rw [h']; exact h, .inl (by omega)⟩
        · exact ⟨s', by omega, g3, .inr g4⟩
    exact key ops.size
  obtain ⟨ext, he, hpos⟩ := ht.grow hC (a := 0) (s := s) (Nat.zero_le _) hs2 (fun i _ h2 => hs3 i h2)
  have hlen' : (ss s).length = σ.length + ext.length := by rw [he, e2]; simp
  have hfalse : ∀ i, (Array.replicate ops.size false).getD i false = false := by
    intro i
    by_cases hi : i < ops.size
    · simp [hi]
    · simp [hi]
  have hge : ∀ i, i ≤ s → σ.length ≤ (ss i).length := by
    intro i hi
    have := ht.mono hC i (by omega)
    rw [e2] at this; exact this
  refine draw_all (B := B) hC ht hsd hd (n0 := σ.length) (fun i hi => by have := ht.mono hC i hi; rw [e2] at this; exact this) (μ0 := μ ++ List.replicate ext.length none) (w0 := w) (defers := defers) ?_
    ops.size (Array.replicate ops.size false) ⟨tmps, defers⟩ { w with drawn := w.drawn + 1 } (μ ++ List.replicate ext.length none) (by simp) (fun i j _ hj => absurd hj (by show ¬ (Array.replicate ops.size false).getD j false = true; rw [hfalse j]; decide)) ?_ ?_ rfl (Sub.refl _) (fun _ _ => rfl) (Blw.drawn _ _)
  · intro a' w' μ' q1 q2 q3 q4 q5 q6
    obtain ⟨tmps', d'⟩ := a'
    cases q3
    refine hQ μ' tmps' w' (by rw [← e3]; exact q1) (by rw [← e4]; exact q2) (fun b hb => ?_) q6
    rw [q5 b hb, List.getElem?_append_left (by rw [hr.len]; exact hb)]
  · have := List.countP_le_length (p := fun i => !(Array.replicate ops.size false).getD i false) (l := List.range ops.size)
    simpa using this
  · refine ⟨⟨s, σ ++ List.replicate ext.length .dead, (hr.of_heap (w' := { w with drawn := w.drawn + 1 }) rfl).dead _, ?_, ?_⟩, ?_⟩
    · refine ⟨hs2, ?_, fun i hi h2 => absurd h2 (hs3 i hi), by simp [hlen'], ?_, ?_⟩
      · rcases hs4 with h | h
        · exact .inl h
        · exact .inr ⟨h, hfalse s⟩
      · intro i hi hk3 _
        have h1 := hge i (by omega)
        have h2' : (ss i).length < (ss s).length := by
          obtain ⟨m, row, _, hrow⟩ := ht.made hk3
          obtain ⟨e, he', _⟩ := ht.grow hC (a := i + 1) (s := s) (by omega) hs2 (fun m g1 g2 => hs3 m g2)
          rw [he', hrow]; simp
        rw [List.getElem?_append_right h1, List.getElem?_replicate, if_pos (by omega)]
      · intro b hb
        rcases Nat.lt_or_ge b σ.length with h | h
        · rw [List.getElem?_append_left h, he, e2, List.getElem?_append_left h]
        · rcases Nat.lt_or_ge b (ss s).length with h' | h'
          · obtain ⟨i, g1, g2, g3, g4⟩ := hpos b (by rw [e2]; exact h) h'
            exact absurd g4 (hb i g2 g3 (hfalse i))
          · rw [List.getElem?_eq_none h', List.getElem?_eq_none (by simp; omega)]
    · intro i hi hk3 _ e
      have h1 := hge i (by omega)
      rw [List.getElem?_append_right (by rw [hr.len]; exact h1), List.getElem?_replicate]
      split <;> simp
    · rw [fsF_none _ _ _ _ _ (fun i _ _ => hfalse i), e1]
      exact hf.mono (Sub.holes _ _)


theorem Sim.region (hC : C.Ok) {id : Nat} {ops : Array Oper} {draw : Bool} {fr fr' : List Value} {σ σ' : AHeap} (hok : codeOk C (.region id ops draw) = true) (h : runOps C ops ops.toList fr σ = some (fr', σ')) :
    Sim C σ.length (.region id ops draw) fr σ .normal fr' σ' := by
  cases draw with
  | false =>
    intro B μ tmps defers w Q hf hr hQ
    refine wp_region ?_
    have := runOps_sound (B := B) hC (Q := Q) ops.toList 0 fr fr' σ σ' μ ⟨tmps, defers⟩ w (fun j => by simp) h hf hr (fun μ' tmps' w' q1 q2 q3 q4 => hQ μ' tmps' w' q1 q2 (fun b hb => q3 b (by rw [hr.len]; exact hb)) q4)
    rw [List.range_eq_range']
    simpa using this
  | true =>
    obtain ⟨fs, ss, vs, wd, e1, e2, e3, e4, ht⟩ := trace_whole h
    exact Sim.draw hC (drawOk_spec (C := C) (ops := ops) (by simpa [codeOk] using hok)) e1 e2 e3 e4 ht Steady.none

theorem Sim.seq {n0 : Nat} {a b : Code} {fr fr1 fr2 : List Value} {σ σ1 σ2 : AHeap} {e : Exit} (h1 : Sim C n0 a fr σ .normal fr1 σ1) (h2 : Sim C n0 b fr1 σ1 e fr2 σ2) : Sim C n0 (.seq a b) fr σ e fr2 σ2 := by
  intro B μ tmps defers w Q hf hr hQ
  refine wp_seq (h1 B μ tmps defers w _ hf hr ?_)
  intro μ' tmps' w' q1 q2 q3 q4
  refine h2 B μ' tmps' defers w' Q q1 q2 ?_
  intro μ'' tmps'' w'' r1 r2 r3 r4
  exact hQ μ'' tmps'' w'' r1 r2 (fun b hb => (r3 b hb).trans (q3 b hb)) (q4.trans r4)

def Exit.isN : Exit → Bool
  | .normal => true
  | _ => false
theorem then_ne {next : Act → World → Prop} {Q : Exit → Act → World → Prop} {e : Exit} {a : Act} {w : World} (he : Lk.Exit.isN e = false) (h : Q e a w) : Exit.then next Q e a w := by
  cases e <;> first | exact h | cases he

theorem Sim.seq_out {n0 : Nat} {a b : Code} {fr fr1 : List Value} {σ σ1 : AHeap} {e : Exit} (h1 : Sim C n0 a fr σ e fr1 σ1) (he : Lk.Exit.isN e = false) : Sim C n0 (.seq a b) fr σ e fr1 σ1 := by
  intro B μ tmps defers w Q hf hr hQ
  refine wp_seq (h1 B μ tmps defers w _ hf hr ?_)
  intro μ' tmps' w' q1 q2 q3 q4
  exact then_ne he (hQ μ' tmps' w' q1 q2 q3 q4)

theorem Sim.skip {n0 : Nat} {fr : List Value} {σ : AHeap} : Sim C n0 .skip fr σ .normal fr σ := by
  intro B μ tmps defers w Q hf hr hQ
  exact wp_skip (hQ μ tmps w hf hr (fun _ _ => rfl) (Blw.refl _ _))
theorem Sim.label {n0 : Nat} {l : Nat} {fr : List Value} {σ : AHeap} : Sim C n0 (.label l) fr σ .normal fr σ := by
  intro B μ tmps defers w Q hf hr hQ
  exact wp_label (hQ μ tmps w hf hr (fun _ _ => rfl) (Blw.refl _ _))
theorem Sim.ret {n0 : Nat} {fr : List Value} {σ : AHeap} : Sim C n0 .ret fr σ .ret fr σ := by
  intro B μ tmps defers w Q hf hr hQ
  exact wp_ret (hQ μ tmps w hf hr (fun _ _ => rfl) (Blw.refl _ _))
theorem Sim.exit {n0 : Nat} {id : Nat} {fr : List Value} {σ : AHeap} : Sim C n0 (.exit id) fr σ (.exit id) fr σ := by
  intro B μ tmps defers w Q hf hr hQ
  exact wp_exit (hQ μ tmps w hf hr (fun _ _ => rfl) (Blw.refl _ _))
theorem Sim.cond {n0 : Nat} {c : Operand} {x y : Code} {t : Bool} {fr fr' : List Value} {σ σ' : AHeap} {e : Exit} (hc : aev fr c = some (.bool t)) (h : Sim C n0 (bif t then x else y) fr σ e fr' σ') : Sim C n0 (.cond c x y) fr σ e fr' σ' := by
  intro B μ tmps defers w Q hf hr hQ
  have hv := (aev_sound (a := ⟨tmps, defers⟩) hf hc).bool_of
  refine wp_cond hv ?_
  cases t
  · exact h B μ tmps defers w Q hf hr hQ
  · exact h B μ tmps defers w Q hf hr hQ

def outOf (id : Nat) : Exit → Exit
  | .exit id' => if id' = id then .normal else .exit id'
  | e => e
theorem inBlock_of {id : Nat} {Q : Exit → Act → World → Prop} {e : Exit} {a : Act} {w : World} (h : Q (outOf id e) a w) : Exit.inBlock id Q e a w := by
  cases e <;> first | exact h | skip
  rename_i id'
  unfold outOf at h
  unfold Exit.inBlock
  by_cases hid : id' = id
  · simp only [hid, if_true] at h ⊢; exact h
  · simp only [hid, if_false] at h ⊢; exact h
theorem Sim.block {n0 : Nat} {id : Nat} {c : Code} {fr fr' : List Value} {σ σ' : AHeap} {e : Exit} (h : Sim C n0 c fr σ e fr' σ') : Sim C n0 (.block id c) fr σ (outOf id e) fr' σ' := by
  intro B μ tmps defers w Q hf hr hQ
  refine wp_block (h B μ tmps defers w _ hf hr ?_)
  intro μ' tmps' w' q1 q2 q3 q4
  exact inBlock_of (hQ μ' tmps' w' q1 q2 q3 q4)
def Exit.isG : Exit → Bool
  | .goto _ => true
  | _ => false
theorem Sim.scope {n0 : Nat} {c : Code} {fr fr' : List Value} {σ σ' : AHeap} {e : Exit} (h : Sim C n0 c fr σ e fr' σ') (hg : Lk.Exit.isG e = false) : Sim C n0 (.scope c) fr σ e fr' σ' := by
  intro B μ tmps defers w Q hf hr hQ
  refine wp_scope_straight (h B μ tmps defers w _ hf hr ?_)
  intro μ' tmps' w' q1 q2 q3 q4
  have := hQ μ' tmps' w' q1 q2 q3 q4
  cases e <;> first | exact this | cases hg

/-- A LOOP: N rounds that go on, and one that ends it. -/
theorem Sim.loop {n0 : Nat} {c : Code} (S : Nat → List Value × AHeap) (N : Nat) {fr' : List Value} {σ' : AHeap} {e : Exit} (hr : ∀ k, k < N → Sim C n0 c (S k).1 (S k).2 .normal (S (k + 1)).1 (S (k + 1)).2)
    (hl : Sim C n0 c (S N).1 (S N).2 e fr' σ') (he : Lk.Exit.isN e = false) : Sim C n0 (.loop c) (S 0).1 (S 0).2 e fr' σ' := by
  intro B μ tmps defers w Q hf hh hQ
  refine wp_loop_rounds (N + 1) ?_
  have key : ∀ (d k : Nat), k + d = N → ∀ (μ' : List (Option Ent)) (tmps' : Array Value) (w' : World), FrR C.ex μ' (S k).1 tmps' → HR C.ex B μ' (S k).2 w' → (∀ b, b < n0 → μ'[b]? = μ[b]?) → Blw B w w' →
      Code.rounds C.P c Q (d + 1) ⟨tmps', defers⟩ w' := by
    intro d
    induction d with
    | zero =>
      intro k hk μ' tmps' w' q1 q2 q3 q4
      have : k = N := by omega
      subst this
      rw [rounds_succ]
      refine hl B μ' tmps' defers w' _ q1 q2 ?_
      intro μ'' tmps'' w'' r1 r2 r3 r4
      exact then_ne he (hQ μ'' tmps'' w'' r1 r2 (fun b hb => (r3 b hb).trans (q3 b hb)) (q4.trans r4))
    | succ d ih =>
      intro k hk μ' tmps' w' q1 q2 q3 q4
      rw [rounds_succ]
      refine hr k (by omega) B μ' tmps' defers w' _ q1 q2 ?_
      intro μ'' tmps'' w'' r1 r2 r3 r4
      exact ih (k + 1) (by omega) μ'' tmps'' w'' r1 r2 (fun b hb => (r3 b hb).trans (q3 b hb)) (q4.trans r4)
  exact key N 0 (by omega) μ tmps w hf hh (fun _ _ => rfl) (Blw.refl _ _)

end
end Go.Lk
