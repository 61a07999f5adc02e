/- The region whose order is open: the theorem. -/
import Derived.Test.YtmomainjlncogaaLkDD
namespace Go.Lk
set_option linter.unusedSimpArgs false
set_option linter.unusedVariables false

/-- Must operation i be carried out ahead of j? -/
inductive Anc (ops : Array Oper) (i : Nat) : Nat → Prop
  | one {j : Nat} {o : Oper} {e : Edge} (ho : ops[j]? = some o) (he : e ∈ o.after) (hb : Region.binds .any e = true) (h : e.on = i) : Anc ops i j
  | step {j : Nat} {o : Oper} {e : Edge} (ho : ops[j]? = some o) (he : e ∈ o.after) (hb : Region.binds .any e = true) (h : Anc ops i e.on) : Anc ops i j

structure DrawOk (C : Cfg) (ops : Array Oper) (st : Nat → Bool) : Prop where
  low : ∀ j o e, ops[j]? = some o → e ∈ o.after → Region.binds .any e = true → e.on < j
  slot : ∀ i j oi oj t, ops[i]? = some oi → ops[j]? = some oj → i ≠ j → oi.dst = some t → (t ∈ looks ops oj ∨ oj.dst = some t) → Anc ops i j ∨ Anc ops j i
  two : ∀ i j oi oj, ops[i]? = some oi → ops[j]? = some oj → i ≠ j → cls C oi.op = 2 → cls C oj.op ≠ 0 → st j = false → Anc ops i j ∨ Anc ops j i
  ld : ∀ j oj, ops[j]? = some oj → st j = true → cls C oj.op = 1
  four : ∀ i j oi oj, ops[i]? = some oi → ops[j]? = some oj → cls C oi.op = 3 → cls C oj.op = 4 → Anc ops i j

theorem Anc.lt {C : Cfg} {ops : Array Oper} {st : Nat → Bool} (h : DrawOk C ops st) {i j : Nat} (ha : Anc ops i j) : i < j := by
  induction ha with
  | one ho he hb hi => rw [← hi]; exact h.low _ _ _ ho he hb
  | step ho he hb _ ih => exact Nat.lt_trans ih (h.low _ _ _ ho he hb)

theorem DrawOk.no {C : Cfg} {ops : Array Oper} {st : Nat → Bool} (h : DrawOk C ops st) {j : Nat} {oj : Oper} (hj : ops[j]? = some oj) (hc : cls C oj.op ≠ 1) : st j = false := by
  cases hs : st j
  · rfl
  · exact absurd (h.ld j oj hj hs) hc

/-- The run in the text's order, step by step. -/
structure Trace (C : Cfg) (ops : Array Oper) (fs : Nat → List Value) (ss : Nat → AHeap) (vs : Nat → Value) (wd : Nat → Bool) : Prop where
  w : ∀ i o, ops[i]? = some o → wantedA ops (fs i) o = some (wd i)
  f : ∀ i o, ops[i]? = some o → fs (i + 1) = putA (fs i) o.dst (vs i)
  yes : ∀ i o, ops[i]? = some o → wd i = true → aOp C (fs i) (ss i) o.op = some (vs i, ss (i + 1))
  no : ∀ i o, ops[i]? = some o → wd i = false → vs i = undef ∧ ss (i + 1) = ss i

theorem trace_of {C : Cfg} {ops : Array Oper} : ∀ (l : List Oper) (k : Nat) (fr fr' : List Value) (σ σ' : AHeap), (∀ j, l[j]? = ops[k + j]?) → runOps C ops l fr σ = some (fr', σ') →
    ∃ (fs : Nat → List Value) (ss : Nat → AHeap) (vs : Nat → Value) (wd : Nat → Bool), fs k = fr ∧ ss k = σ ∧ fs (k + l.length) = fr' ∧ ss (k + l.length) = σ' ∧
      (∀ i o, k ≤ i → ops[i]? = some o → wantedA ops (fs i) o = some (wd i) ∧ fs (i + 1) = putA (fs i) o.dst (vs i) ∧
        (wd i = true → aOp C (fs i) (ss i) o.op = some (vs i, ss (i + 1))) ∧ (wd i = false → vs i = undef ∧ ss (i + 1) = ss i)) := by
  intro l
  induction l with
  | nil =>
    intro k fr fr' σ σ' hl h
    cases h
    refine ⟨fun _ => fr, fun _ => σ, fun _ => undef, fun _ => false, rfl, rfl, rfl, rfl, fun i o hi ho => ?_⟩
    have := hl (i - k)
    rw [show k + (i - k) = i by omega, ho] at this
    simp at this
  | cons o l ih =>
    intro k fr fr' σ σ' hl h
    have h0 : ops[k]? = some o := by simpa using (hl 0).symm
    have hl' : ∀ j, l[j]? = ops[k + 1 + j]? := fun j => by have := hl (j + 1); simpa [Nat.add_assoc, Nat.add_comm 1 j] using this
    unfold runOps at h
    have main : ∀ (v : Value) (σ1 : AHeap) (b : Bool), wantedA ops fr o = some b → (b = true → aOp C fr σ o.op = some (v, σ1)) → (b = false → v = undef ∧ σ1 = σ) → runOps C ops l (putA fr o.dst v) σ1 = some (fr', σ') →
        ∃ (fs : Nat → List Value) (ss : Nat → AHeap) (vs : Nat → Value) (wd : Nat → Bool), fs k = fr ∧ ss k = σ ∧ fs (k + (o :: l).length) = fr' ∧ ss (k + (o :: l).length) = σ' ∧
        (∀ i o, k ≤ i → ops[i]? = some o → wantedA ops (fs i) o = some (wd i) ∧ fs (i + 1) = putA (fs i) o.dst (vs i) ∧
          (wd i = true → aOp C (fs i) (ss i) o.op = some (vs i, ss (i + 1))) ∧ (wd i = false → vs i = undef ∧ ss (i + 1) = ss i)) := by
      intro v σ1 b hb hy hn hrest
      obtain ⟨fs, ss, vs, wd, e1, e2, e3, e4, e5⟩ := ih (k + 1) _ fr' σ1 σ' hl' hrest
      refine ⟨fun i => if i = k then fr else fs i, fun i => if i = k then σ else ss i, fun i => if i = k then v else vs i, fun i => if i = k then b else wd i, by simp, by simp, ?_, ?_, ?_⟩
      · show (if k + (o :: l).length = k then fr else fs (k + (o :: l).length)) = fr'
        rw [if_neg (by simp), ← e3]; congr 1; simp; omega
      · show (if k + (o :: l).length = k then σ else ss (k + (o :: l).length)) = σ'
        rw [if_neg (by simp), ← e4]; congr 1; simp; omega
      · intro i o' hi ho'
        by_cases hik : i = k
        · subst hik
          rw [h0] at ho'; cases ho'
          simp only [if_true, if_neg (show ¬ i + 1 = i by omega), e1, e2]
          exact ⟨hb, trivial, hy, hn⟩
        · have := e5 i o' (by omega) ho'
          simp only [if_neg hik, if_neg (show ¬ i + 1 = k by omega)]
          exact this
    split at h
    · rename_i hw
      split at h
      · rename_i v σ1 hop
        exact main v σ1 true hw (fun _ => hop) (fun h => by cases h) h
      · cases h
    · rename_i hw
      exact main undef σ false hw (fun h => by cases h) (fun _ => ⟨rfl, rfl⟩) h
    · cases h

theorem trace_whole {C : Cfg} {ops : Array Oper} {fr fr' : List Value} {σ σ' : AHeap} (h : runOps C ops ops.toList fr σ = some (fr', σ')) :
    ∃ fs ss vs wd, fs 0 = fr ∧ ss 0 = σ ∧ fs ops.size = fr' ∧ ss ops.size = σ' ∧ Trace C ops fs ss vs wd := by
  obtain ⟨fs, ss, vs, wd, e1, e2, e3, e4, e5⟩ := trace_of ops.toList 0 fr fr' σ σ' (fun j => by simp) h
  refine ⟨fs, ss, vs, wd, e1, e2, by simpa using e3, by simpa using e4, ⟨fun i o h => (e5 i o (Nat.zero_le _) h).1, fun i o h => (e5 i o (Nat.zero_le _) h).2.1, fun i o h => (e5 i o (Nat.zero_le _) h).2.2.1, fun i o h => (e5 i o (Nat.zero_le _) h).2.2.2⟩⟩

/-! ### The frame after some of the operations -/
def fsF (vs : Nat → Value) (p : Nat → Bool) : Nat → List Oper → List Value → List Value
  | _, [], fr => fr
  | k, o :: l, fr => fsF vs p (k + 1) l (bif p k then putA fr o.dst (vs k) else fr)

theorem putA_length (fr : List Value) (d : Option Tmp) (v : Value) : (putA fr d v).length = fr.length := by cases d <;> simp [putA]
theorem fsF_length (vs : Nat → Value) (p : Nat → Bool) : ∀ (l : List Oper) (k : Nat) (fr : List Value), (fsF vs p k l fr).length = fr.length
  | [], _, _ => rfl
  | o :: l, k, fr => by
    unfold fsF
    rw [fsF_length vs p l]
    cases p k <;> simp [putA_length]
theorem putA_get_ne {fr : List Value} {d : Option Tmp} {v : Value} {t : Nat} (h : d ≠ some t) : (putA fr d v)[t]? = fr[t]? := by
  cases d with
  | none => rfl
  | some d =>
    simp only [putA]
    rw [List.getElem?_set, if_neg (fun e => h (by rw [e]))]

theorem fsF_congr (vs : Nat → Value) (p q : Nat → Bool) (t : Nat) : ∀ (l : List Oper) (k : Nat) (fr fr' : List Value), (∀ i o, l[i]? = some o → o.dst = some t → p (k + i) = q (k + i)) → fr[t]? = fr'[t]? → fr.length = fr'.length →
    (fsF vs p k l fr)[t]? = (fsF vs q k l fr')[t]?
  | [], k, fr, fr', _, h, _ => h
  | o :: l, k, fr, fr', hp, h, hl => by
    unfold fsF
    refine fsF_congr vs p q t l (k + 1) _ _ (fun i o' hi hd => ?_) ?_ ?_
    · have := hp (i + 1) o' (by simpa using hi) hd
      simpa [Nat.add_assoc, Nat.add_comm 1 i] using this
    · by_cases hd : o.dst = some t
      · have := hp 0 o rfl hd
        simp only [Nat.add_zero] at this
        rw [this]
        cases q k
        · exact h
        · simp only [cond_true, hd, putA]
          rw [List.getElem?_set, List.getElem?_set, hl, if_pos rfl, if_pos rfl]
      · have h1 : ∀ (b : Bool) (fr : List Value), (bif b then putA fr o.dst (vs k) else fr)[t]? = fr[t]? := fun b fr => by
          cases b
          · rfl
          · exact putA_get_ne hd
        rw [h1, h1]; exact h
    · cases p k <;> cases q k <;> simp [putA_length, hl]

theorem fsF_none (vs : Nat → Value) (p : Nat → Bool) : ∀ (l : List Oper) (k : Nat) (fr : List Value), (∀ i, k ≤ i → i < k + l.length → p i = false) → fsF vs p k l fr = fr
  | [], _, _, _ => rfl
  | o :: l, k, fr, h => by
    unfold fsF
    rw [h k (Nat.le_refl _) (by simp)]
    exact fsF_none vs p l (k + 1) fr (fun i h1 h2 => h i (by omega) (by simp; omega))

theorem fsF_prefix {C : Cfg} {ops : Array Oper} {fs : Nat → List Value} {ss : Nat → AHeap} {vs : Nat → Value} {wd : Nat → Bool} (ht : Trace C ops fs ss vs wd) (j : Nat) :
    ∀ (l : List Oper) (k : Nat), (∀ i, l[i]? = ops[k + i]?) → k ≤ j → j ≤ k + l.length → fsF vs (fun i => decide (i < j)) k l (fs k) = fs j
  | [], k, _, h1, h2 => by
    have : k = j := by simp at h2; omega
    subst this; rfl
  | o :: l, k, hl, h1, h2 => by
    have h0 : ops[k]? = some o := by simpa using (hl 0).symm
    have hl' : ∀ j, l[j]? = ops[k + 1 + j]? := fun j => by have := hl (j + 1); simpa [Nat.add_assoc, Nat.add_comm 1 j] using this
    by_cases hk : k < j
    · unfold fsF
      simp only [hk, decide_true, cond_true]
      rw [← ht.f k o h0]
      exact fsF_prefix ht j l (k + 1) hl' (by omega) (by simp at h2; omega)
    · have : k = j := by omega
      subst this
      exact fsF_none vs _ _ k _ (fun i h1 _ => by simp; omega)

/-- The last that writes a slot. -/
theorem fsF_last (vs : Nat → Value) (p : Nat → Bool) (t j : Nat) : ∀ (l : List Oper) (k : Nat) (fr : List Value), k ≤ j → (∀ o, l[j - k]? = some o → o.dst = some t) → j < k + l.length → p j = true →
    (∀ i o, j < i → l[i - k]? = some o → o.dst = some t → p i = false) → t < fr.length → (fsF vs p k l fr)[t]? = some (vs j)
  | [], k, fr, h1, _, h2, _, _, _ => by simp at h2; omega
  | o :: l, k, fr, h1, hd, h2, hp, hno, ht => by
    by_cases hk : k = j
    · subst hk
      have hdst : o.dst = some t := hd o (by simp)
      unfold fsF
      rw [hp]
      simp only [cond_true, hdst, putA]
      rw [fsF_congr vs p (fun _ => false) t l (k + 1) _ (fr.set t (vs k)) (fun i o' hi hd' => by
        have := hno (k + 1 + i) o' (by omega) (by rw [show k + 1 + i - k = i + 1 by omega]; simpa using hi) hd'
        exact this) rfl rfl]
      rw [fsF_none _ _ _ _ _ (fun _ _ _ => rfl), List.getElem?_set, if_pos rfl, if_pos ht]
    · unfold fsF
      refine fsF_last vs p t j l (k + 1) _ (by omega) (fun o' ho' => hd o' (by rw [show j - k = (j - (k + 1)) + 1 by omega]; simpa using ho')) (by simp at h2; omega) hp
        (fun i o' hi ho' hd' => hno i o' hi (by rw [show i - k = (i - (k + 1)) + 1 by omega]; simpa using ho') hd') ?_
      cases p k <;> simp [putA_length, ht]

end Go.Lk
