import Derived.Test.YtmomainjlncogaaBa1
import Derived.Scope
import Derived.LoopN
section
/- The region whose order is open: the theorem. -/
namespace Go.Lk
set_option linter.unusedSimpArgs false
set_option linter.unusedVariables false

/-- Must operation i be carried out ahead of j? -/
inductive Anc (ops : Array Oper) (i : Nat) : Nat → Prop
  | one {j : Nat} {o : Oper} {e : Edge} (ho : ops[j]? = some o) (he : e ∈ o.after) (hb : Region.binds .any e = true) (h : e.on = i) : Anc ops i j
  | step {j : Nat} {o : Oper} {e : Edge} (ho : ops[j]? = some o) (he : e ∈ o.after) (hb : Region.binds .any e = true) (h : Anc ops i e.on) : Anc ops i j

structure DrawOk (C : Cfg) (ops : Array Oper) (st : Nat → Bool) : Prop where
  low : ∀ j o e, ops[j]? = some o → e ∈ o.after → Region.binds .any e = true → e.on < j
  slot : ∀ i j oi oj t, ops[i]? = some oi → ops[j]? = some oj → i ≠ j → oi.dst = some t → (t ∈ looks ops oj ∨ oj.dst = some t) → Anc ops i j ∨ Anc ops j i
  two : ∀ i j oi oj, ops[i]? = some oi → ops[j]? = some oj → i ≠ j → cls C oi.op = 2 → cls C oj.op ≠ 0 → st j = false → Anc ops i j ∨ Anc ops j i
  ld : ∀ j oj, ops[j]? = some oj → st j = true → cls C oj.op = 1
  four : ∀ i j oi oj, ops[i]? = some oi → ops[j]? = some oj → cls C oi.op = 3 → cls C oj.op = 4 → Anc ops i j

theorem Anc.lt {C : Cfg} {ops : Array Oper} {st : Nat → Bool} (h : DrawOk C ops st) {i j : Nat} (ha : Anc ops i j) : i < j := by
  induction ha with
  | one ho he hb hi => rw [← hi]; exact h.low _ _ _ ho he hb
  | step ho he hb _ ih => exact Nat.lt_trans ih (h.low _ _ _ ho he hb)

theorem DrawOk.no {C : Cfg} {ops : Array Oper} {st : Nat → Bool} (h : DrawOk C ops st) {j : Nat} {oj : Oper} (hj : ops[j]? = some oj) (hc : cls C oj.op ≠ 1) : st j = false := by
  cases hs : st j
  · rfl
  · exact absurd (h.ld j oj hj hs) hc

/-- The run in the text's order, step by step. -/
structure Trace (C : Cfg) (ops : Array Oper) (fs : Nat → List Value) (ss : Nat → AHeap) (vs : Nat → Value) (wd : Nat → Bool) : Prop where
  w : ∀ i o, ops[i]? = some o → wantedA ops (fs i) o = some (wd i)
  f : ∀ i o, ops[i]? = some o → fs (i + 1) = putA (fs i) o.dst (vs i)
  yes : ∀ i o, ops[i]? = some o → wd i = true → aOp C (fs i) (ss i) o.op = some (vs i, ss (i + 1))
  no : ∀ i o, ops[i]? = some o → wd i = false → vs i = undef ∧ ss (i + 1) = ss i

theorem trace_of {C : Cfg} {ops : Array Oper} : ∀ (l : List Oper) (k : Nat) (fr fr' : List Value) (σ σ' : AHeap), (∀ j, l[j]? = ops[k + j]?) → runOps C ops l fr σ = some (fr', σ') →
    ∃ (fs : Nat → List Value) (ss : Nat → AHeap) (vs : Nat → Value) (wd : Nat → Bool), fs k = fr ∧ ss k = σ ∧ fs (k + l.length) = fr' ∧ ss (k + l.length) = σ' ∧
      (∀ i o, k ≤ i → ops[i]? = some o → wantedA ops (fs i) o = some (wd i) ∧ fs (i + 1) = putA (fs i) o.dst (vs i) ∧
        (wd i = true → aOp C (fs i) (ss i) o.op = some (vs i, ss (i + 1))) ∧ (wd i = false → vs i = undef ∧ ss (i + 1) = ss i)) := by
  intro l
  induction l with
  | nil =>
    intro k fr fr' σ σ' hl h
    cases h
    refine ⟨fun _ => fr, fun _ => σ, fun _ => undef, fun _ => false, rfl, rfl, rfl, rfl, fun i o hi ho => ?_⟩
    have := hl (i - k)
    rw [show k + (i - k) = i by omega, ho] at this
    simp at this
  | cons o l ih =>
    intro k fr fr' σ σ' hl h
    have h0 : ops[k]? = some o := by simpa using (hl 0).symm
    have hl' : ∀ j, l[j]? = ops[k + 1 + j]? := fun j => by have := hl (j + 1); simpa [Nat.add_assoc, Nat.add_comm 1 j] using this
    unfold runOps at h
    have main : ∀ (v : Value) (σ1 : AHeap) (b : Bool), wantedA ops fr o = some b → (b = true → aOp C fr σ o.op = some (v, σ1)) → (b = false → v = undef ∧ σ1 = σ) → runOps C ops l (putA fr o.dst v) σ1 = some (fr', σ') →
        ∃ (fs : Nat → List Value) (ss : Nat → AHeap) (vs : Nat → Value) (wd : Nat → Bool), fs k = fr ∧ ss k = σ ∧ fs (k + (o :: l).length) = fr' ∧ ss (k + (o :: l).length) = σ' ∧
        (∀ i o, k ≤ i → ops[i]? = some o → wantedA ops (fs i) o = some (wd i) ∧ fs (i + 1) = putA (fs i) o.dst (vs i) ∧
          (wd i = true → aOp C (fs i) (ss i) o.op = some (vs i, ss (i + 1))) ∧ (wd i = false → vs i = undef ∧ ss (i + 1) = ss i)) := by
      intro v σ1 b hb hy hn hrest
      obtain ⟨fs, ss, vs, wd, e1, e2, e3, e4, e5⟩ := ih (k + 1) _ fr' σ1 σ' hl' hrest
      refine ⟨fun i => if i = k then fr else fs i, fun i => if i = k then σ else ss i, fun i => if i = k then v else vs i, fun i => if i = k then b else wd i, by simp, by simp, ?_, ?_, ?_⟩
      · show (if k + (o :: l).length = k then fr else fs (k + (o :: l).length)) = fr'
        rw [if_neg (by simp), ← e3]; congr 1; simp; omega
      · show (if k + (o :: l).length = k then σ else ss (k + (o :: l).length)) = σ'
        rw [if_neg (by simp), ← e4]; congr 1; simp; omega
      · intro i o' hi ho'
        by_cases hik : i = k
        · subst hik
          rw [h0] at ho'; cases ho'
          simp only [if_true, if_neg (show ¬ i + 1 = i by omega), e1, e2]
          exact ⟨hb, trivial, hy, hn⟩
        · have := e5 i o' (by omega) ho'
          simp only [if_neg hik, if_neg (show ¬ i + 1 = k by omega)]
          exact this
    split at h
    · rename_i hw
      split at h
      · rename_i v σ1 hop
        exact main v σ1 true hw (fun _ => hop) (fun h => by cases h) h
      · cases h
    · rename_i hw
      exact main undef σ false hw (fun h => by cases h) (fun _ => ⟨rfl, rfl⟩) h
    · cases h

theorem trace_whole {C : Cfg} {ops : Array Oper} {fr fr' : List Value} {σ σ' : AHeap} (h : runOps C ops ops.toList fr σ = some (fr', σ')) :
    ∃ fs ss vs wd, fs 0 = fr ∧ ss 0 = σ ∧ fs ops.size = fr' ∧ ss ops.size = σ' ∧ Trace C ops fs ss vs wd := by
  obtain ⟨fs, ss, vs, wd, e1, e2, e3, e4, e5⟩ := trace_of ops.toList 0 fr fr' σ σ' (fun j => by simp) h
  refine ⟨fs, ss, vs, wd, e1, e2, by simpa using e3, by simpa using e4, ⟨fun i o h => (e5 i o (Nat.zero_le _) h).1, fun i o h => (e5 i o (Nat.zero_le _) h).2.1, fun i o h => (e5 i o (Nat.zero_le _) h).2.2.1, fun i o h => (e5 i o (Nat.zero_le _) h).2.2.2⟩⟩

/-! ### The frame after some of the operations -/
def fsF (vs : Nat → Value) (p : Nat → Bool) : Nat → List Oper → List Value → List Value
  | _, [], fr => fr
  | k, o :: l, fr => fsF vs p (k + 1) l (bif p k then putA fr o.dst (vs k) else fr)

theorem putA_length (fr : List Value) (d : Option Tmp) (v : Value) : (putA fr d v).length = fr.length := by cases d <;> simp [putA]
theorem fsF_length (vs : Nat → Value) (p : Nat → Bool) : ∀ (l : List Oper) (k : Nat) (fr : List Value), (fsF vs p k l fr).length = fr.length
  | [], _, _ => rfl
  | o :: l, k, fr => by
    unfold fsF
    rw [fsF_length vs p l]
    cases p k <;> simp [putA_length]
theorem putA_get_ne {fr : List Value} {d : Option Tmp} {v : Value} {t : Nat} (h : d ≠ some t) : (putA fr d v)[t]? = fr[t]? := by
  cases d with
  | none => rfl
  | some d =>
    simp only [putA]
    rw [List.getElem?_set, if_neg (fun e => h (by rw [e]))]

theorem fsF_congr (vs : Nat → Value) (p q : Nat → Bool) (t : Nat) : ∀ (l : List Oper) (k : Nat) (fr fr' : List Value), (∀ i o, l[i]? = some o → o.dst = some t → p (k + i) = q (k + i)) → fr[t]? = fr'[t]? → fr.length = fr'.length →
    (fsF vs p k l fr)[t]? = (fsF vs q k l fr')[t]?
  | [], k, fr, fr', _, h, _ => h
  | o :: l, k, fr, fr', hp, h, hl => by
    unfold fsF
    refine fsF_congr vs p q t l (k + 1) _ _ (fun i o' hi hd => ?_) ?_ ?_
    · have := hp (i + 1) o' (by simpa using hi) hd
      simpa [Nat.add_assoc, Nat.add_comm 1 i] using this
    · by_cases hd : o.dst = some t
      · have := hp 0 o rfl hd
        simp only [Nat.add_zero] at this
        rw [this]
        cases q k
        · exact h
        · simp only [cond_true, hd, putA]
          rw [List.getElem?_set, List.getElem?_set, hl, if_pos rfl, if_pos rfl]
      · have h1 : ∀ (b : Bool) (fr : List Value), (bif b then putA fr o.dst (vs k) else fr)[t]? = fr[t]? := fun b fr => by
          cases b
          · rfl
          · exact putA_get_ne hd
        rw [h1, h1]; exact h
    · cases p k <;> cases q k <;> simp [putA_length, hl]

theorem fsF_none (vs : Nat → Value) (p : Nat → Bool) : ∀ (l : List Oper) (k : Nat) (fr : List Value), (∀ i, k ≤ i → i < k + l.length → p i = false) → fsF vs p k l fr = fr
  | [], _, _, _ => rfl
  | o :: l, k, fr, h => by
    unfold fsF
    rw [h k (Nat.le_refl _) (by simp)]
    exact fsF_none vs p l (k + 1) fr (fun i h1 h2 => h i (by omega) (by simp; omega))

theorem fsF_prefix {C : Cfg} {ops : Array Oper} {fs : Nat → List Value} {ss : Nat → AHeap} {vs : Nat → Value} {wd : Nat → Bool} (ht : Trace C ops fs ss vs wd) (j : Nat) :
    ∀ (l : List Oper) (k : Nat), (∀ i, l[i]? = ops[k + i]?) → k ≤ j → j ≤ k + l.length → fsF vs (fun i => decide (i < j)) k l (fs k) = fs j
  | [], k, _, h1, h2 => by
    have : k = j := by simp at h2; omega
    subst this; rfl
  | o :: l, k, hl, h1, h2 => by
    have h0 : ops[k]? = some o := by simpa using (hl 0).symm
    have hl' : ∀ j, l[j]? = ops[k + 1 + j]? := fun j => by have := hl (j + 1); simpa [Nat.add_assoc, Nat.add_comm 1 j] using this
    by_cases hk : k < j
    · unfold fsF
      simp only [hk, decide_true, cond_true]
      rw [← ht.f k o h0]
      exact fsF_prefix ht j l (k + 1) hl' (by omega) (by simp at h2; omega)
    · have : k = j := by omega
      subst this
      exact fsF_none vs _ _ k _ (fun i h1 _ => by simp; omega)

/-- The last that writes a slot. -/
theorem fsF_last (vs : Nat → Value) (p : Nat → Bool) (t j : Nat) : ∀ (l : List Oper) (k : Nat) (fr : List Value), k ≤ j → (∀ o, l[j - k]? = some o → o.dst = some t) → j < k + l.length → p j = true →
    (∀ i o, j < i → l[i - k]? = some o → o.dst = some t → p i = false) → t < fr.length → (fsF vs p k l fr)[t]? = some (vs j)
  | [], k, fr, h1, _, h2, _, _, _ => by simp at h2; omega
  | o :: l, k, fr, h1, hd, h2, hp, hno, ht => by
    by_cases hk : k = j
    · subst hk
      have hdst : o.dst = some t := hd o (by simp)
      unfold fsF
      rw [hp]
      simp only [cond_true, hdst, putA]
      rw [fsF_congr vs p (fun _ => false) t l (k + 1) _ (fr.set t (vs k)) (fun i o' hi hd' => by
        have := hno (k + 1 + i) o' (by omega) (by rw [show k + 1 + i - k = i + 1 by omega]; simpa using hi) hd'
        exact this) rfl rfl]
      rw [fsF_none _ _ _ _ _ (fun _ _ _ => rfl), List.getElem?_set, if_pos rfl, if_pos ht]
    · unfold fsF
      refine fsF_last vs p t j l (k + 1) _ (by omega) (fun o' ho' => hd o' (by rw [show j - k = (j - (k + 1)) + 1 by omega]; simpa using ho')) (by simp at h2; omega) hp
        (fun i o' hi ho' hd' => hno i o' hi (by rw [show i - k = (i - (k + 1)) + 1 by omega]; simpa using ho') hd') ?_
      cases p k <;> simp [putA_length, ht]

end Go.Lk
end

section
/- The region whose order is open: each step. -/
namespace Go.Lk
set_option linter.unusedSimpArgs false
set_option linter.unusedVariables false

def kd (C : Cfg) (ops : Array Oper) (wd : Nat → Bool) (i : Nat) : Nat :=
  match ops[i]? with
  | some o => bif wd i then cls C o.op else 0
  | none => 0

theorem cls_le (C : Cfg) (o : Op) : cls C o = 0 ∨ cls C o = 1 ∨ cls C o = 2 ∨ cls C o = 3 ∨ cls C o = 4 := by
  unfold cls
  split
  all_goals first
    | (simp; done)
    | (rename_i f _ _; cases C.p f <;> simp; cases C.q f <;> simp)

section
variable {C : Cfg} {ops : Array Oper} {fs : Nat → List Value} {ss : Nat → AHeap} {vs : Nat → Value} {wd : Nat → Bool} {st : Nat → Bool}

theorem kd_of {i : Nat} {o : Oper} (ho : ops[i]? = some o) (hw : wd i = true) : kd C ops wd i = cls C o.op := by simp [kd, ho, hw]
theorem kd_pos {i : Nat} (h : kd C ops wd i ≠ 0) : ∃ o, ops[i]? = some o ∧ wd i = true ∧ kd C ops wd i = cls C o.op := by
  unfold kd at h ⊢
  split at h
  · rename_i o ho
    cases hw : wd i
    · rw [hw] at h; simp at h
    · exact ⟨o, ho, rfl, by simp [ho]⟩
  · exact absurd rfl h

theorem Trace.still (hC : C.Ok) (ht : Trace C ops fs ss vs wd) {i : Nat} (hi : i < ops.size) (h2 : kd C ops wd i ≠ 2) (h3 : kd C ops wd i ≠ 3) : ss (i + 1) = ss i := by
  have ho : ops[i]? = some ops[i] := Array.getElem?_eq_getElem hi
  cases hw : wd i
  · exact (ht.no i _ ho hw).2
  · have hk := kd_of (C := C) ho hw
    have ha := ht.yes i _ ho hw
    rw [hk] at h2 h3
    rcases cls_le C ops[i].op with h | h | h | h | h
    · exact (cls0 h ha).1
    · exact (cls1 h ha).1
    · exact absurd h h2
    · exact absurd h h3
    · exact cls4 hC h ha
theorem Trace.made (ht : Trace C ops fs ss vs wd) {i : Nat} (h3 : kd C ops wd i = 3) : ∃ (m : Mk) (row : AObj), vs i = m.at (ss i).length ∧ ss (i + 1) = ss i ++ [row] := by
  obtain ⟨o, ho, hw, hk⟩ := kd_pos (C := C) (ops := ops) (wd := wd) (i := i) (by omega)
  obtain ⟨m, row, h1, h2, _⟩ := cls3 (by rw [← hk]; exact h3) (ht.yes i o ho hw)
  exact ⟨m, row, h1, h2⟩

/-- A stretch without changes: the heap only grows. -/
theorem Trace.stretch (hC : C.Ok) (ht : Trace C ops fs ss vs wd) (a : Nat) : ∀ (d : Nat), a + d ≤ ops.size → (∀ i, a ≤ i → i < a + d → kd C ops wd i ≠ 2) →
    ∃ ext, ss (a + d) = ss a ++ ext ∧ ∀ b, (ss a).length ≤ b → b < (ss (a + d)).length → ∃ i, a ≤ i ∧ i < a + d ∧ kd C ops wd i = 3 ∧ (ss i).length = b
  | 0, _, _ => ⟨[], by simp, fun b h1 h2 => by simp only [Nat.add_zero] at h2; omega⟩
  | d + 1, hle, hno => by
    obtain ⟨ext, he, hb⟩ := ht.stretch hC a d (by omega) (fun i h1 h2 => hno i h1 (by omega))
    have h2 := hno (a + d) (by omega) (by omega)
    by_cases h3 : kd C ops wd (a + d) = 3
    · obtain ⟨m, row, _, hrow⟩ := ht.made h3
      refine ⟨ext ++ [row], by rw [← Nat.add_assoc, hrow, he, List.append_assoc], fun b h1 hlt => ?_⟩
      rw [← Nat.add_assoc, hrow] at hlt
      by_cases hbe : b = (ss (a + d)).length
      · exact ⟨a + d, by omega, by omega, h3, hbe.symm⟩
      · obtain ⟨i, q1, q2, q3, q4⟩ := hb b h1 (by simp at hlt; omega)
        exact ⟨i, q1, by omega, q3, q4⟩
    · have hst := ht.still hC (i := a + d) (by omega) h2 h3
      refine ⟨ext, by rw [← Nat.add_assoc, hst, he], fun b h1 hlt => ?_⟩
      rw [← Nat.add_assoc, hst] at hlt
      obtain ⟨i, q1, q2, q3, q4⟩ := hb b h1 hlt
      exact ⟨i, q1, by omega, q3, q4⟩

theorem Trace.grow (hC : C.Ok) (ht : Trace C ops fs ss vs wd) {a s : Nat} (has : a ≤ s) (hs : s ≤ ops.size) (hno : ∀ i, a ≤ i → i < s → kd C ops wd i ≠ 2) :
    ∃ ext, ss s = ss a ++ ext ∧ ∀ b, (ss a).length ≤ b → b < (ss s).length → ∃ i, a ≤ i ∧ i < s ∧ kd C ops wd i = 3 ∧ (ss i).length = b := by
  have := ht.stretch hC a (s - a) (by omega) (fun i h1 h2 => hno i h1 (by omega))
  rwa [show a + (s - a) = s by omega] at this

/-- The heap after some of the operations. -/
structure HS (C : Cfg) (ops : Array Oper) (ss : Nat → AHeap) (wd : Nat → Bool) (p : Nat → Bool) (s : Nat) (H : AHeap) : Prop where
  le : s ≤ ops.size
  stop : s = ops.size ∨ (kd C ops wd s = 2 ∧ p s = false)
  done : ∀ i, i < s → kd C ops wd i = 2 → p i = true
  len : H.length = (ss s).length
  hole : ∀ i, i < s → kd C ops wd i = 3 → p i = false → H[(ss i).length]? = some .dead
  same : ∀ b, (∀ i, i < s → kd C ops wd i = 3 → p i = false → (ss i).length ≠ b) → H[b]? = (ss s)[b]?

def closedA (ops : Array Oper) (p : Nat → Bool) : Prop := ∀ i j, Anc ops i j → p j = true → p i = true

theorem HS.clear (hd : DrawOk C ops st) {p : Nat → Bool} {s : Nat} {H : AHeap} (h : HS C ops ss wd p s H) (hc : closedA ops p) {i m : Nat} (h3 : kd C ops wd i = 3) (hp : p i = false) (him : i < m) (hms : m < s) : kd C ops wd m ≠ 2 := by
  intro hm
  obtain ⟨oi, hoi, _, hki⟩ := kd_pos (C := C) (ops := ops) (wd := wd) (i := i) (by omega)
  obtain ⟨om, hom, _, hkm⟩ := kd_pos (C := C) (ops := ops) (wd := wd) (i := m) (by omega)
  rcases hd.two m i om oi hom hoi (by omega) (by omega) (by omega) (hd.no hoi (by omega)) with ha | ha
  · have := ha.lt hd; omega
  · have := hc _ _ ha (h.done m hms hm)
    rw [hp] at this; cases this

/-- Two new blocks that are still to come have two names. -/
theorem HS.apart (hC : C.Ok) (ht : Trace C ops fs ss vs wd) (hd : DrawOk C ops st) {p : Nat → Bool} {s : Nat} {H : AHeap} (h : HS C ops ss wd p s H) (hc : closedA ops p) {i j : Nat}
    (hi3 : kd C ops wd i = 3) (hj3 : kd C ops wd j = 3) (hpi : p i = false) (hij : i < j) (hjs : j < s) : (ss i).length < (ss j).length := by
  have hle := h.le
  obtain ⟨m, row, _, hrow⟩ := ht.made hi3
  obtain ⟨ext, he, _⟩ := ht.grow hC (a := i + 1) (s := j) (by omega) (by omega) (fun k h1 h2 => h.clear hd hc hi3 hpi (by omega) (by omega))
  rw [he, hrow]
  simp

theorem HS.lt (hC : C.Ok) (ht : Trace C ops fs ss vs wd) (hd : DrawOk C ops st) {p : Nat → Bool} {s : Nat} {H : AHeap} (h : HS C ops ss wd p s H) (hc : closedA ops p) {i : Nat}
    (hi3 : kd C ops wd i = 3) (hpi : p i = false) (his : i < s) : ∃ row, ss (i + 1) = ss i ++ [row] ∧ (ss s)[(ss i).length]? = some row ∧ (ss i).length < (ss s).length := by
  have hle := h.le
  obtain ⟨m, row, _, hrow⟩ := ht.made hi3
  obtain ⟨ext, he, _⟩ := ht.grow hC (a := i + 1) (s := s) (by omega) (by omega) (fun k h1 h2 => h.clear hd hc hi3 hpi (by omega) (by omega))
  refine ⟨row, hrow, ?_, ?_⟩
  · rw [he, hrow]; simp
  · rw [he, hrow]; simp

/-- Where does an operation that is next stand against the stop? -/
theorem HS.before (hd : DrawOk C ops st) {p : Nat → Bool} {s : Nat} {H : AHeap} (h : HS C ops ss wd p s H) {j : Nat} {oj : Oper} (hj : ops[j]? = some oj) (hwj : wd j = true) (hpj : p j = false)
    (hanc : ∀ i, Anc ops i j → p i = true) (hc0 : cls C oj.op ≠ 0) (hsj : st j = false) : j ≤ s := by
  rcases Nat.lt_or_ge s j with hlt | hge
  · exfalso
    have hjl : j < ops.size := (Array.getElem?_eq_some_iff.1 hj).1
    rcases h.stop with h1 | ⟨h1, h2⟩
    · omega
    · obtain ⟨os, hos, _, hks⟩ := kd_pos (C := C) (ops := ops) (wd := wd) (i := s) (by omega)
      rcases hd.two s j os oj hos hj (by omega) (by omega) hc0 hsj with ha | ha
      · have := hanc _ ha; rw [h2] at this; cases this
      · have := ha.lt hd; omega
  · exact hge

/-- All that is known in the middle of the region. -/
structure Inv (C : Cfg) (ops : Array Oper) (fs : Nat → List Value) (ss : Nat → AHeap) (vs : Nat → Value) (wd : Nat → Bool) (B : Nat → Prop) (p : Nat → Bool) (μ : List (Option Ent)) (tmps : Array Value) (w : World) : Prop where
  ex : ∃ (s : Nat) (H : AHeap), HR C.ex B μ H w ∧ HS C ops ss wd p s H ∧ ∀ i, i < s → kd C ops wd i = 3 → p i = false → ∀ e, μ[(ss i).length]? ≠ some (some e)
  fr : FrR C.ex μ (fsF vs p 0 ops.toList (fs 0)) tmps

def addP (p : Nat → Bool) (j : Nat) : Nat → Bool := fun i => if i = j then true else p i

/-- The frame is as in the text's order, where the next operation looks. -/
theorem fr_agrees (ht : Trace C ops fs ss vs wd) (hd : DrawOk C ops st) {p : Nat → Bool} (hc : closedA ops p) {j : Nat} {oj : Oper} (hj : ops[j]? = some oj) (hpj : p j = false)
    (hanc : ∀ i, Anc ops i j → p i = true) {t : Nat} (hl : t ∈ looks ops oj) : (fsF vs p 0 ops.toList (fs 0))[t]? = (fs j)[t]? := by
  have hjl : j < ops.size := (Array.getElem?_eq_some_iff.1 hj).1
  rw [← fsF_prefix ht j ops.toList 0 (fun i => by simp) (Nat.zero_le _) (by simp; omega)]
  refine fsF_congr vs p _ t ops.toList 0 _ _ (fun i o hi hdst => ?_) rfl rfl
  rw [Nat.zero_add]
  have hi' : ops[i]? = some o := by simpa using hi
  by_cases hij : i = j
  · subst hij; simp [hpj]
  · rcases hd.slot i j o oj t hi' hj hij hdst (.inl hl) with ha | ha
    · have := ha.lt hd
      rw [hanc i ha]; simp [this]
    · have := ha.lt hd
      have hpi : p i = false := by
        cases hp : p i
        · rfl
        · have := hc j i ha hp; rw [hpj] at this; cases this
      rw [hpi]; simp; omega

/-- The frame once the next operation is carried out. -/
theorem fr_next (ht : Trace C ops fs ss vs wd) (hd : DrawOk C ops st) {p : Nat → Bool} (hc : closedA ops p) {j : Nat} {oj : Oper} (hj : ops[j]? = some oj) (hpj : p j = false) :
    fsF vs (addP p j) 0 ops.toList (fs 0) = putA (fsF vs p 0 ops.toList (fs 0)) oj.dst (vs j) := by
  have hjl : j < ops.size := (Array.getElem?_eq_some_iff.1 hj).1
  apply List.ext_getElem?
  intro t
  by_cases hdst : oj.dst = some t
  · simp only [hdst, putA]
    rw [List.getElem?_set, if_pos rfl, fsF_length]
    by_cases htl : t < (fs 0).length
    · rw [if_pos htl]
      refine fsF_last vs _ t j ops.toList 0 _ (Nat.zero_le _) (fun o ho => ?_) (by simpa using hjl) (by simp [addP]) (fun i o hi ho hd' => ?_) htl
      · have : ops[j]? = some o := by simpa using ho
        rw [hj] at this; cases this; exact hdst
      · have ho' : ops[i]? = some o := by simpa using ho
        have hne : i ≠ j := by omega
        simp only [addP, if_neg hne]
        cases hp : p i
        · rfl
        · rcases hd.slot i j o oj t ho' hj hne hd' (.inr hdst) with ha | ha
          · have := ha.lt hd; omega
          · have := hc j i ha hp; rw [hpj] at this; cases this
    · rw [if_neg htl]
      exact List.getElem?_eq_none (by rw [fsF_length]; omega)
  · rw [putA_get_ne hdst]
    refine fsF_congr vs _ p t ops.toList 0 _ _ (fun i o hi hd' => ?_) rfl rfl
    rw [Nat.zero_add]
    have hi' : ops[i]? = some o := by simpa using hi
    have hne : i ≠ j := by rintro rfl; rw [hj] at hi'; cases hi'; exact hdst hd'
    simp [addP, hne]

theorem wanted_agrees (ht : Trace C ops fs ss vs wd) (hd : DrawOk C ops st) {p : Nat → Bool} (hc : closedA ops p) {j : Nat} {oj : Oper} (hj : ops[j]? = some oj) (hpj : p j = false)
    (hanc : ∀ i, Anc ops i j → p i = true) : wantedA ops (fsF vs p 0 ops.toList (fs 0)) oj = some (wd j) := by
  rw [← ht.w j oj hj]
  unfold wantedA
  split
  · rfl
  · rename_i g want hg
    cases hgd : (ops[g]?).bind (·.dst) with
    | none => rfl
    | some t =>
      simp only
      rw [fr_agrees ht hd hc hj hpj hanc (t := t) (by
        unfold looks
        rw [hg]
        simp [hgd])]

theorem op_agrees (ht : Trace C ops fs ss vs wd) (hd : DrawOk C ops st) {p : Nat → Bool} (hc : closedA ops p) {j : Nat} {oj : Oper} (hj : ops[j]? = some oj) (hpj : p j = false)
    (hanc : ∀ i, Anc ops i j → p i = true) (τ : AHeap) : aOp C (fsF vs p 0 ops.toList (fs 0)) τ oj.op = aOp C (fs j) τ oj.op := by
  refine aOp_congr fun t ht' => ?_
  have hl : t ∈ looks ops oj := by
    unfold looks
    refine List.mem_append_left _ (List.mem_filterMap.2 ⟨.tmp t, ht', rfl⟩)
  rw [List.getD_eq_getElem?_getD, List.getD_eq_getElem?_getD, fr_agrees ht hd hc hj hpj hanc hl]

end
end Go.Lk
end

section
/- The region whose order is open: the end. -/
namespace Go.Lk
set_option linter.unusedSimpArgs false
set_option linter.unusedVariables false

section
variable {C : Cfg} {ops : Array Oper} {fs : Nat → List Value} {ss : Nat → AHeap} {vs : Nat → Value} {wd : Nat → Bool} {st : Nat → Bool} {B : Nat → Prop}

theorem aMem_mono {P : Program} {fr : List Value} {σ σ' : AHeap} {o : Op} {v : Value} (h : aMem P fr σ o = some (v, σ')) : σ.length ≤ σ'.length := by
  have hput : ∀ {b o : Nat} {cs : List Value} {σ1 : AHeap}, aPut σ b o cs = some σ1 → σ.length ≤ σ1.length := by
    intro b o cs σ1 h
    unfold aPut at h
    split at h
    · cases h; exact Nat.le_refl _
    · split at h
      · split at h
        · cases h; simp
        · cases h
      · cases h
  unfold aMem at h
  split at h
  · split at h
    · split at h <;> cases h; exact Nat.le_refl _
    · cases h
  · split at h
    · split at h
      · rename_i h3
        cases h
        unfold aStore at h3
        split at h3
        · split at h3
          · split at h3
            · split at h3
              · cases h3; simp
              · cases h3
            · cases h3
          · cases h3
        · cases h3
      · cases h
    · cases h
  · split at h <;> cases h; simp [newP]
  · split at h <;> cases h; simp [newP]
  · split at h
    · split at h <;> cases h; exact Nat.le_refl _
    · cases h
  · split at h
    · unfold aBuildSlice at h
      split at h
      · split at h
        · split at h
          · split at h <;> cases h; simp
          · cases h
        · cases h
      · cases h
    · cases h
  · split at h
    · unfold aMake at h
      split at h
      · split at h
        · split at h
          · split at h
            · split at h <;> cases h; simp
            · cases h
          · cases h
        · cases h
      · cases h
    · cases h
  · split at h
    · unfold aRange at h
      split at h <;> cases h; simp
    · cases h
  · split at h
    · unfold aNext at h
      split at h
      · split at h
        · split at h <;> cases h <;> simp
        · cases h
      · cases h
    · cases h
  · split at h
    · unfold aAppend at h
      split at h
      · split at h
        · split at h
          · rename_i inf _
            cases hd2 : isIntD _ <;> rw [hd2] at h <;> simp only [cond_true, cond_false] at h
            · split at h
              · split at h
                · split at h
                  · split at h
                    · rename_i h3; cases h; exact hput h3
                    · cases h
                  · cases h
                  · split at h <;> cases h; exact Nat.le_refl _
                · split at h
                  · split at h
                    · split at h
                      · split at h
                        · cases h
                        · split at h
                          · cases h; simp
                          · split at h
                            · split at h
                              · split at h <;> cases h; simp [kill_length]
                              · cases h
                            · cases h
                          · cases h
                      · cases h
                    · cases h
                  · cases h
              · cases h
            · cases h
          · cases h
        · cases h
      · cases h
    · cases h
  · split at h
    · unfold aCopy at h
      split at h
      · split at h
        · split at h
          · split at h
            · split at h
              · split at h
                · rename_i h3; cases h; exact hput h3
                · cases h
              · cases h
              · split at h <;> cases h; exact Nat.le_refl _
            · cases h
          · cases h
        · cases h
      · cases h
    · cases h
  · cases h

theorem aOp_mono (hC : C.Ok) {fr : List Value} {σ σ' : AHeap} {o : Op} {v : Value} (h : aOp C fr σ o = some (v, σ')) : σ.length ≤ σ'.length := by
  unfold aOp at h
  split at h
  · unfold aCall at h
    split at h
    · rename_i g first captured vs h1 h2
      cases hp : C.p g <;> rw [hp] at h <;> simp only [cond_true, cond_false] at h
      · exact hC.mono _ _ _ _ _ h
      · split at h
        · cases h; exact Nat.le_refl _
        · cases h
    · cases h
  · rename_i hno
    cases hm : isMem o <;> rw [hm] at h <;> simp only [cond_true, cond_false] at h
    · split at h
      · cases h; exact Nat.le_refl _
      · cases h
    · exact aMem_mono h

theorem Trace.mono (hC : C.Ok) (ht : Trace C ops fs ss vs wd) : ∀ i, i ≤ ops.size → (ss 0).length ≤ (ss i).length
  | 0, _ => Nat.le_refl _
  | i + 1, h => by
    have ho : ops[i]? = some ops[i] := Array.getElem?_eq_getElem (by omega)
    refine Nat.le_trans (ht.mono hC i (by omega)) ?_
    cases hw : wd i
    · rw [(ht.no i _ ho hw).2]; exact Nat.le_refl _
    · exact aOp_mono hC (ht.yes i _ ho hw)

theorem HS.add (hC : C.Ok) {p : Nat → Bool} {s : Nat} {H : AHeap} (h : HS C ops ss wd p s H) {j : Nat} (h2 : kd C ops wd j ≠ 2) (h3 : kd C ops wd j ≠ 3) : HS C ops ss wd (addP p j) s H := by
  have hp : ∀ i, kd C ops wd i = 2 ∨ kd C ops wd i = 3 → addP p j i = p i := fun i hi => by
    unfold addP
    rw [if_neg]
    rintro rfl
    rcases hi with h | h
    · exact h2 h
    · exact h3 h
  exact ⟨h.le, h.stop.imp id (fun ⟨a, b⟩ => ⟨a, by rw [hp _ (.inl a)]; exact b⟩), fun i hi hk => by rw [hp i (.inl hk)]; exact h.done i hi hk, h.len,
    fun i hi hk hpi => h.hole i hi hk (by rw [← hp i (.inr hk)]; exact hpi), fun b hb => h.same b (fun i hi hk hpi => hb i hi hk (by rw [hp i (.inr hk)]; exact hpi))⟩

theorem addP_hole {p : Nat → Bool} {j : Nat} {s : Nat} {μ : List (Option Ent)} (h : ∀ i, i < s → kd C ops wd i = 3 → p i = false → ∀ e, μ[(ss i).length]? ≠ some (some e)) :
    ∀ i, i < s → kd C ops wd i = 3 → addP p j i = false → ∀ e, μ[(ss i).length]? ≠ some (some e) := fun i hi hk hpi => by
  refine h i hi hk ?_
  unfold addP at hpi
  split at hpi
  · cases hpi
  · exact hpi

theorem Ext.hole {μ μ' : List (Option Ent)} (h : Ext μ μ') {b : Nat} (hb : b < μ.length) (hn : ∀ e, μ[b]? ≠ some (some e)) : ∀ e, μ'[b]? ≠ some (some e) := fun e he => hn e (by rw [← h b hb]; exact he)

/-- A load that stands in no order with the changes: of a block that is there from the first on, and stays. -/
def Steady (C : Cfg) (ops : Array Oper) (fs : Nat → List Value) (ss : Nat → AHeap) (st : Nat → Bool) : Prop :=
  ∀ (j : Nat) (oj : Oper) (b o : Nat) (t : TypeId) (x : Operand), ops[j]? = some oj → st j = true → oj.op = .load t x → aev (fs j) x = some (.pointer (some ⟨b, o, none⟩)) →
    b < (ss 0).length ∧ ∀ s, s ≤ ops.size → (∀ m, m < s → Anc ops j m → (ss (m + 1))[b]? = (ss m)[b]?) → (ss s)[b]? = (ss j)[b]?

/-- One more operation. -/
theorem draw_step (hC : C.Ok) (ht : Trace C ops fs ss vs wd) (hsd : Steady C ops fs ss st) (hd : DrawOk C ops st) {p : Nat → Bool} (hc : closedA ops p) {j : Nat} {oj : Oper} (hj : ops[j]? = some oj) (hpj : p j = false)
    (hanc : ∀ i, Anc ops i j → p i = true) {μ : List (Option Ent)} {a : Act} {w : World} (hI : Inv C ops fs ss vs wd B p μ a.tmps w) {n0 : Nat} (hn0 : ∀ i, i ≤ ops.size → n0 ≤ (ss i).length) {K : Act → World → Prop} {Q : Exit → Act → World → Prop}
    (hK : ∀ a' w' μ', Inv C ops fs ss vs wd B (addP p j) μ' a'.tmps w' → a'.defers = a.defers → Sub μ μ' → (∀ b, b < n0 → μ'[b]? = μ[b]?) → Blw B w w' → K a' w') : wpOp C.P ops Q j K a w := by
  have hjl : j < ops.size := (Array.getElem?_eq_some_iff.1 hj).1
  have hput : ∀ (a : Act) (d : Option Tmp) (v : Value), (a.put d v).defers = a.defers := by intro a d v; cases d <;> rfl
  obtain ⟨⟨s, H, hr, hs, hh⟩, hf⟩ := hI
  have hwa := wanted_agrees ht hd hc hj hpj hanc
  have hsle := hs.le
  have hμl : μ.length = (ss s).length := by rw [hr.len, hs.len]
  have hn0' : n0 ≤ μ.length := by
    rw [hμl]
    exact hn0 s hsle
  unfold wpOp
  simp only [hj]
  rw [wanted_eq hf hwa]
  cases hw : wd j
  · -- it is passed over
    simp only [Bool.false_eq_true, if_false]
    have hk0 : kd C ops wd j = 0 := by simp [kd, hj, hw]
    refine hK _ _ μ ⟨⟨s, H, hr, hs.add hC (by omega) (by omega), addP_hole hh⟩, ?_⟩ (hput _ _ _) (Sub.refl _) (fun _ _ => rfl) (Blw.refl _ _)
    rw [fr_next ht hd hc hj hpj, (ht.no j oj hj hw).1]
    exact hf.put VR.undef _
  · simp only [if_true]
    left
    have hk := kd_of (C := C) hj hw
    have hyes := ht.yes j oj hj hw
    have hop := fun τ => op_agrees ht hd hc hj hpj hanc τ
    have finish : ∀ {v' : Value} {w' : World} {μ' : List (Option Ent)}, VR C.ex μ' (vs j) v' → Sub μ μ' → (∀ b, b < n0 → μ'[b]? = μ[b]?) → Blw B w w' →
        (∃ s' H', HR C.ex B μ' H' w' ∧ HS C ops ss wd (addP p j) s' H' ∧ ∀ i, i < s' → kd C ops wd i = 3 → addP p j i = false → ∀ e, μ'[(ss i).length]? ≠ some (some e)) → K (a.put oj.dst v') w' := by
      intro v' w' μ' h1 h2 h2' h3 h4
      refine hK _ _ μ' ⟨h4, ?_⟩ (hput _ _ _) h2 h2' h3
      rw [fr_next ht hd hc hj hpj]
      exact (hf.mono h2).put h1 _
    have lenlt : ∀ i, i < s → kd C ops wd i = 3 → p i = false → (ss i).length < μ.length := fun i hi hk3 hpi => by
      obtain ⟨_, _, _, h⟩ := hs.lt hC ht hd hc hk3 hpi hi
      rw [hμl]; exact h
    -- where the heap stays
    have same : kd C ops wd j ≠ 2 → kd C ops wd j ≠ 3 → aOp C (fsF vs p 0 ops.toList (fs 0)) H oj.op = some (vs j, H) → oj.wp C.P a w K Q := by
      intro h2 h3 h
      refine aOp_sound hC h hf hr ?_
      intro v' w' μ' q1 q2 q3 q4
      refine finish q1 q3.sub (fun b hb => q3 b (by omega)) q4 ⟨s, H, q2, hs.add hC h2 h3, addP_hole fun i hi hk3 hpi => q3.hole (lenlt i hi hk3 hpi) (hh i hi hk3 hpi)⟩
    -- no change between the operation and the stop, if it must stand in order with all changes
    have nochange : cls C oj.op ≠ 0 → st j = false → ∀ m, j < m → m < s → kd C ops wd m ≠ 2 := by
      intro hc0 hsj m hm hms h2
      obtain ⟨om, hom, _, hkm⟩ := kd_pos (C := C) (ops := ops) (wd := wd) (i := m) (by omega)
      rcases hd.two m j om oj hom hj (by omega) (by omega) hc0 hsj with ha | ha
      · have := ha.lt hd; omega
      · have := hc _ _ ha (hs.done m hms h2)
        rw [hpj] at this; cases this
    rcases cls_le C oj.op with h0 | h1 | h2 | h3 | h4
    · -- pure
      obtain ⟨_, hall⟩ := cls0 h0 hyes
      exact same (by omega) (by omega) (by rw [hop, hall])
    · -- it loads
      obtain ⟨_, t, x, ad, ho, hx, hld⟩ := cls1 h1 hyes
      have hjs' : st j = false → j < s := by
        intro hsj
        have hjs := hs.before hd hj hw hpj hanc (by omega) hsj
        rcases Nat.lt_or_eq_of_le hjs with h | h
        · exact h
        · rcases hs.stop with h' | ⟨h', _⟩
          · omega
          · rw [← h, hk, h1] at h'; cases h'
      refine same (by omega) (by omega) ?_
      have hx' : aev (fsF vs p 0 ops.toList (fs 0)) x = some ad := by
        rw [← hx]
        refine aev_congr fun t' e => ?_
        rw [List.getD_eq_getElem?_getD, List.getD_eq_getElem?_getD, fr_agrees ht hd hc hj hpj hanc (t := t') ?_]
        unfold looks
        rw [ho]
        exact List.mem_append_left _ (List.mem_filterMap.2 ⟨.tmp t', by simp [Op.operands, e], rfl⟩)
      have hva := aev_sound hf hx'
      have hload : aLoad C.P H t ad = some (vs j) := by
        unfold aLoad at hld ⊢
        split at hld
        · rename_i b o
          have hHb : H[b]? = (ss j)[b]? := by
            cases hsj : st j with
            | true =>
              obtain ⟨q1, q2⟩ := hsd j oj b o t x hj hsj ho hx
              have q3 : ∀ m, m < s → Anc ops j m → (ss (m + 1))[b]? = (ss m)[b]? := by
                intro m hm ha
                have k2 : kd C ops wd m ≠ 2 := fun k2 => by
                  have := hc _ _ ha (hs.done m hm k2); rw [hpj] at this; cases this
                by_cases k3 : kd C ops wd m = 3
                · obtain ⟨_, row, _, hrow⟩ := ht.made k3
                  have := ht.mono hC m (by omega)
                  rw [hrow, List.getElem?_append_left (by omega)]
                · rw [ht.still hC (by omega) k2 k3]
              rw [← q2 s hsle q3]
              refine hs.same b (fun i hi hk3 hpi hlen => ?_)
              have := ht.mono hC i (by omega)
              omega
            | false =>
            have hjs' := hjs' hsj
            have hblt : b < (ss j).length := by
              rcases Nat.lt_or_ge b (ss j).length with h | h
              · exact h
              · rw [List.getElem?_eq_none h] at hld; cases hld
            obtain ⟨ext, he, _⟩ := ht.grow hC (a := j) (s := s) (by omega) hsle (fun m h1' h2' => by
              rcases Nat.lt_or_eq_of_le h1' with h | h
              · exact nochange (by omega) hsj m h h2'
              · rw [← h, hk, h1]; decide)
            have hss : (ss s)[b]? = (ss j)[b]? := by rw [he, List.getElem?_append_left hblt]
            rw [← hss]
            refine hs.same b (fun i hi hk3 hpi hlen => ?_)
            generalize a.eval x = y at hva
            cases hva with
            | ptr hm => exact hh i hi hk3 hpi _ (by rw [hlen]; exact hm)
          simp only [hHb]
          exact hld
        · cases hld
      rw [ho]
      simp only [aOp, isMem, aMem, cond_true, hx', hload]
    · -- it changes the heap
      have hjs := hs.before hd hj hw hpj hanc (by omega) (hd.no hj (by omega))
      have hjs' : s = j := by
        rcases Nat.lt_or_eq_of_le hjs with h | h
        · have := hs.done j h (by rw [hk, h2])
          rw [hpj] at this; cases this
        · exact h.symm
      subst hjs'
      have hall3 : ∀ i, i < s → kd C ops wd i = 3 → p i = true := by
        intro i hi hk3
        obtain ⟨oi, hoi, _, hki⟩ := kd_pos (C := C) (ops := ops) (wd := wd) (i := i) (by omega)
        rcases hd.two s i oj oi hj hoi (by omega) h2 (by omega) (hd.no hoi (by omega)) with ha | ha
        · have := ha.lt hd; omega
        · exact hanc _ ha
      have hH : H = ss s := by
        apply List.ext_getElem?
        intro b
        exact hs.same b (fun i hi hk3 hpi => by rw [hall3 i hi hk3] at hpi; cases hpi)
      subst hH
      refine aOp_sound hC (o := oj) (v := vs s) (σ' := ss (s + 1)) (by rw [hop]; exact hyes) hf hr ?_
      intro v' w' μ' q1 q2 q3 q4
      -- the next stop
      obtain ⟨s', hs1, hs2, hs3, hs4⟩ : ∃ s', s + 1 ≤ s' ∧ s' ≤ ops.size ∧ (∀ i, s + 1 ≤ i → i < s' → kd C ops wd i ≠ 2) ∧ (s' = ops.size ∨ kd C ops wd s' = 2) := by
        have key : ∀ d, ∃ s', s + 1 ≤ s' ∧ s' ≤ s + 1 + d ∧ (∀ i, s + 1 ≤ i → i < s' → kd C ops wd i ≠ 2) ∧ (s' = s + 1 + d ∨ kd C ops wd s' = 2) := by
          intro d
          induction d with
          | zero => exact ⟨s + 1, by omega, by omega, fun i h1 h2 => by omega, .inl rfl⟩
          | succ d ih =>
            obtain ⟨s', g1, g2, g3, g4⟩ := ih
            rcases g4 with g4 | g4
            · by_cases h : kd C ops wd s' = 2
              · exact ⟨s', g1, by omega, g3, .inr h⟩
              · exact ⟨s' + 1, by omega, by omega, fun i h1 h2 => by
                  rcases Nat.lt_or_eq_of_le (Nat.le_of_lt_succ h2) with h' | h'
                  · exact g3 i h1 h'
                  · rw [h']; exact h, .inl (by omega)⟩
            · exact ⟨s', g1, by omega, g3, .inr g4⟩
        obtain ⟨s', g1, g2, g3, g4⟩ := key (ops.size - (s + 1))
        exact ⟨s', g1, by omega, g3, by rcases g4 with h | h; · left; omega
                                        · exact .inr h⟩
      obtain ⟨ext, he, hpos⟩ := ht.grow hC (a := s + 1) (s := s') hs1 hs2 hs3
      have hafter : ∀ i, s < i → kd C ops wd i = 2 ∨ kd C ops wd i = 3 → p i = false := by
        intro i hi hki
        obtain ⟨oi, hoi, _, hki'⟩ := kd_pos (C := C) (ops := ops) (wd := wd) (i := i) (by omega)
        cases hp : p i
        · rfl
        · rcases hd.two s i oj oi hj hoi (by omega) h2 (by omega) (hd.no hoi (by omega)) with ha | ha
          · have := hc _ _ ha hp; rw [hpj] at this; cases this
          · have := ha.lt hd; omega
      have hadd : ∀ i, s < i → addP p s i = p i := fun i hi => by unfold addP; rw [if_neg (by omega)]
      have hlen' : (ss s').length = (ss (s + 1)).length + ext.length := by rw [he]; simp
      have hμ' : μ'.length = (ss (s + 1)).length := q2.len
      have hge : ∀ i, s + 1 ≤ i → i ≤ s' → (ss (s + 1)).length ≤ (ss i).length := by
        intro i h1 h2
        obtain ⟨e, he', _⟩ := ht.grow hC (a := s + 1) (s := i) h1 (by omega) (fun m g1 g2 => hs3 m g1 (by omega))
        rw [he']; simp
      refine finish (q1.mono (Sub.holes _ _)) (q3.sub.trans (Sub.holes _ ext.length)) (fun b hb => ?_) q4 ⟨s', ss (s + 1) ++ List.replicate ext.length .dead, q2.dead _, ?_, ?_⟩
      · have hlt : b < μ.length := by omega
        have h3 := q3.len
        rw [List.getElem?_append_left (by omega)]
        exact q3 b hlt
      · refine ⟨hs2, ?_, ?_, by simp [hlen'], ?_, ?_⟩
        · rcases hs4 with h | h
          · exact .inl h
          · exact .inr ⟨h, by rw [hadd s' (by omega)]; exact hafter s' (by omega) (.inl h)⟩
        · intro i hi hk2
          by_cases his : i = s
          · subst his; simp [addP]
          · rcases Nat.lt_or_ge i s with h | h
            · have := hs.done i h hk2
              simp [addP, this]
            · exact absurd hk2 (hs3 i (by omega) hi)
        · intro i hi hk3 hpi
          have hsi : s < i := by
            rcases Nat.lt_or_ge s i with h | h
            · exact h
            · exfalso
              rcases Nat.lt_or_eq_of_le h with h' | h'
              · have := hall3 i h' hk3
                simp [addP, this] at hpi
              · subst h'; rw [hk, h2] at hk3; cases hk3
          have h1 := hge i (by omega) (by omega)
          have h2' : (ss i).length < (ss s').length := by
            obtain ⟨m, row, _, hrow⟩ := ht.made hk3
            obtain ⟨e, he', _⟩ := ht.grow hC (a := i + 1) (s := s') (by omega) hs2 (fun m g1 g2 => hs3 m (by omega) g2)
            rw [he', hrow]; simp
          rw [List.getElem?_append_right h1, List.getElem?_replicate, if_pos (by omega)]
        · intro b hb
          rcases Nat.lt_or_ge b (ss (s + 1)).length with h | h
          · rw [List.getElem?_append_left h, he, List.getElem?_append_left h]
          · rcases Nat.lt_or_ge b (ss s').length with h' | h'
            · obtain ⟨i, g1, g2, g3, g4⟩ := hpos b h h'
              exact absurd g4 (hb i g2 g3 (by rw [hadd i (by omega)]; exact hafter i (by omega) (.inr g3)))
            · rw [List.getElem?_eq_none h', List.getElem?_eq_none (by simp; omega)]
      · intro i hi hk3 hpi e
        have hsi : s < i := by
          rcases Nat.lt_or_ge s i with h | h
          · exact h
          · exfalso
            rcases Nat.lt_or_eq_of_le h with h' | h'
            · have := hall3 i h' hk3
              simp [addP, this] at hpi
            · subst h'; rw [hk, h2] at hk3; cases hk3
        have h1 := hge i (by omega) (by omega)
        rw [List.getElem?_append_right (by omega), List.getElem?_replicate]
        split <;> simp
    · -- it makes a block
      have hjs := hs.before hd hj hw hpj hanc (by omega) (hd.no hj (by omega))
      have hjs' : j < s := by
        rcases Nat.lt_or_eq_of_le hjs with h | h
        · exact h
        · rcases hs.stop with h' | ⟨h', _⟩
          · omega
          · rw [← h, hk, h3] at h'; cases h'
      have hk3 : kd C ops wd j = 3 := by rw [hk, h3]
      obtain ⟨row, hrow, hrow', hlt⟩ := hs.lt hC ht hd hc hk3 hpj hjs'
      obtain ⟨m1, row1, e1, e2, hall⟩ := cls3 h3 hyes
      obtain ⟨m2, row2, f1, f2, hA⟩ := cls3_okA (C := C) (o := oj) h3 (by rw [hop]; exact hall H) hf w
      have hm : m2 = m1 := Mk.inj f1.symm
      subst hm
      have hrr : row2 = row := by
        have g1 : row1 = row := by rw [e2] at hrow; simpa using hrow
        have g2 : row1 = row2 := by simpa using f2
        rw [← g2, g1]
      subst hrr
      obtain ⟨cs, cs', elem, rfl, hv, hrun⟩ := hA
      have hhole := hh j hjs' hk3 hpj
      have hdead := hs.hole j hjs' hk3 hpj
      have hfill := hr.fill (elem := elem) hdead hhole hv
      have hcl : (ss j).length < μ.length := lenlt j hjs' hk3 hpj
      have hget : (μ.set (ss j).length (some ⟨w.heap.size, 0, cs.length, 0, 0⟩))[(ss j).length]? = some (some ⟨w.heap.size, 0, cs.length, 0, 0⟩) := by
        rw [List.getElem?_set, if_pos rfl, if_pos hcl]
      unfold Oper.wp
      rw [hrun]
      refine finish (μ' := μ.set (ss j).length (some ⟨w.heap.size, 0, cs.length, 0, 0⟩)) ?_ (Sub.fill hhole) (fun b hb => ?_) (Blw.push' rfl hr.hB) ⟨s, H.set (ss j).length (.row cs true none), hfill, ?_, ?_⟩
      · rw [e1]
        cases m2 with
        | p =>
          have := VR.ptr (ex := C.ex) (o := 0) hget
          exact this
        | s sz len cap =>
          have := VR.slice (ex := C.ex) (o := 0) (sz := sz) (len := len) (cap := cap) hget (.inl rfl)
          exact this
      · have := hn0 j (by omega)
        rw [List.getElem?_set, if_neg (by omega)]
      · have hne : ∀ i, i < s → kd C ops wd i = 3 → addP p j i = false → i ≠ j ∧ p i = false ∧ (ss i).length ≠ (ss j).length := by
          intro i hi hki hpi
          unfold addP at hpi
          split at hpi
          · cases hpi
          · rename_i hij
            refine ⟨hij, hpi, ?_⟩
            rcases Nat.lt_or_ge i j with h | h
            · have := hs.apart hC ht hd hc hki hk3 hpi h hjs'; omega
            · have := hs.apart hC ht hd hc hk3 hki hpj (by omega) hi; omega
        have hstop : s = ops.size ∨ (kd C ops wd s = 2 ∧ addP p j s = false) := by
          rcases hs.stop with h | ⟨g1, g2⟩
          · exact .inl h
          · refine .inr ⟨g1, ?_⟩
            unfold addP; rw [if_neg (by omega)]; exact g2
        refine ⟨hs.le, hstop, fun i hi hki => ?_, by simp [hs.len], fun i hi hki hpi => ?_, fun b hb => ?_⟩
        · have := hs.done i hi hki; simp [addP, this]
        · obtain ⟨_, g2, g3⟩ := hne i hi hki hpi
          rw [List.getElem?_set, if_neg (fun e => g3 e.symm)]
          exact hs.hole i hi hki g2
        · rw [List.getElem?_set]
          by_cases hbj : (ss j).length = b
          · rw [if_pos hbj, if_pos (by rw [hs.len]; omega), ← hbj, hrow']
          · rw [if_neg hbj]
            refine hs.same b (fun i hi hki hpi => ?_)
            by_cases hij : i = j
            · subst hij; exact hbj
            · exact hb i hi hki (by unfold addP; rw [if_neg hij]; exact hpi)
      · intro i hi hki hpi e
        unfold addP at hpi
        split at hpi
        · cases hpi
        · rename_i hij
          have hne : (ss j).length ≠ (ss i).length := by
            rcases Nat.lt_or_ge i j with h | h
            · have := hs.apart hC ht hd hc hki hk3 hpi h hjs'; omega
            · have := hs.apart hC ht hd hc hk3 hki hpj (by omega) hi; omega
          rw [List.getElem?_set, if_neg hne]
          exact hh i hi hki hpi e
    · -- a call that reads
      have hjs := hs.before hd hj hw hpj hanc (by omega) (hd.no hj (by omega))
      have hjs' : j < s := by
        rcases Nat.lt_or_eq_of_le hjs with h | h
        · exact h
        · rcases hs.stop with h' | ⟨h', _⟩
          · omega
          · rw [← h, hk, h4] at h'; cases h'
      have hst := cls4 hC h4 hyes
      have h3all : ∀ i, kd C ops wd i = 3 → p i = true ∧ i < j := by
        intro i hki
        obtain ⟨oi, hoi, _, hki'⟩ := kd_pos (C := C) (ops := ops) (wd := wd) (i := i) (by omega)
        have ha := hd.four i j oi oj hoi hj (by omega) h4
        exact ⟨hanc _ ha, ha.lt hd⟩
      obtain ⟨ext, he, hpos⟩ := ht.grow hC (a := j) (s := s) (by omega) hsle (fun m h1' h2' => by
        rcases Nat.lt_or_eq_of_le h1' with h | h
        · exact nochange (by omega) (hd.no hj (by omega)) m h h2'
        · rw [← h, hk, h4]; decide)
      have hext : ext = [] := by
        cases ext with
        | nil => rfl
        | cons x xs =>
          obtain ⟨i, g1, g2, g3, g4⟩ := hpos (ss j).length (Nat.le_refl _) (by rw [he]; simp)
          have := (h3all i g3).2
          omega
      have hH : H = ss j := by
        apply List.ext_getElem?
        intro b
        rw [hs.same b (fun i hi hk3 hpi => by rw [(h3all i hk3).1] at hpi; cases hpi), he, hext, List.append_nil]
      refine same (by omega) (by omega) ?_
      rw [hop, hH, hyes, hst]

/-- WHATEVER ORDER IS TAKEN. -/
theorem draw_all (hC : C.Ok) (ht : Trace C ops fs ss vs wd) (hsd : Steady C ops fs ss st) (hd : DrawOk C ops st) {Q : Exit → Act → World → Prop} {n0 : Nat} (hn0 : ∀ i, i ≤ ops.size → n0 ≤ (ss i).length) {μ0 : List (Option Ent)} {w0 : World} {defers : List Deferred}
    (hQ : ∀ a' w' μ', FrR C.ex μ' (fs ops.size) a'.tmps → HR C.ex B μ' (ss ops.size) w' → a'.defers = defers → Sub μ0 μ' → (∀ b, b < n0 → μ'[b]? = μ0[b]?) → Blw B w0 w' → Q .normal a' w') :
    ∀ (fuel : Nat) (listed : Array Bool) (a : Act) (w : World) (μ : List (Option Ent)), listed.size = ops.size → closedA ops (fun i => listed.getD i false) → ((List.range ops.size).countP (fun i => !listed.getD i false)) ≤ fuel →
      Inv C ops fs ss vs wd B (fun i => listed.getD i false) μ a.tmps w → a.defers = defers → Sub μ0 μ → (∀ b, b < n0 → μ[b]? = μ0[b]?) → Blw B w0 w → wpAny C.P .any ops Q fuel listed a w := by
  have ready : ∀ (listed : Array Bool), listed.size = ops.size → ∀ i, i ∈ Region.ready .any ops listed ↔ (i < ops.size ∧ listed.getD i false = false ∧ ∀ o e, ops[i]? = some o → e ∈ o.after → Region.binds .any e = true → listed.getD e.on false = true) := by
    intro listed hsz i
    unfold Region.ready
    simp only [List.mem_filter, List.mem_range, Bool.and_eq_true]
    constructor
    · rintro ⟨h1, h2, h3⟩
      have ho : ops[i]? = some ops[i] := Array.getElem?_eq_getElem h1
      refine ⟨h1, ?_, fun o e ho' he hb => ?_⟩
      · have : i < listed.size := by omega
        simp [this] at h2 ⊢
        exact h2
      · rw [ho'] at h3
        simp only [Option.map_some, Option.getD_some] at h3
        rw [Array.all_eq_true'] at h3
        have := h3 e he
        simpa [hb] using this
    · rintro ⟨h1, h2, h3⟩
      have ho : ops[i]? = some ops[i] := Array.getElem?_eq_getElem h1
      refine ⟨h1, ?_, ?_⟩
      · have : i < listed.size := by omega
        simp [this] at h2 ⊢
        exact h2
      · rw [ho]
        simp only [Option.map_some, Option.getD_some]
        rw [Array.all_eq_true']
        intro e he
        cases hb : Region.binds .any e
        · rfl
        · simp [h3 _ e ho he hb]
  have ancs : ∀ (listed : Array Bool), listed.size = ops.size → closedA ops (fun i => listed.getD i false) → ∀ i, i ∈ Region.ready .any ops listed → ∀ k, Anc ops k i → listed.getD k false = true := by
    intro listed hsz hcl i hi k ha
    obtain ⟨_, _, h3⟩ := (ready listed hsz i).1 hi
    cases ha with
    | one ho he hb hon => rw [← hon]; exact h3 _ _ ho he hb
    | step ho he hb h => exact hcl _ _ h (h3 _ _ ho he hb)
  have finish : ∀ (listed : Array Bool) (a : Act) (w : World) (μ : List (Option Ent)), listed.size = ops.size → (∀ i, i < ops.size → listed.getD i false = true) → Inv C ops fs ss vs wd B (fun i => listed.getD i false) μ a.tmps w →
      a.defers = defers → Sub μ0 μ → (∀ b, b < n0 → μ[b]? = μ0[b]?) → Blw B w0 w → Q .normal a w := by
    intro listed a w μ hsz hall hI h1 h2 h2' h3
    obtain ⟨⟨s, H, hr, hs, hh⟩, hf⟩ := hI
    have hsn : s = ops.size := by
      rcases hs.stop with h | ⟨h, h'⟩
      · exact h
      · obtain ⟨o, ho, _, _⟩ := kd_pos (C := C) (ops := ops) (wd := wd) (i := s) (by omega)
        have := hall s (Array.getElem?_eq_some_iff.1 ho).1
        rw [this] at h'; cases h'
    subst hsn
    have hH : H = ss ops.size := by
      apply List.ext_getElem?
      intro b
      exact hs.same b (fun i hi hk3 hpi => by rw [hall i hi] at hpi; cases hpi)
    subst hH
    have hF : fsF vs (fun i => listed.getD i false) 0 ops.toList (fs 0) = fs ops.size := by
      rw [← fsF_prefix ht ops.size ops.toList 0 (fun i => by simp) (Nat.zero_le _) (by simp)]
      apply List.ext_getElem?
      intro t
      refine fsF_congr vs _ _ t ops.toList 0 _ _ (fun i o hi hd' => ?_) rfl rfl
      have : i < ops.size := by have := lt_of_some hi; simpa using this
      rw [Nat.zero_add, hall i this]
      simp [this]
    rw [hF] at hf
    exact hQ a w μ hf hr h1 h2 h2' h3
  have stuck : ∀ (listed : Array Bool), listed.size = ops.size → Region.ready .any ops listed = [] → ∀ i, i < ops.size → listed.getD i false = true := by
    intro listed hsz hr i
    induction i using Nat.strongRecOn with
    | _ i ih =>
      intro hi
      cases hl : listed.getD i false
      · exfalso
        have : i ∈ Region.ready .any ops listed := (ready listed hsz i).2 ⟨hi, hl, fun o e ho he hb => ih e.on (hd.low i o e ho he hb) (Nat.lt_trans (hd.low i o e ho he hb) hi)⟩
        rw [hr] at this; cases this
      · rfl
  intro fuel
  induction fuel with
  | zero =>
    intro listed a w μ hsz hcl hcnt hI h1 h2 h2' h3
    have hall : ∀ i, i < ops.size → listed.getD i false = true := by
      intro i hi
      have h0 : (List.range ops.size).countP (fun i => !listed.getD i false) = 0 := by omega
      rw [List.countP_eq_zero] at h0
      have := h0 i (by simpa using hi)
      simpa using this
    refine ⟨?_, finish listed a w μ hsz hall hI h1 h2 h2' h3⟩
    rw [List.eq_nil_iff_forall_not_mem]
    intro i hi
    obtain ⟨q1, q2, _⟩ := (ready listed hsz i).1 hi
    rw [hall i q1] at q2; cases q2
  | succ fuel ih =>
    intro listed a w μ hsz hcl hcnt hI h1 h2 h2' h3
    refine ⟨fun hr => finish listed a w μ hsz (stuck listed hsz hr) hI h1 h2 h2' h3, fun i hi => ?_⟩
    obtain ⟨q1, q2, q3⟩ := (ready listed hsz i).1 hi
    have ho : ops[i]? = some ops[i] := Array.getElem?_eq_getElem q1
    have hP : (fun k => (listed.setIfInBounds i true).getD k false) = addP (fun k => listed.getD k false) i := by
      funext k
      unfold addP
      by_cases hk : k = i
      · subst hk; rw [if_pos rfl]; simp [hsz, q1]
      · rw [if_neg hk]
        show (listed.setIfInBounds i true).getD k false = listed.getD k false
        rw [Array.getD_eq_getD_getElem?, Array.getD_eq_getD_getElem?, Array.getElem?_setIfInBounds_ne (fun e => hk e.symm)]
    refine draw_step hC ht hsd hd hcl ho q2 (ancs listed hsz hcl i hi) hI hn0 ?_
    intro a' w' μ' r1 r2 r3 r3' r4
    refine ih _ a' w' μ' (by simpa using hsz) ?_ ?_ (by rw [hP]; exact r1) (r2.trans h1) (h2.trans r3) (fun b hb => (r3' b hb).trans (h2' b hb)) (h3.trans r4)
    · rw [hP]
      intro k m ha hm
      unfold addP at hm ⊢
      by_cases hmi : m = i
      · subst hmi
        show (if k = m then true else listed.getD k false) = true
        rw [ancs listed hsz hcl m hi k ha]; simp
      · rw [if_neg hmi] at hm
        show (if k = i then true else listed.getD k false) = true
        have h' : listed.getD k false = true := hcl k m ha hm
        rw [h']; simp
    · have hlt : (List.range ops.size).countP (fun k => !(listed.setIfInBounds i true).getD k false) < (List.range ops.size).countP (fun k => !listed.getD k false) := by
        have e : (fun k => !(listed.setIfInBounds i true).getD k false) = fun k => !(addP (fun k => listed.getD k false) i k) := by
          funext k; rw [← hP]
        rw [e]
        have hmem : i ∈ List.range ops.size := by simpa using q1
        obtain ⟨l1, l2, hl⟩ := List.append_of_mem hmem
        rw [hl, List.countP_append, List.countP_append, List.countP_cons, List.countP_cons]
        have m1 : ∀ l : List Nat, l.countP (fun k => !(addP (fun k => listed.getD k false) i k)) ≤ l.countP (fun k => !listed.getD k false) := by
          intro l
          apply List.countP_mono_left
          intro k _ hk
          unfold addP at hk
          split at hk
          · cases hk
          · exact hk
        have := m1 l1
        have := m1 l2
        have e1 : (!(addP (fun k => listed.getD k false) i i)) = false := by simp [addP]
        have e2 : (!listed.getD i false) = true := by rw [q2]; rfl
        rw [e1, e2]
        simp only [Bool.false_eq_true, if_false, if_true]
        omega
      omega

end
end Go.Lk
end

section
/- The check of a region whose order is open; the region. -/
namespace Go.Lk
set_option linter.unusedSimpArgs false
set_option linter.unusedVariables false

def maskOf (acc : List Nat) (o : Oper) : Nat :=
  o.after.toList.foldl (fun s e => bif Region.binds .any e then s ||| (2 ^ e.on ||| acc.getD e.on 0) else s) 0
def masks : List Oper → List Nat → List Nat
  | [], acc => acc
  | o :: l, acc => masks l (acc ++ [maskOf acc o])

def ordB (m : List Nat) (i j : Nat) : Bool := (m.getD j 0).testBit i || (m.getD i 0).testBit j

def pairOk (C : Cfg) (ops : Array Oper) (sl : List Nat) (m : List Nat) (i j : Nat) (oi oj : Oper) : Bool :=
  (match oi.dst with
    | none => true
    | some t => !((looks ops oj).contains t || oj.dst == some t) || ordB m i j) &&
  (!(cls C oi.op == 2 && cls C oj.op != 0) || sl.contains j || ordB m i j) &&
  (!(cls C oi.op == 3 && cls C oj.op == 4) || (m.getD j 0).testBit i)

def drawOkS (C : Cfg) (ops : Array Oper) (sl : List Nat) : Bool :=
  let m := masks ops.toList []
  (sl.all fun j => match ops[j]? with | some o => cls C o.op == 1 | none => true) && (List.range ops.size).all fun j =>
    match ops[j]? with
    | none => true
    | some oj =>
      (oj.after.toList.all fun e => !Region.binds .any e || decide (e.on < j)) &&
      (List.range ops.size).all fun i =>
        match ops[i]? with
        | none => true
        | some oi => i == j || pairOk C ops sl m i j oi oj

theorem fold_bits {acc : List Nat} {i : Nat} : ∀ (l : List Edge) (s : Nat), (l.foldl (fun s e => bif Region.binds .any e then s ||| (2 ^ e.on ||| acc.getD e.on 0) else s) s).testBit i = true →
    s.testBit i = true ∨ ∃ e ∈ l, Region.binds .any e = true ∧ (e.on = i ∨ (acc.getD e.on 0).testBit i = true)
  | [], s, h => .inl h
  | e :: l, s, h => by
    rcases fold_bits l _ h with h | ⟨e', he', hb, hor⟩
    · simp only at h
      cases hb : Region.binds .any e
      · rw [hb] at h; exact .inl h
      · rw [hb] at h
        simp only [cond_true, Nat.testBit_or, Bool.or_eq_true] at h
        rcases h with h | h | h
        · exact .inl h
        · rw [Nat.testBit_two_pow] at h
          exact .inr ⟨e, by simp, hb, .inl (by simpa using h)⟩
        · exact .inr ⟨e, by simp, hb, .inr h⟩
    · exact .inr ⟨e', by simp [he'], hb, hor⟩

theorem masks_get {ops : Array Oper} : ∀ (l : List Oper) (acc : List Nat), (∀ j, l[j]? = ops[acc.length + j]?) → (∀ i j, (acc.getD j 0).testBit i = true → Anc ops i j) →
    ∀ i j, ((masks l acc).getD j 0).testBit i = true → Anc ops i j
  | [], acc, _, h, i, j, hb => h i j hb
  | o :: l, acc, hl, h, i, j, hb => by
    refine masks_get l (acc ++ [maskOf acc o]) (fun k => by have := hl (k + 1); simpa [Nat.add_assoc, Nat.add_comm 1 k] using this) (fun i j hij => ?_) i j hb
    rw [List.getD_eq_getElem?_getD] at hij
    rcases Nat.lt_or_ge j acc.length with hj | hj
    · rw [List.getElem?_append_left hj, ← List.getD_eq_getElem?_getD] at hij
      exact h i j hij
    · rw [List.getElem?_append_right hj] at hij
      by_cases h0 : j - acc.length = 0
      · have hj' : j = acc.length := by omega
        rw [h0] at hij
        simp only [List.getElem?_cons_zero, Option.getD_some] at hij
        have ho : ops[j]? = some o := by have := hl 0; rw [hj']; simpa using this.symm
        rcases fold_bits _ _ hij with hz | ⟨e, he, hbd, hor⟩
        · simp at hz
        · rcases hor with h1 | h1
          · exact .one ho (by simpa using he) hbd h1
          · exact .step ho (by simpa using he) hbd (h _ _ h1)
      · rw [List.getElem?_eq_none (by simp; omega)] at hij
        simp at hij

theorem drawOkS_spec {C : Cfg} {ops : Array Oper} {sl : List Nat} (h : drawOkS C ops sl = true) : DrawOk C ops (fun j => sl.contains j) := by
  have hm : ∀ i j, ((masks ops.toList []).getD j 0).testBit i = true → Anc ops i j := masks_get ops.toList [] (fun j => by simp) (fun i j h => by simp at h)
  have ho : ∀ i j, ordB (masks ops.toList []) i j = true → Anc ops i j ∨ Anc ops j i := by
    intro i j h
    unfold ordB at h
    rw [Bool.or_eq_true] at h
    exact h.imp (hm _ _) (hm _ _)
  unfold drawOkS at h
  rw [Bool.and_eq_true] at h
  obtain ⟨hsl, h⟩ := h
  simp only [List.all_eq_true, List.mem_range] at h
  have hj : ∀ j oj, ops[j]? = some oj → (oj.after.toList.all fun e => !Region.binds .any e || decide (e.on < j)) = true ∧
      ∀ i oi, ops[i]? = some oi → i ≠ j → pairOk C ops sl (masks ops.toList []) i j oi oj = true := by
    intro j oj hoj
    have h1 := h j (Array.getElem?_eq_some_iff.1 hoj).1
    rw [hoj] at h1
    simp only [Bool.and_eq_true, List.all_eq_true, List.mem_range] at h1
    refine ⟨by rw [List.all_eq_true]; exact h1.1, fun i oi hoi hne => ?_⟩
    have h2 := h1.2 i (Array.getElem?_eq_some_iff.1 hoi).1
    rw [hoi] at h2
    simpa [hne] using h2
  refine ⟨fun j o e hoj he hb => ?_, fun i j oi oj t hoi hoj hne hd hl => ?_, fun i j oi oj hoi hoj hne h2 h0 hsj => ?_, fun j oj hoj hsj => ?_, fun i j oi oj hoi hoj h3 h4 => ?_⟩
  · have := (hj j o hoj).1
    rw [List.all_eq_true] at this
    have := this e (by simpa using he)
    simpa [hb] using this
  · have := (hj j oj hoj).2 i oi hoi hne
    unfold pairOk at this
    simp only [Bool.and_eq_true] at this
    have h1 := this.1.1
    rw [hd] at h1
    simp only [Bool.or_eq_true, Bool.not_eq_true'] at h1
    rcases h1 with h1 | h1
    · exfalso
      rw [Bool.or_eq_false_iff] at h1
      rcases hl with hl | hl
      · have := h1.1; simp at this; exact this hl
      · have := h1.2; simp [hl] at this
    · exact ho _ _ h1
  · have := (hj j oj hoj).2 i oi hoi hne
    unfold pairOk at this
    simp only [Bool.and_eq_true] at this
    have h1 := this.1.2
    rw [hsj] at h1
    simp only [Bool.or_eq_true, Bool.not_eq_true', h2] at h1
    rcases h1 with (h1 | h1) | h1
    · simp [h0] at h1
    · cases h1
    · exact ho _ _ h1
  · rw [List.all_eq_true] at hsl
    have := hsl j (by simpa using hsj)
    rw [hoj] at this
    simpa using this
  · have hne : i ≠ j := by rintro rfl; rw [hoi] at hoj; cases hoj; omega
    have := (hj j oj hoj).2 i oi hoi hne
    unfold pairOk at this
    simp only [Bool.and_eq_true] at this
    have h1 := this.2
    simp only [Bool.or_eq_true, Bool.not_eq_true', h3, h4] at h1
    rcases h1 with h1 | h1
    · simp at h1
    · exact hm _ _ h1

def drawOk (C : Cfg) (ops : Array Oper) : Bool := drawOkS C ops []
theorem drawOk_spec {C : Cfg} {ops : Array Oper} (h : drawOk C ops = true) : DrawOk C ops (fun _ => false) := drawOkS_spec (sl := []) h
theorem Steady.none {C : Cfg} {ops : Array Oper} {fs : Nat → List Value} {ss : Nat → AHeap} : Steady C ops fs ss (fun _ => false) := fun _ _ _ _ _ _ _ h => by cases h
end Go.Lk
end

section
/- Code: what it does to a frame and an abstract heap. -/
namespace Go.Lk
set_option linter.unusedSimpArgs false
set_option linter.unusedVariables false

abbrev Res := Option (Exit × List Value × AHeap)

def iter (f : List Value → AHeap → Res) : Nat → List Value → AHeap → Res
  | 0, _, _ => none
  | n + 1, fr, σ =>
    match f fr σ with
    | some (.normal, fr', σ') => iter f n fr' σ'
    | r => r

/-- CODE, in at most n rounds of each loop. -/
def DC (C : Cfg) (n : Nat) : Code → List Value → AHeap → Res
  | .skip, fr, σ => some (.normal, fr, σ)
  | .region _ ops _, fr, σ =>
    match runOps C ops ops.toList fr σ with
    | some (fr', σ') => some (.normal, fr', σ')
    | none => none
  | .seq a b, fr, σ =>
    match DC C n a fr σ with
    | some (.normal, fr', σ') => DC C n b fr' σ'
    | r => r
  | .cond c x y, fr, σ =>
    match aev fr c with
    | some (.bool b) => bif b then DC C n x fr σ else DC C n y fr σ
    | _ => none
  | .block id body, fr, σ =>
    match DC C n body fr σ with
    | some (.exit id', fr', σ') => if id' = id then some (.normal, fr', σ') else some (.exit id', fr', σ')
    | r => r
  | .loop body, fr, σ => iter (DC C n body) n fr σ
  | .exit id, fr, σ => some (.exit id, fr, σ)
  | .ret, fr, σ => some (.ret, fr, σ)
  | .label _, fr, σ => some (.normal, fr, σ)
  | .scope body, fr, σ => DC C n body fr σ
  | _, _, _ => none

/-- Are all regions whose order is open in order? -/
def codeOk (C : Cfg) : Code → Bool
  | .region _ ops draw => !draw || drawOk C ops
  | .seq a b => codeOk C a && codeOk C b
  | .cond _ x y => codeOk C x && codeOk C y
  | .block _ b | .loop b | .scope b => codeOk C b
  | .goto _ => false
  | _ => true

/-- WHAT CODE DOES: from each state that fits it comes to one that fits what is told. (n0: blocks below it keep their names.) -/
def Sim (C : Cfg) (n0 : Nat) (c : Code) (fr : List Value) (σ : AHeap) (e : Exit) (fr' : List Value) (σ' : AHeap) : Prop :=
  ∀ (B : Nat → Prop) (μ : List (Option Ent)) (tmps : Array Value) (defers : List Deferred) (w : World) (Q : Exit → Act → World → Prop),
    FrR C.ex μ fr tmps → HR C.ex B μ σ w →
    (∀ μ' tmps' w', FrR C.ex μ' fr' tmps' → HR C.ex B μ' σ' w' → (∀ b, b < n0 → μ'[b]? = μ[b]?) → Blw B w w' → Q e ⟨tmps', defers⟩ w') →
    c.wp C.P Q ⟨tmps, defers⟩ w

end Go.Lk
end

section
/- What code does: the rules. -/
namespace Go.Lk
set_option linter.unusedSimpArgs false
set_option linter.unusedVariables false

section
variable {C : Cfg}

theorem runOps_mono (hC : C.Ok) {ops : Array Oper} : ∀ (l : List Oper) (fr fr' : List Value) (σ σ' : AHeap), runOps C ops l fr σ = some (fr', σ') → σ.length ≤ σ'.length
  | [], fr, fr', σ, σ', h => by cases h; exact Nat.le_refl _
  | o :: l, fr, fr', σ, σ', h => by
    unfold runOps at h
    split at h
    · split at h
      · rename_i v σ1 hop
        exact Nat.le_trans (aOp_mono hC hop) (runOps_mono hC l _ _ _ _ h)
      · cases h
    · exact runOps_mono hC l _ _ _ _ h
    · cases h

theorem Sim.le {n0 n1 : Nat} {c : Code} {fr fr' : List Value} {σ σ' : AHeap} {e : Exit} (h : Sim C n1 c fr σ e fr' σ') (hn : n0 ≤ n1) : Sim C n0 c fr σ e fr' σ' := by
  intro B μ tmps defers w Q hf hr hQ
  exact h B μ tmps defers w Q hf hr (fun μ' tmps' w' q1 q2 q3 q4 => hQ μ' tmps' w' q1 q2 (fun b hb => q3 b (by omega)) q4)

/-- A region. -/
theorem Sim.draw (hC : C.Ok) {id : Nat} {ops : Array Oper} {st : Nat → Bool} {fr fr' : List Value} {σ σ' : AHeap} (hd : DrawOk C ops st) {fs : Nat → List Value} {ss : Nat → AHeap} {vs : Nat → Value} {wd : Nat → Bool}
    (e1 : fs 0 = fr) (e2 : ss 0 = σ) (e3 : fs ops.size = fr') (e4 : ss ops.size = σ') (ht : Trace C ops fs ss vs wd) (hsd : Steady C ops fs ss st) :
    Sim C σ.length (.region id ops true) fr σ .normal fr' σ' := by
  intro B μ tmps defers w Q hf hr hQ
  refine wp_region_any hC.mix ?_
  -- the first stop
  obtain ⟨s, hs2, hs3, hs4⟩ : ∃ s', s' ≤ ops.size ∧ (∀ i, i < s' → kd C ops wd i ≠ 2) ∧ (s' = ops.size ∨ kd C ops wd s' = 2) := by
    have key : ∀ d, ∃ s', s' ≤ d ∧ (∀ i, i < s' → kd C ops wd i ≠ 2) ∧ (s' = d ∨ kd C ops wd s' = 2) := by
      intro d
      induction d with
      | zero => exact ⟨0, by omega, fun i h => by omega, .inl rfl⟩
      | succ d ih =>
        obtain ⟨s', g2, g3, g4⟩ := ih
        rcases g4 with g4 | g4
        · by_cases h : kd C ops wd s' = 2
          · exact ⟨s', by omega, g3, .inr h⟩
          · exact ⟨s' + 1, by omega, fun i h2 => by
              rcases Nat.lt_or_eq_of_le (Nat.le_of_lt_succ h2) with h' | h'
              · exact g3 i h'
              · rw [h']; exact h, .inl (by omega)⟩
        · exact ⟨s', by omega, g3, .inr g4⟩
    exact key ops.size
  obtain ⟨ext, he, hpos⟩ := ht.grow hC (a := 0) (s := s) (Nat.zero_le _) hs2 (fun i _ h2 => hs3 i h2)
  have hlen' : (ss s).length = σ.length + ext.length := by rw [he, e2]; simp
  have hfalse : ∀ i, (Array.replicate ops.size false).getD i false = false := by
    intro i
    by_cases hi : i < ops.size
    · simp [hi]
    · simp [hi]
  have hge : ∀ i, i ≤ s → σ.length ≤ (ss i).length := by
    intro i hi
    have := ht.mono hC i (by omega)
    rw [e2] at this; exact this
  refine draw_all (B := B) hC ht hsd hd (n0 := σ.length) (fun i hi => by have := ht.mono hC i hi; rw [e2] at this; exact this) (μ0 := μ ++ List.replicate ext.length none) (w0 := w) (defers := defers) ?_
    ops.size (Array.replicate ops.size false) ⟨tmps, defers⟩ { w with drawn := w.drawn + 1 } (μ ++ List.replicate ext.length none) (by simp) (fun i j _ hj => absurd hj (by show ¬ (Array.replicate ops.size false).getD j false = true; rw [hfalse j]; decide)) ?_ ?_ rfl (Sub.refl _) (fun _ _ => rfl) (Blw.drawn _ _)
  · intro a' w' μ' q1 q2 q3 q4 q5 q6
    obtain ⟨tmps', d'⟩ := a'
    cases q3
    refine hQ μ' tmps' w' (by rw [← e3]; exact q1) (by rw [← e4]; exact q2) (fun b hb => ?_) q6
    rw [q5 b hb, List.getElem?_append_left (by rw [hr.len]; exact hb)]
  · have := List.countP_le_length (p := fun i => !(Array.replicate ops.size false).getD i false) (l := List.range ops.size)
    simpa using this
  · refine ⟨⟨s, σ ++ List.replicate ext.length .dead, (hr.of_heap (w' := { w with drawn := w.drawn + 1 }) rfl).dead _, ?_, ?_⟩, ?_⟩
    · refine ⟨hs2, ?_, fun i hi h2 => absurd h2 (hs3 i hi), by simp [hlen'], ?_, ?_⟩
      · rcases hs4 with h | h
        · exact .inl h
        · exact .inr ⟨h, hfalse s⟩
      · intro i hi hk3 _
        have h1 := hge i (by omega)
        have h2' : (ss i).length < (ss s).length := by
          obtain ⟨m, row, _, hrow⟩ := ht.made hk3
          obtain ⟨e, he', _⟩ := ht.grow hC (a := i + 1) (s := s) (by omega) hs2 (fun m g1 g2 => hs3 m g2)
          rw [he', hrow]; simp
        rw [List.getElem?_append_right h1, List.getElem?_replicate, if_pos (by omega)]
      · intro b hb
        rcases Nat.lt_or_ge b σ.length with h | h
        · rw [List.getElem?_append_left h, he, e2, List.getElem?_append_left h]
        · rcases Nat.lt_or_ge b (ss s).length with h' | h'
          · obtain ⟨i, g1, g2, g3, g4⟩ := hpos b (by rw [e2]; exact h) h'
            exact absurd g4 (hb i g2 g3 (hfalse i))
          · rw [List.getElem?_eq_none h', List.getElem?_eq_none (by simp; omega)]
    · intro i hi hk3 _ e
      have h1 := hge i (by omega)
      rw [List.getElem?_append_right (by rw [hr.len]; exact h1), List.getElem?_replicate]
      split <;> simp
    · rw [fsF_none _ _ _ _ _ (fun i _ _ => hfalse i), e1]
      exact hf.mono (Sub.holes _ _)


theorem Sim.region (hC : C.Ok) {id : Nat} {ops : Array Oper} {draw : Bool} {fr fr' : List Value} {σ σ' : AHeap} (hok : codeOk C (.region id ops draw) = true) (h : runOps C ops ops.toList fr σ = some (fr', σ')) :
    Sim C σ.length (.region id ops draw) fr σ .normal fr' σ' := by
  cases draw with
  | false =>
    intro B μ tmps defers w Q hf hr hQ
    refine wp_region ?_
    have := runOps_sound (B := B) hC (Q := Q) ops.toList 0 fr fr' σ σ' μ ⟨tmps, defers⟩ w (fun j => by simp) h hf hr (fun μ' tmps' w' q1 q2 q3 q4 => hQ μ' tmps' w' q1 q2 (fun b hb => q3 b (by rw [hr.len]; exact hb)) q4)
    rw [List.range_eq_range']
    simpa using this
  | true =>
    obtain ⟨fs, ss, vs, wd, e1, e2, e3, e4, ht⟩ := trace_whole h
    exact Sim.draw hC (drawOk_spec (C := C) (ops := ops) (by simpa [codeOk] using hok)) e1 e2 e3 e4 ht Steady.none

theorem Sim.seq {n0 : Nat} {a b : Code} {fr fr1 fr2 : List Value} {σ σ1 σ2 : AHeap} {e : Exit} (h1 : Sim C n0 a fr σ .normal fr1 σ1) (h2 : Sim C n0 b fr1 σ1 e fr2 σ2) : Sim C n0 (.seq a b) fr σ e fr2 σ2 := by
  intro B μ tmps defers w Q hf hr hQ
  refine wp_seq (h1 B μ tmps defers w _ hf hr ?_)
  intro μ' tmps' w' q1 q2 q3 q4
  refine h2 B μ' tmps' defers w' Q q1 q2 ?_
  intro μ'' tmps'' w'' r1 r2 r3 r4
  exact hQ μ'' tmps'' w'' r1 r2 (fun b hb => (r3 b hb).trans (q3 b hb)) (q4.trans r4)

def Exit.isN : Exit → Bool
  | .normal => true
  | _ => false
theorem then_ne {next : Act → World → Prop} {Q : Exit → Act → World → Prop} {e : Exit} {a : Act} {w : World} (he : Lk.Exit.isN e = false) (h : Q e a w) : Exit.then next Q e a w := by
  cases e <;> first | exact h | cases he

theorem Sim.seq_out {n0 : Nat} {a b : Code} {fr fr1 : List Value} {σ σ1 : AHeap} {e : Exit} (h1 : Sim C n0 a fr σ e fr1 σ1) (he : Lk.Exit.isN e = false) : Sim C n0 (.seq a b) fr σ e fr1 σ1 := by
  intro B μ tmps defers w Q hf hr hQ
  refine wp_seq (h1 B μ tmps defers w _ hf hr ?_)
  intro μ' tmps' w' q1 q2 q3 q4
  exact then_ne he (hQ μ' tmps' w' q1 q2 q3 q4)

theorem Sim.skip {n0 : Nat} {fr : List Value} {σ : AHeap} : Sim C n0 .skip fr σ .normal fr σ := by
  intro B μ tmps defers w Q hf hr hQ
  exact wp_skip (hQ μ tmps w hf hr (fun _ _ => rfl) (Blw.refl _ _))
theorem Sim.label {n0 : Nat} {l : Nat} {fr : List Value} {σ : AHeap} : Sim C n0 (.label l) fr σ .normal fr σ := by
  intro B μ tmps defers w Q hf hr hQ
  exact wp_label (hQ μ tmps w hf hr (fun _ _ => rfl) (Blw.refl _ _))
theorem Sim.ret {n0 : Nat} {fr : List Value} {σ : AHeap} : Sim C n0 .ret fr σ .ret fr σ := by
  intro B μ tmps defers w Q hf hr hQ
  exact wp_ret (hQ μ tmps w hf hr (fun _ _ => rfl) (Blw.refl _ _))
theorem Sim.exit {n0 : Nat} {id : Nat} {fr : List Value} {σ : AHeap} : Sim C n0 (.exit id) fr σ (.exit id) fr σ := by
  intro B μ tmps defers w Q hf hr hQ
  exact wp_exit (hQ μ tmps w hf hr (fun _ _ => rfl) (Blw.refl _ _))
theorem Sim.cond {n0 : Nat} {c : Operand} {x y : Code} {t : Bool} {fr fr' : List Value} {σ σ' : AHeap} {e : Exit} (hc : aev fr c = some (.bool t)) (h : Sim C n0 (bif t then x else y) fr σ e fr' σ') : Sim C n0 (.cond c x y) fr σ e fr' σ' := by
  intro B μ tmps defers w Q hf hr hQ
  have hv := (aev_sound (a := ⟨tmps, defers⟩) hf hc).bool_of
  refine wp_cond hv ?_
  cases t
  · exact h B μ tmps defers w Q hf hr hQ
  · exact h B μ tmps defers w Q hf hr hQ

def outOf (id : Nat) : Exit → Exit
  | .exit id' => if id' = id then .normal else .exit id'
  | e => e
theorem inBlock_of {id : Nat} {Q : Exit → Act → World → Prop} {e : Exit} {a : Act} {w : World} (h : Q (outOf id e) a w) : Exit.inBlock id Q e a w := by
  cases e <;> first | exact h | skip
  rename_i id'
  unfold outOf at h
  unfold Exit.inBlock
  by_cases hid : id' = id
  · simp only [hid, if_true] at h ⊢; exact h
  · simp only [hid, if_false] at h ⊢; exact h
theorem Sim.block {n0 : Nat} {id : Nat} {c : Code} {fr fr' : List Value} {σ σ' : AHeap} {e : Exit} (h : Sim C n0 c fr σ e fr' σ') : Sim C n0 (.block id c) fr σ (outOf id e) fr' σ' := by
  intro B μ tmps defers w Q hf hr hQ
  refine wp_block (h B μ tmps defers w _ hf hr ?_)
  intro μ' tmps' w' q1 q2 q3 q4
  exact inBlock_of (hQ μ' tmps' w' q1 q2 q3 q4)
def Exit.isG : Exit → Bool
  | .goto _ => true
  | _ => false
theorem Sim.scope {n0 : Nat} {c : Code} {fr fr' : List Value} {σ σ' : AHeap} {e : Exit} (h : Sim C n0 c fr σ e fr' σ') (hg : Lk.Exit.isG e = false) : Sim C n0 (.scope c) fr σ e fr' σ' := by
  intro B μ tmps defers w Q hf hr hQ
  refine wp_scope_straight (h B μ tmps defers w _ hf hr ?_)
  intro μ' tmps' w' q1 q2 q3 q4
  have := hQ μ' tmps' w' q1 q2 q3 q4
  cases e <;> first | exact this | cases hg

/-- A LOOP: N rounds that go on, and one that ends it. -/
theorem Sim.loop {n0 : Nat} {c : Code} (S : Nat → List Value × AHeap) (N : Nat) {fr' : List Value} {σ' : AHeap} {e : Exit} (hr : ∀ k, k < N → Sim C n0 c (S k).1 (S k).2 .normal (S (k + 1)).1 (S (k + 1)).2)
    (hl : Sim C n0 c (S N).1 (S N).2 e fr' σ') (he : Lk.Exit.isN e = false) : Sim C n0 (.loop c) (S 0).1 (S 0).2 e fr' σ' := by
  intro B μ tmps defers w Q hf hh hQ
  refine wp_loop_rounds (N + 1) ?_
  have key : ∀ (d k : Nat), k + d = N → ∀ (μ' : List (Option Ent)) (tmps' : Array Value) (w' : World), FrR C.ex μ' (S k).1 tmps' → HR C.ex B μ' (S k).2 w' → (∀ b, b < n0 → μ'[b]? = μ[b]?) → Blw B w w' →
      Code.rounds C.P c Q (d + 1) ⟨tmps', defers⟩ w' := by
    intro d
    induction d with
    | zero =>
      intro k hk μ' tmps' w' q1 q2 q3 q4
      have : k = N := by omega
      subst this
      rw [rounds_succ]
      refine hl B μ' tmps' defers w' _ q1 q2 ?_
      intro μ'' tmps'' w'' r1 r2 r3 r4
      exact then_ne he (hQ μ'' tmps'' w'' r1 r2 (fun b hb => (r3 b hb).trans (q3 b hb)) (q4.trans r4))
    | succ d ih =>
      intro k hk μ' tmps' w' q1 q2 q3 q4
      rw [rounds_succ]
      refine hr k (by omega) B μ' tmps' defers w' _ q1 q2 ?_
      intro μ'' tmps'' w'' r1 r2 r3 r4
      exact ih (k + 1) (by omega) μ'' tmps'' w'' r1 r2 (fun b hb => (r3 b hb).trans (q3 b hb)) (q4.trans r4)
  exact key N 0 (by omega) μ tmps w hf hh (fun _ _ => rfl) (Blw.refl _ _)

end
end Go.Lk
end

section
/- Code by reckoning; blocks renamed; whole functions. -/
namespace Go.Lk
set_option linter.unusedSimpArgs false
set_option linter.unusedVariables false

section
variable {C : Cfg}

theorem iter_mono {f : List Value → AHeap → Res} (hf : ∀ fr σ e fr' σ', f fr σ = some (e, fr', σ') → σ.length ≤ σ'.length ∧ Lk.Exit.isG e = false) : ∀ (n : Nat) (fr : List Value) (σ : AHeap) (e : Exit) (fr' : List Value) (σ' : AHeap),
    iter f n fr σ = some (e, fr', σ') → σ.length ≤ σ'.length ∧ Lk.Exit.isG e = false
  | 0, _, _, _, _, _, h => by cases h
  | n + 1, fr, σ, e, fr', σ', h => by
    unfold iter at h
    split at h
    · rename_i fr1 σ1 h1
      have := iter_mono hf n _ _ _ _ _ h
      exact ⟨Nat.le_trans (hf _ _ _ _ _ h1).1 this.1, this.2⟩
    · exact hf _ _ _ _ _ h

theorem DC_mono (hC : C.Ok) (n : Nat) : ∀ (c : Code) (fr : List Value) (σ : AHeap) (e : Exit) (fr' : List Value) (σ' : AHeap), DC C n c fr σ = some (e, fr', σ') → σ.length ≤ σ'.length ∧ Lk.Exit.isG e = false := by
  intro c
  induction c with
  | skip => intro fr σ e fr' σ' h; cases h; exact ⟨Nat.le_refl _, rfl⟩
  | region id ops draw =>
    intro fr σ e fr' σ' h
    simp only [DC] at h
    split at h
    · rename_i h1; cases h; exact ⟨runOps_mono hC _ _ _ _ _ h1, rfl⟩
    · cases h
  | seq a b iha ihb =>
    intro fr σ e fr' σ' h
    simp only [DC] at h
    split at h
    · rename_i h1
      have := ihb _ _ _ _ _ h
      exact ⟨Nat.le_trans (iha _ _ _ _ _ h1).1 this.1, this.2⟩
    · exact iha _ _ _ _ _ h
  | cond c x y ihx ihy =>
    intro fr σ e fr' σ' h
    simp only [DC] at h
    split at h
    · rename_i b _
      cases b
      · exact ihy _ _ _ _ _ h
      · exact ihx _ _ _ _ _ h
    · cases h
  | block id b ih =>
    intro fr σ e fr' σ' h
    simp only [DC] at h
    split at h
    · rename_i h1
      have := ih _ _ _ _ _ h1
      split at h <;> cases h
      · exact ⟨this.1, rfl⟩
      · exact ⟨this.1, rfl⟩
    · exact ih _ _ _ _ _ h
  | loop b ih =>
    intro fr σ e fr' σ' h
    simp only [DC] at h
    exact iter_mono ih n _ _ _ _ _ h
  | exit id => intro fr σ e fr' σ' h; cases h; exact ⟨Nat.le_refl _, rfl⟩
  | ret => intro fr σ e fr' σ' h; cases h; exact ⟨Nat.le_refl _, rfl⟩
  | label l => intro fr σ e fr' σ' h; cases h; exact ⟨Nat.le_refl _, rfl⟩
  | scope b ih => intro fr σ e fr' σ' h; exact ih _ _ _ _ _ h
  | _ => intro fr σ e fr' σ' h; cases h

theorem iter_sound {f : List Value → AHeap → Res} {c : Code} {n0 : Nat} (hm : ∀ fr σ e fr' σ', f fr σ = some (e, fr', σ') → σ.length ≤ σ'.length)
    (hf : ∀ fr σ e fr' σ', f fr σ = some (e, fr', σ') → Sim C σ.length c fr σ e fr' σ') : ∀ (n : Nat) (fr : List Value) (σ : AHeap) (e : Exit) (fr' : List Value) (σ' : AHeap), n0 ≤ σ.length →
    iter f n fr σ = some (e, fr', σ') → ∃ (S : Nat → List Value × AHeap) (N : Nat), S 0 = (fr, σ) ∧ (∀ k, k < N → Sim C n0 c (S k).1 (S k).2 .normal (S (k + 1)).1 (S (k + 1)).2) ∧ Sim C n0 c (S N).1 (S N).2 e fr' σ' ∧ Lk.Exit.isN e = false
  | 0, _, _, _, _, _, _, h => by cases h
  | n + 1, fr, σ, e, fr', σ', hn, h => by
    unfold iter at h
    split at h
    · rename_i fr1 σ1 h1
      have hle := hm _ _ _ _ _ h1
      obtain ⟨S, N, e0, e1, e2, e3⟩ := iter_sound (n0 := n0) hm hf n fr1 σ1 e fr' σ' (by omega) h
      refine ⟨fun k => match k with | 0 => (fr, σ) | k + 1 => S k, N + 1, rfl, fun k hk => ?_, e2, e3⟩
      cases k with
      | zero =>
        show Sim C n0 c fr σ .normal (S 0).1 (S 0).2
        rw [e0]
        exact (hf _ _ _ _ _ h1).le hn
      | succ k => exact e1 k (by omega)
    · rename_i hno
      refine ⟨fun _ => (fr, σ), 0, rfl, fun k hk => by omega, (hf _ _ _ _ _ h).le hn, ?_⟩
      cases e <;> first | rfl | skip
      exact absurd h (hno _ _)

/-- WHAT IS RECKONED HOLDS. -/
theorem DC_sound (hC : C.Ok) (n : Nat) : ∀ (c : Code) (fr : List Value) (σ : AHeap) (e : Exit) (fr' : List Value) (σ' : AHeap), codeOk C c = true → DC C n c fr σ = some (e, fr', σ') → Sim C σ.length c fr σ e fr' σ' := by
  intro c
  induction c with
  | skip => intro fr σ e fr' σ' _ h; cases h; exact Sim.skip
  | region id ops draw =>
    intro fr σ e fr' σ' hok h
    simp only [DC] at h
    split at h
    · rename_i h1; cases h; exact Sim.region hC hok h1
    · cases h
  | seq a b iha ihb =>
    intro fr σ e fr' σ' hok h
    simp only [codeOk, Bool.and_eq_true] at hok
    simp only [DC] at h
    split at h
    · rename_i h1
      exact (iha _ _ _ _ _ hok.1 h1).seq ((ihb _ _ _ _ _ hok.2 h).le (DC_mono hC n _ _ _ _ _ _ h1).1)
    · rename_i hno
      refine (iha _ _ _ _ _ hok.1 h).seq_out ?_
      cases e <;> first | rfl | skip
      exact absurd h (hno _ _)
  | cond c x y ihx ihy =>
    intro fr σ e fr' σ' hok h
    simp only [codeOk, Bool.and_eq_true] at hok
    simp only [DC] at h
    split at h
    · rename_i b hb
      refine Sim.cond hb ?_
      cases b
      · exact ihy _ _ _ _ _ hok.2 h
      · exact ihx _ _ _ _ _ hok.1 h
    · cases h
  | block id b ih =>
    intro fr σ e fr' σ' hok h
    simp only [codeOk] at hok
    simp only [DC] at h
    split at h
    · rename_i id' fr1 σ1 h1
      have := (ih _ _ _ _ _ hok h1).block (id := id)
      split at h
      · rename_i hid
        cases h
        simpa only [outOf, if_pos hid] using this
      · rename_i hid
        cases h
        simpa only [outOf, if_neg hid] using this
    · rename_i hno
      have := (ih _ _ _ _ _ hok h).block (id := id)
      have he : outOf id e = e := by
        cases e <;> first | rfl | skip
        exact absurd h (hno _ _ _)
      rwa [he] at this
  | loop b ih =>
    intro fr σ e fr' σ' hok h
    simp only [codeOk] at hok
    simp only [DC] at h
    obtain ⟨S, N, e0, e1, e2, e3⟩ := iter_sound (n0 := σ.length) (fun _ _ _ _ _ h => (DC_mono hC n _ _ _ _ _ _ h).1) (fun _ _ _ _ _ h => ih _ _ _ _ _ hok h) n fr σ e fr' σ' (Nat.le_refl _) h
    have := Sim.loop S N e1 e2 e3
    rwa [e0] at this
  | exit id => intro fr σ e fr' σ' _ h; cases h; exact Sim.exit
  | ret => intro fr σ e fr' σ' _ h; cases h; exact Sim.ret
  | label l => intro fr σ e fr' σ' _ h; cases h; exact Sim.label
  | scope b ih =>
    intro fr σ e fr' σ' hok h
    simp only [codeOk] at hok
    simp only [DC] at h
    exact (ih _ _ _ _ _ hok h).scope (DC_mono hC n _ _ _ _ _ _ h).2
  | _ => intro fr σ e fr' σ' _ h; cases h

end

/-! ### Blocks renamed -/
/-- A value with its blocks renamed, to a depth. -/
def renV (r : Nat → Nat) : Nat → Value → Value
  | _, .pointer (some ⟨b, o, s⟩) => .pointer (some ⟨r b, o, s⟩)
  | _, .slice (some ⟨b, o, s⟩) l c => .slice (some ⟨r b, o, s⟩) l c
  | d + 1, .agg cs => .agg (cs.toList.map (renV r d)).toArray
  | d + 1, .tuple cs => .tuple (cs.toList.map (renV r d)).toArray
  | d + 1, .func f xs ys => .func f (xs.toList.map (renV r d)).toArray (ys.toList.map (renV r d)).toArray
  | d + 1, .iface t v => .iface t (renV r d v)
  | 0, .agg _ => .map (some 0)
  | 0, .tuple _ => .map (some 0)
  | 0, .func .. => .map (some 0)
  | 0, .iface .. => .map (some 0)
  | _, v => v

theorem VR.no_map {ex : Bool} {μ : List (Option Ent)} {n : Nat} {v : Value} (h : VR ex μ (.map (some n)) v) : False := by cases h

theorem VRs.ren {ex : Bool} {μ1 μ' : List (Option Ent)} {f : Value → Value} (hf : ∀ v c, VR ex μ1 (f v) c → VR ex μ' v c) {vs cs : List Value} (h : VRs ex μ1 (vs.map f) cs) : VRs ex μ' vs cs := by
  refine ⟨by simpa using h.1, fun i a ha => ?_⟩
  obtain ⟨c, hc, hv⟩ := h.2 i (f a) (by simp [ha])
  exact ⟨c, hc, hf _ _ hv⟩

theorem VR.ren {ex : Bool} {μ1 μ' : List (Option Ent)} {r : Nat → Nat} (hr : ∀ b e, μ1[r b]? = some (some e) → μ'[b]? = some (some e)) : ∀ (d : Nat) (v c : Value), VR ex μ1 (renV r d v) c → VR ex μ' v c := by
  intro d
  induction d with
  | zero =>
    intro v c h
    cases v with
    | pointer a =>
      cases a with
      | none => cases h; exact .pnil
      | some a =>
        obtain ⟨b, o, s⟩ := a
        simp only [renV] at h
        cases h with
        | ptr hm => exact .ptr (hr _ _ hm)
    | slice a l cp =>
      cases a with
      | none => cases h; exact .snil _ _
      | some a =>
        obtain ⟨b, o, s⟩ := a
        simp only [renV] at h
        cases h with
        | slice hm hc => exact .slice (hr _ _ hm) hc
        | sempty hm a => exact .sempty (hr _ _ hm) a
    | agg cs => exact (VR.no_map h).elim
    | tuple cs => exact (VR.no_map h).elim
    | func f xs ys => exact (VR.no_map h).elim
    | iface t v => exact (VR.no_map h).elim
    | map m => cases m with | none => cases h; exact .mapNil | some m => exact (VR.no_map h).elim
    | chan m => cases h
    | _ => cases h; constructor
  | succ d ih =>
    intro v c h
    cases v with
    | pointer a =>
      cases a with
      | none => cases h; exact .pnil
      | some a =>
        obtain ⟨b, o, s⟩ := a
        simp only [renV] at h
        cases h with
        | ptr hm => exact .ptr (hr _ _ hm)
    | slice a l cp =>
      cases a with
      | none => cases h; exact .snil _ _
      | some a =>
        obtain ⟨b, o, s⟩ := a
        simp only [renV] at h
        cases h with
        | slice hm hc => exact .slice (hr _ _ hm) hc
        | sempty hm a => exact .sempty (hr _ _ hm) a
    | agg cs =>
      simp only [renV] at h
      obtain ⟨c', rfl, hv⟩ := h.agg_iff
      exact VRs.toAgg (VRs.ren ih (by simpa using hv))
    | tuple cs =>
      simp only [renV] at h
      obtain ⟨c', rfl, hv⟩ := h.tuple_iff
      exact VRs.toTuple (VRs.ren ih (by simpa using hv))
    | func f xs ys =>
      simp only [renV] at h
      obtain ⟨xs', ys', rfl, h1, h2⟩ := h.func_iff
      have k1 : VRs ex μ' xs.toList xs'.toList := VRs.ren ih (by simpa using h1)
      have k2 : VRs ex μ' ys.toList ys'.toList := VRs.ren ih (by simpa using h2)
      obtain ⟨e1, j1⟩ := k1.elems
      obtain ⟨e2, j2⟩ := k2.elems
      exact .func _ e1 e2 j1 j2
    | iface t v =>
      simp only [renV] at h
      cases h with
      | iface _ h => exact .iface _ (ih _ _ h)
    | map m => cases m with | none => cases h; exact .mapNil | some m => exact (VR.no_map h).elim
    | chan m => cases h
    | _ => cases h; constructor

/-- What stood under the old names stands under the new ones. -/
theorem VR.again {ex : Bool} {μ μ1 μ' : List (Option Ent)} {a c : Value} (h : VR ex μ a c) (hr : ∀ b e, b < μ.length → μ1[b]? = some (some e) → μ'[b]? = some (some e)) : ∀ {c' : Value}, VR ex μ1 a c' → VR ex μ' a c' := by
  induction h with
  | ptr h => intro c' h'; cases h' with | ptr hm => exact .ptr (hr _ _ (lt_of_some h) hm)
  | slice h hc =>
    intro c' h'
    cases h' with
    | slice hm hc' => exact .slice (hr _ _ (lt_of_some h) hm) hc'
    | sempty hm a => exact .sempty (hr _ _ (lt_of_some h) hm) a
  | sempty h a =>
    intro c' h'
    cases h' with
    | slice hm hc' => exact .slice (hr _ _ (lt_of_some h) hm) hc'
    | sempty hm a => exact .sempty (hr _ _ (lt_of_some h) hm) a
  | func fn hf hc _ _ ih1 ih2 =>
    intro c' h'
    cases h' with
    | func _ hf' hc' h1 h2 => exact .func _ hf' hc' (fun i hi => ih1 i hi (h1 i hi)) (fun i hi => ih2 i hi (h2 i hi))
  | iface t _ ih => intro c' h'; cases h' with | iface _ h => exact .iface _ (ih h)
  | agg hc _ ih => intro c' h'; cases h' with | agg hc' h => exact .agg hc' (fun i hi => ih i hi (h i hi))
  | tuple hc _ ih => intro c' h'; cases h' with | tuple hc' h => exact .tuple hc' (fun i hi => ih i hi (h i hi))
  | float k x => intro c' h'; obtain ⟨x', rfl, hx⟩ := h'.float_of; rw [hx]; exact .float _ _
  | complex k x y => intro c' h'; obtain ⟨x', y', rfl, hx, hy⟩ := h'.complex_of; rw [hx, hy]; exact .complex _ _ _
  | _ => intro c' h'; cases h'; constructor
theorem VRs.again {ex : Bool} {μ μ1 μ' : List (Option Ent)} {a c c' : List Value} (h : VRs ex μ a c) (hr : ∀ b e, b < μ.length → μ1[b]? = some (some e) → μ'[b]? = some (some e)) (h' : VRs ex μ1 a c') : VRs ex μ' a c' :=
  ⟨h'.1, fun i x hx => let ⟨y, hy, hv⟩ := h'.2 i x hx; let ⟨_, _, hv0⟩ := h.2 i x hx; ⟨y, hy, hv0.again hr hv⟩⟩

def renO (r : Nat → Nat) : AObj → AObj
  | .row vs rw opn => .row (vs.map (renV r 3)) rw opn
  | o => o

/-- A heap that stood somewhere. -/
def Stood (ex : Bool) (σ : AHeap) : Prop := ∃ B μ w, HR ex B μ σ w

/-- σ' is σ1 with its blocks renamed and some left out; σ0: the heap at the call's begin. -/
structure Emb (σ0 : AHeap) (r : Nat → Nat) (σ' σ1 : AHeap) : Prop where
  le : σ0.length ≤ σ'.length
  out : ∀ b, σ'.length ≤ b → σ1.length ≤ r b
  fix : ∀ b, b < σ0.length → r b = b
  inj : ∀ b b' o o', σ'[b]? = some o → σ'[b']? = some o' → o.live = true → o'.live = true → r b = r b' → b = b'
  obj : ∀ b o, σ'[b]? = some o → o.live = true → (b < σ0.length ∧ σ0[b]? = some o ∧ σ1[b]? = some o) ∨ σ1[r b]? = some (renO r o)

theorem renO_live (r : Nat → Nat) (o : AObj) : (renO r o).live = o.live := by cases o <;> rfl
theorem renO_owned (r : Nat → Nat) (o : AObj) : (renO r o).owned = o.owned := by cases o <;> rfl

theorem ObjR.ren {ex : Bool} {μ1 μ' : List (Option Ent)} {B : Nat → Prop} {w : World} {e : Ent} {r : Nat → Nat} (hr : ∀ b e, μ1[r b]? = some (some e) → μ'[b]? = some (some e)) {o : AObj} (h : ObjR ex μ1 B w e (renO r o)) : ObjR ex μ' B w e o := by
  cases o with
  | dead => trivial
  | iter s p => exact h
  | row vs rw opn =>
    obtain ⟨h0, h1, c, el, lo, hi, h2, h3, h4, h5⟩ := h
    simp only [List.length_map] at h0 h3 h4
    exact ⟨h0, h1, c, el, lo, hi, h2, h3, VRs.ren (fun v c => VR.ren hr 3 v c) h4, h5⟩

/-- The new names. -/
def renM (μ1 : List (Option Ent)) (r : Nat → Nat) (n : Nat) : List (Option Ent) := (List.range n).map fun b => (μ1[r b]?).getD none

theorem renM_get {μ1 : List (Option Ent)} {r : Nat → Nat} {n b : Nat} (hb : b < n) : (renM μ1 r n)[b]? = some ((μ1[r b]?).getD none) := by
  unfold renM
  rw [List.getElem?_map, List.getElem?_range hb]; rfl
theorem renM_some {μ1 : List (Option Ent)} {r : Nat → Nat} {n b : Nat} {e : Ent} (hb : (renM μ1 r n)[b]? = some (some e)) : b < n ∧ μ1[r b]? = some (some e) := by
  have hlt : b < n := by have := lt_of_some hb; simpa [renM] using this
  rw [renM_get hlt] at hb
  refine ⟨hlt, ?_⟩
  cases hm : μ1[r b]? with
  | none => rw [hm] at hb; cases hb
  | some x => rw [hm] at hb; simpa using hb
theorem renM_back {μ1 : List (Option Ent)} {r : Nat → Nat} {n b : Nat} {e : Ent} (hb : b < n) (h : μ1[r b]? = some (some e)) : (renM μ1 r n)[b]? = some (some e) := by
  rw [renM_get hb, h]; rfl

theorem Emb.back {ex : Bool} {B : Nat → Prop} {μ1 : List (Option Ent)} {σ0 σ' σ1 : AHeap} {w : World} {r : Nat → Nat} (h : HR ex B μ1 σ1 w) (he : Emb σ0 r σ' σ1) : ∀ b e, μ1[r b]? = some (some e) → (renM μ1 r σ'.length)[b]? = some (some e) := by
  intro b e hb
  refine renM_back ?_ hb
  rcases Nat.lt_or_ge b σ'.length with h' | h'
  · exact h'
  · have := he.out b h'
    have := lt_of_some hb
    have := h.len
    omega

theorem Emb.heap {ex : Bool} {B : Nat → Prop} {μ1 : List (Option Ent)} {σ0 σ' σ1 : AHeap} {w : World} {r : Nat → Nat} (h : HR ex B μ1 σ1 w) (hs : Stood ex σ0) (he : Emb σ0 r σ' σ1) : HR ex B (renM μ1 r σ'.length) σ' w := by
  have hback := he.back h
  have hle := he.le
  obtain ⟨B0, μ0, w0, h0⟩ := hs
  have hold : ∀ b e, b < μ0.length → μ1[b]? = some (some e) → (renM μ1 r σ'.length)[b]? = some (some e) := by
    intro b e hb hm
    rw [h0.len] at hb
    exact hback b e (by rw [he.fix b hb]; exact hm)
  -- what stands in σ1 where b goes
  have there : ∀ b o, σ'[b]? = some o → o.live = true → ∃ o1, σ1[r b]? = some o1 ∧ o1.live = true ∧ (o.owned = true → o1.owned = true) := by
    intro b o hb hl
    rcases he.obj b o hb hl with ⟨hlt, h1, h2⟩ | h2
    · exact ⟨o, by rw [he.fix b hlt]; exact h2, hl, id⟩
    · exact ⟨_, h2, by rw [renO_live]; exact hl, by rw [renO_owned]; exact id⟩
  refine ⟨by simp [renM], h.hB, ?_, ?_, ?_⟩
  · intro b o hb hl
    obtain ⟨o1, h1, h2, _⟩ := there b o hb hl
    obtain ⟨e, he1⟩ := h.has _ _ h1 h2
    exact ⟨e, hback b e he1⟩
  · intro b o e hb hm
    obtain ⟨_, hm1⟩ := renM_some hm
    cases hl : o.live with
    | false => cases o <;> first | trivial | cases hl
    | true =>
      rcases he.obj b o hb hl with ⟨hlt, h1, h2⟩ | h2
      · rw [he.fix b hlt] at hm1
        have hobj := h.obj b o e h2 hm1
        obtain ⟨e0, he0, hobj0⟩ := h0.at h1 hl
        cases o with
        | dead => trivial
        | iter s p => exact hobj
        | row vs rw opn =>
          obtain ⟨g0, g1, c, el, lo, hi, g2, g3, g4, g5⟩ := hobj
          obtain ⟨_, _, c0, el0, lo0, hi0, _, _, k4, _⟩ := hobj0
          exact ⟨g0, g1, c, el, lo, hi, g2, g3, VRs.again k4 hold g4, g5⟩
      · exact (h.obj (r b) _ e h2 hm1).ren hback
  · intro b b' o o' e e' hb hb' hm hm' hown hlive hcb
    obtain ⟨_, hm1⟩ := renM_some hm
    obtain ⟨_, hm1'⟩ := renM_some hm'
    have hl : o.live = true := by cases o <;> first | rfl | cases hown
    obtain ⟨o1, h1, _, h3⟩ := there b o hb hl
    obtain ⟨o1', h1', h2', _⟩ := there b' o' hb' hlive
    exact he.inj b b' o o' hb hb' hl hlive (h.inj (r b) (r b') o1 o1' e e' h1 h1' hm1 hm1' (h3 hown) h2' hcb)

/-- The frame, with the blocks renamed: each slot is unknown, or as it was. -/
def FrEmb (r : Nat → Nat) : List Value → List Value → Prop
  | [], [] => True
  | a :: as, b :: bs => (isU a = true ∨ b = renV r 3 a) ∧ FrEmb r as bs
  | _, _ => False

theorem FrEmb.len {r : Nat → Nat} : ∀ {as bs : List Value}, FrEmb r as bs → as.length = bs.length
  | [], [], _ => rfl
  | _ :: _, _ :: _, h => by simp [FrEmb.len h.2]
  | [], _ :: _, h => h.elim
  | _ :: _, [], h => h.elim
theorem FrEmb.get {r : Nat → Nat} : ∀ {as bs : List Value}, FrEmb r as bs → ∀ (i : Nat) (a : Value), as[i]? = some a → isU a = true ∨ bs[i]? = some (renV r 3 a)
  | [], [], _, i, a, h => by simp at h
  | a :: as, b :: bs, h, i, x, hx => by
    cases i with
    | zero => simp at hx; subst hx; rcases h.1 with h | h; exact .inl h; exact .inr (by simp [h])
    | succ i => simp at hx; simpa using FrEmb.get h.2 i x hx
  | [], _ :: _, h, _, _, _ => h.elim
  | _ :: _, [], h, _, _, _ => h.elim

theorem isU_ren {r : Nat → Nat} {a : Value} (h : isU (renV r 3 a) = true) : isU a = true := by
  cases a with
  | tuple cs => simp only [renV, isU] at h ⊢; simpa using h
  | pointer a => cases a <;> cases h
  | slice a l c => cases a <;> cases h
  | _ => cases h

/-! ### Functions -/
def aRes1 (P : Program) (fr : List Value) (σ : AHeap) : ResultVar → Option Value
  | .tmp t => aev fr (.tmp t)
  | .cell a t => match aev fr (.tmp a) with | some v => aLoad P σ t v | none => none

def aResL (P : Program) (fr : List Value) (σ : AHeap) : List ResultVar → Option (List Value)
  | [] => some []
  | r :: rs => match aRes1 P fr σ r, aResL P fr σ rs with
    | some v, some vs => some (v :: vs)
    | _, _ => none

def aResults (P : Program) (fn : Func) (fr : List Value) (σ : AHeap) : Option Value :=
  match aResL P fr σ fn.results.toList with
  | some [v] => some v
  | some vs => some (.tuple vs.toArray)
  | none => none

theorem res1_sound {C : Cfg} {B : Nat → Prop} {μ : List (Option Ent)} {fr : List Value} {σ : AHeap} {tmps : Array Value} {w : World} (hf : FrR C.ex μ fr tmps) (hr : HR C.ex B μ σ w) {rv : ResultVar} {v : Value} (h : aRes1 C.P fr σ rv = some v) :
    ∃ c, ((match rv with | .tmp t => pure (tmps.getD t undef) | .cell a t => do loadVar t (← asAddr (tmps.getD a undef)) : Sem Value)).run C.P w = .ok c w ∧ VR C.ex μ v c := by
  cases rv with
  | tmp t =>
    have h : aev fr (.tmp t) = some v := h
    have := aev_sound (a := ⟨tmps, []⟩) hf h
    exact ⟨_, rfl, this⟩
  | cell a t =>
    simp only [aRes1] at h
    split at h
    · rename_i p hp
      have hv := aev_sound (a := ⟨tmps, []⟩) hf hp
      obtain ⟨c, hc, hvc⟩ := load_sound (P := C.P) h hv hr
      refine ⟨c, ?_, hvc⟩
      rw [← hc]
      show (do loadVar t (← asAddr (tmps.getD a undef)) : Sem Value).run C.P w = _
      have he : Act.eval ⟨tmps, []⟩ (.tmp a) = tmps.getD a undef := rfl
      rw [he] at hv ⊢
      generalize tmps.getD a undef = y at hv ⊢
      unfold aLoad at h
      split at h
      · cases hv; rfl
      · cases h
    · cases h

theorem resL_sound {C : Cfg} {B : Nat → Prop} {μ : List (Option Ent)} {fr : List Value} {σ : AHeap} {tmps : Array Value} {w : World} (hf : FrR C.ex μ fr tmps) (hr : HR C.ex B μ σ w) : ∀ (rs : List ResultVar) (vs : List Value), aResL C.P fr σ rs = some vs →
    ∃ cs : List Value, VRs C.ex μ vs cs ∧ ∀ (acc : Array Value), (rs.foldlM (fun (bs : Array Value) (a : ResultVar) => bs.push <$> (match a with | .tmp t => pure (tmps.getD t undef) | .cell a t => do loadVar t (← asAddr (tmps.getD a undef)) : Sem Value)) acc : Sem (Array Value)).run C.P w = .ok (acc ++ cs.toArray) w
  | [], vs, h => by cases h; exact ⟨[], .nil, fun acc => by simp⟩
  | r :: rs, vs, h => by
    unfold aResL at h
    split at h
    · rename_i v vs' h1 h2
      cases h
      obtain ⟨c, hc, hv⟩ := res1_sound hf hr h1
      obtain ⟨cs, hvs, hrun⟩ := resL_sound hf hr rs vs' h2
      refine ⟨c :: cs, .cons hv hvs, fun acc => ?_⟩
      rw [List.foldlM_cons, Sem.run_bind, Sem.run_map, hc]
      simp only [Result.andThen_ok]
      rw [hrun]
      simp
    · cases h

theorem results_sound {C : Cfg} {B : Nat → Prop} {μ : List (Option Ent)} {fr : List Value} {σ : AHeap} {tmps : Array Value} {w : World} (hf : FrR C.ex μ fr tmps) (hr : HR C.ex B μ σ w) {fn : Func} {v : Value} (h : aResults C.P fn fr σ = some v) :
    ∃ c, (results fn tmps).run C.P w = .ok c w ∧ VR C.ex μ v c := by
  have main : ∀ vs, aResL C.P fr σ fn.results.toList = some vs → ∃ cs : List Value, VRs C.ex μ vs cs ∧ (results fn tmps).run C.P w = .ok (if h : cs.toArray.size = 1 then cs.toArray[0] else .tuple cs.toArray) w := by
    intro vs hvs
    obtain ⟨cs, h1, h2⟩ := resL_sound hf hr _ _ hvs
    refine ⟨cs, h1, ?_⟩
    unfold results
    rw [Sem.run_bind, Array.mapM_eq_foldlM, ← Array.foldlM_toList]
    have := h2 #[]
    rw [Array.empty_append] at this
    rw [show (fun (bs : Array Value) (a : ResultVar) => bs.push <$> (match a with | .tmp t => pure (tmps.getD t undef) | .cell a t => do loadVar t (← asAddr (tmps.getD a undef)) : Sem Value)) = _ from rfl] at this
    erw [this]
    rfl
  unfold aResults at h
  split at h
  · rename_i v' hl
    cases h
    obtain ⟨cs, h1, h2⟩ := main _ hl
    obtain ⟨c, rfl, hv⟩ := h1.one_of
    exact ⟨c, by rw [h2]; rfl, hv⟩
  · rename_i vs hne hl
    cases h
    obtain ⟨cs, h1, h2⟩ := main _ hl
    refine ⟨.tuple cs.toArray, ?_, VRs.toTuple' h1⟩
    rw [h2, dif_neg]
    intro hsz
    have : vs.length = 1 := by rw [h1.1]; simpa using hsz
    match vs, this with
    | [x], _ => exact hne x rfl
  · cases h

end Go.Lk
end

section
/- Functions: the contract out of the reckoning. -/
namespace Go.Lk
set_option linter.unusedSimpArgs false
set_option linter.unusedVariables false

/-- A function's body, reckoned. -/
def DFn (C : Cfg) (n : Nat) (fn : Func) (args : List Value) (σ : AHeap) : Option (Value × AHeap) :=
  match fn.body with
  | some body =>
    match DC C n body (args ++ List.replicate (fn.ntmps - args.length) undef) σ with
    | some (.normal, fr, σ1) => match aResults C.P fn fr σ1 with | some v => some (v, σ1) | none => none
    | some (.ret, fr, σ1) => match aResults C.P fn fr σ1 with | some v => some (v, σ1) | none => none
    | _ => none
  | none => none

/-- New names: those below n0 stay; then a list; the others lead nowhere. -/
def mkR (n0 : Nat) (l : List Nat) (big : Nat) (b : Nat) : Nat :=
  if b < n0 then b else match l[b - n0]? with | some x => x | none => b + big

theorem CallR.of_sim {C : Cfg} (hC : C.Ok) {f : FuncId} {fn : Func} {body : Code} {args : List Value} {σ σ1 σ' : AHeap} {e : Exit} {fr1 : List Value} {v v1 : Value} {r : Nat → Nat}
    (hf : C.P.funcs[f]? = some fn) (hb : fn.body = some body) (hnm : (fn.name == "runtime.NumGoroutine") = false)
    (hsim : Stood C.ex σ → Sim C σ.length body (args ++ List.replicate (fn.ntmps - args.length) undef) σ e fr1 σ1) (he : e = .normal ∨ e = .ret)
    (hres : aResults C.P fn fr1 σ1 = some v1) (hv : v1 = renV r 3 v) (hemb : Emb σ r σ' σ1) : CallR C.P C.ex f args σ v σ' := by
  intro B μ w cargs hr hargs
  have hst : Stood C.ex σ := ⟨B, μ, w, hr⟩
  have hcf : (callFunc f cargs).run C.P w = .ok (.enter f cargs) w := by
    have hnm' : ¬ fn.name = "runtime.NumGoroutine" := by simpa using hnm
    simp [callFunc, hf, hnm', hb]
  unfold CallsTo
  rw [hcf]
  refine calls_of_wp hf hb ?_
  have hfr : FrR C.ex μ (args ++ List.replicate (fn.ntmps - args.length) undef) (cargs ++ Array.replicate (fn.ntmps - cargs.size) undef) := by
    have hl : args.length = cargs.size := by have := hargs.1; simpa using this
    have h1 : VRs C.ex μ (args ++ List.replicate (fn.ntmps - args.length) undef) (cargs ++ Array.replicate (fn.ntmps - cargs.size) undef).toList := by
      rw [Array.toList_append, Array.toList_replicate, ← hl]
      exact hargs.append (VRs.replicate _ VR.undef)
    refine ⟨by simpa using h1.1, fun i a ha => ?_⟩
    obtain ⟨c, hc, hv⟩ := h1.2 i a ha
    exact ⟨c, by rw [Array.getElem?_toList] at hc; exact hc, .inr hv⟩
  refine hsim hst B μ _ [] w _ hfr hr ?_
  intro μ1 tmps' w' q1 q2 q3 q4
  obtain ⟨c, hc, hvc⟩ := results_sound q1 q2 hres
  have hle := hemb.le
  have hpost : ∃ v2, (results fn tmps').run C.P w' = .ok v2 w' ∧ ∃ v3, Ending.returned v2 = Ending.returned v3 ∧ ∃ μ', VR C.ex μ' v v3 ∧ HR C.ex B μ' σ' w' ∧ Ext μ μ' ∧ Blw B w w' := by
    refine ⟨c, hc, c, rfl, renM μ1 r σ'.length, ?_, hemb.heap q2 hst, ?_, q4⟩
    · rw [hv] at hvc
      exact VR.ren (hemb.back q2) 3 _ _ hvc
    · intro b hb
      have hb' : b < σ.length := by rw [← hr.len]; exact hb
      rw [renM_get (by omega), hemb.fix b hb', q3 b hb', List.getElem?_eq_getElem hb]
      rfl
  rcases he with rfl | rfl
  · exact ⟨rfl, hpost⟩
  · exact ⟨rfl, hpost⟩

theorem mkR_fix {n0 : Nat} {l : List Nat} {big b : Nat} (h : b < n0) : mkR n0 l big b = b := by unfold mkR; rw [if_pos h]

theorem emb_same (σ g : AHeap) : Emb σ (mkR σ.length [] (σ ++ g).length) σ (σ ++ g) := by
  refine ⟨Nat.le_refl _, fun b hb => ?_, fun b hb => mkR_fix hb, fun b b' o o' h1 h2 _ _ h => ?_, fun b o h1 _ => .inl ⟨lt_of_some h1, h1, ?_⟩⟩
  · unfold mkR
    rw [if_neg (by omega)]
    simp
  · rw [mkR_fix (lt_of_some h1), mkR_fix (lt_of_some h2)] at h; exact h
  · rw [List.getElem?_append_left (lt_of_some h1)]; exact h1

/-- Its value bears no names. -/
def inert (v : Value) : Prop := ∀ r, renV r 3 v = v

theorem CallR.of_sim_pure {C : Cfg} (hC : C.Ok) {f : FuncId} {fn : Func} {body : Code} {args : List Value} {σ g : AHeap} {e : Exit} {fr1 : List Value} {v : Value}
    (hf : C.P.funcs[f]? = some fn) (hb : fn.body = some body) (hnm : (fn.name == "runtime.NumGoroutine") = false)
    (hsim : Stood C.ex σ → Sim C σ.length body (args ++ List.replicate (fn.ntmps - args.length) undef) σ e fr1 (σ ++ g)) (he : e = .normal ∨ e = .ret)
    (hres : aResults C.P fn fr1 (σ ++ g) = some v) (hv : inert v) : CallR C.P C.ex f args σ v σ :=
  CallR.of_sim hC hf hb hnm hsim he hres (hv _).symm (emb_same σ g)

theorem DFn_sim {C : Cfg} (hC : C.Ok) {n : Nat} {fn : Func} {body : Code} {args : List Value} {σ σ1 : AHeap} {v : Value} (hb : fn.body = some body) (hok : codeOk C body = true) (h : DFn C n fn args σ = some (v, σ1)) :
    ∃ e fr1, Sim C σ.length body (args ++ List.replicate (fn.ntmps - args.length) undef) σ e fr1 σ1 ∧ (e = .normal ∨ e = .ret) ∧ aResults C.P fn fr1 σ1 = some v := by
  unfold DFn at h
  rw [hb] at h
  simp only at h
  split at h
  · rename_i fr σ2 hd
    split at h
    · rename_i v' hr; cases h; exact ⟨_, _, DC_sound hC n _ _ _ _ _ _ hok hd, .inl rfl, hr⟩
    · cases h
  · rename_i fr σ2 hd
    split at h
    · rename_i v' hr; cases h; exact ⟨_, _, DC_sound hC n _ _ _ _ _ _ hok hd, .inr rfl, hr⟩
    · cases h
  · cases h

/-- A pure function: its value out of the reckoning. -/
theorem CallR.of_fn {C : Cfg} (hC : C.Ok) {f : FuncId} {fn : Func} {args : List Value} {σ : AHeap} {v : Value} (n : Nat) (g : AHeap)
    (hf : C.P.funcs[f]? = some fn) (hok : (match fn.body with | some b => codeOk C b | none => false) = true) (hnm : (fn.name == "runtime.NumGoroutine") = false)
    (h : DFn C n fn args σ = some (v, σ ++ g)) (hv : inert v) : CallR C.P C.ex f args σ v σ := by
  cases hb : fn.body with
  | none => rw [hb] at hok; cases hok
  | some body =>
    rw [hb] at hok
    obtain ⟨e, fr1, h1, h2, h3⟩ := DFn_sim hC hb hok h
    exact CallR.of_sim_pure hC hf hb hnm (fun _ => h1) h2 h3 hv

end Go.Lk
end
