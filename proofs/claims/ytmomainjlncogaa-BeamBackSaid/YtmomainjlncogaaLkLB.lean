import Derived.Test.YtmomainjlncogaaLkLA
section
/- The region whose order is open: the theorem. -/
namespace Go.Lk
set_option linter.unusedSimpArgs false
set_option linter.unusedVariables false

/-- Must operation i be carried out ahead of j? -/
inductive Anc (ops : Array Oper) (i : Nat) : Nat → Prop
  | one {j : Nat} {o : Oper} {e : Edge} (ho : ops[j]? = some o) (he : e ∈ o.after) (hb : Region.binds .any e = true) (h : e.on = i) : Anc ops i j
  | step {j : Nat} {o : Oper} {e : Edge} (ho : ops[j]? = some o) (he : e ∈ o.after) (hb : Region.binds .any e = true) (h : Anc ops i e.on) : Anc ops i j

structure DrawOk (C : Cfg) (ops : Array Oper) (st : Nat → Bool) : Prop where
  low : ∀ j o e, ops[j]? = some o → e ∈ o.after → Region.binds .any e = true → e.on < j
  slot : ∀ i j oi oj t, ops[i]? = some oi → ops[j]? = some oj → i ≠ j → oi.dst = some t → (t ∈ looks ops oj ∨ oj.dst = some t) → Anc ops i j ∨ Anc ops j i
  two : ∀ i j oi oj, ops[i]? = some oi → ops[j]? = some oj → i ≠ j → cls C oi.op = 2 → cls C oj.op ≠ 0 → st j = false → Anc ops i j ∨ Anc ops j i
  ld : ∀ j oj, ops[j]? = some oj → st j = true → cls C oj.op = 1
  four : ∀ i j oi oj, ops[i]? = some oi → ops[j]? = some oj → cls C oi.op = 3 → cls C oj.op = 4 → Anc ops i j

theorem Anc.lt {C : Cfg} {ops : Array Oper} {st : Nat → Bool} (h : DrawOk C ops st) {i j : Nat} (ha : Anc ops i j) : i < j := by
  induction ha with
  | one ho he hb hi => rw [← hi]; exact h.low _ _ _ ho he hb
  | step ho he hb _ ih => exact Nat.lt_trans ih (h.low _ _ _ ho he hb)

theorem DrawOk.no {C : Cfg} {ops : Array Oper} {st : Nat → Bool} (h : DrawOk C ops st) {j : Nat} {oj : Oper} (hj : ops[j]? = some oj) (hc : cls C oj.op ≠ 1) : st j = false := by
  cases hs : st j
  · rfl
  · exact absurd (h.ld j oj hj hs) hc

/-- The run in the text's order, step by step. -/
structure Trace (C : Cfg) (ops : Array Oper) (fs : Nat → List Value) (ss : Nat → AHeap) (vs : Nat → Value) (wd : Nat → Bool) : Prop where
  w : ∀ i o, ops[i]? = some o → wantedA ops (fs i) o = some (wd i)
  f : ∀ i o, ops[i]? = some o → fs (i + 1) = putA (fs i) o.dst (vs i)
  yes : ∀ i o, ops[i]? = some o → wd i = true → aOp C (fs i) (ss i) o.op = some (vs i, ss (i + 1))
  no : ∀ i o, ops[i]? = some o → wd i = false → vs i = undef ∧ ss (i + 1) = ss i

theorem trace_of {C : Cfg} {ops : Array Oper} : ∀ (l : List Oper) (k : Nat) (fr fr' : List Value) (σ σ' : AHeap), (∀ j, l[j]? = ops[k + j]?) → runOps C ops l fr σ = some (fr', σ') →
    ∃ (fs : Nat → List Value) (ss : Nat → AHeap) (vs : Nat → Value) (wd : Nat → Bool), fs k = fr ∧ ss k = σ ∧ fs (k + l.length) = fr' ∧ ss (k + l.length) = σ' ∧
      (∀ i o, k ≤ i → ops[i]? = some o → wantedA ops (fs i) o = some (wd i) ∧ fs (i + 1) = putA (fs i) o.dst (vs i) ∧
        (wd i = true → aOp C (fs i) (ss i) o.op = some (vs i, ss (i + 1))) ∧ (wd i = false → vs i = undef ∧ ss (i + 1) = ss i)) := by
  intro l
  induction l with
  | nil =>
    intro k fr fr' σ σ' hl h
    cases h
    refine ⟨fun _ => fr, fun _ => σ, fun _ => undef, fun _ => false, rfl, rfl, rfl, rfl, fun i o hi ho => ?_⟩
    have := hl (i - k)
    rw [show k + (i - k) = i by omega, ho] at this
    simp at this
  | cons o l ih =>
    intro k fr fr' σ σ' hl h
    have h0 : ops[k]? = some o := by simpa using (hl 0).symm
    have hl' : ∀ j, l[j]? = ops[k + 1 + j]? := fun j => by have := hl (j + 1); simpa [Nat.add_assoc, Nat.add_comm 1 j] using this
    unfold runOps at h
    have main : ∀ (v : Value) (σ1 : AHeap) (b : Bool), wantedA ops fr o = some b → (b = true → aOp C fr σ o.op = some (v, σ1)) → (b = false → v = undef ∧ σ1 = σ) → runOps C ops l (putA fr o.dst v) σ1 = some (fr', σ') →
        ∃ (fs : Nat → List Value) (ss : Nat → AHeap) (vs : Nat → Value) (wd : Nat → Bool), fs k = fr ∧ ss k = σ ∧ fs (k + (o :: l).length) = fr' ∧ ss (k + (o :: l).length) = σ' ∧
        (∀ i o, k ≤ i → ops[i]? = some o → wantedA ops (fs i) o = some (wd i) ∧ fs (i + 1) = putA (fs i) o.dst (vs i) ∧
          (wd i = true → aOp C (fs i) (ss i) o.op = some (vs i, ss (i + 1))) ∧ (wd i = false → vs i = undef ∧ ss (i + 1) = ss i)) := by
      intro v σ1 b hb hy hn hrest
      obtain ⟨fs, ss, vs, wd, e1, e2, e3, e4, e5⟩ := ih (k + 1) _ fr' σ1 σ' hl' hrest
      refine ⟨fun i => if i = k then fr else fs i, fun i => if i = k then σ else ss i, fun i => if i = k then v else vs i, fun i => if i = k then b else wd i, by simp, by simp, ?_, ?_, ?_⟩
      · show (if k + (o :: l).length = k then fr else fs (k + (o :: l).length)) = fr'
        rw [if_neg (by simp), ← e3]; congr 1; simp; omega
      · show (if k + (o :: l).length = k then σ else ss (k + (o :: l).length)) = σ'
        rw [if_neg (by simp), ← e4]; congr 1; simp; omega
      · intro i o' hi ho'
        by_cases hik : i = k
        · subst hik
          rw [h0] at ho'; cases ho'
          simp only [if_true, if_neg (show ¬ i + 1 = i by omega), e1, e2]
          exact ⟨hb, trivial, hy, hn⟩
        · have := e5 i o' (by omega) ho'
          simp only [if_neg hik, if_neg (show ¬ i + 1 = k by omega)]
          exact this
    split at h
    · rename_i hw
      split at h
      · rename_i v σ1 hop
        exact main v σ1 true hw (fun _ => hop) (fun h => by cases h) h
      · cases h
    · rename_i hw
      exact main undef σ false hw (fun h => by cases h) (fun _ => ⟨rfl, rfl⟩) h
    · cases h

theorem trace_whole {C : Cfg} {ops : Array Oper} {fr fr' : List Value} {σ σ' : AHeap} (h : runOps C ops ops.toList fr σ = some (fr', σ')) :
    ∃ fs ss vs wd, fs 0 = fr ∧ ss 0 = σ ∧ fs ops.size = fr' ∧ ss ops.size = σ' ∧ Trace C ops fs ss vs wd := by
  obtain ⟨fs, ss, vs, wd, e1, e2, e3, e4, e5⟩ := trace_of ops.toList 0 fr fr' σ σ' (fun j => by simp) h
  refine ⟨fs, ss, vs, wd, e1, e2, by simpa using e3, by simpa using e4, ⟨fun i o h => (e5 i o (Nat.zero_le _) h).1, fun i o h => (e5 i o (Nat.zero_le _) h).2.1, fun i o h => (e5 i o (Nat.zero_le _) h).2.2.1, fun i o h => (e5 i o (Nat.zero_le _) h).2.2.2⟩⟩

/-! ### The frame after some of the operations -/
def fsF (vs : Nat → Value) (p : Nat → Bool) : Nat → List Oper → List Value → List Value
  | _, [], fr => fr
  | k, o :: l, fr => fsF vs p (k + 1) l (bif p k then putA fr o.dst (vs k) else fr)

theorem putA_length (fr : List Value) (d : Option Tmp) (v : Value) : (putA fr d v).length = fr.length := by cases d <;> simp [putA]
theorem fsF_length (vs : Nat → Value) (p : Nat → Bool) : ∀ (l : List Oper) (k : Nat) (fr : List Value), (fsF vs p k l fr).length = fr.length
  | [], _, _ => rfl
  | o :: l, k, fr => by
    unfold fsF
    rw [fsF_length vs p l]
    cases p k <;> simp [putA_length]
theorem putA_get_ne {fr : List Value} {d : Option Tmp} {v : Value} {t : Nat} (h : d ≠ some t) : (putA fr d v)[t]? = fr[t]? := by
  cases d with
  | none => rfl
  | some d =>
    simp only [putA]
    rw [List.getElem?_set, if_neg (fun e => h (by rw [e]))]

theorem fsF_congr (vs : Nat → Value) (p q : Nat → Bool) (t : Nat) : ∀ (l : List Oper) (k : Nat) (fr fr' : List Value), (∀ i o, l[i]? = some o → o.dst = some t → p (k + i) = q (k + i)) → fr[t]? = fr'[t]? → fr.length = fr'.length →
    (fsF vs p k l fr)[t]? = (fsF vs q k l fr')[t]?
  | [], k, fr, fr', _, h, _ => h
  | o :: l, k, fr, fr', hp, h, hl => by
    unfold fsF
    refine fsF_congr vs p q t l (k + 1) _ _ (fun i o' hi hd => ?_) ?_ ?_
    · have := hp (i + 1) o' (by simpa using hi) hd
      simpa [Nat.add_assoc, Nat.add_comm 1 i] using this
    · by_cases hd : o.dst = some t
      · have := hp 0 o rfl hd
        simp only [Nat.add_zero] at this
        rw [this]
        cases q k
        · exact h
        · simp only [cond_true, hd, putA]
          rw [List.getElem?_set, List.getElem?_set, hl, if_pos rfl, if_pos rfl]
      · have h1 : ∀ (b : Bool) (fr : List Value), (bif b then putA fr o.dst (vs k) else fr)[t]? = fr[t]? := fun b fr => by
          cases b
          · rfl
          · exact putA_get_ne hd
        rw [h1, h1]; exact h
    · cases p k <;> cases q k <;> simp [putA_length, hl]

theorem fsF_none (vs : Nat → Value) (p : Nat → Bool) : ∀ (l : List Oper) (k : Nat) (fr : List Value), (∀ i, k ≤ i → i < k + l.length → p i = false) → fsF vs p k l fr = fr
  | [], _, _, _ => rfl
  | o :: l, k, fr, h => by
    unfold fsF
    rw [h k (Nat.le_refl _) (by simp)]
    exact fsF_none vs p l (k + 1) fr (fun i h1 h2 => h i (by omega) (by simp; omega))

theorem fsF_prefix {C : Cfg} {ops : Array Oper} {fs : Nat → List Value} {ss : Nat → AHeap} {vs : Nat → Value} {wd : Nat → Bool} (ht : Trace C ops fs ss vs wd) (j : Nat) :
    ∀ (l : List Oper) (k : Nat), (∀ i, l[i]? = ops[k + i]?) → k ≤ j → j ≤ k + l.length → fsF vs (fun i => decide (i < j)) k l (fs k) = fs j
  | [], k, _, h1, h2 => by
    have : k = j := by simp at h2; omega
    subst this; rfl
  | o :: l, k, hl, h1, h2 => by
    have h0 : ops[k]? = some o := by simpa using (hl 0).symm
    have hl' : ∀ j, l[j]? = ops[k + 1 + j]? := fun j => by have := hl (j + 1); simpa [Nat.add_assoc, Nat.add_comm 1 j] using this
    by_cases hk : k < j
    · unfold fsF
      simp only [hk, decide_true, cond_true]
      rw [← ht.f k o h0]
      exact fsF_prefix ht j l (k + 1) hl' (by omega) (by simp at h2; omega)
    · have : k = j := by omega
      subst this
      exact fsF_none vs _ _ k _ (fun i h1 _ => by simp; omega)

/-- The last that writes a slot. -/
theorem fsF_last (vs : Nat → Value) (p : Nat → Bool) (t j : Nat) : ∀ (l : List Oper) (k : Nat) (fr : List Value), k ≤ j → (∀ o, l[j - k]? = some o → o.dst = some t) → j < k + l.length → p j = true →
    (∀ i o, j < i → l[i - k]? = some o → o.dst = some t → p i = false) → t < fr.length → (fsF vs p k l fr)[t]? = some (vs j)
  | [], k, fr, h1, _, h2, _, _, _ => by simp at h2; omega
  | o :: l, k, fr, h1, hd, h2, hp, hno, ht => by
    by_cases hk : k = j
    · subst hk
      have hdst : o.dst = some t := hd o (by simp)
      unfold fsF
      rw [hp]
      simp only [cond_true, hdst, putA]
      rw [fsF_congr vs p (fun _ => false) t l (k + 1) _ (fr.set t (vs k)) (fun i o' hi hd' => by
        have := hno (k + 1 + i) o' (by omega) (by rw [show k + 1 + i - k = i + 1 by omega]; simpa using hi) hd'
        exact this) rfl rfl]
      rw [fsF_none _ _ _ _ _ (fun _ _ _ => rfl), List.getElem?_set, if_pos rfl, if_pos ht]
    · unfold fsF
      refine fsF_last vs p t j l (k + 1) _ (by omega) (fun o' ho' => hd o' (by rw [show j - k = (j - (k + 1)) + 1 by omega]; simpa using ho')) (by simp at h2; omega) hp
        (fun i o' hi ho' hd' => hno i o' hi (by rw [show i - k = (i - (k + 1)) + 1 by omega]; simpa using ho') hd') ?_
      cases p k <;> simp [putA_length, ht]

end Go.Lk
end

section
/- The region whose order is open: each step. -/
namespace Go.Lk
set_option linter.unusedSimpArgs false
set_option linter.unusedVariables false

def kd (C : Cfg) (ops : Array Oper) (wd : Nat → Bool) (i : Nat) : Nat :=
  match ops[i]? with
  | some o => bif wd i then cls C o.op else 0
  | none => 0

theorem cls_le (C : Cfg) (o : Op) : cls C o = 0 ∨ cls C o = 1 ∨ cls C o = 2 ∨ cls C o = 3 ∨ cls C o = 4 := by
  unfold cls
  split
  all_goals first
    | (simp; done)
    | (rename_i f _ _; cases C.p f <;> simp; cases C.q f <;> simp)

section
variable {C : Cfg} {ops : Array Oper} {fs : Nat → List Value} {ss : Nat → AHeap} {vs : Nat → Value} {wd : Nat → Bool} {st : Nat → Bool}

theorem kd_of {i : Nat} {o : Oper} (ho : ops[i]? = some o) (hw : wd i = true) : kd C ops wd i = cls C o.op := by simp [kd, ho, hw]
theorem kd_pos {i : Nat} (h : kd C ops wd i ≠ 0) : ∃ o, ops[i]? = some o ∧ wd i = true ∧ kd C ops wd i = cls C o.op := by
  unfold kd at h ⊢
  split at h
  · rename_i o ho
    cases hw : wd i
    · rw [hw] at h; simp at h
    · exact ⟨o, ho, rfl, by simp [ho]⟩
  · exact absurd rfl h

theorem Trace.still (hC : C.Ok) (ht : Trace C ops fs ss vs wd) {i : Nat} (hi : i < ops.size) (h2 : kd C ops wd i ≠ 2) (h3 : kd C ops wd i ≠ 3) : ss (i + 1) = ss i := by
  have ho : ops[i]? = some ops[i] := Array.getElem?_eq_getElem hi
  cases hw : wd i
  · exact (ht.no i _ ho hw).2
  · have hk := kd_of (C := C) ho hw
    have ha := ht.yes i _ ho hw
    rw [hk] at h2 h3
    rcases cls_le C ops[i].op with h | h | h | h | h
    · exact (cls0 h ha).1
    · exact (cls1 h ha).1
    · exact absurd h h2
    · exact absurd h h3
    · exact cls4 hC h ha
theorem Trace.made (ht : Trace C ops fs ss vs wd) {i : Nat} (h3 : kd C ops wd i = 3) : ∃ (m : Mk) (row : AObj), vs i = m.at (ss i).length ∧ ss (i + 1) = ss i ++ [row] := by
  obtain ⟨o, ho, hw, hk⟩ := kd_pos (C := C) (ops := ops) (wd := wd) (i := i) (by omega)
  obtain ⟨m, row, h1, h2, _⟩ := cls3 (by rw [← hk]; exact h3) (ht.yes i o ho hw)
  exact ⟨m, row, h1, h2⟩

/-- A stretch without changes: the heap only grows. -/
theorem Trace.stretch (hC : C.Ok) (ht : Trace C ops fs ss vs wd) (a : Nat) : ∀ (d : Nat), a + d ≤ ops.size → (∀ i, a ≤ i → i < a + d → kd C ops wd i ≠ 2) →
    ∃ ext, ss (a + d) = ss a ++ ext ∧ ∀ b, (ss a).length ≤ b → b < (ss (a + d)).length → ∃ i, a ≤ i ∧ i < a + d ∧ kd C ops wd i = 3 ∧ (ss i).length = b
  | 0, _, _ => ⟨[], by simp, fun b h1 h2 => by simp only [Nat.add_zero] at h2; omega⟩
  | d + 1, hle, hno => by
    obtain ⟨ext, he, hb⟩ := ht.stretch hC a d (by omega) (fun i h1 h2 => hno i h1 (by omega))
    have h2 := hno (a + d) (by omega) (by omega)
    by_cases h3 : kd C ops wd (a + d) = 3
    · obtain ⟨m, row, _, hrow⟩ := ht.made h3
      refine ⟨ext ++ [row], by rw [← Nat.add_assoc, hrow, he, List.append_assoc], fun b h1 hlt => ?_⟩
      rw [← Nat.add_assoc, hrow] at hlt
      by_cases hbe : b = (ss (a + d)).length
      · exact ⟨a + d, by omega, by omega, h3, hbe.symm⟩
      · obtain ⟨i, q1, q2, q3, q4⟩ := hb b h1 (by simp at hlt; omega)
        exact ⟨i, q1, by omega, q3, q4⟩
    · have hst := ht.still hC (i := a + d) (by omega) h2 h3
      refine ⟨ext, by rw [← Nat.add_assoc, hst, he], fun b h1 hlt => ?_⟩
      rw [← Nat.add_assoc, hst] at hlt
      obtain ⟨i, q1, q2, q3, q4⟩ := hb b h1 hlt
      exact ⟨i, q1, by omega, q3, q4⟩

theorem Trace.grow (hC : C.Ok) (ht : Trace C ops fs ss vs wd) {a s : Nat} (has : a ≤ s) (hs : s ≤ ops.size) (hno : ∀ i, a ≤ i → i < s → kd C ops wd i ≠ 2) :
    ∃ ext, ss s = ss a ++ ext ∧ ∀ b, (ss a).length ≤ b → b < (ss s).length → ∃ i, a ≤ i ∧ i < s ∧ kd C ops wd i = 3 ∧ (ss i).length = b := by
  have := ht.stretch hC a (s - a) (by omega) (fun i h1 h2 => hno i h1 (by omega))
  rwa [show a + (s - a) = s by omega] at this

/-- The heap after some of the operations. -/
structure HS (C : Cfg) (ops : Array Oper) (ss : Nat → AHeap) (wd : Nat → Bool) (p : Nat → Bool) (s : Nat) (H : AHeap) : Prop where
  le : s ≤ ops.size
  stop : s = ops.size ∨ (kd C ops wd s = 2 ∧ p s = false)
  done : ∀ i, i < s → kd C ops wd i = 2 → p i = true
  len : H.length = (ss s).length
  hole : ∀ i, i < s → kd C ops wd i = 3 → p i = false → H[(ss i).length]? = some .dead
  same : ∀ b, (∀ i, i < s → kd C ops wd i = 3 → p i = false → (ss i).length ≠ b) → H[b]? = (ss s)[b]?

def closedA (ops : Array Oper) (p : Nat → Bool) : Prop := ∀ i j, Anc ops i j → p j = true → p i = true

theorem HS.clear (hd : DrawOk C ops st) {p : Nat → Bool} {s : Nat} {H : AHeap} (h : HS C ops ss wd p s H) (hc : closedA ops p) {i m : Nat} (h3 : kd C ops wd i = 3) (hp : p i = false) (him : i < m) (hms : m < s) : kd C ops wd m ≠ 2 := by
  intro hm
  obtain ⟨oi, hoi, _, hki⟩ := kd_pos (C := C) (ops := ops) (wd := wd) (i := i) (by omega)
  obtain ⟨om, hom, _, hkm⟩ := kd_pos (C := C) (ops := ops) (wd := wd) (i := m) (by omega)
  rcases hd.two m i om oi hom hoi (by omega) (by omega) (by omega) (hd.no hoi (by omega)) with ha | ha
  · have := ha.lt hd; omega
  · have := hc _ _ ha (h.done m hms hm)
    rw [hp] at this; cases this

/-- Two new blocks that are still to come have two names. -/
theorem HS.apart (hC : C.Ok) (ht : Trace C ops fs ss vs wd) (hd : DrawOk C ops st) {p : Nat → Bool} {s : Nat} {H : AHeap} (h : HS C ops ss wd p s H) (hc : closedA ops p) {i j : Nat}
    (hi3 : kd C ops wd i = 3) (hj3 : kd C ops wd j = 3) (hpi : p i = false) (hij : i < j) (hjs : j < s) : (ss i).length < (ss j).length := by
  have hle := h.le
  obtain ⟨m, row, _, hrow⟩ := ht.made hi3
  obtain ⟨ext, he, _⟩ := ht.grow hC (a := i + 1) (s := j) (by omega) (by omega) (fun k h1 h2 => h.clear hd hc hi3 hpi (by omega) (by omega))
  rw [he, hrow]
  simp

theorem HS.lt (hC : C.Ok) (ht : Trace C ops fs ss vs wd) (hd : DrawOk C ops st) {p : Nat → Bool} {s : Nat} {H : AHeap} (h : HS C ops ss wd p s H) (hc : closedA ops p) {i : Nat}
    (hi3 : kd C ops wd i = 3) (hpi : p i = false) (his : i < s) : ∃ row, ss (i + 1) = ss i ++ [row] ∧ (ss s)[(ss i).length]? = some row ∧ (ss i).length < (ss s).length := by
  have hle := h.le
  obtain ⟨m, row, _, hrow⟩ := ht.made hi3
  obtain ⟨ext, he, _⟩ := ht.grow hC (a := i + 1) (s := s) (by omega) (by omega) (fun k h1 h2 => h.clear hd hc hi3 hpi (by omega) (by omega))
  refine ⟨row, hrow, ?_, ?_⟩
  · rw [he, hrow]; simp
  · rw [he, hrow]; simp

/-- Where does an operation that is next stand against the stop? -/
theorem HS.before (hd : DrawOk C ops st) {p : Nat → Bool} {s : Nat} {H : AHeap} (h : HS C ops ss wd p s H) {j : Nat} {oj : Oper} (hj : ops[j]? = some oj) (hwj : wd j = true) (hpj : p j = false)
    (hanc : ∀ i, Anc ops i j → p i = true) (hc0 : cls C oj.op ≠ 0) (hsj : st j = false) : j ≤ s := by
  rcases Nat.lt_or_ge s j with hlt | hge
  · exfalso
    have hjl : j < ops.size := (Array.getElem?_eq_some_iff.1 hj).1
    rcases h.stop with h1 | ⟨h1, h2⟩
    · omega
    · obtain ⟨os, hos, _, hks⟩ := kd_pos (C := C) (ops := ops) (wd := wd) (i := s) (by omega)
      rcases hd.two s j os oj hos hj (by omega) (by omega) hc0 hsj with ha | ha
      · have := hanc _ ha; rw [h2] at this; cases this
      · have := ha.lt hd; omega
  · exact hge

/-- All that is known in the middle of the region. -/
structure Inv (C : Cfg) (ops : Array Oper) (fs : Nat → List Value) (ss : Nat → AHeap) (vs : Nat → Value) (wd : Nat → Bool) (B : Nat → Prop) (p : Nat → Bool) (μ : List (Option Ent)) (tmps : Array Value) (w : World) : Prop where
  ex : ∃ (s : Nat) (H : AHeap), HR C.ex B μ H w ∧ HS C ops ss wd p s H ∧ ∀ i, i < s → kd C ops wd i = 3 → p i = false → ∀ e, μ[(ss i).length]? ≠ some (some e)
  fr : FrR C.ex μ (fsF vs p 0 ops.toList (fs 0)) tmps

def addP (p : Nat → Bool) (j : Nat) : Nat → Bool := fun i => if i = j then true else p i

/-- The frame is as in the text's order, where the next operation looks. -/
theorem fr_agrees (ht : Trace C ops fs ss vs wd) (hd : DrawOk C ops st) {p : Nat → Bool} (hc : closedA ops p) {j : Nat} {oj : Oper} (hj : ops[j]? = some oj) (hpj : p j = false)
    (hanc : ∀ i, Anc ops i j → p i = true) {t : Nat} (hl : t ∈ looks ops oj) : (fsF vs p 0 ops.toList (fs 0))[t]? = (fs j)[t]? := by
  have hjl : j < ops.size := (Array.getElem?_eq_some_iff.1 hj).1
  rw [← fsF_prefix ht j ops.toList 0 (fun i => by simp) (Nat.zero_le _) (by simp; omega)]
  refine fsF_congr vs p _ t ops.toList 0 _ _ (fun i o hi hdst => ?_) rfl rfl
  rw [Nat.zero_add]
  have hi' : ops[i]? = some o := by simpa using hi
  by_cases hij : i = j
  · subst hij; simp [hpj]
  · rcases hd.slot i j o oj t hi' hj hij hdst (.inl hl) with ha | ha
    · have := ha.lt hd
      rw [hanc i ha]; simp [this]
    · have := ha.lt hd
      have hpi : p i = false := by
        cases hp : p i
        · rfl
        · have := hc j i ha hp; rw [hpj] at this; cases this
      rw [hpi]; simp; omega

/-- The frame once the next operation is carried out. -/
theorem fr_next (ht : Trace C ops fs ss vs wd) (hd : DrawOk C ops st) {p : Nat → Bool} (hc : closedA ops p) {j : Nat} {oj : Oper} (hj : ops[j]? = some oj) (hpj : p j = false) :
    fsF vs (addP p j) 0 ops.toList (fs 0) = putA (fsF vs p 0 ops.toList (fs 0)) oj.dst (vs j) := by
  have hjl : j < ops.size := (Array.getElem?_eq_some_iff.1 hj).1
  apply List.ext_getElem?
  intro t
  by_cases hdst : oj.dst = some t
  · simp only [hdst, putA]
    rw [List.getElem?_set, if_pos rfl, fsF_length]
    by_cases htl : t < (fs 0).length
    · rw [if_pos htl]
      refine fsF_last vs _ t j ops.toList 0 _ (Nat.zero_le _) (fun o ho => ?_) (by simpa using hjl) (by simp [addP]) (fun i o hi ho hd' => ?_) htl
      · have : ops[j]? = some o := by simpa using ho
        rw [hj] at this; cases this; exact hdst
      · have ho' : ops[i]? = some o := by simpa using ho
        have hne : i ≠ j := by omega
        simp only [addP, if_neg hne]
        cases hp : p i
        · rfl
        · rcases hd.slot i j o oj t ho' hj hne hd' (.inr hdst) with ha | ha
          · have := ha.lt hd; omega
          · have := hc j i ha hp; rw [hpj] at this; cases this
    · rw [if_neg htl]
      exact List.getElem?_eq_none (by rw [fsF_length]; omega)
  · rw [putA_get_ne hdst]
    refine fsF_congr vs _ p t ops.toList 0 _ _ (fun i o hi hd' => ?_) rfl rfl
    rw [Nat.zero_add]
    have hi' : ops[i]? = some o := by simpa using hi
    have hne : i ≠ j := by rintro rfl; rw [hj] at hi'; cases hi'; exact hdst hd'
    simp [addP, hne]

theorem wanted_agrees (ht : Trace C ops fs ss vs wd) (hd : DrawOk C ops st) {p : Nat → Bool} (hc : closedA ops p) {j : Nat} {oj : Oper} (hj : ops[j]? = some oj) (hpj : p j = false)
    (hanc : ∀ i, Anc ops i j → p i = true) : wantedA ops (fsF vs p 0 ops.toList (fs 0)) oj = some (wd j) := by
  rw [← ht.w j oj hj]
  unfold wantedA
  split
  · rfl
  · rename_i g want hg
    cases hgd : (ops[g]?).bind (·.dst) with
    | none => rfl
    | some t =>
      simp only
      rw [fr_agrees ht hd hc hj hpj hanc (t := t) (by
        unfold looks
        rw [hg]
        simp [hgd])]

theorem op_agrees (ht : Trace C ops fs ss vs wd) (hd : DrawOk C ops st) {p : Nat → Bool} (hc : closedA ops p) {j : Nat} {oj : Oper} (hj : ops[j]? = some oj) (hpj : p j = false)
    (hanc : ∀ i, Anc ops i j → p i = true) (τ : AHeap) : aOp C (fsF vs p 0 ops.toList (fs 0)) τ oj.op = aOp C (fs j) τ oj.op := by
  refine aOp_congr fun t ht' => ?_
  have hl : t ∈ looks ops oj := by
    unfold looks
    refine List.mem_append_left _ (List.mem_filterMap.2 ⟨.tmp t, ht', rfl⟩)
  rw [List.getD_eq_getElem?_getD, List.getD_eq_getElem?_getD, fr_agrees ht hd hc hj hpj hanc hl]

end
end Go.Lk
end

section
/- The region whose order is open: the end. -/
namespace Go.Lk
set_option linter.unusedSimpArgs false
set_option linter.unusedVariables false

section
variable {C : Cfg} {ops : Array Oper} {fs : Nat → List Value} {ss : Nat → AHeap} {vs : Nat → Value} {wd : Nat → Bool} {st : Nat → Bool} {B : Nat → Prop}

theorem aMem_mono {P : Program} {fr : List Value} {σ σ' : AHeap} {o : Op} {v : Value} (h : aMem P fr σ o = some (v, σ')) : σ.length ≤ σ'.length := by
  have hput : ∀ {b o : Nat} {cs : List Value} {σ1 : AHeap}, aPut σ b o cs = some σ1 → σ.length ≤ σ1.length := by
    intro b o cs σ1 h
    unfold aPut at h
    split at h
    · cases h; exact Nat.le_refl _
    · split at h
      · split at h
        · cases h; simp
        · cases h
      · cases h
  unfold aMem at h
  split at h
  · split at h
    · split at h <;> cases h; exact Nat.le_refl _
    · cases h
  · split at h
    · split at h
      · rename_i h3
        cases h
        unfold aStore at h3
        split at h3
        · split at h3
          · split at h3
            · split at h3
              · cases h3; simp
              · cases h3
            · cases h3
          · cases h3
        · cases h3
      · cases h
    · cases h
  · split at h <;> cases h; simp [newP]
  · split at h <;> cases h; simp [newP]
  · split at h
    · split at h <;> cases h; exact Nat.le_refl _
    · cases h
  · split at h
    · unfold aBuildSlice at h
      split at h
      · split at h
        · split at h
          · split at h <;> cases h; simp
          · cases h
        · cases h
      · cases h
    · cases h
  · split at h
    · unfold aMake at h
      split at h
      · split at h
        · split at h
          · split at h
            · split at h <;> cases h; simp
            · cases h
          · cases h
        · cases h
      · cases h
    · cases h
  · split at h
    · unfold aRange at h
      split at h <;> cases h; simp
    · cases h
  · split at h
    · unfold aNext at h
      split at h
      · split at h
        · split at h <;> cases h <;> simp
        · cases h
      · cases h
    · cases h
  · split at h
    · unfold aAppend at h
      split at h
      · split at h
        · split at h
          · rename_i inf _
            cases hd2 : isIntD _ <;> rw [hd2] at h <;> simp only [cond_true, cond_false] at h
            · split at h
              · split at h
                · split at h
                  · split at h
                    · rename_i h3; cases h; exact hput h3
                    · cases h
                  · cases h
                  · split at h <;> cases h; exact Nat.le_refl _
                · split at h
                  · split at h
                    · split at h
                      · split at h
                        · cases h
                        · split at h
                          · cases h; simp
                          · split at h
                            · split at h
                              · split at h <;> cases h; simp [kill_length]
                              · cases h
                            · cases h
                          · cases h
                      · cases h
                    · cases h
                  · cases h
              · cases h
            · cases h
          · cases h
        · cases h
      · cases h
    · cases h
  · split at h
    · unfold aCopy at h
      split at h
      · split at h
        · split at h
          · split at h
            · split at h
              · split at h
                · rename_i h3; cases h; exact hput h3
                · cases h
              · cases h
              · split at h <;> cases h; exact Nat.le_refl _
            · cases h
          · cases h
        · cases h
      · cases h
    · cases h
  · cases h

theorem aOp_mono (hC : C.Ok) {fr : List Value} {σ σ' : AHeap} {o : Op} {v : Value} (h : aOp C fr σ o = some (v, σ')) : σ.length ≤ σ'.length := by
  unfold aOp at h
  split at h
  · unfold aCall at h
    split at h
    · rename_i g first captured vs h1 h2
      cases hp : C.p g <;> rw [hp] at h <;> simp only [cond_true, cond_false] at h
      · exact hC.mono _ _ _ _ _ h
      · split at h
        · cases h; exact Nat.le_refl _
        · cases h
    · cases h
  · rename_i hno
    cases hm : isMem o <;> rw [hm] at h <;> simp only [cond_true, cond_false] at h
    · split at h
      · cases h; exact Nat.le_refl _
      · cases h
    · exact aMem_mono h

theorem Trace.mono (hC : C.Ok) (ht : Trace C ops fs ss vs wd) : ∀ i, i ≤ ops.size → (ss 0).length ≤ (ss i).length
  | 0, _ => Nat.le_refl _
  | i + 1, h => by
    have ho : ops[i]? = some ops[i] := Array.getElem?_eq_getElem (by omega)
    refine Nat.le_trans (ht.mono hC i (by omega)) ?_
    cases hw : wd i
    · rw [(ht.no i _ ho hw).2]; exact Nat.le_refl _
    · exact aOp_mono hC (ht.yes i _ ho hw)

theorem HS.add (hC : C.Ok) {p : Nat → Bool} {s : Nat} {H : AHeap} (h : HS C ops ss wd p s H) {j : Nat} (h2 : kd C ops wd j ≠ 2) (h3 : kd C ops wd j ≠ 3) : HS C ops ss wd (addP p j) s H := by
  have hp : ∀ i, kd C ops wd i = 2 ∨ kd C ops wd i = 3 → addP p j i = p i := fun i hi => by
    unfold addP
    rw [if_neg]
    rintro rfl
    rcases hi with h | h
    · exact h2 h
    · exact h3 h
  exact ⟨h.le, h.stop.imp id (fun ⟨a, b⟩ => ⟨a, by rw [hp _ (.inl a)]; exact b⟩), fun i hi hk => by rw [hp i (.inl hk)]; exact h.done i hi hk, h.len,
    fun i hi hk hpi => h.hole i hi hk (by rw [← hp i (.inr hk)]; exact hpi), fun b hb => h.same b (fun i hi hk hpi => hb i hi hk (by rw [hp i (.inr hk)]; exact hpi))⟩

theorem addP_hole {p : Nat → Bool} {j : Nat} {s : Nat} {μ : List (Option Ent)} (h : ∀ i, i < s → kd C ops wd i = 3 → p i = false → ∀ e, μ[(ss i).length]? ≠ some (some e)) :
    ∀ i, i < s → kd C ops wd i = 3 → addP p j i = false → ∀ e, μ[(ss i).length]? ≠ some (some e) := fun i hi hk hpi => by
  refine h i hi hk ?_
  unfold addP at hpi
  split at hpi
  · cases hpi
  · exact hpi

theorem Ext.hole {μ μ' : List (Option Ent)} (h : Ext μ μ') {b : Nat} (hb : b < μ.length) (hn : ∀ e, μ[b]? ≠ some (some e)) : ∀ e, μ'[b]? ≠ some (some e) := fun e he => hn e (by rw [← h b hb]; exact he)

/-- A load that stands in no order with the changes: of a block that is there from the first on, and stays. -/
def Steady (C : Cfg) (ops : Array Oper) (fs : Nat → List Value) (ss : Nat → AHeap) (st : Nat → Bool) : Prop :=
  ∀ (j : Nat) (oj : Oper) (b o : Nat) (t : TypeId) (x : Operand), ops[j]? = some oj → st j = true → oj.op = .load t x → aev (fs j) x = some (.pointer (some ⟨b, o, none⟩)) →
    b < (ss 0).length ∧ ∀ s, s ≤ ops.size → (∀ m, m < s → Anc ops j m → (ss (m + 1))[b]? = (ss m)[b]?) → (ss s)[b]? = (ss j)[b]?

/-- One more operation. -/
theorem draw_step (hC : C.Ok) (ht : Trace C ops fs ss vs wd) (hsd : Steady C ops fs ss st) (hd : DrawOk C ops st) {p : Nat → Bool} (hc : closedA ops p) {j : Nat} {oj : Oper} (hj : ops[j]? = some oj) (hpj : p j = false)
    (hanc : ∀ i, Anc ops i j → p i = true) {μ : List (Option Ent)} {a : Act} {w : World} (hI : Inv C ops fs ss vs wd B p μ a.tmps w) {n0 : Nat} (hn0 : ∀ i, i ≤ ops.size → n0 ≤ (ss i).length) {K : Act → World → Prop} {Q : Exit → Act → World → Prop}
    (hK : ∀ a' w' μ', Inv C ops fs ss vs wd B (addP p j) μ' a'.tmps w' → a'.defers = a.defers → Sub μ μ' → (∀ b, b < n0 → μ'[b]? = μ[b]?) → Blw B w w' → K a' w') : wpOp C.P ops Q j K a w := by
  have hjl : j < ops.size := (Array.getElem?_eq_some_iff.1 hj).1
  have hput : ∀ (a : Act) (d : Option Tmp) (v : Value), (a.put d v).defers = a.defers := by intro a d v; cases d <;> rfl
  obtain ⟨⟨s, H, hr, hs, hh⟩, hf⟩ := hI
  have hwa := wanted_agrees ht hd hc hj hpj hanc
  have hsle := hs.le
  have hμl : μ.length = (ss s).length := by rw [hr.len, hs.len]
  have hn0' : n0 ≤ μ.length := by
    rw [hμl]
    exact hn0 s hsle
  unfold wpOp
  simp only [hj]
  rw [wanted_eq hf hwa]
  cases hw : wd j
  · -- it is passed over
    simp only [Bool.false_eq_true, if_false]
    have hk0 : kd C ops wd j = 0 := by simp [kd, hj, hw]
    refine hK _ _ μ ⟨⟨s, H, hr, hs.add hC (by omega) (by omega), addP_hole hh⟩, ?_⟩ (hput _ _ _) (Sub.refl _) (fun _ _ => rfl) (Blw.refl _ _)
    rw [fr_next ht hd hc hj hpj, (ht.no j oj hj hw).1]
    exact hf.put VR.undef _
  · simp only [if_true]
    left
    have hk := kd_of (C := C) hj hw
    have hyes := ht.yes j oj hj hw
    have hop := fun τ => op_agrees ht hd hc hj hpj hanc τ
    have finish : ∀ {v' : Value} {w' : World} {μ' : List (Option Ent)}, VR C.ex μ' (vs j) v' → Sub μ μ' → (∀ b, b < n0 → μ'[b]? = μ[b]?) → Blw B w w' →
        (∃ s' H', HR C.ex B μ' H' w' ∧ HS C ops ss wd (addP p j) s' H' ∧ ∀ i, i < s' → kd C ops wd i = 3 → addP p j i = false → ∀ e, μ'[(ss i).length]? ≠ some (some e)) → K (a.put oj.dst v') w' := by
      intro v' w' μ' h1 h2 h2' h3 h4
      refine hK _ _ μ' ⟨h4, ?_⟩ (hput _ _ _) h2 h2' h3
      rw [fr_next ht hd hc hj hpj]
      exact (hf.mono h2).put h1 _
    have lenlt : ∀ i, i < s → kd C ops wd i = 3 → p i = false → (ss i).length < μ.length := fun i hi hk3 hpi => by
      obtain ⟨_, _, _, h⟩ := hs.lt hC ht hd hc hk3 hpi hi
      rw [hμl]; exact h
    -- where the heap stays
    have same : kd C ops wd j ≠ 2 → kd C ops wd j ≠ 3 → aOp C (fsF vs p 0 ops.toList (fs 0)) H oj.op = some (vs j, H) → oj.wp C.P a w K Q := by
      intro h2 h3 h
      refine aOp_sound hC h hf hr ?_
      intro v' w' μ' q1 q2 q3 q4
      refine finish q1 q3.sub (fun b hb => q3 b (by omega)) q4 ⟨s, H, q2, hs.add hC h2 h3, addP_hole fun i hi hk3 hpi => q3.hole (lenlt i hi hk3 hpi) (hh i hi hk3 hpi)⟩
    -- no change between the operation and the stop, if it must stand in order with all changes
    have nochange : cls C oj.op ≠ 0 → st j = false → ∀ m, j < m → m < s → kd C ops wd m ≠ 2 := by
      intro hc0 hsj m hm hms h2
      obtain ⟨om, hom, _, hkm⟩ := kd_pos (C := C) (ops := ops) (wd := wd) (i := m) (by omega)
      rcases hd.two m j om oj hom hj (by omega) (by omega) hc0 hsj with ha | ha
      · have := ha.lt hd; omega
      · have := hc _ _ ha (hs.done m hms h2)
        rw [hpj] at this; cases this
    rcases cls_le C oj.op with h0 | h1 | h2 | h3 | h4
    · -- pure
      obtain ⟨_, hall⟩ := cls0 h0 hyes
      exact same (by omega) (by omega) (by rw [hop, hall])
    · -- it loads
      obtain ⟨_, t, x, ad, ho, hx, hld⟩ := cls1 h1 hyes
      have hjs' : st j = false → j < s := by
        intro hsj
        have hjs := hs.before hd hj hw hpj hanc (by omega) hsj
        rcases Nat.lt_or_eq_of_le hjs with h | h
        · exact h
        · rcases hs.stop with h' | ⟨h', _⟩
          · omega
          · rw [← h, hk, h1] at h'; cases h'
      refine same (by omega) (by omega) ?_
      have hx' : aev (fsF vs p 0 ops.toList (fs 0)) x = some ad := by
        rw [← hx]
        refine aev_congr fun t' e => ?_
        rw [List.getD_eq_getElem?_getD, List.getD_eq_getElem?_getD, fr_agrees ht hd hc hj hpj hanc (t := t') ?_]
        unfold looks
        rw [ho]
        exact List.mem_append_left _ (List.mem_filterMap.2 ⟨.tmp t', by simp [Op.operands, e], rfl⟩)
      have hva := aev_sound hf hx'
      have hload : aLoad C.P H t ad = some (vs j) := by
        unfold aLoad at hld ⊢
        split at hld
        · rename_i b o
          have hHb : H[b]? = (ss j)[b]? := by
            cases hsj : st j with
            | true =>
              obtain ⟨q1, q2⟩ := hsd j oj b o t x hj hsj ho hx
              have q3 : ∀ m, m < s → Anc ops j m → (ss (m + 1))[b]? = (ss m)[b]? := by
                intro m hm ha
                have k2 : kd C ops wd m ≠ 2 := fun k2 => by
                  have := hc _ _ ha (hs.done m hm k2); rw [hpj] at this; cases this
                by_cases k3 : kd C ops wd m = 3
                · obtain ⟨_, row, _, hrow⟩ := ht.made k3
                  have := ht.mono hC m (by omega)
                  rw [hrow, List.getElem?_append_left (by omega)]
                · rw [ht.still hC (by omega) k2 k3]
              rw [← q2 s hsle q3]
              refine hs.same b (fun i hi hk3 hpi hlen => ?_)
              have := ht.mono hC i (by omega)
              omega
            | false =>
            have hjs' := hjs' hsj
            have hblt : b < (ss j).length := by
              rcases Nat.lt_or_ge b (ss j).length with h | h
              · exact h
              · rw [List.getElem?_eq_none h] at hld; cases hld
            obtain ⟨ext, he, _⟩ := ht.grow hC (a := j) (s := s) (by omega) hsle (fun m h1' h2' => by
              rcases Nat.lt_or_eq_of_le h1' with h | h
              · exact nochange (by omega) hsj m h h2'
              · rw [← h, hk, h1]; decide)
            have hss : (ss s)[b]? = (ss j)[b]? := by rw [he, List.getElem?_append_left hblt]
            rw [← hss]
            refine hs.same b (fun i hi hk3 hpi hlen => ?_)
            generalize a.eval x = y at hva
            cases hva with
            | ptr hm => exact hh i hi hk3 hpi _ (by rw [hlen]; exact hm)
          simp only [hHb]
          exact hld
        · cases hld
      rw [ho]
      simp only [aOp, isMem, aMem, cond_true, hx', hload]
    · -- it changes the heap
      have hjs := hs.before hd hj hw hpj hanc (by omega) (hd.no hj (by omega))
      have hjs' : s = j := by
        rcases Nat.lt_or_eq_of_le hjs with h | h
        · have := hs.done j h (by rw [hk, h2])
          rw [hpj] at this; cases this
        · exact h.symm
      subst hjs'
      have hall3 : ∀ i, i < s → kd C ops wd i = 3 → p i = true := by
        intro i hi hk3
        obtain ⟨oi, hoi, _, hki⟩ := kd_pos (C := C) (ops := ops) (wd := wd) (i := i) (by omega)
        rcases hd.two s i oj oi hj hoi (by omega) h2 (by omega) (hd.no hoi (by omega)) with ha | ha
        · have := ha.lt hd; omega
        · exact hanc _ ha
      have hH : H = ss s := by
        apply List.ext_getElem?
        intro b
        exact hs.same b (fun i hi hk3 hpi => by rw [hall3 i hi hk3] at hpi; cases hpi)
      subst hH
      refine aOp_sound hC (o := oj) (v := vs s) (σ' := ss (s + 1)) (by rw [hop]; exact hyes) hf hr ?_
      intro v' w' μ' q1 q2 q3 q4
      -- the next stop
      obtain ⟨s', hs1, hs2, hs3, hs4⟩ : ∃ s', s + 1 ≤ s' ∧ s' ≤ ops.size ∧ (∀ i, s + 1 ≤ i → i < s' → kd C ops wd i ≠ 2) ∧ (s' = ops.size ∨ kd C ops wd s' = 2) := by
        have key : ∀ d, ∃ s', s + 1 ≤ s' ∧ s' ≤ s + 1 + d ∧ (∀ i, s + 1 ≤ i → i < s' → kd C ops wd i ≠ 2) ∧ (s' = s + 1 + d ∨ kd C ops wd s' = 2) := by
          intro d
          induction d with
          | zero => exact ⟨s + 1, by omega, by omega, fun i h1 h2 => by omega, .inl rfl⟩
          | succ d ih =>
            obtain ⟨s', g1, g2, g3, g4⟩ := ih
            rcases g4 with g4 | g4
            · by_cases h : kd C ops wd s' = 2
              · exact ⟨s', g1, by omega, g3, .inr h⟩
              · exact ⟨s' + 1, by omega, by omega, fun i h1 h2 => by
                  rcases Nat.lt_or_eq_of_le (Nat.le_of_lt_succ h2) with h' | h'
                  · exact g3 i h1 h'
                  · rw [h']; exact h, .inl (by omega)⟩
            · exact ⟨s', g1, by omega, g3, .inr g4⟩
        obtain ⟨s', g1, g2, g3, g4⟩ := key (ops.size - (s + 1))
        exact ⟨s', g1, by omega, g3, by rcases g4 with h | h; · left; omega
                                        · exact .inr h⟩
      obtain ⟨ext, he, hpos⟩ := ht.grow hC (a := s + 1) (s := s') hs1 hs2 hs3
      have hafter : ∀ i, s < i → kd C ops wd i = 2 ∨ kd C ops wd i = 3 → p i = false := by
        intro i hi hki
        obtain ⟨oi, hoi, _, hki'⟩ := kd_pos (C := C) (ops := ops) (wd := wd) (i := i) (by omega)
        cases hp : p i
        · rfl
        · rcases hd.two s i oj oi hj hoi (by omega) h2 (by omega) (hd.no hoi (by omega)) with ha | ha
          · have := hc _ _ ha hp; rw [hpj] at this; cases this
          · have := ha.lt hd; omega
      have hadd : ∀ i, s < i → addP p s i = p i := fun i hi => by unfold addP; rw [if_neg (by omega)]
      have hlen' : (ss s').length = (ss (s + 1)).length + ext.length := by rw [he]; simp
      have hμ' : μ'.length = (ss (s + 1)).length := q2.len
      have hge : ∀ i, s + 1 ≤ i → i ≤ s' → (ss (s + 1)).length ≤ (ss i).length := by
        intro i h1 h2
        obtain ⟨e, he', _⟩ := ht.grow hC (a := s + 1) (s := i) h1 (by omega) (fun m g1 g2 => hs3 m g1 (by omega))
        rw [he']; simp
      refine finish (q1.mono (Sub.holes _ _)) (q3.sub.trans (Sub.holes _ ext.length)) (fun b hb => ?_) q4 ⟨s', ss (s + 1) ++ List.replicate ext.length .dead, q2.dead _, ?_, ?_⟩
      · have hlt : b < μ.length := by omega
        have h3 := q3.len
        rw [List.getElem?_append_left (by omega)]
        exact q3 b hlt
      · refine ⟨hs2, ?_, ?_, by simp [hlen'], ?_, ?_⟩
        · rcases hs4 with h | h
          · exact .inl h
          · exact .inr ⟨h, by rw [hadd s' (by omega)]; exact hafter s' (by omega) (.inl h)⟩
        · intro i hi hk2
          by_cases his : i = s
          · subst his; simp [addP]
          · rcases Nat.lt_or_ge i s with h | h
            · have := hs.done i h hk2
              simp [addP, this]
            · exact absurd hk2 (hs3 i (by omega) hi)
        · intro i hi hk3 hpi
          have hsi : s < i := by
            rcases Nat.lt_or_ge s i with h | h
            · exact h
            · exfalso
              rcases Nat.lt_or_eq_of_le h with h' | h'
              · have := hall3 i h' hk3
                simp [addP, this] at hpi
              · subst h'; rw [hk, h2] at hk3; cases hk3
          have h1 := hge i (by omega) (by omega)
          have h2' : (ss i).length < (ss s').length := by
            obtain ⟨m, row, _, hrow⟩ := ht.made hk3
            obtain ⟨e, he', _⟩ := ht.grow hC (a := i + 1) (s := s') (by omega) hs2 (fun m g1 g2 => hs3 m (by omega) g2)
            rw [he', hrow]; simp
          rw [List.getElem?_append_right h1, List.getElem?_replicate, if_pos (by omega)]
        · intro b hb
          rcases Nat.lt_or_ge b (ss (s + 1)).length with h | h
          · rw [List.getElem?_append_left h, he, List.getElem?_append_left h]
          · rcases Nat.lt_or_ge b (ss s').length with h' | h'
            · obtain ⟨i, g1, g2, g3, g4⟩ := hpos b h h'
              exact absurd g4 (hb i g2 g3 (by rw [hadd i (by omega)]; exact hafter i (by omega) (.inr g3)))
            · rw [List.getElem?_eq_none h', List.getElem?_eq_none (by simp; omega)]
      · intro i hi hk3 hpi e
        have hsi : s < i := by
          rcases Nat.lt_or_ge s i with h | h
          · exact h
          · exfalso
            rcases Nat.lt_or_eq_of_le h with h' | h'
            · have := hall3 i h' hk3
              simp [addP, this] at hpi
            · subst h'; rw [hk, h2] at hk3; cases hk3
        have h1 := hge i (by omega) (by omega)
        rw [List.getElem?_append_right (by omega), List.getElem?_replicate]
        split <;> simp
    · -- it makes a block
      have hjs := hs.before hd hj hw hpj hanc (by omega) (hd.no hj (by omega))
      have hjs' : j < s := by
        rcases Nat.lt_or_eq_of_le hjs with h | h
        · exact h
        · rcases hs.stop with h' | ⟨h', _⟩
          · omega
          · rw [← h, hk, h3] at h'; cases h'
      have hk3 : kd C ops wd j = 3 := by rw [hk, h3]
      obtain ⟨row, hrow, hrow', hlt⟩ := hs.lt hC ht hd hc hk3 hpj hjs'
      obtain ⟨m1, row1, e1, e2, hall⟩ := cls3 h3 hyes
      obtain ⟨m2, row2, f1, f2, hA⟩ := cls3_okA (C := C) (o := oj) h3 (by rw [hop]; exact hall H) hf w
      have hm : m2 = m1 := Mk.inj f1.symm
      subst hm
      have hrr : row2 = row := by
        have g1 : row1 = row := by rw [e2] at hrow; simpa using hrow
        have g2 : row1 = row2 := by simpa using f2
        rw [← g2, g1]
      subst hrr
      obtain ⟨cs, cs', elem, rfl, hv, hrun⟩ := hA
      have hhole := hh j hjs' hk3 hpj
      have hdead := hs.hole j hjs' hk3 hpj
      have hfill := hr.fill (elem := elem) hdead hhole hv
      have hcl : (ss j).length < μ.length := lenlt j hjs' hk3 hpj
      have hget : (μ.set (ss j).length (some ⟨w.heap.size, 0, cs.length, 0, 0⟩))[(ss j).length]? = some (some ⟨w.heap.size, 0, cs.length, 0, 0⟩) := by
        rw [List.getElem?_set, if_pos rfl, if_pos hcl]
      unfold Oper.wp
      rw [hrun]
      refine finish (μ' := μ.set (ss j).length (some ⟨w.heap.size, 0, cs.length, 0, 0⟩)) ?_ (Sub.fill hhole) (fun b hb => ?_) (Blw.push' rfl hr.hB) ⟨s, H.set (ss j).length (.row cs true none), hfill, ?_, ?_⟩
      · rw [e1]
        cases m2 with
        | p =>
          have := VR.ptr (ex := C.ex) (o := 0) hget
          exact this
        | s sz len cap =>
          have := VR.slice (ex := C.ex) (o := 0) (sz := sz) (len := len) (cap := cap) hget (.inl rfl)
          exact this
      · have := hn0 j (by omega)
        rw [List.getElem?_set, if_neg (by omega)]
      · have hne : ∀ i, i < s → kd C ops wd i = 3 → addP p j i = false → i ≠ j ∧ p i = false ∧ (ss i).length ≠ (ss j).length := by
          intro i hi hki hpi
          unfold addP at hpi
          split at hpi
          · cases hpi
          · rename_i hij
            refine ⟨hij, hpi, ?_⟩
            rcases Nat.lt_or_ge i j with h | h
            · have := hs.apart hC ht hd hc hki hk3 hpi h hjs'; omega
            · have := hs.apart hC ht hd hc hk3 hki hpj (by omega) hi; omega
        have hstop : s = ops.size ∨ (kd C ops wd s = 2 ∧ addP p j s = false) := by
          rcases hs.stop with h | ⟨g1, g2⟩
          · exact .inl h
          · refine .inr ⟨g1, ?_⟩
            unfold addP; rw [if_neg (by omega)]; exact g2
        refine ⟨hs.le, hstop, fun i hi hki => ?_, by simp [hs.len], fun i hi hki hpi => ?_, fun b hb => ?_⟩
        · have := hs.done i hi hki; simp [addP, this]
        · obtain ⟨_, g2, g3⟩ := hne i hi hki hpi
          rw [List.getElem?_set, if_neg (fun e => g3 e.symm)]
          exact hs.hole i hi hki g2
        · rw [List.getElem?_set]
          by_cases hbj : (ss j).length = b
          · rw [if_pos hbj, if_pos (by rw [hs.len]; omega), ← hbj, hrow']
          · rw [if_neg hbj]
            refine hs.same b (fun i hi hki hpi => ?_)
            by_cases hij : i = j
            · subst hij; exact hbj
            · exact hb i hi hki (by unfold addP; rw [if_neg hij]; exact hpi)
      · intro i hi hki hpi e
        unfold addP at hpi
        split at hpi
        · cases hpi
        · rename_i hij
          have hne : (ss j).length ≠ (ss i).length := by
            rcases Nat.lt_or_ge i j with h | h
            · have := hs.apart hC ht hd hc hki hk3 hpi h hjs'; omega
            · have := hs.apart hC ht hd hc hk3 hki hpj (by omega) hi; omega
          rw [List.getElem?_set, if_neg hne]
          exact hh i hi hki hpi e
    · -- a call that reads
      have hjs := hs.before hd hj hw hpj hanc (by omega) (hd.no hj (by omega))
      have hjs' : j < s := by
        rcases Nat.lt_or_eq_of_le hjs with h | h
        · exact h
        · rcases hs.stop with h' | ⟨h', _⟩
          · omega
          · rw [← h, hk, h4] at h'; cases h'
      have hst := cls4 hC h4 hyes
      have h3all : ∀ i, kd C ops wd i = 3 → p i = true ∧ i < j := by
        intro i hki
        obtain ⟨oi, hoi, _, hki'⟩ := kd_pos (C := C) (ops := ops) (wd := wd) (i := i) (by omega)
        have ha := hd.four i j oi oj hoi hj (by omega) h4
        exact ⟨hanc _ ha, ha.lt hd⟩
      obtain ⟨ext, he, hpos⟩ := ht.grow hC (a := j) (s := s) (by omega) hsle (fun m h1' h2' => by
        rcases Nat.lt_or_eq_of_le h1' with h | h
        · exact nochange (by omega) (hd.no hj (by omega)) m h h2'
        · rw [← h, hk, h4]; decide)
      have hext : ext = [] := by
        cases ext with
        | nil => rfl
        | cons x xs =>
          obtain ⟨i, g1, g2, g3, g4⟩ := hpos (ss j).length (Nat.le_refl _) (by rw [he]; simp)
          have := (h3all i g3).2
          omega
      have hH : H = ss j := by
        apply List.ext_getElem?
        intro b
        rw [hs.same b (fun i hi hk3 hpi => by rw [(h3all i hk3).1] at hpi; cases hpi), he, hext, List.append_nil]
      refine same (by omega) (by omega) ?_
      rw [hop, hH, hyes, hst]

/-- WHATEVER ORDER IS TAKEN. -/
theorem draw_all (hC : C.Ok) (ht : Trace C ops fs ss vs wd) (hsd : Steady C ops fs ss st) (hd : DrawOk C ops st) {Q : Exit → Act → World → Prop} {n0 : Nat} (hn0 : ∀ i, i ≤ ops.size → n0 ≤ (ss i).length) {μ0 : List (Option Ent)} {w0 : World} {defers : List Deferred}
    (hQ : ∀ a' w' μ', FrR C.ex μ' (fs ops.size) a'.tmps → HR C.ex B μ' (ss ops.size) w' → a'.defers = defers → Sub μ0 μ' → (∀ b, b < n0 → μ'[b]? = μ0[b]?) → Blw B w0 w' → Q .normal a' w') :
    ∀ (fuel : Nat) (listed : Array Bool) (a : Act) (w : World) (μ : List (Option Ent)), listed.size = ops.size → closedA ops (fun i => listed.getD i false) → ((List.range ops.size).countP (fun i => !listed.getD i false)) ≤ fuel →
      Inv C ops fs ss vs wd B (fun i => listed.getD i false) μ a.tmps w → a.defers = defers → Sub μ0 μ → (∀ b, b < n0 → μ[b]? = μ0[b]?) → Blw B w0 w → wpAny C.P .any ops Q fuel listed a w := by
  have ready : ∀ (listed : Array Bool), listed.size = ops.size → ∀ i, i ∈ Region.ready .any ops listed ↔ (i < ops.size ∧ listed.getD i false = false ∧ ∀ o e, ops[i]? = some o → e ∈ o.after → Region.binds .any e = true → listed.getD e.on false = true) := by
    intro listed hsz i
    unfold Region.ready
    simp only [List.mem_filter, List.mem_range, Bool.and_eq_true]
    constructor
    · rintro ⟨h1, h2, h3⟩
      have ho : ops[i]? = some ops[i] := Array.getElem?_eq_getElem h1
      refine ⟨h1, ?_, fun o e ho' he hb => ?_⟩
      · have : i < listed.size := by omega
        simp [this] at h2 ⊢
        exact h2
      · rw [ho'] at h3
        simp only [Option.map_some, Option.getD_some] at h3
        rw [Array.all_eq_true'] at h3
        have := h3 e he
        simpa [hb] using this
    · rintro ⟨h1, h2, h3⟩
      have ho : ops[i]? = some ops[i] := Array.getElem?_eq_getElem h1
      refine ⟨h1, ?_, ?_⟩
      · have : i < listed.size := by omega
        simp [this] at h2 ⊢
        exact h2
      · rw [ho]
        simp only [Option.map_some, Option.getD_some]
        rw [Array.all_eq_true']
        intro e he
        cases hb : Region.binds .any e
        · rfl
        · simp [h3 _ e ho he hb]
  have ancs : ∀ (listed : Array Bool), listed.size = ops.size → closedA ops (fun i => listed.getD i false) → ∀ i, i ∈ Region.ready .any ops listed → ∀ k, Anc ops k i → listed.getD k false = true := by
    intro listed hsz hcl i hi k ha
    obtain ⟨_, _, h3⟩ := (ready listed hsz i).1 hi
    cases ha with
    | one ho he hb hon => rw [← hon]; exact h3 _ _ ho he hb
    | step ho he hb h => exact hcl _ _ h (h3 _ _ ho he hb)
  have finish : ∀ (listed : Array Bool) (a : Act) (w : World) (μ : List (Option Ent)), listed.size = ops.size → (∀ i, i < ops.size → listed.getD i false = true) → Inv C ops fs ss vs wd B (fun i => listed.getD i false) μ a.tmps w →
      a.defers = defers → Sub μ0 μ → (∀ b, b < n0 → μ[b]? = μ0[b]?) → Blw B w0 w → Q .normal a w := by
    intro listed a w μ hsz hall hI h1 h2 h2' h3
    obtain ⟨⟨s, H, hr, hs, hh⟩, hf⟩ := hI
    have hsn : s = ops.size := by
      rcases hs.stop with h | ⟨h, h'⟩
      · exact h
      · obtain ⟨o, ho, _, _⟩ := kd_pos (C := C) (ops := ops) (wd := wd) (i := s) (by omega)
        have := hall s (Array.getElem?_eq_some_iff.1 ho).1
        rw [this] at h'; cases h'
    subst hsn
    have hH : H = ss ops.size := by
      apply List.ext_getElem?
      intro b
      exact hs.same b (fun i hi hk3 hpi => by rw [hall i hi] at hpi; cases hpi)
    subst hH
    have hF : fsF vs (fun i => listed.getD i false) 0 ops.toList (fs 0) = fs ops.size := by
      rw [← fsF_prefix ht ops.size ops.toList 0 (fun i => by simp) (Nat.zero_le _) (by simp)]
      apply List.ext_getElem?
      intro t
      refine fsF_congr vs _ _ t ops.toList 0 _ _ (fun i o hi hd' => ?_) rfl rfl
      have : i < ops.size := by have := lt_of_some hi; simpa using this
      rw [Nat.zero_add, hall i this]
      simp [this]
    rw [hF] at hf
    exact hQ a w μ hf hr h1 h2 h2' h3
  have stuck : ∀ (listed : Array Bool), listed.size = ops.size → Region.ready .any ops listed = [] → ∀ i, i < ops.size → listed.getD i false = true := by
    intro listed hsz hr i
    induction i using Nat.strongRecOn with
    | _ i ih =>
      intro hi
      cases hl : listed.getD i false
      · exfalso
        have : i ∈ Region.ready .any ops listed := (ready listed hsz i).2 ⟨hi, hl, fun o e ho he hb => ih e.on (hd.low i o e ho he hb) (Nat.lt_trans (hd.low i o e ho he hb) hi)⟩
        rw [hr] at this; cases this
      · rfl
  intro fuel
  induction fuel with
  | zero =>
    intro listed a w μ hsz hcl hcnt hI h1 h2 h2' h3
    have hall : ∀ i, i < ops.size → listed.getD i false = true := by
      intro i hi
      have h0 : (List.range ops.size).countP (fun i => !listed.getD i false) = 0 := by omega
      rw [List.countP_eq_zero] at h0
      have := h0 i (by simpa using hi)
      simpa using this
    refine ⟨?_, finish listed a w μ hsz hall hI h1 h2 h2' h3⟩
    rw [List.eq_nil_iff_forall_not_mem]
    intro i hi
    obtain ⟨q1, q2, _⟩ := (ready listed hsz i).1 hi
    rw [hall i q1] at q2; cases q2
  | succ fuel ih =>
    intro listed a w μ hsz hcl hcnt hI h1 h2 h2' h3
    refine ⟨fun hr => finish listed a w μ hsz (stuck listed hsz hr) hI h1 h2 h2' h3, fun i hi => ?_⟩
    obtain ⟨q1, q2, q3⟩ := (ready listed hsz i).1 hi
    have ho : ops[i]? = some ops[i] := Array.getElem?_eq_getElem q1
    have hP : (fun k => (listed.setIfInBounds i true).getD k false) = addP (fun k => listed.getD k false) i := by
      funext k
      unfold addP
      by_cases hk : k = i
      · subst hk; rw [if_pos rfl]; simp [hsz, q1]
      · rw [if_neg hk]
        show (listed.setIfInBounds i true).getD k false = listed.getD k false
        rw [Array.getD_eq_getD_getElem?, Array.getD_eq_getD_getElem?, Array.getElem?_setIfInBounds_ne (fun e => hk e.symm)]
    refine draw_step hC ht hsd hd hcl ho q2 (ancs listed hsz hcl i hi) hI hn0 ?_
    intro a' w' μ' r1 r2 r3 r3' r4
    refine ih _ a' w' μ' (by simpa using hsz) ?_ ?_ (by rw [hP]; exact r1) (r2.trans h1) (h2.trans r3) (fun b hb => (r3' b hb).trans (h2' b hb)) (h3.trans r4)
    · rw [hP]
      intro k m ha hm
      unfold addP at hm ⊢
      by_cases hmi : m = i
      · subst hmi
        show (if k = m then true else listed.getD k false) = true
        rw [ancs listed hsz hcl m hi k ha]; simp
      · rw [if_neg hmi] at hm
        show (if k = i then true else listed.getD k false) = true
        have h' : listed.getD k false = true := hcl k m ha hm
        rw [h']; simp
    · have hlt : (List.range ops.size).countP (fun k => !(listed.setIfInBounds i true).getD k false) < (List.range ops.size).countP (fun k => !listed.getD k false) := by
        have e : (fun k => !(listed.setIfInBounds i true).getD k false) = fun k => !(addP (fun k => listed.getD k false) i k) := by
          funext k; rw [← hP]
        rw [e]
        have hmem : i ∈ List.range ops.size := by simpa using q1
        obtain ⟨l1, l2, hl⟩ := List.append_of_mem hmem
        rw [hl, List.countP_append, List.countP_append, List.countP_cons, List.countP_cons]
        have m1 : ∀ l : List Nat, l.countP (fun k => !(addP (fun k => listed.getD k false) i k)) ≤ l.countP (fun k => !listed.getD k false) := by
          intro l
          apply List.countP_mono_left
          intro k _ hk
          unfold addP at hk
          split at hk
          · cases hk
          · exact hk
        have := m1 l1
        have := m1 l2
        have e1 : (!(addP (fun k => listed.getD k false) i i)) = false := by simp [addP]
        have e2 : (!listed.getD i false) = true := by rw [q2]; rfl
        rw [e1, e2]
        simp only [Bool.false_eq_true, if_false, if_true]
        omega
      omega

end
end Go.Lk
end
