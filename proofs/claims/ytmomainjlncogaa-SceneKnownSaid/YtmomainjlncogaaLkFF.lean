/- The region whose order is open: each step. -/
import Derived.Test.YtmomainjlncogaaLkEE
namespace Go.Lk
set_option linter.unusedSimpArgs false
set_option linter.unusedVariables false

def kd (C : Cfg) (ops : Array Oper) (wd : Nat → Bool) (i : Nat) : Nat :=
  match ops[i]? with
  | some o => bif wd i then cls C o.op else 0
  | none => 0

theorem cls_le (C : Cfg) (o : Op) : cls C o = 0 ∨ cls C o = 1 ∨ cls C o = 2 ∨ cls C o = 3 ∨ cls C o = 4 := by
  unfold cls
  split
  all_goals first
    | (simp; done)
    | (rename_i f _ _; cases C.p f <;> simp; cases C.q f <;> simp)

section
variable {C : Cfg} {ops : Array Oper} {fs : Nat → List Value} {ss : Nat → AHeap} {vs : Nat → Value} {wd : Nat → Bool} {st : Nat → Bool}

theorem kd_of {i : Nat} {o : Oper} (ho : ops[i]? = some o) (hw : wd i = true) : kd C ops wd i = cls C o.op := by simp [kd, ho, hw]
theorem kd_pos {i : Nat} (h : kd C ops wd i ≠ 0) : ∃ o, ops[i]? = some o ∧ wd i = true ∧ kd C ops wd i = cls C o.op := by
  unfold kd at h ⊢
  split at h
  · rename_i o ho
    cases hw : wd i
    · rw [hw] at h; simp at h
    · exact ⟨o, ho, rfl, by simp [ho]⟩
  · exact absurd rfl h

theorem Trace.still (hC : C.Ok) (ht : Trace C ops fs ss vs wd) {i : Nat} (hi : i < ops.size) (h2 : kd C ops wd i ≠ 2) (h3 : kd C ops wd i ≠ 3) : ss (i + 1) = ss i := by
  have ho : ops[i]? = some ops[i] := Array.getElem?_eq_getElem hi
  cases hw : wd i
  · exact (ht.no i _ ho hw).2
  · have hk := kd_of (C := C) ho hw
    have ha := ht.yes i _ ho hw
    rw [hk] at h2 h3
    rcases cls_le C ops[i].op with h | h | h | h | h
    · exact (cls0 h ha).1
    · exact (cls1 h ha).1
    · exact absurd h h2
    · exact absurd h h3
    · exact cls4 hC h ha
theorem Trace.made (ht : Trace C ops fs ss vs wd) {i : Nat} (h3 : kd C ops wd i = 3) : ∃ (m : Mk) (row : AObj), vs i = m.at (ss i).length ∧ ss (i + 1) = ss i ++ [row] := by
  obtain ⟨o, ho, hw, hk⟩ := kd_pos (C := C) (ops := ops) (wd := wd) (i := i) (by omega)
  obtain ⟨m, row, h1, h2, _⟩ := cls3 (by rw [← hk]; exact h3) (ht.yes i o ho hw)
  exact ⟨m, row, h1, h2⟩

/-- A stretch without changes: the heap only grows. -/
theorem Trace.stretch (hC : C.Ok) (ht : Trace C ops fs ss vs wd) (a : Nat) : ∀ (d : Nat), a + d ≤ ops.size → (∀ i, a ≤ i → i < a + d → kd C ops wd i ≠ 2) →
    ∃ ext, ss (a + d) = ss a ++ ext ∧ ∀ b, (ss a).length ≤ b → b < (ss (a + d)).length → ∃ i, a ≤ i ∧ i < a + d ∧ kd C ops wd i = 3 ∧ (ss i).length = b
  | 0, _, _ => ⟨[], by simp, fun b h1 h2 => by simp only [Nat.add_zero] at h2; omega⟩
  | d + 1, hle, hno => by
    obtain ⟨ext, he, hb⟩ := ht.stretch hC a d (by omega) (fun i h1 h2 => hno i h1 (by omega))
    have h2 := hno (a + d) (by omega) (by omega)
    by_cases h3 : kd C ops wd (a + d) = 3
    · obtain ⟨m, row, _, hrow⟩ := ht.made h3
      refine ⟨ext ++ [row], by rw [← Nat.add_assoc, hrow, he, List.append_assoc], fun b h1 hlt => ?_⟩
      rw [← Nat.add_assoc, hrow] at hlt
      by_cases hbe : b = (ss (a + d)).length
      · exact ⟨a + d, by omega, by omega, h3, hbe.symm⟩
      · obtain ⟨i, q1, q2, q3, q4⟩ := hb b h1 (by simp at hlt; omega)
        exact ⟨i, q1, by omega, q3, q4⟩
    · have hst := ht.still hC (i := a + d) (by omega) h2 h3
      refine ⟨ext, by rw [← Nat.add_assoc, hst, he], fun b h1 hlt => ?_⟩
      rw [← Nat.add_assoc, hst] at hlt
      obtain ⟨i, q1, q2, q3, q4⟩ := hb b h1 hlt
      exact ⟨i, q1, by omega, q3, q4⟩

theorem Trace.grow (hC : C.Ok) (ht : Trace C ops fs ss vs wd) {a s : Nat} (has : a ≤ s) (hs : s ≤ ops.size) (hno : ∀ i, a ≤ i → i < s → kd C ops wd i ≠ 2) :
    ∃ ext, ss s = ss a ++ ext ∧ ∀ b, (ss a).length ≤ b → b < (ss s).length → ∃ i, a ≤ i ∧ i < s ∧ kd C ops wd i = 3 ∧ (ss i).length = b := by
  have := ht.stretch hC a (s - a) (by omega) (fun i h1 h2 => hno i h1 (by omega))
  rwa [show a + (s - a) = s by omega] at this

/-- The heap after some of the operations. -/
structure HS (C : Cfg) (ops : Array Oper) (ss : Nat → AHeap) (wd : Nat → Bool) (p : Nat → Bool) (s : Nat) (H : AHeap) : Prop where
  le : s ≤ ops.size
  stop : s = ops.size ∨ (kd C ops wd s = 2 ∧ p s = false)
  done : ∀ i, i < s → kd C ops wd i = 2 → p i = true
  len : H.length = (ss s).length
  hole : ∀ i, i < s → kd C ops wd i = 3 → p i = false → H[(ss i).length]? = some .dead
  same : ∀ b, (∀ i, i < s → kd C ops wd i = 3 → p i = false → (ss i).length ≠ b) → H[b]? = (ss s)[b]?

def closedA (ops : Array Oper) (p : Nat → Bool) : Prop := ∀ i j, Anc ops i j → p j = true → p i = true

theorem HS.clear (hd : DrawOk C ops st) {p : Nat → Bool} {s : Nat} {H : AHeap} (h : HS C ops ss wd p s H) (hc : closedA ops p) {i m : Nat} (h3 : kd C ops wd i = 3) (hp : p i = false) (him : i < m) (hms : m < s) : kd C ops wd m ≠ 2 := by
  intro hm
  obtain ⟨oi, hoi, _, hki⟩ := kd_pos (C := C) (ops := ops) (wd := wd) (i := i) (by omega)
  obtain ⟨om, hom, _, hkm⟩ := kd_pos (C := C) (ops := ops) (wd := wd) (i := m) (by omega)
  rcases hd.two m i om oi hom hoi (by omega) (by omega) (by omega) (hd.no hoi (by omega)) with ha | ha
  · have := ha.lt hd; omega
  · have := hc _ _ ha (h.done m hms hm)
    rw [hp] at this; cases this

/-- Two new blocks that are still to come have two names. -/
theorem HS.apart (hC : C.Ok) (ht : Trace C ops fs ss vs wd) (hd : DrawOk C ops st) {p : Nat → Bool} {s : Nat} {H : AHeap} (h : HS C ops ss wd p s H) (hc : closedA ops p) {i j : Nat}
    (hi3 : kd C ops wd i = 3) (hj3 : kd C ops wd j = 3) (hpi : p i = false) (hij : i < j) (hjs : j < s) : (ss i).length < (ss j).length := by
  have hle := h.le
  obtain ⟨m, row, _, hrow⟩ := ht.made hi3
  obtain ⟨ext, he, _⟩ := ht.grow hC (a := i + 1) (s := j) (by omega) (by omega) (fun k h1 h2 => h.clear hd hc hi3 hpi (by omega) (by omega))
  rw [he, hrow]
  simp

theorem HS.lt (hC : C.Ok) (ht : Trace C ops fs ss vs wd) (hd : DrawOk C ops st) {p : Nat → Bool} {s : Nat} {H : AHeap} (h : HS C ops ss wd p s H) (hc : closedA ops p) {i : Nat}
    (hi3 : kd C ops wd i = 3) (hpi : p i = false) (his : i < s) : ∃ row, ss (i + 1) = ss i ++ [row] ∧ (ss s)[(ss i).length]? = some row ∧ (ss i).length < (ss s).length := by
  have hle := h.le
  obtain ⟨m, row, _, hrow⟩ := ht.made hi3
  obtain ⟨ext, he, _⟩ := ht.grow hC (a := i + 1) (s := s) (by omega) (by omega) (fun k h1 h2 => h.clear hd hc hi3 hpi (by omega) (by omega))
  refine ⟨row, hrow, ?_, ?_⟩
  · rw [he, hrow]; simp
  · rw [he, hrow]; simp

/-- Where does an operation that is next stand against the stop? -/
theorem HS.before (hd : DrawOk C ops st) {p : Nat → Bool} {s : Nat} {H : AHeap} (h : HS C ops ss wd p s H) {j : Nat} {oj : Oper} (hj : ops[j]? = some oj) (hwj : wd j = true) (hpj : p j = false)
    (hanc : ∀ i, Anc ops i j → p i = true) (hc0 : cls C oj.op ≠ 0) (hsj : st j = false) : j ≤ s := by
  rcases Nat.lt_or_ge s j with hlt | hge
  · exfalso
    have hjl : j < ops.size := (Array.getElem?_eq_some_iff.1 hj).1
    rcases h.stop with h1 | ⟨h1, h2⟩
    · omega
    · obtain ⟨os, hos, _, hks⟩ := kd_pos (C := C) (ops := ops) (wd := wd) (i := s) (by omega)
      rcases hd.two s j os oj hos hj (by omega) (by omega) hc0 hsj with ha | ha
      · have := hanc _ ha; rw [h2] at this; cases this
      · have := ha.lt hd; omega
  · exact hge

/-- All that is known in the middle of the region. -/
structure Inv (C : Cfg) (ops : Array Oper) (fs : Nat → List Value) (ss : Nat → AHeap) (vs : Nat → Value) (wd : Nat → Bool) (B : Nat → Prop) (p : Nat → Bool) (μ : List (Option Ent)) (tmps : Array Value) (w : World) : Prop where
  ex : ∃ (s : Nat) (H : AHeap), HR C.ex B μ H w ∧ HS C ops ss wd p s H ∧ ∀ i, i < s → kd C ops wd i = 3 → p i = false → ∀ e, μ[(ss i).length]? ≠ some (some e)
  fr : FrR C.ex μ (fsF vs p 0 ops.toList (fs 0)) tmps

def addP (p : Nat → Bool) (j : Nat) : Nat → Bool := fun i => if i = j then true else p i

/-- The frame is as in the text's order, where the next operation looks. -/
theorem fr_agrees (ht : Trace C ops fs ss vs wd) (hd : DrawOk C ops st) {p : Nat → Bool} (hc : closedA ops p) {j : Nat} {oj : Oper} (hj : ops[j]? = some oj) (hpj : p j = false)
    (hanc : ∀ i, Anc ops i j → p i = true) {t : Nat} (hl : t ∈ looks ops oj) : (fsF vs p 0 ops.toList (fs 0))[t]? = (fs j)[t]? := by
  have hjl : j < ops.size := (Array.getElem?_eq_some_iff.1 hj).1
  rw [← fsF_prefix ht j ops.toList 0 (fun i => by simp) (Nat.zero_le _) (by simp; omega)]
  refine fsF_congr vs p _ t ops.toList 0 _ _ (fun i o hi hdst => ?_) rfl rfl
  rw [Nat.zero_add]
  have hi' : ops[i]? = some o := by simpa using hi
  by_cases hij : i = j
  · subst hij; simp [hpj]
  · rcases hd.slot i j o oj t hi' hj hij hdst (.inl hl) with ha | ha
    · have := ha.lt hd
      rw [hanc i ha]; simp [this]
    · have := ha.lt hd
      have hpi : p i = false := by
        cases hp : p i
        · rfl
        · have := hc j i ha hp; rw [hpj] at this; cases this
      rw [hpi]; simp; omega

/-- The frame once the next operation is carried out. -/
theorem fr_next (ht : Trace C ops fs ss vs wd) (hd : DrawOk C ops st) {p : Nat → Bool} (hc : closedA ops p) {j : Nat} {oj : Oper} (hj : ops[j]? = some oj) (hpj : p j = false) :
    fsF vs (addP p j) 0 ops.toList (fs 0) = putA (fsF vs p 0 ops.toList (fs 0)) oj.dst (vs j) := by
  have hjl : j < ops.size := (Array.getElem?_eq_some_iff.1 hj).1
  apply List.ext_getElem?
  intro t
  by_cases hdst : oj.dst = some t
  · simp only [hdst, putA]
    rw [List.getElem?_set, if_pos rfl, fsF_length]
    by_cases htl : t < (fs 0).length
    · rw [if_pos htl]
      refine fsF_last vs _ t j ops.toList 0 _ (Nat.zero_le _) (fun o ho => ?_) (by simpa using hjl) (by simp [addP]) (fun i o hi ho hd' => ?_) htl
      · have : ops[j]? = some o := by simpa using ho
        rw [hj] at this; cases this; exact hdst
      · have ho' : ops[i]? = some o := by simpa using ho
        have hne : i ≠ j := by omega
        simp only [addP, if_neg hne]
        cases hp : p i
        · rfl
        · rcases hd.slot i j o oj t ho' hj hne hd' (.inr hdst) with ha | ha
          · have := ha.lt hd; omega
          · have := hc j i ha hp; rw [hpj] at this; cases this
    · rw [if_neg htl]
      exact List.getElem?_eq_none (by rw [fsF_length]; omega)
  · rw [putA_get_ne hdst]
    refine fsF_congr vs _ p t ops.toList 0 _ _ (fun i o hi hd' => ?_) rfl rfl
    rw [Nat.zero_add]
    have hi' : ops[i]? = some o := by simpa using hi
    have hne : i ≠ j := by rintro rfl; rw [hj] at hi'; cases hi'; exact hdst hd'
    simp [addP, hne]

theorem wanted_agrees (ht : Trace C ops fs ss vs wd) (hd : DrawOk C ops st) {p : Nat → Bool} (hc : closedA ops p) {j : Nat} {oj : Oper} (hj : ops[j]? = some oj) (hpj : p j = false)
    (hanc : ∀ i, Anc ops i j → p i = true) : wantedA ops (fsF vs p 0 ops.toList (fs 0)) oj = some (wd j) := by
  rw [← ht.w j oj hj]
  unfold wantedA
  split
  · rfl
  · rename_i g want hg
    cases hgd : (ops[g]?).bind (·.dst) with
    | none => rfl
    | some t =>
      simp only
      rw [fr_agrees ht hd hc hj hpj hanc (t := t) (by
        unfold looks
        rw [hg]
        simp [hgd])]

theorem op_agrees (ht : Trace C ops fs ss vs wd) (hd : DrawOk C ops st) {p : Nat → Bool} (hc : closedA ops p) {j : Nat} {oj : Oper} (hj : ops[j]? = some oj) (hpj : p j = false)
    (hanc : ∀ i, Anc ops i j → p i = true) (τ : AHeap) : aOp C (fsF vs p 0 ops.toList (fs 0)) τ oj.op = aOp C (fs j) τ oj.op := by
  refine aOp_congr fun t ht' => ?_
  have hl : t ∈ looks ops oj := by
    unfold looks
    refine List.mem_append_left _ (List.mem_filterMap.2 ⟨.tmp t, ht', rfl⟩)
  rw [List.getD_eq_getElem?_getD, List.getD_eq_getElem?_getD, fr_agrees ht hd hc hj hpj hanc hl]

end
end Go.Lk
