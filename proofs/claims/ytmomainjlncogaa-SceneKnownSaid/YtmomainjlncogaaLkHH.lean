/- The check of a region whose order is open; the region. -/
import Derived.Test.YtmomainjlncogaaLkGG
namespace Go.Lk
set_option linter.unusedSimpArgs false
set_option linter.unusedVariables false

def maskOf (acc : List Nat) (o : Oper) : Nat :=
  o.after.toList.foldl (fun s e => bif Region.binds .any e then s ||| (2 ^ e.on ||| acc.getD e.on 0) else s) 0
def masks : List Oper → List Nat → List Nat
  | [], acc => acc
  | o :: l, acc => masks l (acc ++ [maskOf acc o])

def ordB (m : List Nat) (i j : Nat) : Bool := (m.getD j 0).testBit i || (m.getD i 0).testBit j

def pairOk (C : Cfg) (ops : Array Oper) (sl : List Nat) (m : List Nat) (i j : Nat) (oi oj : Oper) : Bool :=
  (match oi.dst with
    | none => true
    | some t => !((looks ops oj).contains t || oj.dst == some t) || ordB m i j) &&
  (!(cls C oi.op == 2 && cls C oj.op != 0) || sl.contains j || ordB m i j) &&
  (!(cls C oi.op == 3 && cls C oj.op == 4) || (m.getD j 0).testBit i)

def drawOkS (C : Cfg) (ops : Array Oper) (sl : List Nat) : Bool :=
  let m := masks ops.toList []
  (sl.all fun j => match ops[j]? with | some o => cls C o.op == 1 | none => true) && (List.range ops.size).all fun j =>
    match ops[j]? with
    | none => true
    | some oj =>
      (oj.after.toList.all fun e => !Region.binds .any e || decide (e.on < j)) &&
      (List.range ops.size).all fun i =>
        match ops[i]? with
        | none => true
        | some oi => i == j || pairOk C ops sl m i j oi oj

theorem fold_bits {acc : List Nat} {i : Nat} : ∀ (l : List Edge) (s : Nat), (l.foldl (fun s e => bif Region.binds .any e then s ||| (2 ^ e.on ||| acc.getD e.on 0) else s) s).testBit i = true →
    s.testBit i = true ∨ ∃ e ∈ l, Region.binds .any e = true ∧ (e.on = i ∨ (acc.getD e.on 0).testBit i = true)
  | [], s, h => .inl h
  | e :: l, s, h => by
    rcases fold_bits l _ h with h | ⟨e', he', hb, hor⟩
    · simp only at h
      cases hb : Region.binds .any e
      · rw [hb] at h; exact .inl h
      · rw [hb] at h
        simp only [cond_true, Nat.testBit_or, Bool.or_eq_true] at h
        rcases h with h | h | h
        · exact .inl h
        · rw [Nat.testBit_two_pow] at h
          exact .inr ⟨e, by simp, hb, .inl (by simpa using h)⟩
        · exact .inr ⟨e, by simp, hb, .inr h⟩
    · exact .inr ⟨e', by simp [he'], hb, hor⟩

theorem masks_get {ops : Array Oper} : ∀ (l : List Oper) (acc : List Nat), (∀ j, l[j]? = ops[acc.length + j]?) → (∀ i j, (acc.getD j 0).testBit i = true → Anc ops i j) →
    ∀ i j, ((masks l acc).getD j 0).testBit i = true → Anc ops i j
  | [], acc, _, h, i, j, hb => h i j hb
  | o :: l, acc, hl, h, i, j, hb => by
    refine masks_get l (acc ++ [maskOf acc o]) (fun k => by have := hl (k + 1); simpa [Nat.add_assoc, Nat.add_comm 1 k] using this) (fun i j hij => ?_) i j hb
    rw [List.getD_eq_getElem?_getD] at hij
    rcases Nat.lt_or_ge j acc.length with hj | hj
    · rw [List.getElem?_append_left hj, ← List.getD_eq_getElem?_getD] at hij
      exact h i j hij
    · rw [List.getElem?_append_right hj] at hij
      by_cases h0 : j - acc.length = 0
      · have hj' : j = acc.length := by omega
        rw [h0] at hij
        simp only [List.getElem?_cons_zero, Option.getD_some] at hij
        have ho : ops[j]? = some o := by have := hl 0; rw [hj']; simpa using this.symm
        rcases fold_bits _ _ hij with hz | ⟨e, he, hbd, hor⟩
        · simp at hz
        · rcases hor with h1 | h1
          · exact .one ho (by simpa using he) hbd h1
          · exact .step ho (by simpa using he) hbd (h _ _ h1)
      · rw [List.getElem?_eq_none (by simp; omega)] at hij
        simp at hij

theorem drawOkS_spec {C : Cfg} {ops : Array Oper} {sl : List Nat} (h : drawOkS C ops sl = true) : DrawOk C ops (fun j => sl.contains j) := by
  have hm : ∀ i j, ((masks ops.toList []).getD j 0).testBit i = true → Anc ops i j := masks_get ops.toList [] (fun j => by simp) (fun i j h => by simp at h)
  have ho : ∀ i j, ordB (masks ops.toList []) i j = true → Anc ops i j ∨ Anc ops j i := by
    intro i j h
    unfold ordB at h
    rw [Bool.or_eq_true] at h
    exact h.imp (hm _ _) (hm _ _)
  unfold drawOkS at h
  rw [Bool.and_eq_true] at h
  obtain ⟨hsl, h⟩ := h
  simp only [List.all_eq_true, List.mem_range] at h
  have hj : ∀ j oj, ops[j]? = some oj → (oj.after.toList.all fun e => !Region.binds .any e || decide (e.on < j)) = true ∧
      ∀ i oi, ops[i]? = some oi → i ≠ j → pairOk C ops sl (masks ops.toList []) i j oi oj = true := by
    intro j oj hoj
    have h1 := h j (Array.getElem?_eq_some_iff.1 hoj).1
    rw [hoj] at h1
    simp only [Bool.and_eq_true, List.all_eq_true, List.mem_range] at h1
    refine ⟨by rw [List.all_eq_true]; exact h1.1, fun i oi hoi hne => ?_⟩
    have h2 := h1.2 i (Array.getElem?_eq_some_iff.1 hoi).1
    rw [hoi] at h2
    simpa [hne] using h2
  refine ⟨fun j o e hoj he hb => ?_, fun i j oi oj t hoi hoj hne hd hl => ?_, fun i j oi oj hoi hoj hne h2 h0 hsj => ?_, fun j oj hoj hsj => ?_, fun i j oi oj hoi hoj h3 h4 => ?_⟩
  · have := (hj j o hoj).1
    rw [List.all_eq_true] at this
    have := this e (by simpa using he)
    simpa [hb] using this
  · have := (hj j oj hoj).2 i oi hoi hne
    unfold pairOk at this
    simp only [Bool.and_eq_true] at this
    have h1 := this.1.1
    rw [hd] at h1
    simp only [Bool.or_eq_true, Bool.not_eq_true'] at h1
    rcases h1 with h1 | h1
    · exfalso
      rw [Bool.or_eq_false_iff] at h1
      rcases hl with hl | hl
      · have := h1.1; simp at this; exact this hl
      · have := h1.2; simp [hl] at this
    · exact ho _ _ h1
  · have := (hj j oj hoj).2 i oi hoi hne
    unfold pairOk at this
    simp only [Bool.and_eq_true] at this
    have h1 := this.1.2
    rw [hsj] at h1
    simp only [Bool.or_eq_true, Bool.not_eq_true', h2] at h1
    rcases h1 with (h1 | h1) | h1
    · simp [h0] at h1
    · cases h1
    · exact ho _ _ h1
  · rw [List.all_eq_true] at hsl
    have := hsl j (by simpa using hsj)
    rw [hoj] at this
    simpa using this
  · have hne : i ≠ j := by rintro rfl; rw [hoi] at hoj; cases hoj; omega
    have := (hj j oj hoj).2 i oi hoi hne
    unfold pairOk at this
    simp only [Bool.and_eq_true] at this
    have h1 := this.2
    simp only [Bool.or_eq_true, Bool.not_eq_true', h3, h4] at h1
    rcases h1 with h1 | h1
    · simp at h1
    · exact hm _ _ h1

def drawOk (C : Cfg) (ops : Array Oper) : Bool := drawOkS C ops []
theorem drawOk_spec {C : Cfg} {ops : Array Oper} (h : drawOk C ops = true) : DrawOk C ops (fun _ => false) := drawOkS_spec (sl := []) h
theorem Steady.none {C : Cfg} {ops : Array Oper} {fs : Nat → List Value} {ss : Nat → AHeap} : Steady C ops fs ss (fun _ => false) := fun _ _ _ _ _ _ _ h => by cases h
end Go.Lk
