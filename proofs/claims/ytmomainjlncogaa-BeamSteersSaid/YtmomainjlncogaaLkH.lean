/- Loads, stores and new blocks: what the model's memory does, and the abstract heap with it. -/
import Derived.Test.YtmomainjlncogaaLkR
namespace Go.Lk
open Go.RowKit (Below)

theorem add_off (b o n : Nat) : Addr.add ⟨b, o, none⟩ n = ⟨b, o + n, none⟩ := by
  unfold Addr.add
  split
  · rename_i h; subst h; rfl
  · rfl

theorem drop_cons' {α : Type} {xs : List α} {i : Nat} {x : α} (h : xs[i]? = some x) : xs.drop i = x :: xs.drop (i + 1) := by
  obtain ⟨hi, rfl⟩ := List.getElem?_eq_some_iff.1 h
  exact List.drop_eq_getElem_cons hi

section
variable {P : Program}

theorem run_loadCellsFrom {w : World} {cb off : Nat} {c : Array Value} {elem : TypeId} {fz : Nat × Nat}
    (hb : w.heap[cb]? = some (.cells c elem fz)) : ∀ (n i : Nat) (acc : Array Value), off + i + n ≤ c.size →
    (loadCellsFrom ⟨cb, off, none⟩ i n acc).run P w = .ok (acc ++ ((c.toList.drop (off + i)).take n).toArray) w := by
  intro n
  induction n with
  | zero => intro i acc _; simp [loadCellsFrom, pure]
  | succ n ih =>
    intro i acc h
    have hlt : off + i < c.size := by omega
    have hc : w.cell? ⟨cb, off + i, none⟩ = some c[off + i] := by
      simp [World.cell?, hb, hlt]
    simp only [loadCellsFrom, add_off, Sem.run_bind]
    have hl : (load ⟨cb, off + i, none⟩).run P w = .ok c[off + i] w := by
      simp [load, Sem.run, hc]
    rw [hl]
    simp only [Result.andThen_ok]
    rw [ih (i + 1) _ (by omega)]
    have hd : c.toList.drop (off + i) = c[off + i] :: c.toList.drop (off + (i + 1)) :=
      drop_cons' (by rw [Array.getElem?_toList]; simp [hlt])
    rw [hd, List.take_succ_cons]
    congr 1
    simp

theorem run_loadCells {w : World} {cb off n : Nat} {c : Array Value} {elem : TypeId} {fz : Nat × Nat}
    (hb : w.heap[cb]? = some (.cells c elem fz)) (h : off + n ≤ c.size) :
    (loadCells ⟨cb, off, none⟩ n).run P w = .ok ((c.toList.drop off).take n).toArray w := by
  unfold loadCells
  rw [run_loadCellsFrom hb n 0 #[] (by omega)]
  simp

def splice (xs : List Value) (o : Nat) (cs : List Value) : List Value := xs.take o ++ cs ++ xs.drop (o + cs.length)

theorem splice_length {xs cs : List Value} {o : Nat} (h : o + cs.length ≤ xs.length) : (splice xs o cs).length = xs.length := by
  simp [splice]; omega

theorem splice_cons {xs cs : List Value} {o : Nat} {x : Value} (h : o + (x :: cs).length ≤ xs.length) :
    splice xs o (x :: cs) = splice (xs.set o x) (o + 1) cs := by
  have hl : o < xs.length := by simp at h; omega
  have h1 : (xs.set o x).take (o + 1) = xs.take o ++ [x] := by
    rw [List.take_succ_eq_append_getElem (by simpa using hl), List.take_set, List.set_eq_of_length_le (by simp; omega)]
    simp
  have h2 : (xs.set o x).drop (o + 1 + cs.length) = xs.drop (o + 1 + cs.length) := List.drop_set_of_lt (by omega)
  unfold splice
  rw [h1, h2]
  simp [Nat.add_comm, Nat.add_left_comm]

def setBlock (w : World) (cb : Nat) (o : Obj) : World := { w with heap := w.heap.setIfInBounds cb o }

theorem setBlock_heap (w : World) (cb : Nat) (o : Obj) (k : Nat) : (setBlock w cb o).heap[k]? = if k = cb ∧ cb < w.heap.size then some o else w.heap[k]? := by
  simp only [setBlock, Array.getElem?_setIfInBounds]
  by_cases h : cb = k
  · subst h
    by_cases h' : cb < w.heap.size <;> simp [h']
  · rw [if_neg h, if_neg (fun ⟨a, _⟩ => h a.symm)]

theorem run_storeCells {elem : TypeId} {lo hi cb off : Nat} (hf : hi ≤ lo) : ∀ (vs : List Value) (i : Nat) (w : World) (c : Array Value),
    w.heap[cb]? = some (.cells c elem (lo, hi)) → off + i + vs.length ≤ c.size → vs.all one = true →
    ∃ c' : Array Value, (storeCells ⟨cb, off, none⟩ vs i).run P w = .ok () (setBlock w cb (.cells c' elem (lo, hi))) ∧
      c'.toList = splice c.toList (off + i) vs := by
  intro vs
  induction vs with
  | nil =>
    intro i w c hb _ _
    refine ⟨c, ?_, by simp [splice]⟩
    simp only [storeCells, pure, Sem.run]
    congr 1
    unfold setBlock
    have : w.heap.setIfInBounds cb (Obj.cells c elem (lo, hi)) = w.heap := by
      obtain ⟨h1, h2⟩ := Array.getElem?_eq_some_iff.1 hb
      rw [← h2]; simp [Array.setIfInBounds, h1]
    rw [this]
  | cons v vs ih =>
    intro i w c hb h hone
    simp only [List.all_cons, Bool.and_eq_true] at hone
    have hlt : off + i < c.size := by simp at h; omega
    have hc : w.cell? ⟨cb, off + i, none⟩ = some c[off + i] := by simp [World.cell?, hb, hlt]
    have hfz : w.frozen? ⟨cb, off + i, none⟩ = false := by
      simp only [World.frozen?, hb]
      simp; omega
    have hset : w.setCell ⟨cb, off + i, none⟩ v = setBlock w cb (.cells (c.setIfInBounds (off + i) v) elem (lo, hi)) := by
      unfold World.setCell setBlock
      congr 1
      obtain ⟨h1, h2⟩ := Array.getElem?_eq_some_iff.1 hb
      apply Array.ext_getElem?
      intro k
      rw [Array.getElem?_modify, Array.getElem?_setIfInBounds]
      by_cases hk : cb = k
      · subst hk; simp [h1, h2]
      · simp [hk]
    have hst : (store ⟨cb, off + i, none⟩ v).run P w = .ok () (setBlock w cb (.cells (c.setIfInBounds (off + i) v) elem (lo, hi))) := by
      rw [← hset]
      cases v <;> first | (simp [one] at hone; done) | simp [store, Sem.run, hc, hfz]
    have hb' : (setBlock w cb (.cells (c.setIfInBounds (off + i) v) elem (lo, hi))).heap[cb]? = some (.cells (c.setIfInBounds (off + i) v) elem (lo, hi)) := by
      rw [setBlock_heap, if_pos ⟨rfl, (Array.getElem?_eq_some_iff.1 hb).1⟩]
    obtain ⟨c', hr, hc'⟩ := ih (i + 1) _ (c.setIfInBounds (off + i) v) hb' (by simp at h ⊢; omega) hone.2
    refine ⟨c', ?_, ?_⟩
    · simp only [storeCells, add_off, Sem.run_bind, hst, Result.andThen_ok, hr]
      simp [setBlock, Array.setIfInBounds_setIfInBounds]
    · rw [hc', splice_cons (by simpa using h)]
      simp [Nat.add_assoc]

theorem run_newObj (o : Obj) (w : World) : (newObj o).run P w = .ok w.heap.size { w with heap := w.heap.push o } := by
  simp [newObj, Sem.run]
end

variable {ex : Bool} {μ μ' : List (Option Ent)} {B : Nat} {σ : AHeap} {w w' : World}

theorem HR.of_heap (h : HR ex B μ σ w) (hw : w'.heap = w.heap) : HR ex B μ σ w' :=
  ⟨h.len, by rw [hw]; exact h.hB, h.has, fun b o e h1 h2 => (h.obj b o e h1 h2).mono (Sub.refl _) (fun _ => by rw [hw]), h.inj⟩

theorem lt_of_some {α : Type} {xs : List α} {i : Nat} {x : α} (h : xs[i]? = some x) : i < xs.length := (List.getElem?_eq_some_iff.1 h).1

/-- A new block. -/
theorem HR.push (h : HR ex B μ σ w) (ob : Obj) (o : AObj) (e : Ent) (he : e.cb = w.heap.size) (hw : w'.heap = w.heap.push ob)
    (ho : ObjR ex (μ ++ [some e]) B w' e o) : HR ex B (μ ++ [some e]) (σ ++ [o]) w' := by
  have hold : ∀ k, k < w.heap.size → w'.heap[k]? = w.heap[k]? := fun k hk => by rw [hw, Array.getElem?_push, if_neg (by omega)]
  refine ⟨by simp [h.len], by rw [hw]; have := h.hB; simp; omega, ?_, ?_, ?_⟩
  · intro b o' h1 hl
    rcases Nat.lt_or_ge b σ.length with hb | hb
    · rw [List.getElem?_append_left hb] at h1
      obtain ⟨e', he'⟩ := h.has b o' h1 hl
      exact ⟨e', Sub.snoc _ _ _ _ he'⟩
    · have := lt_of_some h1
      have hb0 : b = μ.length := by rw [h.len]; simp at this; omega
      subst hb0
      exact ⟨e, by simp⟩
  · intro b o' e' h1 h2
    rcases Nat.lt_or_ge b σ.length with hb | hb
    · rw [List.getElem?_append_left hb] at h1
      rw [List.getElem?_append_left (by rw [h.len]; exact hb)] at h2
      have k := h.obj b o' e' h1 h2
      exact k.mono (Sub.snoc _ _) (fun hl => hold _ (k.lt hl))
    · rw [List.getElem?_append_right hb] at h1
      rw [List.getElem?_append_right (by rw [h.len]; exact hb), h.len] at h2
      have hb0 : b - σ.length = 0 := by have := lt_of_some h1; simp at this; omega
      rw [hb0] at h1 h2
      simp at h1 h2
      subst h1 h2
      exact ho
  · intro b b' o1 o2 e1 e2 h1 h2 h3 h4 hown hlive hcb
    have key : ∀ (b : Nat) (o1 : AObj) (e1 : Ent), (σ ++ [o])[b]? = some o1 → (μ ++ [some e])[b]? = some e1 →
        (b < σ.length ∧ σ[b]? = some o1 ∧ μ[b]? = some (some e1)) ∨ (b = σ.length ∧ o1 = o ∧ e1 = e) := fun b o1 e1 h1 h2 => by
      rcases Nat.lt_or_ge b σ.length with hb | hb
      · rw [List.getElem?_append_left hb] at h1
        rw [List.getElem?_append_left (by rw [h.len]; exact hb)] at h2
        exact .inl ⟨hb, h1, h2⟩
      · rw [List.getElem?_append_right hb] at h1
        rw [List.getElem?_append_right (by rw [h.len]; exact hb), h.len] at h2
        have hb0 : b - σ.length = 0 := by have := lt_of_some h1; simp at this; omega
        rw [hb0] at h1 h2
        simp at h1 h2
        exact .inr ⟨by omega, h1.symm, h2.symm⟩
    rcases key b o1 e1 h1 h3 with ⟨k1, k2, k3⟩ | ⟨k1, k2, k3⟩
    · rcases key b' o2 e2 h2 h4 with ⟨l1, l2, l3⟩ | ⟨l1, l2, l3⟩
      · exact h.inj b b' o1 o2 e1 e2 k2 l2 k3 l3 hown hlive hcb
      · subst l3
        have hl : o1.live = true := by cases o1 <;> first | rfl | cases hown
        have := (h.obj b o1 e1 k2 k3).lt hl
        omega
    · rcases key b' o2 e2 h2 h4 with ⟨l1, l2, l3⟩ | ⟨l1, l2, l3⟩
      · subst k3
        have := (h.obj b' o2 e2 l2 l3).lt hlive
        omega
      · omega

/-- One block changes, here and there. -/
theorem HR.setAt (h : HR ex B μ σ w) {b : Nat} {o : AObj} {e : Ent} (hb : σ[b]? = some o) (he : μ[b]? = some (some e)) (hown : o.owned = true)
    {ob : Obj} {o' : AObj} (hlo : o'.owned = true → o.owned = true) (ho : ObjR ex μ B (setBlock w e.cb ob) e o') : HR ex B μ (σ.set b o') (setBlock w e.cb ob) := by
  have hbl := lt_of_some hb
  have hlive : o.live = true := by cases o <;> first | rfl | cases hown
  refine ⟨by simp [h.len], by simpa [setBlock] using h.hB, ?_, ?_, ?_⟩
  · intro k o1 h1 hl
    rw [List.getElem?_set] at h1
    by_cases hk : b = k
    · subst hk; exact ⟨e, he⟩
    · rw [if_neg hk] at h1; exact h.has k o1 h1 hl
  · intro k o1 e1 h1 h2
    rw [List.getElem?_set] at h1
    by_cases hk : b = k
    · subst hk
      rw [if_pos rfl, if_pos hbl] at h1
      cases h1
      rw [he] at h2; cases h2
      exact ho
    · rw [if_neg hk] at h1
      refine (h.obj k o1 e1 h1 h2).mono (Sub.refl _) (fun hl => ?_)
      rw [setBlock_heap, if_neg]
      rintro ⟨hcb, _⟩
      exact hk (h.inj b k o o1 e e1 hb h1 he h2 hown hl hcb.symm)
  · intro k k' o1 o2 e1 e2 h1 h2 h3 h4 ho1 ho2 hcb
    have key : ∀ (k : Nat) (o1 : AObj), (σ.set b o')[k]? = some o1 → (k = b ∧ o1 = o') ∨ (k ≠ b ∧ σ[k]? = some o1) := fun k o1 h1 => by
      rw [List.getElem?_set] at h1
      by_cases hk : b = k
      · subst hk; rw [if_pos rfl, if_pos hbl] at h1; cases h1; exact .inl ⟨rfl, rfl⟩
      · rw [if_neg hk] at h1; exact .inr ⟨fun e => hk e.symm, h1⟩
    rcases key k o1 h1 with ⟨rfl, rfl⟩ | ⟨l1, l2⟩
    · rcases key k' o2 h2 with ⟨rfl, rfl⟩ | ⟨m1, m2⟩
      · rfl
      · exact h.inj k k' o o2 e1 e2 hb m2 h3 h4 hown ho2 hcb
    · rcases key k' o2 h2 with ⟨rfl, rfl⟩ | ⟨m1, m2⟩
      · exact h.inj k k' o1 o e1 e2 l2 hb h3 h4 ho1 hlive hcb
      · exact h.inj k k' o1 o2 e1 e2 l2 m2 h3 h4 ho1 ho2 hcb

/-- A block is given up. -/
theorem HR.kill (h : HR ex B μ σ w) (b : Nat) : HR ex B μ (σ.set b .dead) w := by
  have key : ∀ (k : Nat) (o1 : AObj), (σ.set b .dead)[k]? = some o1 → (o1 = .dead) ∨ (σ[k]? = some o1) := fun k o1 h1 => by
    rw [List.getElem?_set] at h1
    by_cases hk : b = k
    · subst hk
      rw [if_pos rfl] at h1
      split at h1
      · cases h1; exact .inl rfl
      · cases h1
    · rw [if_neg hk] at h1; exact .inr h1
  refine ⟨by simp [h.len], h.hB, ?_, ?_, ?_⟩
  · intro k o h1 hl
    rcases key k o h1 with rfl | h1
    · cases hl
    · exact h.has k o h1 hl
  · intro k o e h1 h2
    rcases key k o h1 with rfl | h1
    · trivial
    · exact h.obj k o e h1 h2
  · intro k k' o1 o2 e1 e2 h1 h2 h3 h4 ho1 ho2 hcb
    rcases key k o1 h1 with rfl | h1
    · cases ho1
    · rcases key k' o2 h2 with rfl | h2
      · cases ho2
      · exact h.inj k k' o1 o2 e1 e2 h1 h2 h3 h4 ho1 ho2 hcb

theorem Below.setBlock' {B cb : Nat} (w : World) (ob : Obj) (h : B ≤ cb) : Below B w (setBlock w cb ob) := by
  refine ⟨rfl, rfl, rfl, by simp [setBlock], fun k hk => ?_⟩
  rw [setBlock_heap, if_neg (by omega)]
theorem Below.push' {B : Nat} {w w' : World} {ob : Obj} (hw : w' = { w with heap := w.heap.push ob }) (h : B ≤ w.heap.size) : Below B w w' := by
  subst hw
  refine ⟨rfl, rfl, rfl, by simp, fun k hk => ?_⟩
  rw [Array.getElem?_push, if_neg (by omega)]

end Go.Lk
