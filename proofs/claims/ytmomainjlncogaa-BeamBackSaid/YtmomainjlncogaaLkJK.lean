import Derived.Test.YtmomainjlncogaaLkF
import Derived.Below
import Derived.Orders
import Derived.Laws.Entries
import Derived.Laws.FloatArith
section
/- The relation between the abstract heap and the model's world. -/
namespace Go.Lk
set_option linter.unusedVariables false

/-- What an abstract block is: a row of cells (may it be written? has it spare room of unknown size, its elements so many cells each?), a row that is given up, a string's iterator. -/
inductive AObj where
  | row (vs : List Value) (rw : Bool) (opn : Option Nat)
  | dead
  | iter (s : ByteArray) (pos : Nat)

abbrev AHeap := List AObj

/-- Where an abstract block lies. -/
structure Ent where
  cb : Nat
  base : Nat
  size : Nat
  xtra : Nat
  esz : Nat

def cn (ex : Bool) (x : Nat) : Nat := bif ex then x else can x

inductive VR (ex : Bool) (μ : List (Option Ent)) : Value → Value → Prop
  | bool (b : Bool) : VR ex μ (.bool b) (.bool b)
  | int (k : IntKind) (n : Int) : VR ex μ (.int k n) (.int k n)
  | float (k : FloatKind) (x : Nat) : VR ex μ (.float k (cn ex x)) (.float k x)
  | complex (k : FloatKind) (x y : Nat) : VR ex μ (.complex k (cn ex x) (cn ex y)) (.complex k x y)
  | string (s : ByteArray) : VR ex μ (.string s) (.string s)
  | pnil : VR ex μ (.pointer none) (.pointer none)
  | ptr {b o : Nat} {e : Ent} (h : μ[b]? = some (some e)) : VR ex μ (.pointer (some ⟨b, o, none⟩)) (.pointer (some ⟨e.cb, e.base + o, none⟩))
  | snil (l c : Nat) : VR ex μ (.slice none l c) (.slice none l c)
  | slice {b o sz len cap cap' : Nat} {e : Ent} (h : μ[b]? = some (some e)) (hc : cap' = cap ∨ (sz = e.esz ∧ o + cap * sz = e.size ∧ cap' = cap + e.xtra)) :
      VR ex μ (.slice (some ⟨b, o, some sz⟩) len cap) (.slice (some ⟨e.cb, e.base + o, none⟩) len cap')
  | sempty {b o sz : Nat} {e : Ent} (h : μ[b]? = some (some e)) (a : Addr) : VR ex μ (.slice (some ⟨b, o, some sz⟩) 0 0) (.slice (some a) 0 0)
  | func (fn : Fn) {f c f' c' : Array Value} (hf : f.size = f'.size) (hc : c.size = c'.size)
      (h1 : ∀ (i : Nat) (h : i < f.size), VR ex μ f[i] (f'[i]'(hf ▸ h))) (h2 : ∀ (i : Nat) (h : i < c.size), VR ex μ c[i] (c'[i]'(hc ▸ h))) :
      VR ex μ (.func fn f c) (.func fn f' c')
  | nilFunc : VR ex μ .nilFunc .nilFunc
  | iface (t : TypeId) {v v' : Value} (h : VR ex μ v v') : VR ex μ (.iface t v) (.iface t v')
  | nilIface : VR ex μ .nilIface .nilIface
  | agg {c c' : Array Value} (hc : c.size = c'.size) (h : ∀ (i : Nat) (h : i < c.size), VR ex μ c[i] (c'[i]'(hc ▸ h))) : VR ex μ (.agg c) (.agg c')
  | tuple {c c' : Array Value} (hc : c.size = c'.size) (h : ∀ (i : Nat) (h : i < c.size), VR ex μ c[i] (c'[i]'(hc ▸ h))) : VR ex μ (.tuple c) (.tuple c')
  | mapNil : VR ex μ (.map none) (.map none)

/-- Lists, one by one. -/
def VRs (ex : Bool) (μ : List (Option Ent)) (xs ys : List Value) : Prop :=
  xs.length = ys.length ∧ ∀ (i : Nat) (a : Value), xs[i]? = some a → ∃ c, ys[i]? = some c ∧ VR ex μ a c

/-- One renaming goes on from another. -/
def Sub (μ μ' : List (Option Ent)) : Prop := ∀ (b : Nat) (e : Ent), μ[b]? = some (some e) → μ'[b]? = some (some e)

theorem Sub.refl (μ : List (Option Ent)) : Sub μ μ := fun _ _ h => h
theorem Sub.trans {μ μ' μ'' : List (Option Ent)} (h : Sub μ μ') (h' : Sub μ' μ'') : Sub μ μ'' := fun b e k => h' b e (h b e k)
theorem Sub.snoc (μ : List (Option Ent)) (e : Ent) : Sub μ (μ ++ [some e]) := fun b e' h => by
  have hb : b < μ.length := by
    rcases Nat.lt_or_ge b μ.length with h' | h'
    · exact h'
    · rw [List.getElem?_eq_none h'] at h; cases h
  rw [List.getElem?_append_left hb]; exact h

/-- One renaming goes on from another, and leaves it as it is. -/
def Ext (μ μ' : List (Option Ent)) : Prop := ∀ b, b < μ.length → μ'[b]? = μ[b]?
theorem Ext.refl (μ : List (Option Ent)) : Ext μ μ := fun _ _ => rfl
theorem Ext.len {μ μ' : List (Option Ent)} (h : Ext μ μ') : μ.length ≤ μ'.length := by
  rcases Nat.lt_or_ge μ'.length μ.length with hlt | hge
  · have := h μ'.length hlt
    rw [List.getElem?_eq_none (Nat.le_refl _), List.getElem?_eq_getElem hlt] at this
    cases this
  · exact hge
theorem Ext.trans {μ μ' μ'' : List (Option Ent)} (h : Ext μ μ') (h' : Ext μ' μ'') : Ext μ μ'' := fun b hb => by
  have := h.len
  rw [h' b (by omega), h b hb]
theorem Ext.sub {μ μ' : List (Option Ent)} (h : Ext μ μ') : Sub μ μ' := fun b e he => by
  rw [h b (List.getElem?_eq_some_iff.1 he).1]; exact he
theorem Ext.snoc (μ : List (Option Ent)) (e : Option Ent) : Ext μ (μ ++ [e]) := fun b hb => List.getElem?_append_left hb

variable {ex : Bool} {μ μ' : List (Option Ent)}

theorem VR.mono (hs : Sub μ μ') {a c : Value} (h : VR ex μ a c) : VR ex μ' a c := by
  induction h with
  | bool b => exact .bool b
  | int k n => exact .int k n
  | float k x => exact .float k x
  | complex k x y => exact .complex k x y
  | string s => exact .string s
  | pnil => exact .pnil
  | ptr h => exact .ptr (hs _ _ h)
  | snil l c => exact .snil l c
  | slice h hc => exact .slice (hs _ _ h) hc
  | sempty h a => exact .sempty (hs _ _ h) a
  | func fn hf hc _ _ ih1 ih2 => exact .func fn hf hc ih1 ih2
  | nilFunc => exact .nilFunc
  | iface t _ ih => exact .iface t ih
  | nilIface => exact .nilIface
  | agg hc _ ih => exact .agg hc ih
  | tuple hc _ ih => exact .tuple hc ih
  | mapNil => exact .mapNil

theorem VRs.mono (hs : Sub μ μ') {a c : List Value} (h : VRs ex μ a c) : VRs ex μ' a c :=
  ⟨h.1, fun i x hx => let ⟨y, hy, hv⟩ := h.2 i x hx; ⟨y, hy, hv.mono hs⟩⟩

theorem VRs.nil : VRs ex μ [] [] := ⟨rfl, fun i a h => by simp at h⟩
theorem VRs.cons {a c : Value} {as cs : List Value} (h : VR ex μ a c) (hs : VRs ex μ as cs) : VRs ex μ (a :: as) (c :: cs) := by
  refine ⟨by simp [hs.1], fun i x hx => ?_⟩
  cases i with
  | zero => simp at hx; subst hx; exact ⟨c, by simp, h⟩
  | succ i => simp at hx; obtain ⟨y, hy, hv⟩ := hs.2 i x hx; exact ⟨y, by simpa using hy, hv⟩
theorem VRs.append {a c a' c' : List Value} (h : VRs ex μ a c) (h' : VRs ex μ a' c') : VRs ex μ (a ++ a') (c ++ c') := by
  refine ⟨by simp [h.1, h'.1], fun i x hx => ?_⟩
  rcases Nat.lt_or_ge i a.length with hi | hi
  · rw [List.getElem?_append_left hi] at hx
    obtain ⟨y, hy, hv⟩ := h.2 i x hx
    exact ⟨y, by rw [List.getElem?_append_left (by rw [← h.1]; exact hi)]; exact hy, hv⟩
  · rw [List.getElem?_append_right hi] at hx
    obtain ⟨y, hy, hv⟩ := h'.2 _ x hx
    exact ⟨y, by rw [List.getElem?_append_right (by rw [← h.1]; exact hi), ← h.1]; exact hy, hv⟩
theorem VRs.take {a c : List Value} (n : Nat) (h : VRs ex μ a c) : VRs ex μ (a.take n) (c.take n) := by
  refine ⟨by simp [h.1], fun i x hx => ?_⟩
  rw [List.getElem?_take] at hx
  split at hx
  · rename_i hi
    obtain ⟨y, hy, hv⟩ := h.2 i x hx
    exact ⟨y, by rw [List.getElem?_take, if_pos hi]; exact hy, hv⟩
  · cases hx
theorem VRs.drop {a c : List Value} (n : Nat) (h : VRs ex μ a c) : VRs ex μ (a.drop n) (c.drop n) := by
  refine ⟨by simp [h.1], fun i x hx => ?_⟩
  rw [List.getElem?_drop] at hx
  obtain ⟨y, hy, hv⟩ := h.2 _ x hx
  exact ⟨y, by rw [List.getElem?_drop]; exact hy, hv⟩
theorem VRs.set {a c : List Value} {x y : Value} (n : Nat) (h : VRs ex μ a c) (hx : VR ex μ x y) : VRs ex μ (a.set n x) (c.set n y) := by
  refine ⟨by simp [h.1], fun i z hz => ?_⟩
  rw [List.getElem?_set] at hz
  rw [List.getElem?_set]
  split at hz
  · rename_i e
    rw [if_pos e]
    split at hz
    · rename_i hn; cases hz; exact ⟨y, by rw [if_pos (by rw [← h.1]; exact hn)], hx⟩
    · cases hz
  · rename_i e
    rw [if_neg e]
    exact h.2 i z hz
theorem VRs.get {a c : List Value} (h : VRs ex μ a c) {i : Nat} {x : Value} (hx : a[i]? = some x) : ∃ y, c[i]? = some y ∧ VR ex μ x y := h.2 i x hx
theorem VRs.replicate {x y : Value} (n : Nat) (h : VR ex μ x y) : VRs ex μ (List.replicate n x) (List.replicate n y) := by
  refine ⟨by simp, fun i z hz => ?_⟩
  rw [List.getElem?_replicate] at hz
  split at hz
  · rename_i hi; cases hz; exact ⟨y, by rw [List.getElem?_replicate, if_pos hi], h⟩
  · cases hz

theorem VR.agg_iff {c : Array Value} {v : Value} (h : VR ex μ (.agg c) v) : ∃ c', v = .agg c' ∧ VRs ex μ c.toList c'.toList := by
  cases h with
  | agg hc h =>
    rename_i c'
    refine ⟨c', rfl, by simpa using hc, fun i a hi => ?_⟩
    rw [Array.getElem?_toList] at hi
    obtain ⟨hlt, rfl⟩ := Array.getElem?_eq_some_iff.1 hi
    exact ⟨c'[i], by rw [Array.getElem?_toList]; simp [← hc, hlt], h i hlt⟩
theorem VR.tuple_iff {c : Array Value} {v : Value} (h : VR ex μ (.tuple c) v) : ∃ c', v = .tuple c' ∧ VRs ex μ c.toList c'.toList := by
  cases h with
  | tuple hc h =>
    rename_i c'
    refine ⟨c', rfl, by simpa using hc, fun i a hi => ?_⟩
    rw [Array.getElem?_toList] at hi
    obtain ⟨hlt, rfl⟩ := Array.getElem?_eq_some_iff.1 hi
    exact ⟨c'[i], by rw [Array.getElem?_toList]; simp [← hc, hlt], h i hlt⟩
theorem VRs.elems {c c' : Array Value} (h : VRs ex μ c.toList c'.toList) : ∃ hc : c.size = c'.size, ∀ (i : Nat) (h : i < c.size), VR ex μ c[i] (c'[i]'(hc ▸ h)) := by
  have hc : c.size = c'.size := by simpa using h.1
  refine ⟨hc, fun i hi => ?_⟩
  obtain ⟨y, hy, hv⟩ := h.2 i c[i] (by rw [Array.getElem?_toList]; simp [hi])
  rw [Array.getElem?_toList] at hy
  obtain ⟨_, rfl⟩ := Array.getElem?_eq_some_iff.1 hy
  exact hv
theorem VRs.toAgg {c c' : Array Value} (h : VRs ex μ c.toList c'.toList) : VR ex μ (.agg c) (.agg c') :=
  let ⟨hc, k⟩ := h.elems; .agg hc k
theorem VRs.toTuple {c c' : Array Value} (h : VRs ex μ c.toList c'.toList) : VR ex μ (.tuple c) (.tuple c') :=
  let ⟨hc, k⟩ := h.elems; .tuple hc k
theorem VRs.toAgg' {c c' : List Value} (h : VRs ex μ c c') : VR ex μ (.agg c.toArray) (.agg c'.toArray) := VRs.toAgg (by simpa using h)
theorem VRs.toTuple' {c c' : List Value} (h : VRs ex μ c c') : VR ex μ (.tuple c.toArray) (.tuple c'.toArray) := VRs.toTuple (by simpa using h)
theorem VR.func_iff {fn : Fn} {f c : Array Value} {v : Value} (h : VR ex μ (.func fn f c) v) :
    ∃ f' c', v = .func fn f' c' ∧ VRs ex μ f.toList f'.toList ∧ VRs ex μ c.toList c'.toList := by
  cases h with
  | func _ hf hc h1 h2 =>
    rename_i f' c'
    refine ⟨f', c', rfl, ⟨by simpa using hf, fun i a hi => ?_⟩, ⟨by simpa using hc, fun i a hi => ?_⟩⟩
    · rw [Array.getElem?_toList] at hi
      obtain ⟨hlt, rfl⟩ := Array.getElem?_eq_some_iff.1 hi
      exact ⟨f'[i], by rw [Array.getElem?_toList]; simp [← hf, hlt], h1 i hlt⟩
    · rw [Array.getElem?_toList] at hi
      obtain ⟨hlt, rfl⟩ := Array.getElem?_eq_some_iff.1 hi
      exact ⟨c'[i], by rw [Array.getElem?_toList]; simp [← hc, hlt], h2 i hlt⟩

theorem VR.undef : VR ex μ Go.undef Go.undef := .tuple rfl (fun i h => by simp at h)

def one : Value → Bool
  | .agg _ | .tuple _ => false
  | _ => true
theorem VR.one {a c : Value} (h : VR ex μ a c) : Lk.one c = Lk.one a := by cases h <;> rfl
theorem VR.cells {a c : Value} (h : VR ex μ a c) : VRs ex μ a.cells.toList c.cells.toList := by
  cases h with
  | agg hc h => exact (VR.agg_iff (.agg hc h)).elim fun c' ⟨e, k⟩ => by cases e; exact k
  | _ => exact .cons (by constructor <;> assumption) .nil

/-- May an object be written (so that nothing else may lie where it lies)? -/
def AObj.owned : AObj → Bool
  | .row _ rw _ => rw
  | .iter _ _ => true
  | .dead => false
def AObj.live : AObj → Bool
  | .dead => false
  | _ => true

/-- An abstract block and what lies there. -/
def ObjR (ex : Bool) (μ : List (Option Ent)) (B : Nat → Prop) (w : World) (e : Ent) : AObj → Prop
  | .dead => True
  | .iter s pos => e.base = 0 ∧ w.heap[e.cb]? = some (.stringIter s pos) ∧ ¬ B e.cb
  | .row vs rw opn => e.size = vs.length ∧ (match opn with | some z => e.esz = z | none => e.xtra = 0) ∧
      ∃ c elem lo hi, w.heap[e.cb]? = some (.cells c elem (lo, hi)) ∧ e.base + vs.length + e.xtra * e.esz ≤ c.size ∧
        VRs ex μ vs ((c.toList.drop e.base).take vs.length) ∧ (rw = true → ¬ B e.cb ∧ hi ≤ lo)

/-- On the blocks of B the world w' is as w was; the streams are as they were; no block has gone. -/
structure Blw (B : Nat → Prop) (w w' : World) : Prop where
  os : w'.os = w.os
  tape : w'.tape = w.tape
  output : w'.output = w.output
  size : w.heap.size ≤ w'.heap.size
  block : ∀ k, B k → w'.heap[k]? = w.heap[k]?
theorem Blw.refl (B : Nat → Prop) (w : World) : Blw B w w := ⟨rfl, rfl, rfl, Nat.le_refl _, fun _ _ => rfl⟩
theorem Blw.trans {B : Nat → Prop} {a b c : World} (h : Blw B a b) (k : Blw B b c) : Blw B a c :=
  ⟨k.os.trans h.os, k.tape.trans h.tape, k.output.trans h.output, Nat.le_trans h.size k.size, fun i hi => (k.block i hi).trans (h.block i hi)⟩
/-- The blocks that stand. -/
def old (w : World) : Nat → Prop := fun k => k < w.heap.size
theorem Blw.kit {w w' : World} (h : Blw (old w) w w') : Go.RowKit.Below w.heap.size w w' := ⟨h.os, h.tape, h.output, h.size, fun k hk => h.block k hk⟩

/-- THE HEAPS. -/
structure HR (ex : Bool) (B : Nat → Prop) (μ : List (Option Ent)) (σ : AHeap) (w : World) : Prop where
  len : μ.length = σ.length
  hB : ∀ k, B k → k < w.heap.size
  has : ∀ (b : Nat) (o : AObj), σ[b]? = some o → o.live = true → ∃ e, μ[b]? = some (some e)
  obj : ∀ (b : Nat) (o : AObj) (e : Ent), σ[b]? = some o → μ[b]? = some (some e) → ObjR ex μ B w e o
  inj : ∀ (b b' : Nat) (o o' : AObj) (e e' : Ent), σ[b]? = some o → σ[b']? = some o' → μ[b]? = some (some e) → μ[b']? = some (some e') →
    o.owned = true → o'.live = true → e.cb = e'.cb → b = b'

theorem HR.new {B : Nat → Prop} {σ : AHeap} {w : World} (h : HR ex B μ σ w) : ¬ B w.heap.size := fun k => Nat.lt_irrefl _ (h.hB _ k)
theorem HR.at {B : Nat → Prop} {σ : AHeap} {w : World} (h : HR ex B μ σ w) {b : Nat} {o : AObj} (hb : σ[b]? = some o) (hl : o.live = true) : ∃ e, μ[b]? = some (some e) ∧ ObjR ex μ B w e o :=
  let ⟨e, he⟩ := h.has b o hb hl; ⟨e, he, h.obj b o e hb he⟩

theorem ObjR.lt {B : Nat → Prop} {w : World} {e : Ent} {o : AObj} (h : ObjR ex μ B w e o) (hl : o.live = true) : e.cb < w.heap.size := by
  cases o with
  | dead => cases hl
  | iter s p => obtain ⟨_, h, _⟩ := h; exact (Array.getElem?_eq_some_iff.1 h).1
  | row vs rw opn => obtain ⟨_, _, c, el, lo, hi, h, _⟩ := h; exact (Array.getElem?_eq_some_iff.1 h).1

theorem ObjR.mono (hs : Sub μ μ') {B : Nat → Prop} {w w' : World} {e : Ent} {o : AObj} (h : ObjR ex μ B w e o)
    (hw : o.live = true → w'.heap[e.cb]? = w.heap[e.cb]?) : ObjR ex μ' B w' e o := by
  cases o with
  | dead => trivial
  | iter s p => obtain ⟨h1, h2, h3⟩ := h; exact ⟨h1, by rw [hw rfl]; exact h2, h3⟩
  | row vs rw opn =>
    obtain ⟨h0, h1, c, el, lo, hi, h2, h3, h4, h5⟩ := h
    exact ⟨h0, h1, c, el, lo, hi, by rw [hw rfl]; exact h2, h3, h4.mono hs, h5⟩

end Go.Lk
end

section
/- Loads, stores and new blocks: what the model's memory does, and the abstract heap with it. -/
namespace Go.Lk

theorem add_off (b o n : Nat) : Addr.add ⟨b, o, none⟩ n = ⟨b, o + n, none⟩ := by
  unfold Addr.add
  split
  · rename_i h; subst h; rfl
  · rfl

theorem drop_cons' {α : Type} {xs : List α} {i : Nat} {x : α} (h : xs[i]? = some x) : xs.drop i = x :: xs.drop (i + 1) := by
  obtain ⟨hi, rfl⟩ := List.getElem?_eq_some_iff.1 h
  exact List.drop_eq_getElem_cons hi

section
variable {P : Program}

theorem run_loadCellsFrom {w : World} {cb off : Nat} {c : Array Value} {elem : TypeId} {fz : Nat × Nat}
    (hb : w.heap[cb]? = some (.cells c elem fz)) : ∀ (n i : Nat) (acc : Array Value), off + i + n ≤ c.size →
    (loadCellsFrom ⟨cb, off, none⟩ i n acc).run P w = .ok (acc ++ ((c.toList.drop (off + i)).take n).toArray) w := by
  intro n
  induction n with
  | zero => intro i acc _; simp [loadCellsFrom, pure]
  | succ n ih =>
    intro i acc h
    have hlt : off + i < c.size := by omega
    have hc : w.cell? ⟨cb, off + i, none⟩ = some c[off + i] := by
      simp [World.cell?, hb, hlt]
    simp only [loadCellsFrom, add_off, Sem.run_bind]
    have hl : (load ⟨cb, off + i, none⟩).run P w = .ok c[off + i] w := by
      simp [load, Sem.run, hc]
    rw [hl]
    simp only [Result.andThen_ok]
    rw [ih (i + 1) _ (by omega)]
    have hd : c.toList.drop (off + i) = c[off + i] :: c.toList.drop (off + (i + 1)) :=
      drop_cons' (by rw [Array.getElem?_toList]; simp [hlt])
    rw [hd, List.take_succ_cons]
    congr 1
    simp

theorem run_loadCells {w : World} {cb off n : Nat} {c : Array Value} {elem : TypeId} {fz : Nat × Nat}
    (hb : w.heap[cb]? = some (.cells c elem fz)) (h : off + n ≤ c.size) :
    (loadCells ⟨cb, off, none⟩ n).run P w = .ok ((c.toList.drop off).take n).toArray w := by
  unfold loadCells
  rw [run_loadCellsFrom hb n 0 #[] (by omega)]
  simp

def splice (xs : List Value) (o : Nat) (cs : List Value) : List Value := xs.take o ++ cs ++ xs.drop (o + cs.length)

theorem splice_length {xs cs : List Value} {o : Nat} (h : o + cs.length ≤ xs.length) : (splice xs o cs).length = xs.length := by
  simp [splice]; omega

theorem splice_cons {xs cs : List Value} {o : Nat} {x : Value} (h : o + (x :: cs).length ≤ xs.length) :
    splice xs o (x :: cs) = splice (xs.set o x) (o + 1) cs := by
  have hl : o < xs.length := by simp at h; omega
  have h1 : (xs.set o x).take (o + 1) = xs.take o ++ [x] := by
    rw [List.take_succ_eq_append_getElem (by simpa using hl), List.take_set, List.set_eq_of_length_le (by simp; omega)]
    simp
  have h2 : (xs.set o x).drop (o + 1 + cs.length) = xs.drop (o + 1 + cs.length) := List.drop_set_of_lt (by omega)
  unfold splice
  rw [h1, h2]
  simp [Nat.add_comm, Nat.add_left_comm]

def setBlock (w : World) (cb : Nat) (o : Obj) : World := { w with heap := w.heap.setIfInBounds cb o }

theorem setBlock_heap (w : World) (cb : Nat) (o : Obj) (k : Nat) : (setBlock w cb o).heap[k]? = if k = cb ∧ cb < w.heap.size then some o else w.heap[k]? := by
  simp only [setBlock, Array.getElem?_setIfInBounds]
  by_cases h : cb = k
  · subst h
    by_cases h' : cb < w.heap.size <;> simp [h']
  · rw [if_neg h, if_neg (fun ⟨a, _⟩ => h a.symm)]

theorem run_storeCells {elem : TypeId} {lo hi cb off : Nat} (hf : hi ≤ lo) : ∀ (vs : List Value) (i : Nat) (w : World) (c : Array Value),
    w.heap[cb]? = some (.cells c elem (lo, hi)) → off + i + vs.length ≤ c.size → vs.all one = true →
    ∃ c' : Array Value, (storeCells ⟨cb, off, none⟩ vs i).run P w = .ok () (setBlock w cb (.cells c' elem (lo, hi))) ∧
      c'.toList = splice c.toList (off + i) vs := by
  intro vs
  induction vs with
  | nil =>
    intro i w c hb _ _
    refine ⟨c, ?_, by simp [splice]⟩
    simp only [storeCells, pure, Sem.run]
    congr 1
    unfold setBlock
    have : w.heap.setIfInBounds cb (Obj.cells c elem (lo, hi)) = w.heap := by
      obtain ⟨h1, h2⟩ := Array.getElem?_eq_some_iff.1 hb
      rw [← h2]; simp [Array.setIfInBounds, h1]
    rw [this]
  | cons v vs ih =>
    intro i w c hb h hone
    simp only [List.all_cons, Bool.and_eq_true] at hone
    have hlt : off + i < c.size := by simp at h; omega
    have hc : w.cell? ⟨cb, off + i, none⟩ = some c[off + i] := by simp [World.cell?, hb, hlt]
    have hfz : w.frozen? ⟨cb, off + i, none⟩ = false := by
      simp only [World.frozen?, hb]
      simp; omega
    have hset : w.setCell ⟨cb, off + i, none⟩ v = setBlock w cb (.cells (c.setIfInBounds (off + i) v) elem (lo, hi)) := by
      unfold World.setCell setBlock
      congr 1
      obtain ⟨h1, h2⟩ := Array.getElem?_eq_some_iff.1 hb
      apply Array.ext_getElem?
      intro k
      rw [Array.getElem?_modify, Array.getElem?_setIfInBounds]
      by_cases hk : cb = k
      · subst hk; simp [h1, h2]
      · simp [hk]
    have hst : (store ⟨cb, off + i, none⟩ v).run P w = .ok () (setBlock w cb (.cells (c.setIfInBounds (off + i) v) elem (lo, hi))) := by
      rw [← hset]
      cases v <;> first | (simp [one] at hone; done) | simp [store, Sem.run, hc, hfz]
    have hb' : (setBlock w cb (.cells (c.setIfInBounds (off + i) v) elem (lo, hi))).heap[cb]? = some (.cells (c.setIfInBounds (off + i) v) elem (lo, hi)) := by
      rw [setBlock_heap, if_pos ⟨rfl, (Array.getElem?_eq_some_iff.1 hb).1⟩]
    obtain ⟨c', hr, hc'⟩ := ih (i + 1) _ (c.setIfInBounds (off + i) v) hb' (by simp at h ⊢; omega) hone.2
    refine ⟨c', ?_, ?_⟩
    · simp only [storeCells, add_off, Sem.run_bind, hst, Result.andThen_ok, hr]
      simp [setBlock, Array.setIfInBounds_setIfInBounds]
    · rw [hc', splice_cons (by simpa using h)]
      simp [Nat.add_assoc]

theorem run_newObj (o : Obj) (w : World) : (newObj o).run P w = .ok w.heap.size { w with heap := w.heap.push o } := by
  simp [newObj, Sem.run]
end

variable {ex : Bool} {μ μ' : List (Option Ent)} {B : Nat → Prop} {σ : AHeap} {w w' : World}

theorem HR.of_heap (h : HR ex B μ σ w) (hw : w'.heap = w.heap) : HR ex B μ σ w' :=
  ⟨h.len, by rw [hw]; exact h.hB, h.has, fun b o e h1 h2 => (h.obj b o e h1 h2).mono (Sub.refl _) (fun _ => by rw [hw]), h.inj⟩

theorem lt_of_some {α : Type} {xs : List α} {i : Nat} {x : α} (h : xs[i]? = some x) : i < xs.length := (List.getElem?_eq_some_iff.1 h).1

/-- A new block. -/
theorem HR.push (h : HR ex B μ σ w) (ob : Obj) (o : AObj) (e : Ent) (he : e.cb = w.heap.size) (hw : w'.heap = w.heap.push ob)
    (ho : ObjR ex (μ ++ [some e]) B w' e o) : HR ex B (μ ++ [some e]) (σ ++ [o]) w' := by
  have hold : ∀ k, k < w.heap.size → w'.heap[k]? = w.heap[k]? := fun k hk => by rw [hw, Array.getElem?_push, if_neg (by omega)]
  refine ⟨by simp [h.len], by rw [hw]; intro k hk; have := h.hB k hk; simp; omega, ?_, ?_, ?_⟩
  · intro b o' h1 hl
    rcases Nat.lt_or_ge b σ.length with hb | hb
    · rw [List.getElem?_append_left hb] at h1
      obtain ⟨e', he'⟩ := h.has b o' h1 hl
      exact ⟨e', Sub.snoc _ _ _ _ he'⟩
    · have := lt_of_some h1
      have hb0 : b = μ.length := by rw [h.len]; simp at this; omega
      subst hb0
      exact ⟨e, by simp⟩
  · intro b o' e' h1 h2
    rcases Nat.lt_or_ge b σ.length with hb | hb
    · rw [List.getElem?_append_left hb] at h1
      rw [List.getElem?_append_left (by rw [h.len]; exact hb)] at h2
      have k := h.obj b o' e' h1 h2
      exact k.mono (Sub.snoc _ _) (fun hl => hold _ (k.lt hl))
    · rw [List.getElem?_append_right hb] at h1
      rw [List.getElem?_append_right (by rw [h.len]; exact hb), h.len] at h2
      have hb0 : b - σ.length = 0 := by have := lt_of_some h1; simp at this; omega
      rw [hb0] at h1 h2
      simp at h1 h2
      subst h1 h2
      exact ho
  · intro b b' o1 o2 e1 e2 h1 h2 h3 h4 hown hlive hcb
    have key : ∀ (b : Nat) (o1 : AObj) (e1 : Ent), (σ ++ [o])[b]? = some o1 → (μ ++ [some e])[b]? = some e1 →
        (b < σ.length ∧ σ[b]? = some o1 ∧ μ[b]? = some (some e1)) ∨ (b = σ.length ∧ o1 = o ∧ e1 = e) := fun b o1 e1 h1 h2 => by
      rcases Nat.lt_or_ge b σ.length with hb | hb
      · rw [List.getElem?_append_left hb] at h1
        rw [List.getElem?_append_left (by rw [h.len]; exact hb)] at h2
        exact .inl ⟨hb, h1, h2⟩
      · rw [List.getElem?_append_right hb] at h1
        rw [List.getElem?_append_right (by rw [h.len]; exact hb), h.len] at h2
        have hb0 : b - σ.length = 0 := by have := lt_of_some h1; simp at this; omega
        rw [hb0] at h1 h2
        simp at h1 h2
        exact .inr ⟨by omega, h1.symm, h2.symm⟩
    rcases key b o1 e1 h1 h3 with ⟨k1, k2, k3⟩ | ⟨k1, k2, k3⟩
    · rcases key b' o2 e2 h2 h4 with ⟨l1, l2, l3⟩ | ⟨l1, l2, l3⟩
      · exact h.inj b b' o1 o2 e1 e2 k2 l2 k3 l3 hown hlive hcb
      · subst l3
        have hl : o1.live = true := by cases o1 <;> first | rfl | cases hown
        have := (h.obj b o1 e1 k2 k3).lt hl
        omega
    · rcases key b' o2 e2 h2 h4 with ⟨l1, l2, l3⟩ | ⟨l1, l2, l3⟩
      · subst k3
        have := (h.obj b' o2 e2 l2 l3).lt hlive
        omega
      · omega

/-- One block changes, here and there. -/
theorem HR.setAt (h : HR ex B μ σ w) {b : Nat} {o : AObj} {e : Ent} (hb : σ[b]? = some o) (he : μ[b]? = some (some e)) (hown : o.owned = true)
    {ob : Obj} {o' : AObj} (hlo : o'.owned = true → o.owned = true) (ho : ObjR ex μ B (setBlock w e.cb ob) e o') : HR ex B μ (σ.set b o') (setBlock w e.cb ob) := by
  have hbl := lt_of_some hb
  have hlive : o.live = true := by cases o <;> first | rfl | cases hown
  refine ⟨by simp [h.len], by simpa [setBlock] using h.hB, ?_, ?_, ?_⟩
  · intro k o1 h1 hl
    rw [List.getElem?_set] at h1
    by_cases hk : b = k
    · subst hk; exact ⟨e, he⟩
    · rw [if_neg hk] at h1; exact h.has k o1 h1 hl
  · intro k o1 e1 h1 h2
    rw [List.getElem?_set] at h1
    by_cases hk : b = k
    · subst hk
      rw [if_pos rfl, if_pos hbl] at h1
      cases h1
      rw [he] at h2; cases h2
      exact ho
    · rw [if_neg hk] at h1
      refine (h.obj k o1 e1 h1 h2).mono (Sub.refl _) (fun hl => ?_)
      rw [setBlock_heap, if_neg]
      rintro ⟨hcb, _⟩
      exact hk (h.inj b k o o1 e e1 hb h1 he h2 hown hl hcb.symm)
  · intro k k' o1 o2 e1 e2 h1 h2 h3 h4 ho1 ho2 hcb
    have key : ∀ (k : Nat) (o1 : AObj), (σ.set b o')[k]? = some o1 → (k = b ∧ o1 = o') ∨ (k ≠ b ∧ σ[k]? = some o1) := fun k o1 h1 => by
      rw [List.getElem?_set] at h1
      by_cases hk : b = k
      · subst hk; rw [if_pos rfl, if_pos hbl] at h1; cases h1; exact .inl ⟨rfl, rfl⟩
      · rw [if_neg hk] at h1; exact .inr ⟨fun e => hk e.symm, h1⟩
    rcases key k o1 h1 with ⟨rfl, rfl⟩ | ⟨l1, l2⟩
    · rcases key k' o2 h2 with ⟨rfl, rfl⟩ | ⟨m1, m2⟩
      · rfl
      · exact h.inj k k' o o2 e1 e2 hb m2 h3 h4 hown ho2 hcb
    · rcases key k' o2 h2 with ⟨rfl, rfl⟩ | ⟨m1, m2⟩
      · exact h.inj k k' o1 o e1 e2 l2 hb h3 h4 ho1 hlive hcb
      · exact h.inj k k' o1 o2 e1 e2 l2 m2 h3 h4 ho1 ho2 hcb

/-- A block is given up. -/
theorem HR.kill (h : HR ex B μ σ w) (b : Nat) : HR ex B μ (σ.set b .dead) w := by
  have key : ∀ (k : Nat) (o1 : AObj), (σ.set b .dead)[k]? = some o1 → (o1 = .dead) ∨ (σ[k]? = some o1) := fun k o1 h1 => by
    rw [List.getElem?_set] at h1
    by_cases hk : b = k
    · subst hk
      rw [if_pos rfl] at h1
      split at h1
      · cases h1; exact .inl rfl
      · cases h1
    · rw [if_neg hk] at h1; exact .inr h1
  refine ⟨by simp [h.len], h.hB, ?_, ?_, ?_⟩
  · intro k o h1 hl
    rcases key k o h1 with rfl | h1
    · cases hl
    · exact h.has k o h1 hl
  · intro k o e h1 h2
    rcases key k o h1 with rfl | h1
    · trivial
    · exact h.obj k o e h1 h2
  · intro k k' o1 o2 e1 e2 h1 h2 h3 h4 ho1 ho2 hcb
    rcases key k o1 h1 with rfl | h1
    · cases ho1
    · rcases key k' o2 h2 with rfl | h2
      · cases ho2
      · exact h.inj k k' o1 o2 e1 e2 h1 h2 h3 h4 ho1 ho2 hcb

theorem Blw.setBlock' {B : Nat → Prop} {cb : Nat} (w : World) (ob : Obj) (h : ¬ B cb) : Blw B w (setBlock w cb ob) := by
  refine ⟨rfl, rfl, rfl, by simp [setBlock], fun k hk => ?_⟩
  rw [setBlock_heap, if_neg (by rintro ⟨e, _⟩; subst e; exact h hk)]
theorem Blw.push' {B : Nat → Prop} {w w' : World} {ob : Obj} (hw : w' = { w with heap := w.heap.push ob }) (h : ∀ k, B k → k < w.heap.size) : Blw B w w' := by
  subst hw
  refine ⟨rfl, rfl, rfl, by simp, fun k hk => ?_⟩
  rw [Array.getElem?_push, if_neg (by have := h k hk; omega)]

end Go.Lk
end

section
/- The operations that yield a value of their operands alone. -/
namespace Go.Lk

def ok1 : Value → Bool
  | .bool _ | .int .. | .string _ | .pointer none | .slice none _ _ | .nilFunc | .nilIface | .map none => true
  | .float _ x => !isNaN x
  | .complex _ x y => !isNaN x && !isNaN y
  | _ => false
def cOk : Value → Bool
  | .agg cs => cs.toList.all ok1
  | v => ok1 v

section
variable {ex : Bool} {μ : List (Option Ent)}

theorem cn_num {x : Nat} (h : isNaN x = false) : cn ex x = x := by cases ex <;> simp [cn, can_of_num h]
theorem VR.ok1 : ∀ {v : Value}, Lk.ok1 v = true → VR ex μ v v
  | .bool _, _ => .bool _
  | .int .., _ => .int ..
  | .string _, _ => .string _
  | .pointer none, _ => .pnil
  | .slice none _ _, _ => .snil ..
  | .nilFunc, _ => .nilFunc
  | .nilIface, _ => .nilIface
  | .map none, _ => .mapNil
  | .float k x, h => by
    have := VR.float (ex := ex) (μ := μ) k x
    rwa [cn_num (by simpa [Lk.ok1] using h)] at this
  | .complex k x y, h => by
    have h' : isNaN x = false ∧ isNaN y = false := by simpa [Lk.ok1] using h
    have := VR.complex (ex := ex) (μ := μ) k x y
    rwa [cn_num h'.1, cn_num h'.2] at this
theorem VRs.ok : ∀ {vs : List Value}, vs.all Lk.ok1 = true → VRs ex μ vs vs
  | [], _ => .nil
  | v :: vs, h => by
    simp only [List.all_cons, Bool.and_eq_true] at h
    exact .cons (VR.ok1 h.1) (VRs.ok h.2)
theorem VR.cOk {v : Value} (h : Lk.cOk v = true) : VR ex μ v v := by
  cases v <;> first | exact VR.ok1 h | exact VRs.toAgg (VRs.ok h)

/-- A slot of which nothing is known. -/
def isU : Value → Bool
  | .tuple cs => cs.size == 0
  | _ => false

/-- Frames. -/
def FrR (ex : Bool) (μ : List (Option Ent)) (fr : List Value) (tmps : Array Value) : Prop :=
  fr.length = tmps.size ∧ ∀ (i : Nat) (a : Value), fr[i]? = some a → ∃ c, tmps[i]? = some c ∧ (isU a = true ∨ VR ex μ a c)

def aev (fr : List Value) : Operand → Option Value
  | .tmp t => bif isU (fr.getD t undef) then none else some (fr.getD t undef)
  | .const v => bif cOk v then some v else none
  | .func f => some (.func (.func f) #[] #[])
  | .global _ => none

theorem FrR.getD {fr : List Value} {tmps : Array Value} (h : FrR ex μ fr tmps) (t : Nat) : isU (fr.getD t undef) = true ∨ VR ex μ (fr.getD t undef) (tmps.getD t undef) := by
  rw [List.getD_eq_getElem?_getD]
  cases hf : fr[t]? with
  | none => exact .inl rfl
  | some v =>
    obtain ⟨y, hy, hv⟩ := h.2 t v hf
    rw [Array.getD_eq_getD_getElem?, hy]
    exact hv

theorem aev_sound {fr : List Value} {a : Act} (h : FrR ex μ fr a.tmps) {x : Operand} {v : Value} (hx : aev fr x = some v) : VR ex μ v (a.eval x) := by
  cases x with
  | tmp t =>
    simp only [aev] at hx
    cases hu : isU (fr.getD t undef) <;> rw [hu] at hx <;> cases hx
    rcases h.getD t with h' | h'
    · rw [hu] at h'; cases h'
    · exact h'
  | const c =>
    simp only [aev] at hx
    cases hc : cOk c <;> rw [hc] at hx <;> cases hx
    exact VR.cOk hc
  | func f => cases hx; exact .func _ rfl rfl (fun i h => by simp at h) (fun i h => by simp at h)
  | global g => cases hx

/-- Only draws are made, and a value comes that is as the abstract one says. -/
def okv (P : Program) (ex : Bool) (μ : List (Option Ent)) (s : Sem Value) (v : Value) : Prop :=
  ∀ w : World, ∃ (n : Nat) (v' : Value), s.run P w = .ok v' { w with drawn := w.drawn + n } ∧ VR ex μ v v'

variable {P : Program}
theorem okv.of {s : Sem Value} {v v' : Value} (h : ∀ w, s.run P w = .ok v' w) (hv : VR ex μ v v') : okv P ex μ s v :=
  fun w => ⟨0, v', h w, hv⟩
theorem okv.pure {v v' : Value} (hv : VR ex μ v v') : okv P ex μ (pure v') v := .of (fun _ => rfl) hv

/-! ### Floats -/
def fgt (x y : Nat) : Bool := dbl.order x y == some .gt
def fge (x y : Nat) : Bool := dbl.order x y == some .gt || dbl.order x y == some .eq

def fbin (ex : Bool) (op : BinOp) (x y : Nat) : Option Value :=
  match op with
  | .add => bif ex then none else some (.float .f64 (fadd x y))
  | .sub => bif ex then none else some (.float .f64 (fsub x y))
  | .mul => bif ex then none else some (.float .f64 (fmul x y))
  | .quo => bif ex then none else some (.float .f64 (fdiv x y))
  | .eql => some (.bool (feq x y))
  | .neq => some (.bool (!feq x y))
  | .lss => some (.bool (flt x y))
  | .leq => some (.bool (fle x y))
  | .gtr => some (.bool (fgt x y))
  | .geq => some (.bool (fge x y))
  | _ => none

theorem order_cn (x y : Nat) : dbl.order (cn ex x) (cn ex y) = dbl.order x y := by
  cases ex
  · exact order_can x y
  · rfl

def fin (x y : Nat) : Option Nat → Sem Value
  | some r => pure (Value.float .f64 r)
  | none => do pure (Value.float .f64 (← choose (.nanBits .f64 x y)))

/-- Where the bits are drawn it is a NaN; else it is what the format says. -/
theorem run_fin {x y : Nat} {o : Option Nat} (hn : ∀ r, o = some r → isNaN r = false) (w : World) :
    ∃ (n r : Nat), (fin x y o).run P w = .ok (.float .f64 r) { w with drawn := w.drawn + n } ∧ can r = orN o := by
  cases o with
  | some r => exact ⟨0, r, by simp [fin], by rw [can_of_num (hn r rfl)]; rfl⟩
  | none =>
    refine ⟨1, Question.cut (.nanBits .f64 x y) (w.tape w.drawn (.nanBits .f64 x y)), by simp [fin, Question.forced], ?_⟩
    exact can_of_nan (isNaN_drawn _)

theorem VR.float_of {k : FloatKind} {x : Nat} {v : Value} (h : VR ex μ (.float k x) v) : ∃ x', v = .float k x' ∧ x = cn ex x' := by
  cases h; exact ⟨_, rfl, rfl⟩
theorem VR.complex_of {k : FloatKind} {x y : Nat} {v : Value} (h : VR ex μ (.complex k x y) v) : ∃ x' y', v = .complex k x' y' ∧ x = cn ex x' ∧ y = cn ex y' := by
  cases h; exact ⟨_, _, rfl, rfl, rfl⟩
theorem VR.int_of {k : IntKind} {n : Int} {v : Value} (h : VR ex μ (.int k n) v) : v = .int k n := by cases h; rfl
theorem VR.bool_of {b : Bool} {v : Value} (h : VR ex μ (.bool b) v) : v = .bool b := by cases h; rfl
theorem VR.string_of {s : ByteArray} {v : Value} (h : VR ex μ (.string s) v) : v = .string s := by cases h; rfl

theorem farith_sound {op : BinOp} {x y : Nat} {f : Nat → Nat → Option Nat} (hop : Op.floatArith op .f64 x y = fin x y (f x y))
    (hf : ∀ x y, f (can x) (can y) = f x y) (hn : ∀ x y r, f x y = some r → isNaN r = false) :
    okv P false μ (Op.floatArith op .f64 x y) (.float .f64 (orN (f (cn false x) (cn false y)))) := by
  intro w
  rw [hop]
  obtain ⟨n, r, h1, h2⟩ := run_fin (P := P) (x := x) (y := y) (hn x y) w
  refine ⟨n, _, h1, ?_⟩
  have : orN (f (cn false x) (cn false y)) = cn false r := by
    show orN (f (can x) (can y)) = can r
    rw [hf, h2]
  rw [this]
  exact .float _ _

theorem fbin_sound {op : BinOp} {x y : Nat} {v : Value} (h : fbin ex op (cn ex x) (cn ex y) = some v) (t : TypeId) :
    okv P ex μ (binOp op t (.float .f64 x) (.float .f64 y)) v := by
  cases op <;> simp only [fbin] at h <;> (try (cases h; done))
  case add => cases ex <;> cases h; exact farith_sound (op := .add) (f := dbl.add) rfl add_can (fun _ _ _ => add_num)
  case sub => cases ex <;> cases h; exact farith_sound (op := .sub) (f := dbl.sub) rfl sub_can (fun _ _ _ => sub_num)
  case mul => cases ex <;> cases h; exact farith_sound (op := .mul) (f := dbl.mul) rfl mul_can (fun _ _ _ => mul_num)
  case quo => cases ex <;> cases h; exact farith_sound (op := .quo) (f := dbl.div) rfl div_can (fun _ _ _ => div_num)
  all_goals
    cases h
    simp only [feq, flt, fle, fgt, fge, order_cn]
    exact .of (fun _ => rfl) (.bool _)

/-! ### Unary -/
theorem isNaN_xor (x : Nat) : isNaN (x ^^^ 2 ^ 63) = isNaN x := by
  have h : (x ^^^ 2 ^ 63) % dbl.signWeight = x % dbl.signWeight := by
    have hw : dbl.signWeight = 2 ^ 63 := by decide +kernel
    rw [hw, Nat.xor_mod_two_pow]
    simp
  unfold isNaN Ieee.Format.read
  simp only [h]
  split
  · rfl
  · split
    · rfl
    · split <;> rfl

def aneg (ex : Bool) (x : Nat) : Nat := bif ex then x ^^^ 2 ^ 63 else fneg x

theorem negFloat_cn (x : Nat) : aneg ex (cn ex x) = cn ex (Op.negFloat .f64 x) := by
  have e : Op.negFloat .f64 x = x ^^^ 2 ^ 63 := rfl
  rw [e]
  cases ex
  · show fneg (can x) = can (x ^^^ 2 ^ 63)
    unfold fneg
    rw [isNaN_can]
    cases h : isNaN x
    · rw [can_of_num h, can_of_num (by rw [isNaN_xor]; exact h)]; rfl
    · rw [can_of_nan (x := x ^^^ 2 ^ 63) (by rw [isNaN_xor]; exact h)]; rfl
  · rfl

def aUn (ex : Bool) (op : UnOp) (x : Value) : Option Value :=
  match op, x with
  | .neg, .int k n => some (.int k (k.wrap (0 - n)))
  | .neg, .float .f64 b => some (.float .f64 (aneg ex b))
  | .neg, .complex .f64 re im => some (.complex .f64 (aneg ex re) (aneg ex im))
  | .not, .bool b => some (.bool !b)
  | _, _ => none

theorem aUn_sound {op : UnOp} {x y v : Value} (h : aUn ex op x = some v) (hx : VR ex μ x y) : okv P ex μ (Op.unary op y) v := by
  unfold aUn at h
  split at h <;> cases h
  · rw [hx.int_of]; exact .of (fun _ => rfl) (.int _ _)
  · obtain ⟨x', rfl, rfl⟩ := hx.float_of
    rw [negFloat_cn]; exact .of (fun _ => rfl) (.float _ _)
  · obtain ⟨x', y', rfl, rfl, rfl⟩ := hx.complex_of
    rw [negFloat_cn, negFloat_cn]; exact .of (fun _ => rfl) (.complex _ _ _)
  · rw [hx.bool_of]; exact .of (fun _ => rfl) (.bool _)

end
end Go.Lk
end
