/- The relation between the abstract heap and the model's world. -/
import Derived.Test.YtmomainjlncogaaLkF
import Derived.Below
import Derived.Orders
namespace Go.Lk
open Go.RowKit (Below)

/-- What an abstract block is: a row of cells (may it be written? has it spare room of unknown size, its elements so many cells each?), a row that is given up, a string's iterator. -/
inductive AObj where
  | row (vs : List Value) (rw : Bool) (opn : Option Nat)
  | dead
  | iter (s : ByteArray) (pos : Nat)

abbrev AHeap := List AObj

/-- Where an abstract block lies. -/
structure Ent where
  cb : Nat
  base : Nat
  size : Nat
  xtra : Nat
  esz : Nat

def cn (ex : Bool) (x : Nat) : Nat := bif ex then x else can x

inductive VR (ex : Bool) (μ : List (Option Ent)) : Value → Value → Prop
  | bool (b : Bool) : VR ex μ (.bool b) (.bool b)
  | int (k : IntKind) (n : Int) : VR ex μ (.int k n) (.int k n)
  | float (k : FloatKind) (x : Nat) : VR ex μ (.float k (cn ex x)) (.float k x)
  | complex (k : FloatKind) (x y : Nat) : VR ex μ (.complex k (cn ex x) (cn ex y)) (.complex k x y)
  | string (s : ByteArray) : VR ex μ (.string s) (.string s)
  | pnil : VR ex μ (.pointer none) (.pointer none)
  | ptr {b o : Nat} {e : Ent} (h : μ[b]? = some (some e)) : VR ex μ (.pointer (some ⟨b, o, none⟩)) (.pointer (some ⟨e.cb, e.base + o, none⟩))
  | snil (l c : Nat) : VR ex μ (.slice none l c) (.slice none l c)
  | slice {b o sz len cap cap' : Nat} {e : Ent} (h : μ[b]? = some (some e)) (hc : cap' = cap ∨ (sz = e.esz ∧ o + cap * sz = e.size ∧ cap' = cap + e.xtra)) :
      VR ex μ (.slice (some ⟨b, o, some sz⟩) len cap) (.slice (some ⟨e.cb, e.base + o, none⟩) len cap')
  | sempty {b o sz : Nat} {e : Ent} (h : μ[b]? = some (some e)) (a : Addr) : VR ex μ (.slice (some ⟨b, o, some sz⟩) 0 0) (.slice (some a) 0 0)
  | func (fn : Fn) {f c f' c' : Array Value} (hf : f.size = f'.size) (hc : c.size = c'.size)
      (h1 : ∀ (i : Nat) (h : i < f.size), VR ex μ f[i] (f'[i]'(hf ▸ h))) (h2 : ∀ (i : Nat) (h : i < c.size), VR ex μ c[i] (c'[i]'(hc ▸ h))) :
      VR ex μ (.func fn f c) (.func fn f' c')
  | nilFunc : VR ex μ .nilFunc .nilFunc
  | iface (t : TypeId) {v v' : Value} (h : VR ex μ v v') : VR ex μ (.iface t v) (.iface t v')
  | nilIface : VR ex μ .nilIface .nilIface
  | agg {c c' : Array Value} (hc : c.size = c'.size) (h : ∀ (i : Nat) (h : i < c.size), VR ex μ c[i] (c'[i]'(hc ▸ h))) : VR ex μ (.agg c) (.agg c')
  | tuple {c c' : Array Value} (hc : c.size = c'.size) (h : ∀ (i : Nat) (h : i < c.size), VR ex μ c[i] (c'[i]'(hc ▸ h))) : VR ex μ (.tuple c) (.tuple c')
  | mapNil : VR ex μ (.map none) (.map none)

/-- Lists, one by one. -/
def VRs (ex : Bool) (μ : List (Option Ent)) (xs ys : List Value) : Prop :=
  xs.length = ys.length ∧ ∀ (i : Nat) (a : Value), xs[i]? = some a → ∃ c, ys[i]? = some c ∧ VR ex μ a c

/-- One renaming goes on from another. -/
def Sub (μ μ' : List (Option Ent)) : Prop := ∀ (b : Nat) (e : Ent), μ[b]? = some (some e) → μ'[b]? = some (some e)

theorem Sub.refl (μ : List (Option Ent)) : Sub μ μ := fun _ _ h => h
theorem Sub.trans {μ μ' μ'' : List (Option Ent)} (h : Sub μ μ') (h' : Sub μ' μ'') : Sub μ μ'' := fun b e k => h' b e (h b e k)
theorem Sub.snoc (μ : List (Option Ent)) (e : Ent) : Sub μ (μ ++ [some e]) := fun b e' h => by
  have hb : b < μ.length := by
    rcases Nat.lt_or_ge b μ.length with h' | h'
    · exact h'
    · rw [List.getElem?_eq_none h'] at h; cases h
  rw [List.getElem?_append_left hb]; exact h

/-- One renaming goes on from another, and leaves it as it is. -/
def Ext (μ μ' : List (Option Ent)) : Prop := ∀ b, b < μ.length → μ'[b]? = μ[b]?
theorem Ext.refl (μ : List (Option Ent)) : Ext μ μ := fun _ _ => rfl
theorem Ext.len {μ μ' : List (Option Ent)} (h : Ext μ μ') : μ.length ≤ μ'.length := by
  rcases Nat.lt_or_ge μ'.length μ.length with hlt | hge
  · have := h μ'.length hlt
    rw [List.getElem?_eq_none (Nat.le_refl _), List.getElem?_eq_getElem hlt] at this
    cases this
  · exact hge
theorem Ext.trans {μ μ' μ'' : List (Option Ent)} (h : Ext μ μ') (h' : Ext μ' μ'') : Ext μ μ'' := fun b hb => by
  have := h.len
  rw [h' b (by omega), h b hb]
theorem Ext.sub {μ μ' : List (Option Ent)} (h : Ext μ μ') : Sub μ μ' := fun b e he => by
  rw [h b (List.getElem?_eq_some_iff.1 he).1]; exact he
theorem Ext.snoc (μ : List (Option Ent)) (e : Option Ent) : Ext μ (μ ++ [e]) := fun b hb => List.getElem?_append_left hb

variable {ex : Bool} {μ μ' : List (Option Ent)}

theorem VR.mono (hs : Sub μ μ') {a c : Value} (h : VR ex μ a c) : VR ex μ' a c := by
  induction h with
  | bool b => exact .bool b
  | int k n => exact .int k n
  | float k x => exact .float k x
  | complex k x y => exact .complex k x y
  | string s => exact .string s
  | pnil => exact .pnil
  | ptr h => exact .ptr (hs _ _ h)
  | snil l c => exact .snil l c
  | slice h hc => exact .slice (hs _ _ h) hc
  | sempty h a => exact .sempty (hs _ _ h) a
  | func fn hf hc _ _ ih1 ih2 => exact .func fn hf hc ih1 ih2
  | nilFunc => exact .nilFunc
  | iface t _ ih => exact .iface t ih
  | nilIface => exact .nilIface
  | agg hc _ ih => exact .agg hc ih
  | tuple hc _ ih => exact .tuple hc ih
  | mapNil => exact .mapNil

theorem VRs.mono (hs : Sub μ μ') {a c : List Value} (h : VRs ex μ a c) : VRs ex μ' a c :=
  ⟨h.1, fun i x hx => let ⟨y, hy, hv⟩ := h.2 i x hx; ⟨y, hy, hv.mono hs⟩⟩

theorem VRs.nil : VRs ex μ [] [] := ⟨rfl, fun i a h => by simp at h⟩
theorem VRs.cons {a c : Value} {as cs : List Value} (h : VR ex μ a c) (hs : VRs ex μ as cs) : VRs ex μ (a :: as) (c :: cs) := by
  refine ⟨by simp [hs.1], fun i x hx => ?_⟩
  cases i with
  | zero => simp at hx; subst hx; exact ⟨c, by simp, h⟩
  | succ i => simp at hx; obtain ⟨y, hy, hv⟩ := hs.2 i x hx; exact ⟨y, by simpa using hy, hv⟩
theorem VRs.append {a c a' c' : List Value} (h : VRs ex μ a c) (h' : VRs ex μ a' c') : VRs ex μ (a ++ a') (c ++ c') := by
  refine ⟨by simp [h.1, h'.1], fun i x hx => ?_⟩
  rcases Nat.lt_or_ge i a.length with hi | hi
  · rw [List.getElem?_append_left hi] at hx
    obtain ⟨y, hy, hv⟩ := h.2 i x hx
    exact ⟨y, by rw [List.getElem?_append_left (by rw [← h.1]; exact hi)]; exact hy, hv⟩
  · rw [List.getElem?_append_right hi] at hx
    obtain ⟨y, hy, hv⟩ := h'.2 _ x hx
    exact ⟨y, by rw [List.getElem?_append_right (by rw [← h.1]; exact hi), ← h.1]; exact hy, hv⟩
theorem VRs.take {a c : List Value} (n : Nat) (h : VRs ex μ a c) : VRs ex μ (a.take n) (c.take n) := by
  refine ⟨by simp [h.1], fun i x hx => ?_⟩
  rw [List.getElem?_take] at hx
  split at hx
  · rename_i hi
    obtain ⟨y, hy, hv⟩ := h.2 i x hx
    exact ⟨y, by rw [List.getElem?_take, if_pos hi]; exact hy, hv⟩
  · cases hx
theorem VRs.drop {a c : List Value} (n : Nat) (h : VRs ex μ a c) : VRs ex μ (a.drop n) (c.drop n) := by
  refine ⟨by simp [h.1], fun i x hx => ?_⟩
  rw [List.getElem?_drop] at hx
  obtain ⟨y, hy, hv⟩ := h.2 _ x hx
  exact ⟨y, by rw [List.getElem?_drop]; exact hy, hv⟩
theorem VRs.set {a c : List Value} {x y : Value} (n : Nat) (h : VRs ex μ a c) (hx : VR ex μ x y) : VRs ex μ (a.set n x) (c.set n y) := by
  refine ⟨by simp [h.1], fun i z hz => ?_⟩
  rw [List.getElem?_set] at hz
  rw [List.getElem?_set]
  split at hz
  · rename_i e
    rw [if_pos e]
    split at hz
    · rename_i hn; cases hz; exact ⟨y, by rw [if_pos (by rw [← h.1]; exact hn)], hx⟩
    · cases hz
  · rename_i e
    rw [if_neg e]
    exact h.2 i z hz
theorem VRs.get {a c : List Value} (h : VRs ex μ a c) {i : Nat} {x : Value} (hx : a[i]? = some x) : ∃ y, c[i]? = some y ∧ VR ex μ x y := h.2 i x hx
theorem VRs.replicate {x y : Value} (n : Nat) (h : VR ex μ x y) : VRs ex μ (List.replicate n x) (List.replicate n y) := by
  refine ⟨by simp, fun i z hz => ?_⟩
  rw [List.getElem?_replicate] at hz
  split at hz
  · rename_i hi; cases hz; exact ⟨y, by rw [List.getElem?_replicate, if_pos hi], h⟩
  · cases hz

theorem VR.agg_iff {c : Array Value} {v : Value} (h : VR ex μ (.agg c) v) : ∃ c', v = .agg c' ∧ VRs ex μ c.toList c'.toList := by
  cases h with
  | agg hc h =>
    rename_i c'
    refine ⟨c', rfl, by simpa using hc, fun i a hi => ?_⟩
    rw [Array.getElem?_toList] at hi
    obtain ⟨hlt, rfl⟩ := Array.getElem?_eq_some_iff.1 hi
    exact ⟨c'[i], by rw [Array.getElem?_toList]; simp [← hc, hlt], h i hlt⟩
theorem VR.tuple_iff {c : Array Value} {v : Value} (h : VR ex μ (.tuple c) v) : ∃ c', v = .tuple c' ∧ VRs ex μ c.toList c'.toList := by
  cases h with
  | tuple hc h =>
    rename_i c'
    refine ⟨c', rfl, by simpa using hc, fun i a hi => ?_⟩
    rw [Array.getElem?_toList] at hi
    obtain ⟨hlt, rfl⟩ := Array.getElem?_eq_some_iff.1 hi
    exact ⟨c'[i], by rw [Array.getElem?_toList]; simp [← hc, hlt], h i hlt⟩
theorem VRs.elems {c c' : Array Value} (h : VRs ex μ c.toList c'.toList) : ∃ hc : c.size = c'.size, ∀ (i : Nat) (h : i < c.size), VR ex μ c[i] (c'[i]'(hc ▸ h)) := by
  have hc : c.size = c'.size := by simpa using h.1
  refine ⟨hc, fun i hi => ?_⟩
  obtain ⟨y, hy, hv⟩ := h.2 i c[i] (by rw [Array.getElem?_toList]; simp [hi])
  rw [Array.getElem?_toList] at hy
  obtain ⟨_, rfl⟩ := Array.getElem?_eq_some_iff.1 hy
  exact hv
theorem VRs.toAgg {c c' : Array Value} (h : VRs ex μ c.toList c'.toList) : VR ex μ (.agg c) (.agg c') :=
  let ⟨hc, k⟩ := h.elems; .agg hc k
theorem VRs.toTuple {c c' : Array Value} (h : VRs ex μ c.toList c'.toList) : VR ex μ (.tuple c) (.tuple c') :=
  let ⟨hc, k⟩ := h.elems; .tuple hc k
theorem VRs.toAgg' {c c' : List Value} (h : VRs ex μ c c') : VR ex μ (.agg c.toArray) (.agg c'.toArray) := VRs.toAgg (by simpa using h)
theorem VRs.toTuple' {c c' : List Value} (h : VRs ex μ c c') : VR ex μ (.tuple c.toArray) (.tuple c'.toArray) := VRs.toTuple (by simpa using h)
theorem VR.func_iff {fn : Fn} {f c : Array Value} {v : Value} (h : VR ex μ (.func fn f c) v) :
    ∃ f' c', v = .func fn f' c' ∧ VRs ex μ f.toList f'.toList ∧ VRs ex μ c.toList c'.toList := by
  cases h with
  | func _ hf hc h1 h2 =>
    rename_i f' c'
    refine ⟨f', c', rfl, ⟨by simpa using hf, fun i a hi => ?_⟩, ⟨by simpa using hc, fun i a hi => ?_⟩⟩
    · rw [Array.getElem?_toList] at hi
      obtain ⟨hlt, rfl⟩ := Array.getElem?_eq_some_iff.1 hi
      exact ⟨f'[i], by rw [Array.getElem?_toList]; simp [← hf, hlt], h1 i hlt⟩
    · rw [Array.getElem?_toList] at hi
      obtain ⟨hlt, rfl⟩ := Array.getElem?_eq_some_iff.1 hi
      exact ⟨c'[i], by rw [Array.getElem?_toList]; simp [← hc, hlt], h2 i hlt⟩

theorem VR.undef : VR ex μ Go.undef Go.undef := .tuple rfl (fun i h => by simp at h)

def one : Value → Bool
  | .agg _ | .tuple _ => false
  | _ => true
theorem VR.one {a c : Value} (h : VR ex μ a c) : Lk.one c = Lk.one a := by cases h <;> rfl
theorem VR.cells {a c : Value} (h : VR ex μ a c) : VRs ex μ a.cells.toList c.cells.toList := by
  cases h with
  | agg hc h => exact (VR.agg_iff (.agg hc h)).elim fun c' ⟨e, k⟩ => by cases e; exact k
  | _ => exact .cons (by constructor <;> assumption) .nil

/-- May an object be written (so that nothing else may lie where it lies)? -/
def AObj.owned : AObj → Bool
  | .row _ rw _ => rw
  | .iter _ _ => true
  | .dead => false
def AObj.live : AObj → Bool
  | .dead => false
  | _ => true

/-- An abstract block and what lies there. -/
def ObjR (ex : Bool) (μ : List (Option Ent)) (B : Nat) (w : World) (e : Ent) : AObj → Prop
  | .dead => True
  | .iter s pos => e.base = 0 ∧ w.heap[e.cb]? = some (.stringIter s pos) ∧ B ≤ e.cb
  | .row vs rw opn => e.size = vs.length ∧ (match opn with | some z => e.esz = z | none => e.xtra = 0) ∧
      ∃ c elem lo hi, w.heap[e.cb]? = some (.cells c elem (lo, hi)) ∧ e.base + vs.length + e.xtra * e.esz ≤ c.size ∧
        VRs ex μ vs ((c.toList.drop e.base).take vs.length) ∧ (rw = true → B ≤ e.cb ∧ hi ≤ lo)

/-- THE HEAPS. -/
structure HR (ex : Bool) (B : Nat) (μ : List (Option Ent)) (σ : AHeap) (w : World) : Prop where
  len : μ.length = σ.length
  hB : B ≤ w.heap.size
  has : ∀ (b : Nat) (o : AObj), σ[b]? = some o → o.live = true → ∃ e, μ[b]? = some (some e)
  obj : ∀ (b : Nat) (o : AObj) (e : Ent), σ[b]? = some o → μ[b]? = some (some e) → ObjR ex μ B w e o
  inj : ∀ (b b' : Nat) (o o' : AObj) (e e' : Ent), σ[b]? = some o → σ[b']? = some o' → μ[b]? = some (some e) → μ[b']? = some (some e') →
    o.owned = true → o'.live = true → e.cb = e'.cb → b = b'

theorem HR.at {B : Nat} {σ : AHeap} {w : World} (h : HR ex B μ σ w) {b : Nat} {o : AObj} (hb : σ[b]? = some o) (hl : o.live = true) : ∃ e, μ[b]? = some (some e) ∧ ObjR ex μ B w e o :=
  let ⟨e, he⟩ := h.has b o hb hl; ⟨e, he, h.obj b o e hb he⟩

theorem ObjR.lt {B : Nat} {w : World} {e : Ent} {o : AObj} (h : ObjR ex μ B w e o) (hl : o.live = true) : e.cb < w.heap.size := by
  cases o with
  | dead => cases hl
  | iter s p => obtain ⟨_, h, _⟩ := h; exact (Array.getElem?_eq_some_iff.1 h).1
  | row vs rw opn => obtain ⟨_, _, c, el, lo, hi, h, _⟩ := h; exact (Array.getElem?_eq_some_iff.1 h).1

theorem ObjR.mono (hs : Sub μ μ') {B : Nat} {w w' : World} {e : Ent} {o : AObj} (h : ObjR ex μ B w e o)
    (hw : o.live = true → w'.heap[e.cb]? = w.heap[e.cb]?) : ObjR ex μ' B w' e o := by
  cases o with
  | dead => trivial
  | iter s p => obtain ⟨h1, h2, h3⟩ := h; exact ⟨h1, by rw [hw rfl]; exact h2, h3⟩
  | row vs rw opn =>
    obtain ⟨h0, h1, c, el, lo, hi, h2, h3, h4, h5⟩ := h
    exact ⟨h0, h1, c, el, lo, hi, by rw [hw rfl]; exact h2, h3, h4.mono hs, h5⟩

end Go.Lk
