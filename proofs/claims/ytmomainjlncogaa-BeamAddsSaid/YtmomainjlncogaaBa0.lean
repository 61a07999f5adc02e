import Derived.Laws.FloatBits
import Derived.Laws.Sem
import GoSem.Dispatch
import Derived.Below
import Derived.Orders
import Derived.Laws.Entries
import Derived.Laws.FloatArith
import Derived.Laws.StructEq
section
/- Floats for the abstract interpreter: words of binary64 with all NaN alike. -/
namespace Go.Lk
open Ieee (Format Datum)

abbrev dbl : Format := Ieee.double
def qnan : Nat := 9221120237041090561
def isNaN (x : Nat) : Bool := (dbl.read x).isNaN
def can (x : Nat) : Nat := bif isNaN x then qnan else x
def orN (o : Option Nat) : Nat := o.getD qnan

theorem isNaN_qnan : isNaN qnan = true := by decide +kernel
theorem can_of_nan {x : Nat} (h : isNaN x = true) : can x = qnan := by simp [can, h]
theorem can_of_num {x : Nat} (h : isNaN x = false) : can x = x := by simp [can, h]
theorem isNaN_can (x : Nat) : isNaN (can x) = isNaN x := by
  cases h : isNaN x
  · rw [can_of_num h, h]
  · rw [can_of_nan h, isNaN_qnan]
theorem read_nan {x : Nat} (h : isNaN x = true) : ∃ s t, dbl.read x = .nan s t := by
  unfold isNaN Datum.isNaN at h
  split at h
  · rename_i s t e; exact ⟨s, t, e⟩
  · cases h

theorem sum_nan_l (s : Bool) (t : Nat) (d : Datum) : (Datum.nan s t).sum d = none := by cases d <;> rfl
theorem sum_nan_r (s : Bool) (t : Nat) (d : Datum) : d.sum (Datum.nan s t) = none := by cases d <;> rfl
theorem product_nan_l (s : Bool) (t : Nat) (d : Datum) : (Datum.nan s t).product d = none := by cases d <;> rfl
theorem product_nan_r (s : Bool) (t : Nat) (d : Datum) : d.product (Datum.nan s t) = none := by cases d <;> rfl
theorem quotient_nan_l (n : Nat) (s : Bool) (t : Nat) (d : Datum) : (Datum.nan s t).quotient n d = none := by cases d <;> rfl
theorem quotient_nan_r (n : Nat) (s : Bool) (t : Nat) (d : Datum) : d.quotient n (Datum.nan s t) = none := by cases d <;> rfl
theorem order_nan_l (s : Bool) (t : Nat) (d : Datum) : (Datum.nan s t).order d = none := by cases d <;> rfl
theorem order_nan_r (s : Bool) (t : Nat) (d : Datum) : d.order (Datum.nan s t) = none := by cases d <;> rfl

theorem opp_nan (s : Bool) (t : Nat) : (Datum.nan s t).opposite = .nan (!s) t := rfl

theorem add_can (x y : Nat) : dbl.add (can x) (can y) = dbl.add x y := by
  unfold Format.add
  cases hx : isNaN x
  · cases hy : isNaN y
    · rw [can_of_num hx, can_of_num hy]
    · obtain ⟨s, t, e⟩ := read_nan hy
      obtain ⟨s', t', e'⟩ := read_nan (by rw [isNaN_can]; exact hy : isNaN (can y) = true)
      rw [e, e', sum_nan_r, sum_nan_r]
  · obtain ⟨s, t, e⟩ := read_nan hx
    obtain ⟨s', t', e'⟩ := read_nan (by rw [isNaN_can]; exact hx : isNaN (can x) = true)
    rw [e, e', sum_nan_l, sum_nan_l]
theorem sub_can (x y : Nat) : dbl.sub (can x) (can y) = dbl.sub x y := by
  unfold Format.sub
  cases hx : isNaN x
  · cases hy : isNaN y
    · rw [can_of_num hx, can_of_num hy]
    · obtain ⟨s, t, e⟩ := read_nan hy
      obtain ⟨s', t', e'⟩ := read_nan (by rw [isNaN_can]; exact hy : isNaN (can y) = true)
      rw [e, e', opp_nan, opp_nan, sum_nan_r, sum_nan_r]
  · obtain ⟨s, t, e⟩ := read_nan hx
    obtain ⟨s', t', e'⟩ := read_nan (by rw [isNaN_can]; exact hx : isNaN (can x) = true)
    rw [e, e', sum_nan_l, sum_nan_l]
theorem mul_can (x y : Nat) : dbl.mul (can x) (can y) = dbl.mul x y := by
  unfold Format.mul
  cases hx : isNaN x
  · cases hy : isNaN y
    · rw [can_of_num hx, can_of_num hy]
    · obtain ⟨s, t, e⟩ := read_nan hy
      obtain ⟨s', t', e'⟩ := read_nan (by rw [isNaN_can]; exact hy : isNaN (can y) = true)
      rw [e, e', product_nan_r, product_nan_r]
  · obtain ⟨s, t, e⟩ := read_nan hx
    obtain ⟨s', t', e'⟩ := read_nan (by rw [isNaN_can]; exact hx : isNaN (can x) = true)
    rw [e, e', product_nan_l, product_nan_l]
theorem div_can (x y : Nat) : dbl.div (can x) (can y) = dbl.div x y := by
  unfold Format.div
  cases hx : isNaN x
  · cases hy : isNaN y
    · rw [can_of_num hx, can_of_num hy]
    · obtain ⟨s, t, e⟩ := read_nan hy
      obtain ⟨s', t', e'⟩ := read_nan (by rw [isNaN_can]; exact hy : isNaN (can y) = true)
      rw [e, e', quotient_nan_r, quotient_nan_r]
  · obtain ⟨s, t, e⟩ := read_nan hx
    obtain ⟨s', t', e'⟩ := read_nan (by rw [isNaN_can]; exact hx : isNaN (can x) = true)
    rw [e, e', quotient_nan_l, quotient_nan_l]
theorem order_can (x y : Nat) : dbl.order (can x) (can y) = dbl.order x y := by
  unfold Format.order
  cases hx : isNaN x
  · cases hy : isNaN y
    · rw [can_of_num hx, can_of_num hy]
    · obtain ⟨s, t, e⟩ := read_nan hy
      obtain ⟨s', t', e'⟩ := read_nan (by rw [isNaN_can]; exact hy : isNaN (can y) = true)
      rw [e, e', order_nan_r, order_nan_r]
  · obtain ⟨s, t, e⟩ := read_nan hx
    obtain ⟨s', t', e'⟩ := read_nan (by rw [isNaN_can]; exact hx : isNaN (can x) = true)
    rw [e, e', order_nan_l, order_nan_l]
theorem sqrt_can (x : Nat) : dbl.sqrt (can x) = dbl.sqrt x := by
  unfold Format.sqrt
  cases hx : isNaN x
  · rw [can_of_num hx]
  · obtain ⟨s, t, e⟩ := read_nan hx
    obtain ⟨s', t', e'⟩ := read_nan (by rw [isNaN_can]; exact hx : isNaN (can x) = true)
    rw [e, e']; rfl

/-- A word of a rung up to infinity's is no NaN. -/
theorem isNaN_word (s : Bool) {r : Nat} (h : r ≤ dbl.infRung) : isNaN (dbl.word s r) = false := by
  have hi : dbl.infRung < dbl.signWeight := by decide +kernel
  have e : dbl.word s r % dbl.signWeight = r := by
    unfold Format.word
    split
    · rw [Nat.add_mod_left]; exact Nat.mod_eq_of_lt (by omega)
    · exact Nat.mod_eq_of_lt (by omega)
  unfold isNaN Format.read
  simp only [e]
  split
  · rfl
  · split
    · rfl
    · split
      · rfl
      · omega

theorem isNaN_write {d : Datum} (h : d.isNaN = false) : isNaN (dbl.write d) = false := by
  cases d with
  | nan s t => simp [Datum.isNaN] at h
  | infinity s => exact isNaN_word s (Nat.le_refl _)
  | number s m p =>
    show isNaN (dbl.nearest s m p) = false
    unfold Format.nearest
    split
    · exact isNaN_word s (Nat.zero_le _)
    · exact isNaN_word s (Nat.min_le_right ..)

theorem sum_num {d e f : Datum} (h : d.sum e = some f) : f.isNaN = false := by
  cases d <;> cases e <;> simp only [Datum.sum] at h <;> (try cases h) <;> (try rfl)
  split at h <;> cases h; rfl
theorem product_num {d e f : Datum} (h : d.product e = some f) : f.isNaN = false := by
  cases d <;> cases e <;> simp only [Datum.product] at h <;> (try cases h) <;> (try rfl)
  all_goals (split at h <;> cases h; rfl)
theorem quotient_num {n : Nat} {d e f : Datum} (h : d.quotient n e = some f) : f.isNaN = false := by
  cases d <;> cases e <;> simp only [Datum.quotient] at h <;> (try cases h) <;> (try rfl)
  split at h
  · split at h <;> cases h; rfl
  · cases h; rfl
theorem root_num {n : Nat} {d f : Datum} (h : d.root n = some f) : f.isNaN = false := by
  cases d <;> simp only [Datum.root] at h
  · split at h
    · cases h; rfl
    · split at h <;> cases h; rfl
  · split at h <;> cases h; rfl
  · cases h

theorem num_of_map {o : Option Datum} {r : Nat} (hn : ∀ f, o = some f → f.isNaN = false) (h : o.map dbl.write = some r) : isNaN r = false := by
  cases o with
  | none => cases h
  | some f => cases h; exact isNaN_write (hn f rfl)

theorem add_num {x y r : Nat} (h : dbl.add x y = some r) : isNaN r = false := num_of_map (fun _ => sum_num) h
theorem sub_num {x y r : Nat} (h : dbl.sub x y = some r) : isNaN r = false := num_of_map (fun _ => sum_num) h
theorem mul_num {x y r : Nat} (h : dbl.mul x y = some r) : isNaN r = false := num_of_map (fun _ => product_num) h
theorem div_num {x y r : Nat} (h : dbl.div x y = some r) : isNaN r = false := num_of_map (fun _ => quotient_num) h
theorem sqrt_num {x r : Nat} (h : dbl.sqrt x = some r) : isNaN r = false := num_of_map (fun _ => root_num) h

/-- What the tape gives for a NaN is one. -/
theorem isNaN_drawn (t : Nat) : isNaN ((t % 2) * 2 ^ 63 + 9218868437227405312 + 1 + (t / 2) % (2 ^ 52 - 1)) = true := by
  have hb : dbl.signWeight = 9223372036854775808 := by decide +kernel
  have hi : dbl.infRung = 9218868437227405312 := by decide +kernel
  have hbin : dbl.binade = 4503599627370496 := by decide +kernel
  have e : ((t % 2) * 2 ^ 63 + 9218868437227405312 + 1 + (t / 2) % (2 ^ 52 - 1)) % dbl.signWeight = 9218868437227405312 + 1 + (t / 2) % (2 ^ 52 - 1) := by
    rw [hb]
    omega
  unfold isNaN Format.read
  simp only [e, hi, hbin]
  have : (t / 2) % (2 ^ 52 - 1) < 2 ^ 52 - 1 := Nat.mod_lt _ (by decide)
  rw [if_neg (by omega), if_neg (by omega), if_neg (by omega)]
  rfl

def fadd (x y : Nat) : Nat := orN (dbl.add x y)
def fsub (x y : Nat) : Nat := orN (dbl.sub x y)
def fmul (x y : Nat) : Nat := orN (dbl.mul x y)
def fdiv (x y : Nat) : Nat := orN (dbl.div x y)
def fsqrt (x : Nat) : Nat := orN (dbl.sqrt x)
def fneg (x : Nat) : Nat := bif isNaN x then qnan else x ^^^ 2 ^ 63
def feq (x y : Nat) : Bool := dbl.order x y == some .eq
def flt (x y : Nat) : Bool := dbl.order x y == some .lt
def fle (x y : Nat) : Bool := dbl.order x y == some .lt || dbl.order x y == some .eq

end Go.Lk
end

section
/- The relation between the abstract heap and the model's world. -/
namespace Go.Lk
set_option linter.unusedVariables false

/-- What an abstract block is: a row of cells (may it be written? has it spare room of unknown size, its elements so many cells each?), a row that is given up, a string's iterator. -/
inductive AObj where
  | row (vs : List Value) (rw : Bool) (opn : Option Nat)
  | dead
  | iter (s : ByteArray) (pos : Nat)

abbrev AHeap := List AObj

/-- Where an abstract block lies. -/
structure Ent where
  cb : Nat
  base : Nat
  size : Nat
  xtra : Nat
  esz : Nat

def cn (ex : Bool) (x : Nat) : Nat := bif ex then x else can x

inductive VR (ex : Bool) (μ : List (Option Ent)) : Value → Value → Prop
  | bool (b : Bool) : VR ex μ (.bool b) (.bool b)
  | int (k : IntKind) (n : Int) : VR ex μ (.int k n) (.int k n)
  | float (k : FloatKind) (x : Nat) : VR ex μ (.float k (cn ex x)) (.float k x)
  | complex (k : FloatKind) (x y : Nat) : VR ex μ (.complex k (cn ex x) (cn ex y)) (.complex k x y)
  | string (s : ByteArray) : VR ex μ (.string s) (.string s)
  | pnil : VR ex μ (.pointer none) (.pointer none)
  | ptr {b o : Nat} {e : Ent} (h : μ[b]? = some (some e)) : VR ex μ (.pointer (some ⟨b, o, none⟩)) (.pointer (some ⟨e.cb, e.base + o, none⟩))
  | snil (l c : Nat) : VR ex μ (.slice none l c) (.slice none l c)
  | slice {b o sz len cap cap' : Nat} {e : Ent} (h : μ[b]? = some (some e)) (hc : cap' = cap ∨ (sz = e.esz ∧ o + cap * sz = e.size ∧ cap' = cap + e.xtra)) :
      VR ex μ (.slice (some ⟨b, o, some sz⟩) len cap) (.slice (some ⟨e.cb, e.base + o, none⟩) len cap')
  | sempty {b o sz : Nat} {e : Ent} (h : μ[b]? = some (some e)) (a : Addr) : VR ex μ (.slice (some ⟨b, o, some sz⟩) 0 0) (.slice (some a) 0 0)
  | func (fn : Fn) {f c f' c' : Array Value} (hf : f.size = f'.size) (hc : c.size = c'.size)
      (h1 : ∀ (i : Nat) (h : i < f.size), VR ex μ f[i] (f'[i]'(hf ▸ h))) (h2 : ∀ (i : Nat) (h : i < c.size), VR ex μ c[i] (c'[i]'(hc ▸ h))) :
      VR ex μ (.func fn f c) (.func fn f' c')
  | nilFunc : VR ex μ .nilFunc .nilFunc
  | iface (t : TypeId) {v v' : Value} (h : VR ex μ v v') : VR ex μ (.iface t v) (.iface t v')
  | nilIface : VR ex μ .nilIface .nilIface
  | agg {c c' : Array Value} (hc : c.size = c'.size) (h : ∀ (i : Nat) (h : i < c.size), VR ex μ c[i] (c'[i]'(hc ▸ h))) : VR ex μ (.agg c) (.agg c')
  | tuple {c c' : Array Value} (hc : c.size = c'.size) (h : ∀ (i : Nat) (h : i < c.size), VR ex μ c[i] (c'[i]'(hc ▸ h))) : VR ex μ (.tuple c) (.tuple c')
  | mapNil : VR ex μ (.map none) (.map none)

/-- Lists, one by one. -/
def VRs (ex : Bool) (μ : List (Option Ent)) (xs ys : List Value) : Prop :=
  xs.length = ys.length ∧ ∀ (i : Nat) (a : Value), xs[i]? = some a → ∃ c, ys[i]? = some c ∧ VR ex μ a c

/-- One renaming goes on from another. -/
def Sub (μ μ' : List (Option Ent)) : Prop := ∀ (b : Nat) (e : Ent), μ[b]? = some (some e) → μ'[b]? = some (some e)

theorem Sub.refl (μ : List (Option Ent)) : Sub μ μ := fun _ _ h => h
theorem Sub.trans {μ μ' μ'' : List (Option Ent)} (h : Sub μ μ') (h' : Sub μ' μ'') : Sub μ μ'' := fun b e k => h' b e (h b e k)
theorem Sub.snoc (μ : List (Option Ent)) (e : Ent) : Sub μ (μ ++ [some e]) := fun b e' h => by
  have hb : b < μ.length := by
    rcases Nat.lt_or_ge b μ.length with h' | h'
    · exact h'
    · rw [List.getElem?_eq_none h'] at h; cases h
  rw [List.getElem?_append_left hb]; exact h

/-- One renaming goes on from another, and leaves it as it is. -/
def Ext (μ μ' : List (Option Ent)) : Prop := ∀ b, b < μ.length → μ'[b]? = μ[b]?
theorem Ext.refl (μ : List (Option Ent)) : Ext μ μ := fun _ _ => rfl
theorem Ext.len {μ μ' : List (Option Ent)} (h : Ext μ μ') : μ.length ≤ μ'.length := by
  rcases Nat.lt_or_ge μ'.length μ.length with hlt | hge
  · have := h μ'.length hlt
    rw [List.getElem?_eq_none (Nat.le_refl _), List.getElem?_eq_getElem hlt] at this
    cases this
  · exact hge
theorem Ext.trans {μ μ' μ'' : List (Option Ent)} (h : Ext μ μ') (h' : Ext μ' μ'') : Ext μ μ'' := fun b hb => by
  have := h.len
  rw [h' b (by omega), h b hb]
theorem Ext.sub {μ μ' : List (Option Ent)} (h : Ext μ μ') : Sub μ μ' := fun b e he => by
  rw [h b (List.getElem?_eq_some_iff.1 he).1]; exact he
theorem Ext.snoc (μ : List (Option Ent)) (e : Option Ent) : Ext μ (μ ++ [e]) := fun b hb => List.getElem?_append_left hb

variable {ex : Bool} {μ μ' : List (Option Ent)}

theorem VR.mono (hs : Sub μ μ') {a c : Value} (h : VR ex μ a c) : VR ex μ' a c := by
  induction h with
  | bool b => exact .bool b
  | int k n => exact .int k n
  | float k x => exact .float k x
  | complex k x y => exact .complex k x y
  | string s => exact .string s
  | pnil => exact .pnil
  | ptr h => exact .ptr (hs _ _ h)
  | snil l c => exact .snil l c
  | slice h hc => exact .slice (hs _ _ h) hc
  | sempty h a => exact .sempty (hs _ _ h) a
  | func fn hf hc _ _ ih1 ih2 => exact .func fn hf hc ih1 ih2
  | nilFunc => exact .nilFunc
  | iface t _ ih => exact .iface t ih
  | nilIface => exact .nilIface
  | agg hc _ ih => exact .agg hc ih
  | tuple hc _ ih => exact .tuple hc ih
  | mapNil => exact .mapNil

theorem VRs.mono (hs : Sub μ μ') {a c : List Value} (h : VRs ex μ a c) : VRs ex μ' a c :=
  ⟨h.1, fun i x hx => let ⟨y, hy, hv⟩ := h.2 i x hx; ⟨y, hy, hv.mono hs⟩⟩

theorem VRs.nil : VRs ex μ [] [] := ⟨rfl, fun i a h => by simp at h⟩
theorem VRs.cons {a c : Value} {as cs : List Value} (h : VR ex μ a c) (hs : VRs ex μ as cs) : VRs ex μ (a :: as) (c :: cs) := by
  refine ⟨by simp [hs.1], fun i x hx => ?_⟩
  cases i with
  | zero => simp at hx; subst hx; exact ⟨c, by simp, h⟩
  | succ i => simp at hx; obtain ⟨y, hy, hv⟩ := hs.2 i x hx; exact ⟨y, by simpa using hy, hv⟩
theorem VRs.append {a c a' c' : List Value} (h : VRs ex μ a c) (h' : VRs ex μ a' c') : VRs ex μ (a ++ a') (c ++ c') := by
  refine ⟨by simp [h.1, h'.1], fun i x hx => ?_⟩
  rcases Nat.lt_or_ge i a.length with hi | hi
  · rw [List.getElem?_append_left hi] at hx
    obtain ⟨y, hy, hv⟩ := h.2 i x hx
    exact ⟨y, by rw [List.getElem?_append_left (by rw [← h.1]; exact hi)]; exact hy, hv⟩
  · rw [List.getElem?_append_right hi] at hx
    obtain ⟨y, hy, hv⟩ := h'.2 _ x hx
    exact ⟨y, by rw [List.getElem?_append_right (by rw [← h.1]; exact hi), ← h.1]; exact hy, hv⟩
theorem VRs.take {a c : List Value} (n : Nat) (h : VRs ex μ a c) : VRs ex μ (a.take n) (c.take n) := by
  refine ⟨by simp [h.1], fun i x hx => ?_⟩
  rw [List.getElem?_take] at hx
  split at hx
  · rename_i hi
    obtain ⟨y, hy, hv⟩ := h.2 i x hx
    exact ⟨y, by rw [List.getElem?_take, if_pos hi]; exact hy, hv⟩
  · cases hx
theorem VRs.drop {a c : List Value} (n : Nat) (h : VRs ex μ a c) : VRs ex μ (a.drop n) (c.drop n) := by
  refine ⟨by simp [h.1], fun i x hx => ?_⟩
  rw [List.getElem?_drop] at hx
  obtain ⟨y, hy, hv⟩ := h.2 _ x hx
  exact ⟨y, by rw [List.getElem?_drop]; exact hy, hv⟩
theorem VRs.set {a c : List Value} {x y : Value} (n : Nat) (h : VRs ex μ a c) (hx : VR ex μ x y) : VRs ex μ (a.set n x) (c.set n y) := by
  refine ⟨by simp [h.1], fun i z hz => ?_⟩
  rw [List.getElem?_set] at hz
  rw [List.getElem?_set]
  split at hz
  · rename_i e
    rw [if_pos e]
    split at hz
    · rename_i hn; cases hz; exact ⟨y, by rw [if_pos (by rw [← h.1]; exact hn)], hx⟩
    · cases hz
  · rename_i e
    rw [if_neg e]
    exact h.2 i z hz
theorem VRs.get {a c : List Value} (h : VRs ex μ a c) {i : Nat} {x : Value} (hx : a[i]? = some x) : ∃ y, c[i]? = some y ∧ VR ex μ x y := h.2 i x hx
theorem VRs.replicate {x y : Value} (n : Nat) (h : VR ex μ x y) : VRs ex μ (List.replicate n x) (List.replicate n y) := by
  refine ⟨by simp, fun i z hz => ?_⟩
  rw [List.getElem?_replicate] at hz
  split at hz
  · rename_i hi; cases hz; exact ⟨y, by rw [List.getElem?_replicate, if_pos hi], h⟩
  · cases hz

theorem VR.agg_iff {c : Array Value} {v : Value} (h : VR ex μ (.agg c) v) : ∃ c', v = .agg c' ∧ VRs ex μ c.toList c'.toList := by
  cases h with
  | agg hc h =>
    rename_i c'
    refine ⟨c', rfl, by simpa using hc, fun i a hi => ?_⟩
    rw [Array.getElem?_toList] at hi
    obtain ⟨hlt, rfl⟩ := Array.getElem?_eq_some_iff.1 hi
    exact ⟨c'[i], by rw [Array.getElem?_toList]; simp [← hc, hlt], h i hlt⟩
theorem VR.tuple_iff {c : Array Value} {v : Value} (h : VR ex μ (.tuple c) v) : ∃ c', v = .tuple c' ∧ VRs ex μ c.toList c'.toList := by
  cases h with
  | tuple hc h =>
    rename_i c'
    refine ⟨c', rfl, by simpa using hc, fun i a hi => ?_⟩
    rw [Array.getElem?_toList] at hi
    obtain ⟨hlt, rfl⟩ := Array.getElem?_eq_some_iff.1 hi
    exact ⟨c'[i], by rw [Array.getElem?_toList]; simp [← hc, hlt], h i hlt⟩
theorem VRs.elems {c c' : Array Value} (h : VRs ex μ c.toList c'.toList) : ∃ hc : c.size = c'.size, ∀ (i : Nat) (h : i < c.size), VR ex μ c[i] (c'[i]'(hc ▸ h)) := by
  have hc : c.size = c'.size := by simpa using h.1
  refine ⟨hc, fun i hi => ?_⟩
  obtain ⟨y, hy, hv⟩ := h.2 i c[i] (by rw [Array.getElem?_toList]; simp [hi])
  rw [Array.getElem?_toList] at hy
  obtain ⟨_, rfl⟩ := Array.getElem?_eq_some_iff.1 hy
  exact hv
theorem VRs.toAgg {c c' : Array Value} (h : VRs ex μ c.toList c'.toList) : VR ex μ (.agg c) (.agg c') :=
  let ⟨hc, k⟩ := h.elems; .agg hc k
theorem VRs.toTuple {c c' : Array Value} (h : VRs ex μ c.toList c'.toList) : VR ex μ (.tuple c) (.tuple c') :=
  let ⟨hc, k⟩ := h.elems; .tuple hc k
theorem VRs.toAgg' {c c' : List Value} (h : VRs ex μ c c') : VR ex μ (.agg c.toArray) (.agg c'.toArray) := VRs.toAgg (by simpa using h)
theorem VRs.toTuple' {c c' : List Value} (h : VRs ex μ c c') : VR ex μ (.tuple c.toArray) (.tuple c'.toArray) := VRs.toTuple (by simpa using h)
theorem VR.func_iff {fn : Fn} {f c : Array Value} {v : Value} (h : VR ex μ (.func fn f c) v) :
    ∃ f' c', v = .func fn f' c' ∧ VRs ex μ f.toList f'.toList ∧ VRs ex μ c.toList c'.toList := by
  cases h with
  | func _ hf hc h1 h2 =>
    rename_i f' c'
    refine ⟨f', c', rfl, ⟨by simpa using hf, fun i a hi => ?_⟩, ⟨by simpa using hc, fun i a hi => ?_⟩⟩
    · rw [Array.getElem?_toList] at hi
      obtain ⟨hlt, rfl⟩ := Array.getElem?_eq_some_iff.1 hi
      exact ⟨f'[i], by rw [Array.getElem?_toList]; simp [← hf, hlt], h1 i hlt⟩
    · rw [Array.getElem?_toList] at hi
      obtain ⟨hlt, rfl⟩ := Array.getElem?_eq_some_iff.1 hi
      exact ⟨c'[i], by rw [Array.getElem?_toList]; simp [← hc, hlt], h2 i hlt⟩

theorem VR.undef : VR ex μ Go.undef Go.undef := .tuple rfl (fun i h => by simp at h)

def one : Value → Bool
  | .agg _ | .tuple _ => false
  | _ => true
theorem VR.one {a c : Value} (h : VR ex μ a c) : Lk.one c = Lk.one a := by cases h <;> rfl
theorem VR.cells {a c : Value} (h : VR ex μ a c) : VRs ex μ a.cells.toList c.cells.toList := by
  cases h with
  | agg hc h => exact (VR.agg_iff (.agg hc h)).elim fun c' ⟨e, k⟩ => by cases e; exact k
  | _ => exact .cons (by constructor <;> assumption) .nil

/-- May an object be written (so that nothing else may lie where it lies)? -/
def AObj.owned : AObj → Bool
  | .row _ rw _ => rw
  | .iter _ _ => true
  | .dead => false
def AObj.live : AObj → Bool
  | .dead => false
  | _ => true

/-- An abstract block and what lies there. -/
def ObjR (ex : Bool) (μ : List (Option Ent)) (B : Nat → Prop) (w : World) (e : Ent) : AObj → Prop
  | .dead => True
  | .iter s pos => e.base = 0 ∧ w.heap[e.cb]? = some (.stringIter s pos) ∧ ¬ B e.cb
  | .row vs rw opn => e.size = vs.length ∧ (match opn with | some z => e.esz = z | none => e.xtra = 0) ∧
      ∃ c elem lo hi, w.heap[e.cb]? = some (.cells c elem (lo, hi)) ∧ e.base + vs.length + e.xtra * e.esz ≤ c.size ∧
        VRs ex μ vs ((c.toList.drop e.base).take vs.length) ∧ (rw = true → ¬ B e.cb ∧ hi ≤ lo)

/-- On the blocks of B the world w' is as w was; the streams are as they were; no block has gone. -/
structure Blw (B : Nat → Prop) (w w' : World) : Prop where
  os : w'.os = w.os
  tape : w'.tape = w.tape
  output : w'.output = w.output
  size : w.heap.size ≤ w'.heap.size
  block : ∀ k, B k → w'.heap[k]? = w.heap[k]?
theorem Blw.refl (B : Nat → Prop) (w : World) : Blw B w w := ⟨rfl, rfl, rfl, Nat.le_refl _, fun _ _ => rfl⟩
theorem Blw.trans {B : Nat → Prop} {a b c : World} (h : Blw B a b) (k : Blw B b c) : Blw B a c :=
  ⟨k.os.trans h.os, k.tape.trans h.tape, k.output.trans h.output, Nat.le_trans h.size k.size, fun i hi => (k.block i hi).trans (h.block i hi)⟩
/-- The blocks that stand. -/
def old (w : World) : Nat → Prop := fun k => k < w.heap.size
theorem Blw.kit {w w' : World} (h : Blw (old w) w w') : Go.RowKit.Below w.heap.size w w' := ⟨h.os, h.tape, h.output, h.size, fun k hk => h.block k hk⟩

/-- THE HEAPS. -/
structure HR (ex : Bool) (B : Nat → Prop) (μ : List (Option Ent)) (σ : AHeap) (w : World) : Prop where
  len : μ.length = σ.length
  hB : ∀ k, B k → k < w.heap.size
  has : ∀ (b : Nat) (o : AObj), σ[b]? = some o → o.live = true → ∃ e, μ[b]? = some (some e)
  obj : ∀ (b : Nat) (o : AObj) (e : Ent), σ[b]? = some o → μ[b]? = some (some e) → ObjR ex μ B w e o
  inj : ∀ (b b' : Nat) (o o' : AObj) (e e' : Ent), σ[b]? = some o → σ[b']? = some o' → μ[b]? = some (some e) → μ[b']? = some (some e') →
    o.owned = true → o'.live = true → e.cb = e'.cb → b = b'

theorem HR.new {B : Nat → Prop} {σ : AHeap} {w : World} (h : HR ex B μ σ w) : ¬ B w.heap.size := fun k => Nat.lt_irrefl _ (h.hB _ k)
theorem HR.at {B : Nat → Prop} {σ : AHeap} {w : World} (h : HR ex B μ σ w) {b : Nat} {o : AObj} (hb : σ[b]? = some o) (hl : o.live = true) : ∃ e, μ[b]? = some (some e) ∧ ObjR ex μ B w e o :=
  let ⟨e, he⟩ := h.has b o hb hl; ⟨e, he, h.obj b o e hb he⟩

theorem ObjR.lt {B : Nat → Prop} {w : World} {e : Ent} {o : AObj} (h : ObjR ex μ B w e o) (hl : o.live = true) : e.cb < w.heap.size := by
  cases o with
  | dead => cases hl
  | iter s p => obtain ⟨_, h, _⟩ := h; exact (Array.getElem?_eq_some_iff.1 h).1
  | row vs rw opn => obtain ⟨_, _, c, el, lo, hi, h, _⟩ := h; exact (Array.getElem?_eq_some_iff.1 h).1

theorem ObjR.mono (hs : Sub μ μ') {B : Nat → Prop} {w w' : World} {e : Ent} {o : AObj} (h : ObjR ex μ B w e o)
    (hw : o.live = true → w'.heap[e.cb]? = w.heap[e.cb]?) : ObjR ex μ' B w' e o := by
  cases o with
  | dead => trivial
  | iter s p => obtain ⟨h1, h2, h3⟩ := h; exact ⟨h1, by rw [hw rfl]; exact h2, h3⟩
  | row vs rw opn =>
    obtain ⟨h0, h1, c, el, lo, hi, h2, h3, h4, h5⟩ := h
    exact ⟨h0, h1, c, el, lo, hi, by rw [hw rfl]; exact h2, h3, h4.mono hs, h5⟩

end Go.Lk
end

section
/- Loads, stores and new blocks: what the model's memory does, and the abstract heap with it. -/
namespace Go.Lk

theorem add_off (b o n : Nat) : Addr.add ⟨b, o, none⟩ n = ⟨b, o + n, none⟩ := by
  unfold Addr.add
  split
  · rename_i h; subst h; rfl
  · rfl

theorem drop_cons' {α : Type} {xs : List α} {i : Nat} {x : α} (h : xs[i]? = some x) : xs.drop i = x :: xs.drop (i + 1) := by
  obtain ⟨hi, rfl⟩ := List.getElem?_eq_some_iff.1 h
  exact List.drop_eq_getElem_cons hi

section
variable {P : Program}

theorem run_loadCellsFrom {w : World} {cb off : Nat} {c : Array Value} {elem : TypeId} {fz : Nat × Nat}
    (hb : w.heap[cb]? = some (.cells c elem fz)) : ∀ (n i : Nat) (acc : Array Value), off + i + n ≤ c.size →
    (loadCellsFrom ⟨cb, off, none⟩ i n acc).run P w = .ok (acc ++ ((c.toList.drop (off + i)).take n).toArray) w := by
  intro n
  induction n with
  | zero => intro i acc _; simp [loadCellsFrom, pure]
  | succ n ih =>
    intro i acc h
    have hlt : off + i < c.size := by omega
    have hc : w.cell? ⟨cb, off + i, none⟩ = some c[off + i] := by
      simp [World.cell?, hb, hlt]
    simp only [loadCellsFrom, add_off, Sem.run_bind]
    have hl : (load ⟨cb, off + i, none⟩).run P w = .ok c[off + i] w := by
      simp [load, Sem.run, hc]
    rw [hl]
    simp only [Result.andThen_ok]
    rw [ih (i + 1) _ (by omega)]
    have hd : c.toList.drop (off + i) = c[off + i] :: c.toList.drop (off + (i + 1)) :=
      drop_cons' (by rw [Array.getElem?_toList]; simp [hlt])
    rw [hd, List.take_succ_cons]
    congr 1
    simp

theorem run_loadCells {w : World} {cb off n : Nat} {c : Array Value} {elem : TypeId} {fz : Nat × Nat}
    (hb : w.heap[cb]? = some (.cells c elem fz)) (h : off + n ≤ c.size) :
    (loadCells ⟨cb, off, none⟩ n).run P w = .ok ((c.toList.drop off).take n).toArray w := by
  unfold loadCells
  rw [run_loadCellsFrom hb n 0 #[] (by omega)]
  simp

def splice (xs : List Value) (o : Nat) (cs : List Value) : List Value := xs.take o ++ cs ++ xs.drop (o + cs.length)

theorem splice_length {xs cs : List Value} {o : Nat} (h : o + cs.length ≤ xs.length) : (splice xs o cs).length = xs.length := by
  simp [splice]; omega

theorem splice_cons {xs cs : List Value} {o : Nat} {x : Value} (h : o + (x :: cs).length ≤ xs.length) :
    splice xs o (x :: cs) = splice (xs.set o x) (o + 1) cs := by
  have hl : o < xs.length := by simp at h; omega
  have h1 : (xs.set o x).take (o + 1) = xs.take o ++ [x] := by
    rw [List.take_succ_eq_append_getElem (by simpa using hl), List.take_set, List.set_eq_of_length_le (by simp; omega)]
    simp
  have h2 : (xs.set o x).drop (o + 1 + cs.length) = xs.drop (o + 1 + cs.length) := List.drop_set_of_lt (by omega)
  unfold splice
  rw [h1, h2]
  simp [Nat.add_comm, Nat.add_left_comm]

def setBlock (w : World) (cb : Nat) (o : Obj) : World := { w with heap := w.heap.setIfInBounds cb o }

theorem setBlock_heap (w : World) (cb : Nat) (o : Obj) (k : Nat) : (setBlock w cb o).heap[k]? = if k = cb ∧ cb < w.heap.size then some o else w.heap[k]? := by
  simp only [setBlock, Array.getElem?_setIfInBounds]
  by_cases h : cb = k
  · subst h
    by_cases h' : cb < w.heap.size <;> simp [h']
  · rw [if_neg h, if_neg (fun ⟨a, _⟩ => h a.symm)]

theorem run_storeCells {elem : TypeId} {lo hi cb off : Nat} (hf : hi ≤ lo) : ∀ (vs : List Value) (i : Nat) (w : World) (c : Array Value),
    w.heap[cb]? = some (.cells c elem (lo, hi)) → off + i + vs.length ≤ c.size → vs.all one = true →
    ∃ c' : Array Value, (storeCells ⟨cb, off, none⟩ vs i).run P w = .ok () (setBlock w cb (.cells c' elem (lo, hi))) ∧
      c'.toList = splice c.toList (off + i) vs := by
  intro vs
  induction vs with
  | nil =>
    intro i w c hb _ _
    refine ⟨c, ?_, by simp [splice]⟩
    simp only [storeCells, pure, Sem.run]
    congr 1
    unfold setBlock
    have : w.heap.setIfInBounds cb (Obj.cells c elem (lo, hi)) = w.heap := by
      obtain ⟨h1, h2⟩ := Array.getElem?_eq_some_iff.1 hb
      rw [← h2]; simp [Array.setIfInBounds, h1]
    rw [this]
  | cons v vs ih =>
    intro i w c hb h hone
    simp only [List.all_cons, Bool.and_eq_true] at hone
    have hlt : off + i < c.size := by simp at h; omega
    have hc : w.cell? ⟨cb, off + i, none⟩ = some c[off + i] := by simp [World.cell?, hb, hlt]
    have hfz : w.frozen? ⟨cb, off + i, none⟩ = false := by
      simp only [World.frozen?, hb]
      simp; omega
    have hset : w.setCell ⟨cb, off + i, none⟩ v = setBlock w cb (.cells (c.setIfInBounds (off + i) v) elem (lo, hi)) := by
      unfold World.setCell setBlock
      congr 1
      obtain ⟨h1, h2⟩ := Array.getElem?_eq_some_iff.1 hb
      apply Array.ext_getElem?
      intro k
      rw [Array.getElem?_modify, Array.getElem?_setIfInBounds]
      by_cases hk : cb = k
      · subst hk; simp [h1, h2]
      · simp [hk]
    have hst : (store ⟨cb, off + i, none⟩ v).run P w = .ok () (setBlock w cb (.cells (c.setIfInBounds (off + i) v) elem (lo, hi))) := by
      rw [← hset]
      cases v <;> first | (simp [one] at hone; done) | simp [store, Sem.run, hc, hfz]
    have hb' : (setBlock w cb (.cells (c.setIfInBounds (off + i) v) elem (lo, hi))).heap[cb]? = some (.cells (c.setIfInBounds (off + i) v) elem (lo, hi)) := by
      rw [setBlock_heap, if_pos ⟨rfl, (Array.getElem?_eq_some_iff.1 hb).1⟩]
    obtain ⟨c', hr, hc'⟩ := ih (i + 1) _ (c.setIfInBounds (off + i) v) hb' (by simp at h ⊢; omega) hone.2
    refine ⟨c', ?_, ?_⟩
    · simp only [storeCells, add_off, Sem.run_bind, hst, Result.andThen_ok, hr]
      simp [setBlock, Array.setIfInBounds_setIfInBounds]
    · rw [hc', splice_cons (by simpa using h)]
      simp [Nat.add_assoc]

end

variable {ex : Bool} {μ μ' : List (Option Ent)} {B : Nat → Prop} {σ : AHeap} {w w' : World}

theorem HR.of_heap (h : HR ex B μ σ w) (hw : w'.heap = w.heap) : HR ex B μ σ w' :=
  ⟨h.len, by rw [hw]; exact h.hB, h.has, fun b o e h1 h2 => (h.obj b o e h1 h2).mono (Sub.refl _) (fun _ => by rw [hw]), h.inj⟩

theorem lt_of_some {α : Type} {xs : List α} {i : Nat} {x : α} (h : xs[i]? = some x) : i < xs.length := (List.getElem?_eq_some_iff.1 h).1

/-- A new block. -/
theorem HR.push (h : HR ex B μ σ w) (ob : Obj) (o : AObj) (e : Ent) (he : e.cb = w.heap.size) (hw : w'.heap = w.heap.push ob)
    (ho : ObjR ex (μ ++ [some e]) B w' e o) : HR ex B (μ ++ [some e]) (σ ++ [o]) w' := by
  have hold : ∀ k, k < w.heap.size → w'.heap[k]? = w.heap[k]? := fun k hk => by rw [hw, Array.getElem?_push, if_neg (by omega)]
  refine ⟨by simp [h.len], by rw [hw]; intro k hk; have := h.hB k hk; simp; omega, ?_, ?_, ?_⟩
  · intro b o' h1 hl
    rcases Nat.lt_or_ge b σ.length with hb | hb
    · rw [List.getElem?_append_left hb] at h1
      obtain ⟨e', he'⟩ := h.has b o' h1 hl
      exact ⟨e', Sub.snoc _ _ _ _ he'⟩
    · have := lt_of_some h1
      have hb0 : b = μ.length := by rw [h.len]; simp at this; omega
      subst hb0
      exact ⟨e, by simp⟩
  · intro b o' e' h1 h2
    rcases Nat.lt_or_ge b σ.length with hb | hb
    · rw [List.getElem?_append_left hb] at h1
      rw [List.getElem?_append_left (by rw [h.len]; exact hb)] at h2
      have k := h.obj b o' e' h1 h2
      exact k.mono (Sub.snoc _ _) (fun hl => hold _ (k.lt hl))
    · rw [List.getElem?_append_right hb] at h1
      rw [List.getElem?_append_right (by rw [h.len]; exact hb), h.len] at h2
      have hb0 : b - σ.length = 0 := by have := lt_of_some h1; simp at this; omega
      rw [hb0] at h1 h2
      simp at h1 h2
      subst h1 h2
      exact ho
  · intro b b' o1 o2 e1 e2 h1 h2 h3 h4 hown hlive hcb
    have key : ∀ (b : Nat) (o1 : AObj) (e1 : Ent), (σ ++ [o])[b]? = some o1 → (μ ++ [some e])[b]? = some e1 →
        (b < σ.length ∧ σ[b]? = some o1 ∧ μ[b]? = some (some e1)) ∨ (b = σ.length ∧ o1 = o ∧ e1 = e) := fun b o1 e1 h1 h2 => by
      rcases Nat.lt_or_ge b σ.length with hb | hb
      · rw [List.getElem?_append_left hb] at h1
        rw [List.getElem?_append_left (by rw [h.len]; exact hb)] at h2
        exact .inl ⟨hb, h1, h2⟩
      · rw [List.getElem?_append_right hb] at h1
        rw [List.getElem?_append_right (by rw [h.len]; exact hb), h.len] at h2
        have hb0 : b - σ.length = 0 := by have := lt_of_some h1; simp at this; omega
        rw [hb0] at h1 h2
        simp at h1 h2
        exact .inr ⟨by omega, h1.symm, h2.symm⟩
    rcases key b o1 e1 h1 h3 with ⟨k1, k2, k3⟩ | ⟨k1, k2, k3⟩
    · rcases key b' o2 e2 h2 h4 with ⟨l1, l2, l3⟩ | ⟨l1, l2, l3⟩
      · exact h.inj b b' o1 o2 e1 e2 k2 l2 k3 l3 hown hlive hcb
      · subst l3
        have hl : o1.live = true := by cases o1 <;> first | rfl | cases hown
        have := (h.obj b o1 e1 k2 k3).lt hl
        omega
    · rcases key b' o2 e2 h2 h4 with ⟨l1, l2, l3⟩ | ⟨l1, l2, l3⟩
      · subst k3
        have := (h.obj b' o2 e2 l2 l3).lt hlive
        omega
      · omega

/-- One block changes, here and there. -/
theorem HR.setAt (h : HR ex B μ σ w) {b : Nat} {o : AObj} {e : Ent} (hb : σ[b]? = some o) (he : μ[b]? = some (some e)) (hown : o.owned = true)
    {ob : Obj} {o' : AObj} (hlo : o'.owned = true → o.owned = true) (ho : ObjR ex μ B (setBlock w e.cb ob) e o') : HR ex B μ (σ.set b o') (setBlock w e.cb ob) := by
  have hbl := lt_of_some hb
  have hlive : o.live = true := by cases o <;> first | rfl | cases hown
  refine ⟨by simp [h.len], by simpa [setBlock] using h.hB, ?_, ?_, ?_⟩
  · intro k o1 h1 hl
    rw [List.getElem?_set] at h1
    by_cases hk : b = k
    · subst hk; exact ⟨e, he⟩
    · rw [if_neg hk] at h1; exact h.has k o1 h1 hl
  · intro k o1 e1 h1 h2
    rw [List.getElem?_set] at h1
    by_cases hk : b = k
    · subst hk
      rw [if_pos rfl, if_pos hbl] at h1
      cases h1
      rw [he] at h2; cases h2
      exact ho
    · rw [if_neg hk] at h1
      refine (h.obj k o1 e1 h1 h2).mono (Sub.refl _) (fun hl => ?_)
      rw [setBlock_heap, if_neg]
      rintro ⟨hcb, _⟩
      exact hk (h.inj b k o o1 e e1 hb h1 he h2 hown hl hcb.symm)
  · intro k k' o1 o2 e1 e2 h1 h2 h3 h4 ho1 ho2 hcb
    have key : ∀ (k : Nat) (o1 : AObj), (σ.set b o')[k]? = some o1 → (k = b ∧ o1 = o') ∨ (k ≠ b ∧ σ[k]? = some o1) := fun k o1 h1 => by
      rw [List.getElem?_set] at h1
      by_cases hk : b = k
      · subst hk; rw [if_pos rfl, if_pos hbl] at h1; cases h1; exact .inl ⟨rfl, rfl⟩
      · rw [if_neg hk] at h1; exact .inr ⟨fun e => hk e.symm, h1⟩
    rcases key k o1 h1 with ⟨rfl, rfl⟩ | ⟨l1, l2⟩
    · rcases key k' o2 h2 with ⟨rfl, rfl⟩ | ⟨m1, m2⟩
      · rfl
      · exact h.inj k k' o o2 e1 e2 hb m2 h3 h4 hown ho2 hcb
    · rcases key k' o2 h2 with ⟨rfl, rfl⟩ | ⟨m1, m2⟩
      · exact h.inj k k' o1 o e1 e2 l2 hb h3 h4 ho1 hlive hcb
      · exact h.inj k k' o1 o2 e1 e2 l2 m2 h3 h4 ho1 ho2 hcb

/-- A block is given up. -/
theorem HR.kill (h : HR ex B μ σ w) (b : Nat) : HR ex B μ (σ.set b .dead) w := by
  have key : ∀ (k : Nat) (o1 : AObj), (σ.set b .dead)[k]? = some o1 → (o1 = .dead) ∨ (σ[k]? = some o1) := fun k o1 h1 => by
    rw [List.getElem?_set] at h1
    by_cases hk : b = k
    · subst hk
      rw [if_pos rfl] at h1
      split at h1
      · cases h1; exact .inl rfl
      · cases h1
    · rw [if_neg hk] at h1; exact .inr h1
  refine ⟨by simp [h.len], h.hB, ?_, ?_, ?_⟩
  · intro k o h1 hl
    rcases key k o h1 with rfl | h1
    · cases hl
    · exact h.has k o h1 hl
  · intro k o e h1 h2
    rcases key k o h1 with rfl | h1
    · trivial
    · exact h.obj k o e h1 h2
  · intro k k' o1 o2 e1 e2 h1 h2 h3 h4 ho1 ho2 hcb
    rcases key k o1 h1 with rfl | h1
    · cases ho1
    · rcases key k' o2 h2 with rfl | h2
      · cases ho2
      · exact h.inj k k' o1 o2 e1 e2 h1 h2 h3 h4 ho1 ho2 hcb

theorem Blw.setBlock' {B : Nat → Prop} {cb : Nat} (w : World) (ob : Obj) (h : ¬ B cb) : Blw B w (setBlock w cb ob) := by
  refine ⟨rfl, rfl, rfl, by simp [setBlock], fun k hk => ?_⟩
  rw [setBlock_heap, if_neg (by rintro ⟨e, _⟩; subst e; exact h hk)]
theorem Blw.push' {B : Nat → Prop} {w w' : World} {ob : Obj} (hw : w' = { w with heap := w.heap.push ob }) (h : ∀ k, B k → k < w.heap.size) : Blw B w w' := by
  subst hw
  refine ⟨rfl, rfl, rfl, by simp, fun k hk => ?_⟩
  rw [Array.getElem?_push, if_neg (by have := h k hk; omega)]

end Go.Lk
end

section
/- The operations that yield a value of their operands alone. -/
namespace Go.Lk

def ok1 : Value → Bool
  | .bool _ | .int .. | .string _ | .pointer none | .slice none _ _ | .nilFunc | .nilIface | .map none => true
  | .float _ x => !isNaN x
  | .complex _ x y => !isNaN x && !isNaN y
  | _ => false
def cOk : Value → Bool
  | .agg cs => cs.toList.all ok1
  | v => ok1 v

section
variable {ex : Bool} {μ : List (Option Ent)}

theorem cn_num {x : Nat} (h : isNaN x = false) : cn ex x = x := by cases ex <;> simp [cn, can_of_num h]
theorem VR.ok1 : ∀ {v : Value}, Lk.ok1 v = true → VR ex μ v v
  | .bool _, _ => .bool _
  | .int .., _ => .int ..
  | .string _, _ => .string _
  | .pointer none, _ => .pnil
  | .slice none _ _, _ => .snil ..
  | .nilFunc, _ => .nilFunc
  | .nilIface, _ => .nilIface
  | .map none, _ => .mapNil
  | .float k x, h => by
    have := VR.float (ex := ex) (μ := μ) k x
    rwa [cn_num (by simpa [Lk.ok1] using h)] at this
  | .complex k x y, h => by
    have h' : isNaN x = false ∧ isNaN y = false := by simpa [Lk.ok1] using h
    have := VR.complex (ex := ex) (μ := μ) k x y
    rwa [cn_num h'.1, cn_num h'.2] at this
theorem VRs.ok : ∀ {vs : List Value}, vs.all Lk.ok1 = true → VRs ex μ vs vs
  | [], _ => .nil
  | v :: vs, h => by
    simp only [List.all_cons, Bool.and_eq_true] at h
    exact .cons (VR.ok1 h.1) (VRs.ok h.2)
theorem VR.cOk {v : Value} (h : Lk.cOk v = true) : VR ex μ v v := by
  cases v <;> first | exact VR.ok1 h | exact VRs.toAgg (VRs.ok h)

/-- A slot of which nothing is known. -/
def isU : Value → Bool
  | .tuple cs => cs.size == 0
  | _ => false

/-- Frames. -/
def FrR (ex : Bool) (μ : List (Option Ent)) (fr : List Value) (tmps : Array Value) : Prop :=
  fr.length = tmps.size ∧ ∀ (i : Nat) (a : Value), fr[i]? = some a → ∃ c, tmps[i]? = some c ∧ (isU a = true ∨ VR ex μ a c)

def aev (fr : List Value) : Operand → Option Value
  | .tmp t => bif isU (fr.getD t undef) then none else some (fr.getD t undef)
  | .const v => bif cOk v then some v else none
  | .func f => some (.func (.func f) #[] #[])
  | .global _ => none

theorem FrR.getD {fr : List Value} {tmps : Array Value} (h : FrR ex μ fr tmps) (t : Nat) : isU (fr.getD t undef) = true ∨ VR ex μ (fr.getD t undef) (tmps.getD t undef) := by
  rw [List.getD_eq_getElem?_getD]
  cases hf : fr[t]? with
  | none => exact .inl rfl
  | some v =>
    obtain ⟨y, hy, hv⟩ := h.2 t v hf
    rw [Array.getD_eq_getD_getElem?, hy]
    exact hv

theorem aev_sound {fr : List Value} {a : Act} (h : FrR ex μ fr a.tmps) {x : Operand} {v : Value} (hx : aev fr x = some v) : VR ex μ v (a.eval x) := by
  cases x with
  | tmp t =>
    simp only [aev] at hx
    cases hu : isU (fr.getD t undef) <;> rw [hu] at hx <;> cases hx
    rcases h.getD t with h' | h'
    · rw [hu] at h'; cases h'
    · exact h'
  | const c =>
    simp only [aev] at hx
    cases hc : cOk c <;> rw [hc] at hx <;> cases hx
    exact VR.cOk hc
  | func f => cases hx; exact .func _ rfl rfl (fun i h => by simp at h) (fun i h => by simp at h)
  | global g => cases hx

/-- Only draws are made, and a value comes that is as the abstract one says. -/
def okv (P : Program) (ex : Bool) (μ : List (Option Ent)) (s : Sem Value) (v : Value) : Prop :=
  ∀ w : World, ∃ (n : Nat) (v' : Value), s.run P w = .ok v' { w with drawn := w.drawn + n } ∧ VR ex μ v v'

variable {P : Program}
theorem okv.of {s : Sem Value} {v v' : Value} (h : ∀ w, s.run P w = .ok v' w) (hv : VR ex μ v v') : okv P ex μ s v :=
  fun w => ⟨0, v', h w, hv⟩
theorem okv.pure {v v' : Value} (hv : VR ex μ v v') : okv P ex μ (pure v') v := .of (fun _ => rfl) hv

/-! ### Floats -/
def fgt (x y : Nat) : Bool := dbl.order x y == some .gt
def fge (x y : Nat) : Bool := dbl.order x y == some .gt || dbl.order x y == some .eq

def fbin (ex : Bool) (op : BinOp) (x y : Nat) : Option Value :=
  match op with
  | .add => bif ex then none else some (.float .f64 (fadd x y))
  | .sub => bif ex then none else some (.float .f64 (fsub x y))
  | .mul => bif ex then none else some (.float .f64 (fmul x y))
  | .quo => bif ex then none else some (.float .f64 (fdiv x y))
  | .eql => some (.bool (feq x y))
  | .neq => some (.bool (!feq x y))
  | .lss => some (.bool (flt x y))
  | .leq => some (.bool (fle x y))
  | .gtr => some (.bool (fgt x y))
  | .geq => some (.bool (fge x y))
  | _ => none

theorem order_cn (x y : Nat) : dbl.order (cn ex x) (cn ex y) = dbl.order x y := by
  cases ex
  · exact order_can x y
  · rfl

def fin (x y : Nat) : Option Nat → Sem Value
  | some r => pure (Value.float .f64 r)
  | none => do pure (Value.float .f64 (← choose (.nanBits .f64 x y)))

/-- Where the bits are drawn it is a NaN; else it is what the format says. -/
theorem run_fin {x y : Nat} {o : Option Nat} (hn : ∀ r, o = some r → isNaN r = false) (w : World) :
    ∃ (n r : Nat), (fin x y o).run P w = .ok (.float .f64 r) { w with drawn := w.drawn + n } ∧ can r = orN o := by
  cases o with
  | some r => exact ⟨0, r, by simp [fin], by rw [can_of_num (hn r rfl)]; rfl⟩
  | none =>
    refine ⟨1, Question.cut (.nanBits .f64 x y) (w.tape w.drawn (.nanBits .f64 x y)), by simp [fin, Question.forced], ?_⟩
    exact can_of_nan (isNaN_drawn _)

theorem VR.float_of {k : FloatKind} {x : Nat} {v : Value} (h : VR ex μ (.float k x) v) : ∃ x', v = .float k x' ∧ x = cn ex x' := by
  cases h; exact ⟨_, rfl, rfl⟩
theorem VR.complex_of {k : FloatKind} {x y : Nat} {v : Value} (h : VR ex μ (.complex k x y) v) : ∃ x' y', v = .complex k x' y' ∧ x = cn ex x' ∧ y = cn ex y' := by
  cases h; exact ⟨_, _, rfl, rfl, rfl⟩
theorem VR.int_of {k : IntKind} {n : Int} {v : Value} (h : VR ex μ (.int k n) v) : v = .int k n := by cases h; rfl
theorem VR.bool_of {b : Bool} {v : Value} (h : VR ex μ (.bool b) v) : v = .bool b := by cases h; rfl
theorem VR.string_of {s : ByteArray} {v : Value} (h : VR ex μ (.string s) v) : v = .string s := by cases h; rfl

theorem farith_sound {op : BinOp} {x y : Nat} {f : Nat → Nat → Option Nat} (hop : Op.floatArith op .f64 x y = fin x y (f x y))
    (hf : ∀ x y, f (can x) (can y) = f x y) (hn : ∀ x y r, f x y = some r → isNaN r = false) :
    okv P false μ (Op.floatArith op .f64 x y) (.float .f64 (orN (f (cn false x) (cn false y)))) := by
  intro w
  rw [hop]
  obtain ⟨n, r, h1, h2⟩ := run_fin (P := P) (x := x) (y := y) (hn x y) w
  refine ⟨n, _, h1, ?_⟩
  have : orN (f (cn false x) (cn false y)) = cn false r := by
    show orN (f (can x) (can y)) = can r
    rw [hf, h2]
  rw [this]
  exact .float _ _

theorem fbin_sound {op : BinOp} {x y : Nat} {v : Value} (h : fbin ex op (cn ex x) (cn ex y) = some v) (t : TypeId) :
    okv P ex μ (binOp op t (.float .f64 x) (.float .f64 y)) v := by
  cases op <;> simp only [fbin] at h <;> (try (cases h; done))
  case add => cases ex <;> cases h; exact farith_sound (op := .add) (f := dbl.add) rfl add_can (fun _ _ _ => add_num)
  case sub => cases ex <;> cases h; exact farith_sound (op := .sub) (f := dbl.sub) rfl sub_can (fun _ _ _ => sub_num)
  case mul => cases ex <;> cases h; exact farith_sound (op := .mul) (f := dbl.mul) rfl mul_can (fun _ _ _ => mul_num)
  case quo => cases ex <;> cases h; exact farith_sound (op := .quo) (f := dbl.div) rfl div_can (fun _ _ _ => div_num)
  all_goals
    cases h
    simp only [feq, flt, fle, fgt, fge, order_cn]
    exact .of (fun _ => rfl) (.bool _)

/-! ### Unary -/
theorem isNaN_xor (x : Nat) : isNaN (x ^^^ 2 ^ 63) = isNaN x := by
  have h : (x ^^^ 2 ^ 63) % dbl.signWeight = x % dbl.signWeight := by
    have hw : dbl.signWeight = 2 ^ 63 := by decide +kernel
    rw [hw, Nat.xor_mod_two_pow]
    simp
  unfold isNaN Ieee.Format.read
  simp only [h]
  split
  · rfl
  · split
    · rfl
    · split <;> rfl

def aneg (ex : Bool) (x : Nat) : Nat := bif ex then x ^^^ 2 ^ 63 else fneg x

theorem negFloat_cn (x : Nat) : aneg ex (cn ex x) = cn ex (Op.negFloat .f64 x) := by
  have e : Op.negFloat .f64 x = x ^^^ 2 ^ 63 := rfl
  rw [e]
  cases ex
  · show fneg (can x) = can (x ^^^ 2 ^ 63)
    unfold fneg
    rw [isNaN_can]
    cases h : isNaN x
    · rw [can_of_num h, can_of_num (by rw [isNaN_xor]; exact h)]; rfl
    · rw [can_of_nan (x := x ^^^ 2 ^ 63) (by rw [isNaN_xor]; exact h)]; rfl
  · rfl

def aUn (ex : Bool) (op : UnOp) (x : Value) : Option Value :=
  match op, x with
  | .neg, .int k n => some (.int k (k.wrap (0 - n)))
  | .neg, .float .f64 b => some (.float .f64 (aneg ex b))
  | .neg, .complex .f64 re im => some (.complex .f64 (aneg ex re) (aneg ex im))
  | .not, .bool b => some (.bool !b)
  | _, _ => none

theorem aUn_sound {op : UnOp} {x y v : Value} (h : aUn ex op x = some v) (hx : VR ex μ x y) : okv P ex μ (Op.unary op y) v := by
  unfold aUn at h
  split at h <;> cases h
  · rw [hx.int_of]; exact .of (fun _ => rfl) (.int _ _)
  · obtain ⟨x', rfl, rfl⟩ := hx.float_of
    rw [negFloat_cn]; exact .of (fun _ => rfl) (.float _ _)
  · obtain ⟨x', y', rfl, rfl, rfl⟩ := hx.complex_of
    rw [negFloat_cn, negFloat_cn]; exact .of (fun _ => rfl) (.complex _ _ _)
  · rw [hx.bool_of]; exact .of (fun _ => rfl) (.bool _)

end
end Go.Lk
end

section
/- More operations that yield a value of their operands alone: two operands; conversions. -/
namespace Go.Lk
set_option linter.unusedSimpArgs false

def ibin (op : BinOp) (k : IntKind) (a b : Int) : Option Value :=
  match op with
  | .add => some (.int k (k.wrap (a + b)))
  | .sub => some (.int k (k.wrap (a - b)))
  | .mul => some (.int k (k.wrap (a * b)))
  | .quo => if b = 0 then none else some (.int k (k.wrap (a.tdiv b)))
  | .rem => if b = 0 then none else some (.int k (a.tmod b))
  | .and => some (.int k (k.wrap (BitVec.ofInt k.bits a &&& BitVec.ofInt k.bits b).toNat))
  | .or => some (.int k (k.wrap (BitVec.ofInt k.bits a ||| BitVec.ofInt k.bits b).toNat))
  | .xor => some (.int k (k.wrap (BitVec.ofInt k.bits a ^^^ BitVec.ofInt k.bits b).toNat))
  | .andNot => some (.int k (k.wrap (BitVec.ofInt k.bits a &&& ~~~BitVec.ofInt k.bits b).toNat))
  | .eql => some (.bool (a == b))
  | .neq => some (.bool (a != b))
  | .lss => some (.bool (decide (a < b)))
  | .leq => some (.bool (decide (a ≤ b)))
  | .gtr => some (.bool (decide (a > b)))
  | .geq => some (.bool (decide (a ≥ b)))
  | _ => none

def shbin (op : BinOp) (k : IntKind) (a b : Int) : Option Value :=
  if b < 0 then none else
  match op with
  | .shl => some (.int k (k.wrap (a * 2 ^ (min b.toNat k.bits))))
  | .shr => some (.int k (a.fdiv (2 ^ (min b.toNat k.bits))))
  | _ => none

/-- One cell held against another one. -/
def eq1 (P : Program) (t : TypeId) (x y : Value) : Option Bool :=
  match P.underlying t, x, y with
  | some (.int _), .int k a, .int k' b => if k = k' then some (a == b) else none
  | some .bool, .bool a, .bool b => some (a == b)
  | some (.float _), .float .f64 a, .float .f64 b => some (feq a b)
  | some .string, .string a, .string b => some (a.toList == b.toList)
  | some (.pointer _), .pointer none, .pointer b => some b.isNone
  | some (.pointer _), .pointer (some _), .pointer none => some false
  | some (.slice _), .slice none _ _, .slice b _ _ => some b.isNone
  | some (.slice _), .slice (some _) _ _, .slice none _ _ => some false
  | _, _, _ => none

def cell1 (P : Program) (t : TypeId) : Bool :=
  match P.underlying t with
  | some (.int _) | some .bool | some (.float _) | some .string => true
  | _ => false

def eqFieldsA (P : Program) (xs ys : List Value) : List Field → Option Bool
  | [] => some true
  | f :: fs =>
    if f.name ≠ "_" then
      bif cell1 P f.type then
        match xs[f.offset]?, ys[f.offset]? with
        | some a, some b =>
          match eq1 P f.type a b with
          | some r => match eqFieldsA P xs ys fs with
            | some r' => some (r && r')
            | none => none
          | none => none
        | _, _ => none
      else none
    else none

def eqElemsA (P : Program) (e : TypeId) (xs ys : List Value) : List Nat → Option Bool
  | [] => some true
  | i :: is =>
    match xs[i]?, ys[i]? with
    | some a, some b =>
      match eq1 P e a b with
      | some r => match eqElemsA P e xs ys is with
        | some r' => some (r && r')
        | none => none
      | none => none
    | _, _ => none

def aEq (P : Program) (t : TypeId) (x y : Value) : Option Bool :=
  match x, y with
  | .agg xs, .agg ys =>
    bif P.eqGuardType P.depth t then none else
    match P.underlying t with
    | some (.struct _) => bif P.stoodInHeld t then none else eqFieldsA P xs.toList ys.toList (P.fieldsOf t).toList
    | some (.array len e) => bif cell1 P e && ((P.info? e).map (·.size) == some 1) then eqElemsA P e xs.toList ys.toList (List.range' 0 len) else none
    | _ => none
  | .nilIface, _ => none
  | _, .nilIface => none
  | x, y => eq1 P t x y

def eqOp (op : BinOp) (r : Option Bool) : Option Value :=
  match op, r with
  | .eql, some r => some (.bool r)
  | .neq, some r => some (.bool !r)
  | _, _ => none

def aBin (C : Program) (ex : Bool) (op : BinOp) (t : TypeId) (x y : Value) : Option Value :=
  match x, y with
  | .int k a, .int k' b =>
    match op with
    | .shl | .shr => shbin op k a b
    | _ => if k = k' then ibin op k a b else none
  | .float .f64 a, .float .f64 b => fbin ex op a b
  | .complex .f64 a b, .complex .f64 c d =>
    match op with
    | .add => bif ex then none else some (.complex .f64 (fadd a c) (fadd b d))
    | .sub => bif ex then none else some (.complex .f64 (fsub a c) (fsub b d))
    | .eql => some (.bool (feq a c && feq b d))
    | .neq => some (.bool !(feq a c && feq b d))
    | _ => none
  | .string a, .string b =>
    match op with
    | .eql => some (.bool (a.toList == b.toList))
    | .neq => some (.bool !(a.toList == b.toList))
    | _ => none
  | .bool a, y => eqOp op (aEq C t (.bool a) y)
  | .pointer a, y => eqOp op (aEq C t (.pointer a) y)
  | .slice a n c, y => eqOp op (aEq C t (.slice a n c) y)
  | .agg a, y => eqOp op (aEq C t (.agg a) y)
  | _, _ => none

section
variable {ex : Bool} {μ : List (Option Ent)} {P : Program}

theorem feq_cn (x y : Nat) : feq (cn ex x) (cn ex y) = feq x y := by unfold feq; rw [order_cn]

theorem ibin_sound {op : BinOp} {k : IntKind} {a b : Int} {v : Value} (h : ibin op k a b = some v) (hs : op ≠ .shl) (hs' : op ≠ .shr) (t : TypeId) :
    okv P ex μ (binOp op t (.int k a) (.int k b)) v := by
  cases op <;> simp only [ibin] at h <;> (try (cases h; done)) <;> (try contradiction)
  case quo =>
    split at h
    · cases h
    · rename_i hb; cases h
      refine .of (fun w => ?_) (.int _ _)
      simp [binOp, Op.intDiv, hb]
  case rem =>
    split at h
    · cases h
    · rename_i hb; cases h
      refine .of (fun w => ?_) (.int _ _)
      simp [binOp, Op.intDiv, hb]
  all_goals
    cases h
    refine .of (fun w => ?_) (by constructor)
    simp [binOp, Op.intArith, Op.intBits, Op.intCmp]

theorem shbin_sound {op : BinOp} {k k' : IntKind} {a b : Int} {v : Value} (h : shbin op k a b = some v) (t : TypeId) :
    okv P ex μ (binOp op t (.int k a) (.int k' b)) v := by
  unfold shbin at h
  split at h
  · cases h
  · rename_i hb
    cases op <;> simp only at h <;> (try (cases h; done))
    all_goals
      cases h
      refine .of (fun w => ?_) (.int _ _)
      simp [binOp, Op.shift, hb]

theorem eq1_sound {t : TypeId} {x y x' y' : Value} {r : Bool} (h : eq1 P t x y = some r) (hx : VR ex μ x x') (hy : VR ex μ y y') (d : Nat) (w : World) :
    (Op.equalIn (d + 1) t x' y').run P w = .ok r w := by
  unfold eq1 at h
  split at h
  case h_1 hu =>
    split at h
    · cases h
      rw [hx.int_of, hy.int_of]
      subst_vars
      simp [Op.equalIn, run_underlying hu]
    · cases h
  case h_2 hu => cases h; rw [hx.bool_of, hy.bool_of]; simp [Op.equalIn, run_underlying hu]
  case h_3 hu =>
    cases h
    obtain ⟨a, rfl, rfl⟩ := hx.float_of
    obtain ⟨b, rfl, rfl⟩ := hy.float_of
    rw [feq_cn]
    simp [Op.equalIn, run_underlying hu, Op.floatEq]
    rfl
  case h_4 hu => cases h; rw [hx.string_of, hy.string_of]; simp [Op.equalIn, run_underlying hu, beq_toListBytes]
  case h_5 hu => cases h; cases hx; cases hy <;> simp [Op.equalIn, run_underlying hu]
  case h_6 hu => cases h; cases hx; cases hy; simp [Op.equalIn, run_underlying hu]
  case h_7 hu => cases h; cases hx; cases hy <;> simp [Op.equalIn, run_underlying hu]
  case h_8 hu => cases h; cases hx <;> cases hy <;> simp [Op.equalIn, run_underlying hu]
  case h_9 => cases h

theorem run_part1 {t : TypeId} (h : cell1 P t = true) {cs : Array Value} {o : Nat} {v : Value} (hv : cs[o]? = some v) (w : World) :
    (part t cs o).run P w = .ok v w := by
  unfold cell1 at h
  split at h <;> first | (cases h; done) | (rename_i hu; simp [part, isAgg, run_underlying hu, hv])

theorem eqFieldsA_sound {xs ys xs' ys' : Array Value} (hx : VRs ex μ xs.toList xs'.toList) (hy : VRs ex μ ys.toList ys'.toList) (d : Nat) (w : World) :
    ∀ (fs : List Field) (r : Bool), eqFieldsA P xs.toList ys.toList fs = some r → (Op.eqFields (d + 1) xs' ys' fs).run P w = .ok r w := by
  intro fs
  induction fs with
  | nil => intro r h; cases h; rfl
  | cons f fs ih =>
    intro r h
    unfold eqFieldsA at h
    split at h
    · rename_i hn
      cases hc : cell1 P f.type with
      | false => rw [hc] at h; cases h
      | true =>
        rw [hc] at h
        simp only [cond_true] at h
        split at h
        · rename_i a b ha hb
          obtain ⟨a', ha', va⟩ := hx.2 _ _ ha
          obtain ⟨b', hb', vb⟩ := hy.2 _ _ hb
          split at h
          · rename_i r1 he
            split at h
            · rename_i r2 h2
              cases h
              have h3 := ih _ h2
              have h4 := eq1_sound he va vb d w
              rw [Array.getElem?_toList] at ha' hb'
              simp only [Op.eqFields, if_pos hn, Sem.run_bind, run_part1 hc ha', run_part1 hc hb', Result.andThen_ok, h4, Sem.run_ite]
              cases r1 <;> simp [h3]
            · cases h
          · cases h
        · cases h
    · cases h

def eqElems (d : Nat) (e : TypeId) (n : Nat) (xs ys : Array Value) : List Nat → Sem Bool
  | [] => pure true
  | i :: is => do
    let a ← part e xs (i * n)
    let b ← part e ys (i * n)
    let r ← Op.equalIn d e a b
    if (!r) = true then pure false else eqElems d e n xs ys is

theorem run_equalIn_array (w : World) (d : Nat) (t e : TypeId) (len n : Nat) (xs ys : Array Value) (ht : P.underlying t = some (.array len e))
    (hn : (P.info? e).map (·.size) = some n) :
    (Op.equalIn (d + 1) t (.agg xs) (.agg ys)).run P w = (eqElems d e n xs ys (List.range' 0 len)).run P w := by
  have hsz : ∀ w, (sizeOf e).run P w = .ok n w := by
    intro w
    cases hi : P.info? e with
    | none => rw [hi] at hn; cases hn
    | some i => rw [hi] at hn; cases hn; simp [sizeOf, typeInfo, hi]
  simp only [Op.equalIn, Sem.run_bind, run_underlying ht, Result.andThen_ok, hsz]
  rw [Std.Legacy.Range.forIn_eq_forIn_range']
  simp only [Std.Legacy.Range.size, Nat.sub_zero, Nat.add_sub_cancel, Nat.div_one]
  generalize List.range' 0 len = is
  clear ht
  induction is generalizing w with
  | nil => simp [eqElems]
  | cons i is ih =>
    simp only [List.forIn_cons, eqElems, Sem.run_bind, Sem.run_ite]
    generalize (part e xs (i * n)).run P w = r1
    cases r1 with
    | ok a w1 =>
      simp only [Result.andThen_ok]
      generalize (part e ys (i * n)).run P w1 = r2
      cases r2 with
      | ok b w2 =>
        simp only [Result.andThen_ok]
        generalize (Op.equalIn d e a b).run P w2 = r3
        cases r3 with
        | ok r w3 =>
          cases r
          · simp only [Result.andThen_ok, Bool.not_false, if_true, Sem.run_pure]
          · simp only [Result.andThen_ok, Bool.not_true, Bool.false_eq_true, if_false, Sem.run_pure]
            exact ih w3
        | halt x w3 => simp [Result.andThen]
      | halt x w2 => simp [Result.andThen]
    | halt x w1 => simp [Result.andThen]

theorem eqElemsA_sound {e : TypeId} {xs ys xs' ys' : Array Value} (hx : VRs ex μ xs.toList xs'.toList) (hy : VRs ex μ ys.toList ys'.toList)
    (hc : cell1 P e = true) (d : Nat) (w : World) :
    ∀ (is : List Nat) (r : Bool), eqElemsA P e xs.toList ys.toList is = some r → (eqElems (d + 1) e 1 xs' ys' is).run P w = .ok r w := by
  intro is
  induction is with
  | nil => intro r h; cases h; rfl
  | cons i is ih =>
    intro r h
    unfold eqElemsA at h
    split at h
    · rename_i a b ha hb
      obtain ⟨a', ha', va⟩ := hx.2 _ _ ha
      obtain ⟨b', hb', vb⟩ := hy.2 _ _ hb
      split at h
      · rename_i r1 he
        split at h
        · rename_i r2 h2
          cases h
          have h3 := ih _ h2
          have h4 := eq1_sound he va vb d w
          rw [Array.getElem?_toList] at ha' hb'
          simp only [eqElems, Nat.mul_one, Sem.run_bind, run_part1 hc ha', run_part1 hc hb', Result.andThen_ok, h4, Sem.run_ite]
          cases r1 <;> simp [h3]
        · cases h
      · cases h
    · cases h

theorem aEq_sound {t : TypeId} {x y x' y' : Value} {r : Bool} (h : aEq P t x y = some r) (hx : VR ex μ x x') (hy : VR ex μ y y') (w : World) :
    (Op.equal t x' y').run P w = .ok r w := by
  unfold Op.equal
  show (Op.equalIn (9998 + 1 + 1) t x' y').run P w = _
  unfold aEq at h
  split at h
  · rename_i xs ys
    obtain ⟨xs', rfl, vx⟩ := hx.agg_iff
    obtain ⟨ys', rfl, vy⟩ := hy.agg_iff
    cases hg : P.eqGuardType P.depth t <;> rw [hg] at h <;> simp only [cond_true, cond_false] at h
    · split at h
      · rename_i fs hu
        cases hst : P.stoodInHeld t <;> rw [hst] at h <;> simp only [cond_true, cond_false] at h
        · have hf : P.underlying t = some (.struct (P.fieldsOf t)) := by rw [hu]; simp [Program.fieldsOf, hu]
          rw [run_equalIn_struct w _ t xs' ys' hf hst]
          exact eqFieldsA_sound vx vy _ w _ r h
        · cases h
      · rename_i len e hu
        cases hc : (cell1 P e && ((P.info? e).map (·.size) == some 1)) <;> rw [hc] at h <;> simp only [cond_true, cond_false] at h
        · cases h
        · rw [Bool.and_eq_true] at hc
          rw [run_equalIn_array w _ t e len 1 xs' ys' hu (by simpa using hc.2)]
          exact eqElemsA_sound vx vy hc.1 _ w _ r h
      · cases h
    · cases h
  · cases h
  · cases h
  · exact eq1_sound h hx hy _ w


/-- The guard ahead of '==' lets by what is served here. -/
theorem eqGuard_ok {op : BinOp} {t : TypeId} {x y x' y' : Value} (a b : Operand) (h : op = .eql ∨ op = .neq → (∃ xs ys, x = .agg xs ∧ y = .agg ys) ∨ x = .nilIface → (aEq P t x y).isSome = true)
    (hx : VR ex μ x x') (hy : VR ex μ y y') (w : World) : (eqGuard op t a b x' y').run P w = .ok () w := by
  have main : (op = .eql ∨ op = .neq) → (eqGuard op t a b x' y').run P w = .ok () w := by
    intro hop
    have hs := h hop
    unfold eqGuard
    clear h
    rw [if_neg (by rcases hop with rfl | rfl <;> decide)]
    cases hx <;> (try rfl)
    · have := hs (.inr rfl); cases y <;> simp [aEq] at this
    · cases hy <;> (try rfl)
      have := hs (.inl ⟨_, _, rfl, rfl⟩)
      simp only [aEq] at this
      rename_i xs _ _ _ _ _ _ _
      cases hg : P.eqGuardType P.depth t
      · simp [hg]
      · rw [hg] at this; simp at this
  cases op
  case eql => exact main (.inl rfl)
  case neq => exact main (.inr rfl)
  all_goals rfl

end
end Go.Lk
end

section
/- Operations that yield a value of their operands alone: all of them. -/
namespace Go.Lk
set_option linter.unusedSimpArgs false
set_option linter.unusedVariables false

section defs
variable (P : Program)

def isAggD : TypeDesc → Bool
  | .struct _ | .array _ _ => true
  | _ => false

def tSize (t : TypeId) : Option Nat := (P.info? t).map (·.size)

def aPart (t : TypeId) (cs : List Value) (off : Nat) : Option Value :=
  match P.underlying t with
  | some d =>
    bif isAggD d then
      match tSize P t with
      | some n => some (.agg ((cs.drop off).take n).toArray)
      | none => none
    else cs[off]?
  | none => none

def aIndexAddr (t : TypeId) (x i : Value) : Option Value :=
  match P.underlying t, x, i with
  | some (.slice e), .slice (some ⟨b, o, _⟩) len _, .int _ n =>
    match tSize P e with
    | some s => if 0 ≤ n ∧ n < (len : Int) then some (.pointer (some ⟨b, o + n.toNat * s, none⟩)) else none
    | none => none
  | some (.array len e), .pointer (some ⟨b, o, none⟩), .int _ n =>
    match tSize P e with
    | some s => if 0 ≤ n ∧ n < (len : Int) then some (.pointer (some ⟨b, o + n.toNat * s, none⟩)) else none
    | none => none
  | _, _, _ => none

def aFieldAddr (s : TypeId) (x : Value) (f : Nat) : Option Value :=
  match P.underlying s, x with
  | some (.struct fields), .pointer (some ⟨b, o, none⟩) =>
    match fields[f]? with
    | some fl =>
      match tSize P fl.type with
      | some n => if n = 0 then none else some (.pointer (some ⟨b, o + fl.offset, none⟩))
      | none => none
    | none => none
  | _, _ => none

def aField (t : TypeId) (x : Value) (f : Nat) : Option Value :=
  match P.underlying t, x with
  | some (.struct fields), .agg cs =>
    match fields[f]? with
    | some fl => aPart P fl.type cs.toList fl.offset
    | none => none
  | _, _ => none

def aIndex (t : TypeId) (x i : Value) : Option Value :=
  match P.underlying t, x, i with
  | some (.array len e), .agg cs, .int _ n =>
    match tSize P e with
    | some s => if 0 ≤ n ∧ n < (len : Int) then aPart P e cs.toList (n.toNat * s) else none
    | none => none
  | some .string, .string s, .int _ n =>
    if 0 ≤ n then
      match s[n.toNat]? with
      | some b => some (.int .u8 b.toNat)
      | none => none
    else none
  | _, _, _ => none

def bnd (v : Option Value) (dflt y : Nat) : Option Nat :=
  match v with
  | none => some dflt
  | some (.int _ i) => if 0 ≤ i ∧ i ≤ (y : Int) then some i.toNat else none
  | some _ => none

/-- Low, high, and the most. -/
def bnds (len cap : Nat) (low high max : Option Value) : Option (Nat × Nat × Nat) :=
  match bnd max cap cap with
  | none => none
  | some m =>
    if max.isSome && high.isNone then none else
    match bnd high len (if max.isSome then m else cap) with
    | none => none
    | some h =>
      match bnd low 0 h with
      | none => none
      | some l => some (l, h, m)

def aSlice (t : TypeId) (x : Value) (low high max : Option Value) : Option Value :=
  match P.underlying t, x with
  | some (.array n e), .pointer (some ⟨b, o, none⟩) =>
    match tSize P e, bnds n n low high max with
    | some s, some (l, h, m) => some (.slice (some ⟨b, o + l * s, some s⟩) (h - l) (m - l))
    | _, _ => none
  | some (.slice e), .slice none len cap =>
    match tSize P e, bnds len cap low high max with
    | some _, some (l, h, m) => some (.slice none (h - l) (m - l))
    | _, _ => none
  | some (.slice e), .slice (some ⟨b, o, some z⟩) len cap =>
    match tSize P e, bnds len cap low high max with
    | some s, some (l, h, m) => if s = z ∧ h ≤ m then some (.slice (some ⟨b, o + l * s, some s⟩) (h - l) (m - l)) else none
    | _, _ => none
  | some .string, .string s =>
    bif max.isSome then none else
    match bnds s.size s.size low high none with
    | some (l, h, _) => some (.string (s.extract l h))
    | none => none
  | _, _ => none

def aConv (src dst : TypeId) (x : Value) : Option Value :=
  match P.underlying src, P.underlying dst, x with
  | some _, some (.int k), .int _ n => some (.int k (k.wrap n))
  | some _, some (.float .f64), .int _ n => some (.float .f64 (FloatKind.f64.nearest n))
  | some _, some (.int k), .float .f64 b =>
    match (dbl.read b).toInt .zero with
    | some n => if k.min ≤ n ∧ n ≤ k.max then some (.int k n) else none
    | none => none
  | some _, some (.float .f64), .float .f64 b => some (.float .f64 b)
  | some (.complex .f64), some (.complex .f64), .complex .f64 a b => some (.complex .f64 a b)
  | some .string, some .string, .string s => some (.string s)
  | _, _, _ => none

def aLen (t : TypeId) (x : Value) : Option Value :=
  match P.underlying t, x with
  | some .string, .string s => some (.int .i64 s.size)
  | some (.array n _), _ => some (.int .i64 n)
  | some (.slice _), .slice _ n _ => some (.int .i64 n)
  | _, _ => none

def fmax (x y : Nat) : Nat :=
  match dbl.order x y with
  | none => qnan
  | some .lt => y
  | some .gt => x
  | some .eq => if (dbl.read x).neg then y else x
def fmin (x y : Nat) : Nat :=
  match dbl.order x y with
  | none => qnan
  | some .lt => x
  | some .gt => y
  | some .eq => if (dbl.read x).neg then x else y

def aMax2 (ex : Bool) : Value → Value → Option Value
  | .int k x, .int _ y => some (.int k (if y > x then y else x))
  | .float .f64 x, .float .f64 y => bif ex then none else some (.float .f64 (fmax x y))
  | _, _ => none
def aMin2 (ex : Bool) : Value → Value → Option Value
  | .int k x, .int _ y => some (.int k (if y < x then y else x))
  | .float .f64 x, .float .f64 y => bif ex then none else some (.float .f64 (fmin x y))
  | _, _ => none
def fold2 (f : Value → Value → Option Value) : Value → List Value → Option Value
  | x, [] => some x
  | x, y :: ys => match f x y with | some z => fold2 f z ys | none => none

def aBuiltin (ex : Bool) (b : Builtin) (argTypes : List TypeId) (args : List Value) : Option Value :=
  match b, argTypes, args with
  | .len, t :: _, x :: _ => aLen P t x
  | .real, _, [.complex k re _] => some (.float k re)
  | .imag, _, [.complex k _ im] => some (.float k im)
  | .complex, _, [.float .f64 re, .float .f64 im] => some (.complex .f64 re im)
  | .max, _, x :: xs => fold2 (aMax2 ex) x xs
  | .min, _, x :: xs => fold2 (aMin2 ex) x xs
  | _, _, _ => none

def aNil : Value → Option Value
  | .pointer (some a) => some (.pointer (some a))
  | .func (.func f) a b => some (.func (.func f) a b)
  | _ => none

def mapO (f : Operand → Option Value) : List Operand → Option (List Value)
  | [] => some []
  | x :: xs => match f x, mapO f xs with
    | some v, some vs => some (v :: vs)
    | _, _ => none
def optO (f : Operand → Option Value) : Option Operand → Option (Option Value)
  | none => some none
  | some x => match f x with | some v => some (some v) | none => none

/-- THE PURE OPERATIONS. -/
def aPure (ex : Bool) (fr : List Value) (o : Op) : Option Value :=
  match o with
  | .move x | .assign x => aev fr x
  | .pick c a b =>
    match aev fr c with
    | some (.bool t) => bif t then aev fr a else aev fr b
    | _ => none
  | .nilCheck x => match aev fr x with | some v => aNil v | none => none
  | .binOp op t x y _ => match aev fr x, aev fr y with | some v, some u => aBin P ex op t v u | _, _ => none
  | .unOp op _ x => match aev fr x with | some v => aUn ex op v | none => none
  | .convert s d x => match aev fr x with | some v => aConv P s d v | none => none
  | .makeInterface t x => match aev fr x, P.underlying t with
    | some v, some d => match d with | .interface _ => none | _ => some (.iface t v)
    | _, _ => none
  | .makeFunc f xs ys => match mapO (aev fr) xs.toList, mapO (aev fr) ys.toList with | some vs, some us => some (.func f vs.toArray us.toArray) | _, _ => none
  | .slice t x lo hi mx =>
    match aev fr x, optO (aev fr) lo, optO (aev fr) hi, optO (aev fr) mx with
    | some v, some l, some h, some m => aSlice P t v l h m
    | _, _, _, _ => none
  | .fieldAddr s x f => match aev fr x with | some v => aFieldAddr P s v f | none => none
  | .field t x f => match aev fr x with | some v => aField P t v f | none => none
  | .indexAddr t x i => match aev fr x, aev fr i with | some v, some u => aIndexAddr P t v u | _, _ => none
  | .index t x i => match aev fr x, aev fr i with | some v, some u => aIndex P t v u | _, _ => none
  | .extract x i => match aev fr x with | some (.tuple vs) => vs[i]? | _ => none
  | .call { callee := .builtin b, args, argTypes } => match mapO (aev fr) args.toList with | some vs => aBuiltin P ex b argTypes.toList vs | none => none
  | _ => none
end defs

end Go.Lk
end

section
/- The pure operations do what the abstract ones say. -/
namespace Go.Lk
set_option linter.unusedSimpArgs false
set_option linter.unusedVariables false

variable {ex : Bool} {μ : List (Option Ent)} {P : Program}

theorem run_sizeOf' {t : TypeId} {n : Nat} (h : tSize P t = some n) (w : World) : (sizeOf t).run P w = .ok n w := by
  unfold tSize at h
  cases hi : P.info? t with
  | none => rw [hi] at h; cases h
  | some i => rw [hi] at h; cases h; simp [sizeOf, typeInfo, hi]

theorem run_isAgg' {t : TypeId} {d : TypeDesc} (h : P.underlying t = some d) (w : World) : (isAgg t).run P w = .ok (isAggD d) w := by
  cases d <;> simp [isAgg, run_underlying h, isAggD]

theorem part_sound {t : TypeId} {cs cs' : Array Value} {off : Nat} {v : Value} (h : aPart P t cs.toList off = some v) (hc : VRs ex μ cs.toList cs'.toList) :
    okv P ex μ (part t cs' off) v := by
  unfold aPart at h
  split at h
  · rename_i d hd
    cases ha : isAggD d <;> rw [ha] at h <;> simp only [cond_true, cond_false] at h
    · obtain ⟨y, hy, hv⟩ := hc.2 _ _ h
      rw [Array.getElem?_toList] at hy
      refine .of (fun w => ?_) hv
      simp [part, run_isAgg' hd, ha, hy]
    · split at h
      · rename_i n hn
        cases h
        refine .of (v' := .agg (cs'.extract off (off + n))) (fun w => ?_) ?_
        · simp [part, run_isAgg' hd, ha, run_sizeOf' hn]
        · apply VRs.toAgg
          have := (hc.drop off).take n
          simpa [Array.toList_extract, List.extract_eq_take_drop] using this
      · cases h
  · cases h

theorem indexAddr_sound {t : TypeId} {x i x' i' v : Value} (h : aIndexAddr P t x i = some v) (hx : VR ex μ x x') (hi : VR ex μ i i') :
    okv P ex μ (Instr.indexAt t x' i') v := by
  unfold aIndexAddr at h
  split at h
  · rename_i hu
    rw [hi.int_of]
    split at h
    · rename_i s hs
      split at h
      · rename_i hb
        cases h
        cases hx with
        | slice hm hc =>
          refine .of (fun w => ?_) (.ptr hm)
          simp [Instr.indexAt, asIntOf, run_underlying hu, hb.1, hb.2, run_sizeOf' hs, add_off, Nat.add_assoc]
        | sempty hm a => omega
      · cases h
    · cases h
  · rename_i hu
    rw [hi.int_of]
    split at h
    · rename_i s hs
      split at h
      · rename_i hb
        cases h
        cases hx with
        | ptr hm =>
          refine .of (fun w => ?_) (.ptr hm)
          simp [Instr.indexAt, asIntOf, Instr.sureAddr, run_underlying hu, hb.1, hb.2, run_sizeOf' hs, add_off, Nat.add_assoc]
      · cases h
    · cases h
  · cases h

theorem fieldAddr_sound {s : TypeId} {x x' v : Value} {f : Nat} (h : aFieldAddr P s x f = some v) (hx : VR ex μ x x') :
    okv P ex μ (Instr.fieldAt s x' f) v := by
  unfold aFieldAddr at h
  split at h
  · rename_i hu
    split at h
    · rename_i fl hf
      split at h
      · rename_i n hn
        split at h
        · cases h
        · rename_i hz
          cases h
          cases hx with
          | ptr hm =>
            refine .of (fun w => ?_) (.ptr hm)
            simp [Instr.fieldAt, Instr.sureAddr, fieldPlace, run_underlying hu, hf, run_sizeOf' hn, hz, add_off, Nat.add_assoc]
      · cases h
    · cases h
  · cases h

theorem field_sound {t : TypeId} {x x' v : Value} {f : Nat} (h : aField P t x f = some v) (hx : VR ex μ x x') :
    okv P ex μ (Instr.field t x' f) v := by
  unfold aField at h
  split at h
  · rename_i hu
    split at h
    · rename_i fl hf
      obtain ⟨cs', rfl, vc⟩ := hx.agg_iff
      intro w
      obtain ⟨n, v', h1, h2⟩ := part_sound h vc w
      refine ⟨n, v', ?_, h2⟩
      simp [Instr.field, run_underlying hu, hf, asAgg, h1]
    · cases h
  · cases h

theorem index_sound {t : TypeId} {x i x' i' v : Value} (h : aIndex P t x i = some v) (hx : VR ex μ x x') (hi : VR ex μ i i') :
    okv P ex μ (Instr.index t x' i') v := by
  unfold aIndex at h
  split at h
  · rename_i hu
    rw [hi.int_of]
    split at h
    · rename_i s hs
      split at h
      · rename_i hb
        obtain ⟨cs', rfl, vc⟩ := hx.agg_iff
        intro w
        obtain ⟨n, v', h1, h2⟩ := part_sound h vc w
        refine ⟨n, v', ?_, h2⟩
        simp [Instr.index, asIntOf, run_underlying hu, hb.1, hb.2, run_sizeOf' hs, h1]
      · cases h
    · cases h
  · rename_i hu
    rw [hi.int_of, hx.string_of]
    split at h
    · rename_i h0
      split at h
      · rename_i b hb
        cases h
        refine .of (fun w => ?_) (.int _ _)
        simp [Instr.index, asIntOf, run_underlying hu, h0, hb]
      · cases h
    · cases h
  · cases h

/-- Options, one by one. -/
def OR (ex : Bool) (μ : List (Option Ent)) : Option Value → Option Value → Prop
  | none, none => True
  | some a, some b => VR ex μ a b
  | _, _ => False

theorem bnd_some {v v' : Value} {d y n : Nat} (h : bnd (some v) d y = some n) (hv : VR ex μ v v') {y' : Nat} (hy : y ≤ y') (code : BoundsCode) (w : World) :
    (Instr.sliceBound v' y' code).run P w = .ok n w ∧ n ≤ y := by
  unfold bnd at h
  split at h
  · rename_i e; cases e
  · rename_i k i e
    cases e
    split at h
    · rename_i hb
      cases h
      rw [hv.int_of]
      refine ⟨?_, by omega⟩
      have : 0 ≤ i ∧ i ≤ (y' : Int) := by omega
      simp [Instr.sliceBound, asIntOf, this]
    · cases h
  · cases h

theorem bnds_sound {len cap cap' : Nat} {lo hi mx lo' hi' mx' : Option Value} {l h m : Nat} (hb : bnds len cap lo hi mx = some (l, h, m)) (hl : OR ex μ lo lo') (hh : OR ex μ hi hi')
    (hm : OR ex μ mx mx') (hc : cap ≤ cap') (isS : Bool) (w : World) :
    ∃ m', (Instr.sliceBounds isS len cap' lo' hi' mx').run P w = .ok (l, h, m') w ∧ ((mx.isSome = true ∧ m' = m ∧ m ≤ cap) ∨ (mx = none ∧ m = cap ∧ m' = cap')) ∧ l ≤ h ∧ (hi.isSome = true → h ≤ m) ∧ (hi = none → h = len) := by
  unfold bnds at hb
  cases mx with
  | none =>
    cases mx' with
    | some _ => exact hm.elim
    | none =>
      simp only [bnd, Option.isSome_none, Bool.false_and, Bool.false_eq_true, if_false] at hb
      cases hi with
      | none =>
        cases hi' with
        | some _ => exact hh.elim
        | none =>
          simp only at hb
          cases lo with
          | none =>
            cases lo' with
            | some _ => exact hl.elim
            | none =>
              simp only [bnd] at hb
              cases hb
              exact ⟨cap', by simp [Instr.sliceBounds], .inr ⟨rfl, rfl, rfl⟩, Nat.zero_le _, by simp, by simp⟩
          | some v =>
            cases lo' with
            | none => exact hl.elim
            | some v' =>
              split at hb
              · cases hb
              · rename_i l' hl'
                cases hb
                obtain ⟨r1, r2⟩ := bnd_some (P := P) hl' hl (Nat.le_refl _) .sliceB w
                exact ⟨cap', by simp [Instr.sliceBounds, r1], .inr ⟨rfl, rfl, rfl⟩, r2, by simp, by simp⟩
      | some u =>
        cases hi' with
        | none => exact hh.elim
        | some u' =>
          split at hb
          · cases hb
          · rename_i h' hh'
            obtain ⟨q1, q2⟩ := bnd_some (P := P) hh' hh hc (if isS then .sliceAcap else .sliceAlen) w
            cases lo with
            | none =>
              cases lo' with
              | some _ => exact hl.elim
              | none =>
                simp only [bnd] at hb
                cases hb
                exact ⟨cap', by simp [Instr.sliceBounds, q1], .inr ⟨rfl, rfl, rfl⟩, Nat.zero_le _, fun _ => q2, by simp⟩
            | some v =>
              cases lo' with
              | none => exact hl.elim
              | some v' =>
                split at hb
                · cases hb
                · rename_i l' hl'
                  cases hb
                  obtain ⟨r1, r2⟩ := bnd_some (P := P) hl' hl (Nat.le_refl _) .sliceB w
                  exact ⟨cap', by simp [Instr.sliceBounds, q1, r1], .inr ⟨rfl, rfl, rfl⟩, r2, fun _ => q2, by simp⟩
  | some z =>
    cases mx' with
    | none => exact hm.elim
    | some z' =>
      split at hb
      · cases hb
      · rename_i m1 hm1
        obtain ⟨p1, p2⟩ := bnd_some (P := P) hm1 hm hc (if isS then .slice3Acap else .slice3Alen) w
        cases hi with
        | none => simp at hb
        | some u =>
          cases hi' with
          | none => exact hh.elim
          | some u' =>
            simp only [Option.isSome_some, Option.isNone_some, Bool.and_false, Bool.false_eq_true, if_false, if_true] at hb
            split at hb
            · cases hb
            · rename_i h' hh'
              obtain ⟨q1, q2⟩ := bnd_some (P := P) hh' hh (Nat.le_refl _) .slice3B w
              cases lo with
              | none =>
                cases lo' with
                | some _ => exact hl.elim
                | none =>
                  simp only [bnd] at hb
                  cases hb
                  exact ⟨_, by simp [Instr.sliceBounds, p1, q1], .inl ⟨rfl, rfl, p2⟩, Nat.zero_le _, fun _ => q2, by simp⟩
              | some v =>
                cases lo' with
                | none => exact hl.elim
                | some v' =>
                  split at hb
                  · cases hb
                  · rename_i l' hl'
                    cases hb
                    obtain ⟨r1, r2⟩ := bnd_some (P := P) hl' hl (Nat.le_refl _) .slice3C w
                    exact ⟨_, by simp [Instr.sliceBounds, p1, q1, r1], .inl ⟨rfl, rfl, p2⟩, r2, fun _ => q2, by simp⟩

theorem slice_sound {t : TypeId} {x x' v : Value} {lo hi mx lo' hi' mx' : Option Value} (h : aSlice P t x lo hi mx = some v) (hx : VR ex μ x x')
    (hl : OR ex μ lo lo') (hh : OR ex μ hi hi') (hm : OR ex μ mx mx') : okv P ex μ (Instr.sliceAt t x' lo' hi' mx') v := by
  unfold aSlice at h
  split at h
  · rename_i n e b o hu
    split at h
    · rename_i s l hh' m hs hb
      cases h
      cases hx with
      | ptr hm' =>
        rename_i en
        by_cases hml : m = l
        · have hlh : l = hh' := by
            obtain ⟨m', _, h2, h3, h4, h5⟩ := bnds_sound (P := P) hb hl hh hm (Nat.le_refl _) false default
            cases hi with
            | none =>
              have := h5 rfl
              cases mx with
              | none =>
                rcases h2 with ⟨h, _⟩ | ⟨_, h, _⟩
                · cases h
                · omega
              | some z => simp [bnds] at hb; split at hb <;> simp at hb
            | some u => have := h4 rfl; omega
          refine .of (v' := .slice (some ⟨en.cb, en.base + o, none⟩) 0 0) (fun w => ?_) ?_
          · obtain ⟨m', h1, h2, _⟩ := bnds_sound (P := P) hb hl hh hm (Nat.le_refl _) false w
            have : m' = m := by rcases h2 with ⟨_, h, _⟩ | ⟨_, h, h'⟩ <;> omega
            subst this
            simp [Instr.sliceAt, Instr.sureAddr, run_underlying hu, h1, run_sizeOf' hs, hml, hlh]
          · subst hlh
            rw [hml, Nat.sub_self]
            exact .sempty hm' _
        · refine .of (v' := .slice (some ⟨en.cb, en.base + (o + l * s), none⟩) (hh' - l) (m - l)) (fun w => ?_) ?_
          · obtain ⟨m', h1, h2, _⟩ := bnds_sound (P := P) hb hl hh hm (Nat.le_refl _) false w
            have : m' = m := by rcases h2 with ⟨_, h, _⟩ | ⟨_, h, h'⟩ <;> omega
            subst this
            simp [Instr.sliceAt, Instr.sureAddr, run_underlying hu, h1, run_sizeOf' hs, hml, add_off, Nat.add_assoc]
          · exact .slice hm' (.inl rfl)
    · cases h
  · rename_i e len cap hu
    split at h
    · rename_i s l hh' m hs hb
      cases h
      cases hx with
      | snil =>
        refine .of (fun w => ?_) (.snil _ _)
        obtain ⟨m', h1, h2, _⟩ := bnds_sound (P := P) hb hl hh hm (Nat.le_refl _) true w
        have : m' = m := by rcases h2 with ⟨_, h, _⟩ | ⟨_, h, h'⟩ <;> omega
        subst this
        simp [Instr.sliceAt, Instr.slice, run_underlying hu, h1, run_sizeOf' hs]
    · cases h
  · rename_i e b o z len cap hu
    split at h
    · rename_i s l hh' m hs hb
      split at h
      · rename_i hsz
        obtain ⟨rfl, hlm⟩ := hsz
        cases h
        cases hx with
        | slice hm' hc =>
          rename_i cap' en
          have hcc : cap ≤ cap' := by rcases hc with h | ⟨_, _, h⟩ <;> omega
          obtain ⟨m', _, h2, h3, h4, h5⟩ := bnds_sound (P := P) hb hl hh hm hcc true default
          by_cases hml : m' = l
          · have hmm : m = l := by rcases h2 with ⟨_, h, _⟩ | ⟨_, h, h'⟩ <;> omega
            have hll : hh' = l := by omega
            subst hll
            rw [hmm, Nat.sub_self]
            refine .of (v' := .slice (some ⟨en.cb, en.base + o, none⟩) 0 0) (fun w => ?_) (.sempty hm' _)
            obtain ⟨m'', h1, h2', _⟩ := bnds_sound (P := P) hb hl hh hm hcc true w
            have : m'' = m' := by rcases h2 with ⟨q, h, _⟩ | ⟨q, h, h'⟩ <;> rcases h2' with ⟨q', k, _⟩ | ⟨q', k, k'⟩ <;> first | omega | (rw [q'] at q; cases q) | (rw [q] at q'; cases q')
            subst this
            simp [Instr.sliceAt, Instr.slice, run_underlying hu, h1, run_sizeOf' hs, hml]
          · refine .of (v' := .slice (some ⟨en.cb, en.base + (o + l * s), none⟩) (hh' - l) (m' - l)) (fun w => ?_) ?_
            · obtain ⟨m'', h1, h2', _⟩ := bnds_sound (P := P) hb hl hh hm hcc true w
              have : m'' = m' := by rcases h2 with ⟨q, h, _⟩ | ⟨q, h, h'⟩ <;> rcases h2' with ⟨q', k, _⟩ | ⟨q', k, k'⟩ <;> first | omega | (rw [q'] at q; cases q) | (rw [q] at q'; cases q')
              subst this
              simp [Instr.sliceAt, Instr.slice, run_underlying hu, h1, run_sizeOf' hs, hml, add_off, Nat.add_assoc]
            · refine .slice hm' ?_
              rcases h2 with ⟨_, h, _⟩ | ⟨_, h, h'⟩
              · left; omega
              · subst h h'
                rcases hc with h | ⟨ha, hb', hc'⟩
                · left; omega
                · right
                  refine ⟨ha, ?_, by omega⟩
                  rw [← hb', Nat.add_assoc, ← Nat.add_mul]
                  congr 2
                  omega
        | sempty hm' a =>
          obtain ⟨m', _, h2, h3, h4, h5⟩ := bnds_sound (P := P) hb hl hh hm (Nat.le_refl 0) true default
          have hm0 : m = 0 := by rcases h2 with ⟨_, h, _⟩ | ⟨_, h, h'⟩ <;> omega
          have hl0 : l = 0 := by omega
          have hh0 : hh' = 0 := by
            cases hi with
            | none => exact h5 rfl
            | some u => have := h4 rfl; omega
          subst hm0 hl0 hh0
          refine .of (v' := .slice (some a) 0 0) (fun w => ?_) ?_
          · obtain ⟨m'', h1, h2', _⟩ := bnds_sound (P := P) hb hl hh hm (Nat.le_refl 0) true w
            have : m'' = 0 := by rcases h2' with ⟨_, h, _⟩ | ⟨_, h, h'⟩ <;> omega
            subst this
            simp [Instr.sliceAt, Instr.slice, run_underlying hu, h1, run_sizeOf' hs]
          · simpa using VR.sempty hm' a
      · cases h
    · cases h
  · rename_i s hu
    cases hmx : mx.isSome <;> rw [hmx] at h <;> simp only [cond_true, cond_false] at h
    · cases mx with
      | some _ => cases hmx
      | none =>
        cases mx' with
        | some _ => exact hm.elim
        | none =>
          split at h
          · rename_i l hh' m hb
            cases h
            rw [hx.string_of]
            refine .of (fun w => ?_) (.string _)
            obtain ⟨m', h1, h2, _⟩ := bnds_sound (P := P) hb hl hh (show OR ex μ none none from trivial) (Nat.le_refl _) false w
            simp [Instr.sliceAt, Instr.slice, run_underlying hu, h1]
          · cases h
    · cases h
  · cases h

theorem toInt_cn {x : Nat} {n : Int} (h : (dbl.read (cn ex x)).toInt .zero = some n) : (dbl.read x).toInt .zero = some n := by
  cases ex
  · cases hx : isNaN x
    · simpa [cn, can_of_num hx] using h
    · obtain ⟨s', t', e'⟩ := read_nan (by rw [isNaN_can]; exact hx : isNaN (can x) = true)
      simp only [cn, cond_false, e'] at h
      cases h
  · exact h

theorem isNaN_nearest (n : Int) : isNaN (FloatKind.f64.nearest n) = false := isNaN_write (d := .number (n < 0) n.natAbs 0) rfl

theorem conv_sound {s d : TypeId} {x x' v : Value} (h : aConv P s d x = some v) (hx : VR ex μ x x') : okv P ex μ (convert s d x') v := by
  unfold aConv at h
  split at h
  · rename_i hs hd; cases h; rw [hx.int_of]
    refine .of (fun w => ?_) (.int _ _)
    rename_i u _ _ _
    cases u <;> simp [convert, run_underlying hs, run_underlying hd, Conv.intToInt]
  · rename_i hs hd; cases h; rw [hx.int_of]
    rename_i u n
    refine .of (v' := .float .f64 (FloatKind.f64.nearest n)) (fun w => ?_) ?_
    · cases u <;> simp [convert, run_underlying hs, run_underlying hd, Conv.intToFloat]
    · have := VR.float (ex := ex) (μ := μ) .f64 (FloatKind.f64.nearest n)
      rwa [cn_num (isNaN_nearest n)] at this
  · rename_i hs hd
    split at h
    · rename_i n hn
      split at h
      · rename_i hb
        cases h
        obtain ⟨b, rfl, rfl⟩ := hx.float_of
        have hn' := toInt_cn hn
        refine .of (fun w => ?_) (.int _ _)
        have hdec : (FloatKind.f64.decode b).toInt .zero = some n := hn'
        rename_i u _ _
        cases u <;> simp [convert, run_underlying hs, run_underlying hd, Conv.floatToInt, hdec, hb.1, hb.2]
      · cases h
    · cases h
  · rename_i hs hd; cases h
    obtain ⟨b, rfl, rfl⟩ := hx.float_of
    refine .of (fun w => ?_) (.float _ _)
    rename_i u
    cases u <;> simp [convert, run_underlying hs, run_underlying hd, Conv.floatToFloat]
  · rename_i hs hd; cases h
    obtain ⟨a, b, rfl, rfl, rfl⟩ := hx.complex_of
    refine .of (fun w => ?_) (.complex _ _ _)
    simp [convert, run_underlying hs, run_underlying hd, Conv.complexToComplex, Conv.floatToFloat]
  · rename_i hs hd; cases h; rw [hx.string_of]
    refine .of (fun w => ?_) (.string _)
    simp [convert, run_underlying hs, run_underlying hd]
  · cases h

theorem bin_sound {op : BinOp} {t : TypeId} {x y x' y' v : Value} (h : aBin P ex op t x y = some v) (hx : VR ex μ x x') (hy : VR ex μ y y') (a b : Operand) :
    okv P ex μ (do eqGuard op t a b x' y'; binOp op t x' y') v := by
  have hg : ∀ w, (eqGuard op t a b x' y').run P w = .ok () w := by
    refine eqGuard_ok a b ?_ hx hy
    rintro hop (⟨xs, ys, rfl, rfl⟩ | rfl)
    · rcases hop with rfl | rfl <;> (simp only [aBin, eqOp] at h; split at h <;> simp_all)
    · rcases hop with rfl | rfl <;> (unfold aBin at h; cases y <;> simp [aEq, eq1] at h)
  have key : okv P ex μ (binOp op t x' y') v → okv P ex μ (do eqGuard op t a b x' y'; binOp op t x' y') v := by
    intro h w
    obtain ⟨n, v', h1, h2⟩ := h w
    exact ⟨n, v', by simp [hg, h1], h2⟩
  refine key ?_
  clear key hg
  have eqop : ∀ {x : Value}, eqOp op (aEq P t x y) = some v → VR ex μ x x' → (∀ y w, (binOp .eql t x' y).run P w = (do pure (.bool (← Op.equal t x' y)) : Sem Value).run P w ∧
      (binOp .neq t x' y).run P w = (do pure (.bool (!(← Op.equal t x' y))) : Sem Value).run P w) → VR ex μ y y' → okv P ex μ (binOp op t x' y') v := by
    intro x h hx hb hy
    cases hr : aEq P t x y with
    | none => rw [hr] at h; cases op <;> cases h
    | some r =>
      rw [hr] at h
      have he := aEq_sound hr hx hy
      cases op <;> simp only [eqOp] at h <;> (try (cases h; done))
      · cases h
        exact .of (v' := .bool r) (fun w => by rw [(hb y' w).1]; simp [he]) (.bool _)
      · cases h
        exact .of (v' := .bool !r) (fun w => by rw [(hb y' w).2]; simp [he]) (.bool _)
  unfold aBin at h
  split at h
  · rw [hx.int_of, hy.int_of]
    split at h
    · exact shbin_sound h t
    · exact shbin_sound h t
    · rename_i h1 h2
      split at h
      · rename_i hk; subst hk; exact ibin_sound h h1 h2 t
      · cases h
  · obtain ⟨a, rfl, rfl⟩ := hx.float_of
    obtain ⟨b, rfl, rfl⟩ := hy.float_of
    exact fbin_sound h t
  · obtain ⟨a, b, rfl, rfl, rfl⟩ := hx.complex_of
    obtain ⟨c, d, rfl, rfl, rfl⟩ := hy.complex_of
    have two : ∀ {op : BinOp} {f : Nat → Nat → Option Nat}, (∀ x y, Op.floatArith op .f64 x y = fin x y (f x y)) → (∀ x y, f (can x) (can y) = f x y) → (∀ x y r, f x y = some r → isNaN r = false) →
        okv P false μ (do pure (Value.complex .f64 (← Op.Complex.arith op .f64 a c) (← Op.Complex.arith op .f64 b d))) (.complex .f64 (orN (f (cn false a) (cn false c))) (orN (f (cn false b) (cn false d)))) := by
      intro op f h1 h2 h3 w
      obtain ⟨n1, v1, e1, r1⟩ := farith_sound (P := P) (μ := μ) (h1 a c) h2 h3 w
      obtain ⟨x1, rfl, q1⟩ := r1.float_of
      obtain ⟨n2, v2, e2, r2⟩ := farith_sound (P := P) (μ := μ) (h1 b d) h2 h3 { w with drawn := w.drawn + n1 }
      obtain ⟨x2, rfl, q2⟩ := r2.float_of
      refine ⟨n1 + n2, .complex .f64 x1 x2, ?_, ?_⟩
      · simp [Op.Complex.arith, e1, e2, Nat.add_assoc]
      · rw [q1, q2]; exact .complex _ _ _
    split at h
    · cases ex <;> cases h
      exact two (op := .add) (f := dbl.add) (fun _ _ => rfl) add_can (fun _ _ _ => add_num)
    · cases ex <;> cases h
      exact two (op := .sub) (f := dbl.sub) (fun _ _ => rfl) sub_can (fun _ _ _ => sub_num)
    · cases h
      rw [feq_cn, feq_cn]
      refine .of (fun w => ?_) (.bool _)
      simp [binOp, Op.complexOp, Op.Complex.cmp, Op.floatCmp, asBool]
      rfl
    · cases h
      rw [feq_cn, feq_cn]
      refine .of (fun w => ?_) (.bool _)
      simp [binOp, Op.complexOp, Op.Complex.cmp, Op.floatCmp, asBool]
      rfl
    · cases h
  · rw [hx.string_of, hy.string_of]
    split at h
    · cases h; exact .of (fun _ => rfl) (.bool _)
    · cases h; exact .of (fun _ => rfl) (.bool _)
    · cases h
  · exact eqop h hx (by cases hx; exact fun y w => by cases y <;> exact ⟨rfl, rfl⟩) hy
  · exact eqop h hx (by cases hx <;> exact fun y w => by cases y <;> exact ⟨rfl, rfl⟩) hy
  · exact eqop h hx (by cases hx <;> exact fun y w => by cases y <;> exact ⟨rfl, rfl⟩) hy
  · exact eqop h hx (by cases hx; exact fun y w => by cases y <;> exact ⟨rfl, rfl⟩) hy
  · cases h

end Go.Lk
end

section
/- The pure operations: the theorem. -/
namespace Go.Lk
set_option linter.unusedSimpArgs false
set_option linter.unusedVariables false

variable {ex : Bool} {μ : List (Option Ent)} {P : Program}

/-- As okv, for an operation. -/
def okn (P : Program) (ex : Bool) (μ : List (Option Ent)) (s : Sem Next) (v : Value) : Prop :=
  ∀ w : World, ∃ (n : Nat) (v' : Value), s.run P w = .ok (.value v') { w with drawn := w.drawn + n } ∧ VR ex μ v v'

theorem okv.next {s : Sem Value} {v : Value} (h : okv P ex μ s v) : Lk.okn P ex μ (do Pure.pure (Next.value (← s))) v := by
  intro w
  obtain ⟨n, v', h1, h2⟩ := h w
  exact ⟨n, v', by simp [h1], h2⟩
theorem okn.pure {v v' : Value} (hv : VR ex μ v v') : Lk.okn P ex μ (Pure.pure (Next.value v')) v := fun w => ⟨0, v', rfl, hv⟩

theorem len_sound {tys : Array TypeId} {t : TypeId} {ts : List TypeId} {x : Value} {xs : List Value} {ys : Array Value} {ty : TypeId} {v : Value} (ht : tys.toList = t :: ts)
    (h : aLen P t x = some v) (hx : VRs ex μ (x :: xs) ys.toList) : okv P ex μ (Builtin.len_ tys ty ys) v := by
  obtain ⟨y, hy, hv⟩ := hx.2 0 x rfl
  rw [Array.getElem?_toList] at hy
  have ht0 : tys[0]? = some t := by rw [← Array.getElem?_toList, ht]; rfl
  unfold aLen at h
  split at h
  · rename_i hu; cases h; rw [hv.string_of] at hy
    refine .of (fun w => ?_) (.int _ _)
    simp [Builtin.len_, ht0, hy, run_underlying hu, goInt]
  · rename_i hu; cases h
    refine .of (fun w => ?_) (.int _ _)
    simp [Builtin.len_, ht0, hy, run_underlying hu, goInt]
  · rename_i hu; cases h
    cases hv <;> refine .of (fun w => ?_) (.int _ _) <;> simp [Builtin.len_, ht0, hy, run_underlying hu, goInt]
  · cases h

theorem fmax_cn (x y : Nat) : fmax (can x) (can y) = (match dbl.order x y with
    | none => qnan | some .lt => can y | some .gt => can x | some .eq => if (dbl.read x).neg then can y else can x) := by
  unfold fmax
  rw [order_can]
  cases ho : dbl.order x y with
  | none => rfl
  | some o =>
    cases o <;> first | rfl | skip
    have hx : isNaN x = false := by
      cases hx : isNaN x
      · rfl
      · obtain ⟨s, t, e⟩ := read_nan hx
        unfold Ieee.Format.order at ho; rw [e, order_nan_l] at ho; cases ho
    rw [can_of_num hx]
theorem fmin_cn (x y : Nat) : fmin (can x) (can y) = (match dbl.order x y with
    | none => qnan | some .lt => can x | some .gt => can y | some .eq => if (dbl.read x).neg then can x else can y) := by
  unfold fmin
  rw [order_can]
  cases ho : dbl.order x y with
  | none => rfl
  | some o =>
    cases o <;> first | rfl | skip
    have hx : isNaN x = false := by
      cases hx : isNaN x
      · rfl
      · obtain ⟨s, t, e⟩ := read_nan hx
        unfold Ieee.Format.order at ho; rw [e, order_nan_l] at ho; cases ho
    rw [can_of_num hx]

theorem can_cut (m : Bool) (a b t : Nat) : can (Question.cut (.nanMinMax .f64 m a b) t) = qnan := can_of_nan (isNaN_drawn t)

def maxS (a b : Nat) : Option Ordering → Sem Value
  | none => do pure (Value.float .f64 (← choose (.nanMinMax .f64 true a b)))
  | some .lt => pure (Value.float .f64 b)
  | some .gt => pure (Value.float .f64 a)
  | some .eq => pure (Value.float .f64 (if (dbl.read a).neg then b else a))
theorem max2_eq (a b : Nat) : Builtin.max2 (.float .f64 a) (.float .f64 b) = maxS a b (dbl.order a b) := by
  unfold Builtin.max2 maxS
  rfl
def minS (a b : Nat) : Option Ordering → Sem Value
  | none => do pure (Value.float .f64 (← choose (.nanMinMax .f64 false a b)))
  | some .lt => pure (Value.float .f64 a)
  | some .gt => pure (Value.float .f64 b)
  | some .eq => pure (Value.float .f64 (if (dbl.read a).neg then a else b))
theorem min2_eq (a b : Nat) : Builtin.min2 (.float .f64 a) (.float .f64 b) = minS a b (dbl.order a b) := by
  unfold Builtin.min2 minS
  rfl

theorem okv.drawn {q : Question} (hq : q.forced = false) (hn : ∀ t, can (q.cut t) = qnan) : Lk.okv P false μ (do Pure.pure (Value.float .f64 (← choose q))) (.float .f64 qnan) := by
  intro w
  refine ⟨1, .float .f64 (q.cut (w.tape w.drawn q)), by simp [hq], ?_⟩
  have := VR.float (ex := false) (μ := μ) .f64 (q.cut (w.tape w.drawn q))
  rwa [show cn false (q.cut (w.tape w.drawn q)) = qnan from hn _] at this

theorem max2_sound {x y z x' y' : Value} (h : aMax2 ex x y = some z) (hx : VR ex μ x x') (hy : VR ex μ y y') : okv P ex μ (Builtin.max2 x' y') z := by
  unfold aMax2 at h
  split at h
  · cases h; rw [hx.int_of, hy.int_of]; exact .of (fun _ => rfl) (.int _ _)
  · cases ex <;> cases h
    obtain ⟨a, rfl, rfl⟩ := hx.float_of
    obtain ⟨b, rfl, rfl⟩ := hy.float_of
    simp only [cn, cond_false]
    rw [fmax_cn, max2_eq]
    cases ho : dbl.order a b with
    | none => exact okv.drawn rfl (can_cut _ _ _)
    | some o =>
      cases o
      · exact okv.pure (.float _ _)
      · simp only
        split
        · rename_i h; exact okv.of (v' := .float .f64 b) (fun w => by simp only [maxS, h, if_true]; rfl) (.float _ _)
        · rename_i h; exact okv.of (v' := .float .f64 a) (fun w => by simp only [maxS, h, if_false]; rfl) (.float _ _)
      · exact okv.pure (.float _ _)
  · cases h

theorem min2_sound {x y z x' y' : Value} (h : aMin2 ex x y = some z) (hx : VR ex μ x x') (hy : VR ex μ y y') : okv P ex μ (Builtin.min2 x' y') z := by
  unfold aMin2 at h
  split at h
  · cases h; rw [hx.int_of, hy.int_of]; exact .of (fun _ => rfl) (.int _ _)
  · cases ex <;> cases h
    obtain ⟨a, rfl, rfl⟩ := hx.float_of
    obtain ⟨b, rfl, rfl⟩ := hy.float_of
    simp only [cn, cond_false]
    rw [fmin_cn, min2_eq]
    cases ho : dbl.order a b with
    | none => exact okv.drawn rfl (can_cut _ _ _)
    | some o =>
      cases o
      · exact okv.pure (.float _ _)
      · simp only
        split
        · rename_i h; exact okv.of (v' := .float .f64 a) (fun w => by simp only [minS, h, if_true]; rfl) (.float _ _)
        · rename_i h; exact okv.of (v' := .float .f64 b) (fun w => by simp only [minS, h, if_false]; rfl) (.float _ _)
      · exact okv.pure (.float _ _)
  · cases h

theorem fold2_sound {f : Value → Value → Option Value} {g : Value → Value → Sem Value} (hf : ∀ {x y z x' y'}, f x y = some z → VR ex μ x x' → VR ex μ y y' → okv P ex μ (g x' y') z) :
    ∀ (ys ys' : List Value) (x x' z : Value), fold2 f x ys = some z → VR ex μ x x' → VRs ex μ ys ys' → okv P ex μ (ys'.foldlM g x') z := by
  intro ys
  induction ys with
  | nil =>
    intro ys' x x' z h hx hy
    have : ys' = [] := by have := hy.1; simpa using this.symm
    subst this
    cases h
    exact okv.pure hx
  | cons y ys ih =>
    intro ys' x x' z h hx hy
    cases ys' with
    | nil => have := hy.1; simp at this
    | cons y' ys' =>
      unfold fold2 at h
      split at h
      · rename_i u hu
        have h1 : VR ex μ y y' := by obtain ⟨c, hc, hv⟩ := hy.2 0 y rfl; cases hc; exact hv
        have h2 : VRs ex μ ys ys' := ⟨by have := hy.1; simpa using this, fun i a ha => by simpa using hy.2 (i + 1) a (by simpa using ha)⟩
        intro w
        obtain ⟨n1, u', e1, r1⟩ := hf hu hx h1 w
        obtain ⟨n2, z', e2, r2⟩ := ih ys' u u' z h r1 h2 { w with drawn := w.drawn + n1 }
        refine ⟨n1 + n2, z', ?_, r2⟩
        simp [List.foldlM_cons, e1, e2, Nat.add_assoc]
      · cases h

theorem VRs.one_of {x : Value} {ys : List Value} (h : VRs ex μ [x] ys) : ∃ y, ys = [y] ∧ VR ex μ x y := by
  obtain ⟨y, hy, hv⟩ := h.2 0 x rfl
  have := h.1
  cases ys with
  | nil => simp at this
  | cons z zs =>
    cases zs with
    | nil => cases hy; exact ⟨_, rfl, hv⟩
    | cons _ _ => simp at this
theorem VRs.cons_of {x : Value} {xs ys : List Value} (h : VRs ex μ (x :: xs) ys) : ∃ y ys', ys = y :: ys' ∧ VR ex μ x y ∧ VRs ex μ xs ys' := by
  cases ys with
  | nil => have := h.1; simp at this
  | cons y ys' =>
    obtain ⟨c, hc, hv⟩ := h.2 0 x rfl
    cases hc
    exact ⟨y, ys', rfl, hv, by have := h.1; simpa using this, fun i a ha => by simpa using h.2 (i + 1) a (by simpa using ha)⟩
theorem arr_of {ys : Array Value} {l : List Value} (h : ys.toList = l) : ys = l.toArray := by rw [← h]

theorem builtin_sound {b : Builtin} {tys : Array TypeId} {xs : List Value} {ys : Array Value} {ty : TypeId} {cs : Array Bool} {v : Value}
    (h : aBuiltin P ex b tys.toList xs = some v) (hx : VRs ex μ xs ys.toList) : okn P ex μ (builtin b tys ty cs ys) v := by
  unfold aBuiltin at h
  split at h
  · rename_i t ts x xs' ht
    exact (len_sound ht h hx).next
  · cases h
    obtain ⟨y, hy, hv⟩ := hx.one_of
    rw [arr_of hy]
    obtain ⟨a, b, rfl, rfl, rfl⟩ := hv.complex_of
    exact okn.pure (.float _ _)
  · cases h
    obtain ⟨y, hy, hv⟩ := hx.one_of
    rw [arr_of hy]
    obtain ⟨a, b, rfl, rfl, rfl⟩ := hv.complex_of
    exact okn.pure (.float _ _)
  · cases h
    obtain ⟨y, ys', hy, hv, hr⟩ := hx.cons_of
    obtain ⟨z, rfl, hz⟩ := hr.one_of
    rw [arr_of hy]
    obtain ⟨a, rfl, rfl⟩ := hv.float_of
    obtain ⟨b, rfl, rfl⟩ := hz.float_of
    exact okn.pure (.complex _ _ _)
  · obtain ⟨y, ys', hy, hv, hr⟩ := hx.cons_of
    refine okv.next (s := Builtin.max_ tys ty ys) ?_
    unfold Builtin.max_
    rw [hy]
    exact fold2_sound (fun h hx hy => max2_sound h hx hy) _ _ _ _ _ h hv hr
  · obtain ⟨y, ys', hy, hv, hr⟩ := hx.cons_of
    refine okv.next (s := Builtin.min_ tys ty ys) ?_
    unfold Builtin.min_
    rw [hy]
    exact fold2_sound (fun h hx hy => min2_sound h hx hy) _ _ _ _ _ h hv hr
  · cases h

theorem mapO_sound {fr : List Value} {a : Act} (hf : FrR ex μ fr a.tmps) : ∀ {xs : List Operand} {vs : List Value}, mapO (aev fr) xs = some vs → VRs ex μ vs (xs.map a.eval)
  | [], vs, h => by cases h; exact .nil
  | x :: xs, vs, h => by
    unfold mapO at h
    split at h
    · rename_i v vs' h1 h2
      cases h
      exact .cons (aev_sound hf h1) (mapO_sound hf h2)
    · cases h

theorem optO_sound {fr : List Value} {a : Act} (hf : FrR ex μ fr a.tmps) {x : Option Operand} {v : Option Value} (h : optO (aev fr) x = some v) : OR ex μ v (x.map a.eval) := by
  cases x with
  | none => cases h; trivial
  | some x =>
    unfold optO at h
    simp only at h
    split at h
    · rename_i v' h1; cases h; exact aev_sound hf h1
    · cases h

theorem nil_sound {x y v : Value} (h : aNil x = some v) (hx : VR ex μ x y) : v = x ∧ ∀ w, (match y with
    | .pointer none | .nilIface | .nilFunc => runtimePanic .nilDeref
    | .func (.method name) first captured =>
      match (first[0]? : Option Value) with
      | some .nilIface => runtimePanic .nilDeref
      | some (.iface t w) => do
        if (← nilAhead ((← program).types.size + Made.depth) t w name) != some false then
          unsupported (.noEntry "op/nilCheck.the method's receiver behind this interface value is a nil pointer, or cannot be seen to be none, and the arguments act or may panic (ledger 612)")
        pure (.value (.func (.method name) first captured))
      | _ => pure (.value (.func (.method name) first captured))
    | x => pure (.value x) : Sem Next).run P w = .ok (.value y) w := by
  unfold aNil at h
  split at h
  · cases h; cases hx; exact ⟨rfl, fun _ => rfl⟩
  · cases h; cases hx; exact ⟨rfl, fun _ => rfl⟩
  · cases h

theorem aPure_sound {fr : List Value} {a : Act} {o : Oper} {v : Value} (h : aPure P ex fr o.op = some v) (hf : FrR ex μ fr a.tmps) :
    okn P ex μ (execOp a.eval o) v := by
  obtain ⟨dst, op, ty, pos, after, guard⟩ := o
  unfold aPure at h
  simp only at h
  split at h
  · exact okn.pure (aev_sound hf h)
  · exact okn.pure (aev_sound hf h)
  · split at h
    · rename_i t hc
      have := (aev_sound hf hc).bool_of
      intro w
      refine ⟨0, bif t then a.eval _ else a.eval _, by simp only [execOp, this, asBool]; cases t <;> rfl, ?_⟩
      cases t
      · exact aev_sound hf h
      · exact aev_sound hf h
    · cases h
  · split at h
    · rename_i x' hx
      have hv := aev_sound hf hx
      obtain ⟨rfl, hr⟩ := nil_sound (P := P) h hv
      exact fun w => ⟨0, _, hr w, hv⟩
    · cases h
  · split at h
    · rename_i h1 h2
      exact (bin_sound h (aev_sound hf h1) (aev_sound hf h2) _ _).next
    · cases h
  · split at h
    · rename_i h1; exact (aUn_sound h (aev_sound hf h1)).next
    · cases h
  · split at h
    · rename_i h1; exact (conv_sound h (aev_sound hf h1)).next
    · cases h
  · split at h
    · rename_i v' d h1 hd
      split at h
      · cases h
      · rename_i hni
        cases h
        refine okv.next (.of (fun w => ?_) (.iface _ (aev_sound hf h1)))
        cases d <;> simp [Instr.makeInterface, run_underlying hd] at hni ⊢
    · cases h
  · split at h
    · rename_i h1 h2
      cases h
      have k1 := mapO_sound hf h1
      have k2 := mapO_sound hf h2
      refine okv.next (s := Instr.makeFunc _ _ _) (.of (fun w => rfl) ?_)
      obtain ⟨e1, j1⟩ := VRs.elems (ex := ex) (μ := μ) (c := List.toArray _) (c' := Array.map a.eval _) (by simpa using k1)
      obtain ⟨e2, j2⟩ := VRs.elems (ex := ex) (μ := μ) (c := List.toArray _) (c' := Array.map a.eval _) (by simpa using k2)
      exact .func _ e1 e2 j1 j2
    · cases h
  · split at h
    · rename_i h1 h2 h3 h4
      exact (slice_sound h (aev_sound hf h1) (optO_sound hf h2) (optO_sound hf h3) (optO_sound hf h4)).next
    · cases h
  · split at h
    · rename_i h1; exact (fieldAddr_sound h (aev_sound hf h1)).next
    · cases h
  · split at h
    · rename_i h1; exact (field_sound h (aev_sound hf h1)).next
    · cases h
  · split at h
    · rename_i h1 h2; exact (indexAddr_sound h (aev_sound hf h1) (aev_sound hf h2)).next
    · cases h
  · split at h
    · rename_i h1 h2; exact (index_sound h (aev_sound hf h1) (aev_sound hf h2)).next
    · cases h
  · split at h
    · rename_i vs h1
      have hv := aev_sound hf h1
      obtain ⟨vs', hv', hvs⟩ := hv.tuple_iff
      obtain ⟨y, hy, hr⟩ := hvs.2 _ v (by simpa using h)
      rw [Array.getElem?_toList] at hy
      refine okv.next (.of (v' := y) (fun w => ?_) hr)
      simp [Instr.extract, hv', hy]
    · cases h
  · split at h
    · rename_i h1
      have := mapO_sound hf h1
      exact builtin_sound (ys := Array.map a.eval _) h (by simpa using this)
    · cases h
  · cases h

end Go.Lk
end
