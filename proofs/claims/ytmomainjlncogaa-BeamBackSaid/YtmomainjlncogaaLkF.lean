/- Floats for the abstract interpreter: words of binary64 with all NaN alike. -/
import Derived.Laws.FloatBits
import Derived.Laws.Sem
import GoSem.Dispatch
namespace Go.Lk
open Ieee (Format Datum)

abbrev dbl : Format := Ieee.double
def qnan : Nat := 9221120237041090561
def isNaN (x : Nat) : Bool := (dbl.read x).isNaN
def can (x : Nat) : Nat := bif isNaN x then qnan else x
def orN (o : Option Nat) : Nat := o.getD qnan

theorem isNaN_qnan : isNaN qnan = true := by decide +kernel
theorem can_of_nan {x : Nat} (h : isNaN x = true) : can x = qnan := by simp [can, h]
theorem can_of_num {x : Nat} (h : isNaN x = false) : can x = x := by simp [can, h]
theorem isNaN_can (x : Nat) : isNaN (can x) = isNaN x := by
  cases h : isNaN x
  · rw [can_of_num h, h]
  · rw [can_of_nan h, isNaN_qnan]
theorem can_can (x : Nat) : can (can x) = can x := by
  cases h : isNaN x
  · rw [can_of_num h, can_of_num h]
  · rw [can_of_nan h, can_of_nan isNaN_qnan]

theorem read_nan {x : Nat} (h : isNaN x = true) : ∃ s t, dbl.read x = .nan s t := by
  unfold isNaN Datum.isNaN at h
  split at h
  · rename_i s t e; exact ⟨s, t, e⟩
  · cases h

theorem sum_nan_l (s : Bool) (t : Nat) (d : Datum) : (Datum.nan s t).sum d = none := by cases d <;> rfl
theorem sum_nan_r (s : Bool) (t : Nat) (d : Datum) : d.sum (Datum.nan s t) = none := by cases d <;> rfl
theorem product_nan_l (s : Bool) (t : Nat) (d : Datum) : (Datum.nan s t).product d = none := by cases d <;> rfl
theorem product_nan_r (s : Bool) (t : Nat) (d : Datum) : d.product (Datum.nan s t) = none := by cases d <;> rfl
theorem quotient_nan_l (n : Nat) (s : Bool) (t : Nat) (d : Datum) : (Datum.nan s t).quotient n d = none := by cases d <;> rfl
theorem quotient_nan_r (n : Nat) (s : Bool) (t : Nat) (d : Datum) : d.quotient n (Datum.nan s t) = none := by cases d <;> rfl
theorem order_nan_l (s : Bool) (t : Nat) (d : Datum) : (Datum.nan s t).order d = none := by cases d <;> rfl
theorem order_nan_r (s : Bool) (t : Nat) (d : Datum) : d.order (Datum.nan s t) = none := by cases d <;> rfl

theorem opp_nan (s : Bool) (t : Nat) : (Datum.nan s t).opposite = .nan (!s) t := rfl

theorem add_can (x y : Nat) : dbl.add (can x) (can y) = dbl.add x y := by
  unfold Format.add
  cases hx : isNaN x
  · cases hy : isNaN y
    · rw [can_of_num hx, can_of_num hy]
    · obtain ⟨s, t, e⟩ := read_nan hy
      obtain ⟨s', t', e'⟩ := read_nan (by rw [isNaN_can]; exact hy : isNaN (can y) = true)
      rw [e, e', sum_nan_r, sum_nan_r]
  · obtain ⟨s, t, e⟩ := read_nan hx
    obtain ⟨s', t', e'⟩ := read_nan (by rw [isNaN_can]; exact hx : isNaN (can x) = true)
    rw [e, e', sum_nan_l, sum_nan_l]
theorem sub_can (x y : Nat) : dbl.sub (can x) (can y) = dbl.sub x y := by
  unfold Format.sub
  cases hx : isNaN x
  · cases hy : isNaN y
    · rw [can_of_num hx, can_of_num hy]
    · obtain ⟨s, t, e⟩ := read_nan hy
      obtain ⟨s', t', e'⟩ := read_nan (by rw [isNaN_can]; exact hy : isNaN (can y) = true)
      rw [e, e', opp_nan, opp_nan, sum_nan_r, sum_nan_r]
  · obtain ⟨s, t, e⟩ := read_nan hx
    obtain ⟨s', t', e'⟩ := read_nan (by rw [isNaN_can]; exact hx : isNaN (can x) = true)
    rw [e, e', sum_nan_l, sum_nan_l]
theorem mul_can (x y : Nat) : dbl.mul (can x) (can y) = dbl.mul x y := by
  unfold Format.mul
  cases hx : isNaN x
  · cases hy : isNaN y
    · rw [can_of_num hx, can_of_num hy]
    · obtain ⟨s, t, e⟩ := read_nan hy
      obtain ⟨s', t', e'⟩ := read_nan (by rw [isNaN_can]; exact hy : isNaN (can y) = true)
      rw [e, e', product_nan_r, product_nan_r]
  · obtain ⟨s, t, e⟩ := read_nan hx
    obtain ⟨s', t', e'⟩ := read_nan (by rw [isNaN_can]; exact hx : isNaN (can x) = true)
    rw [e, e', product_nan_l, product_nan_l]
theorem div_can (x y : Nat) : dbl.div (can x) (can y) = dbl.div x y := by
  unfold Format.div
  cases hx : isNaN x
  · cases hy : isNaN y
    · rw [can_of_num hx, can_of_num hy]
    · obtain ⟨s, t, e⟩ := read_nan hy
      obtain ⟨s', t', e'⟩ := read_nan (by rw [isNaN_can]; exact hy : isNaN (can y) = true)
      rw [e, e', quotient_nan_r, quotient_nan_r]
  · obtain ⟨s, t, e⟩ := read_nan hx
    obtain ⟨s', t', e'⟩ := read_nan (by rw [isNaN_can]; exact hx : isNaN (can x) = true)
    rw [e, e', quotient_nan_l, quotient_nan_l]
theorem order_can (x y : Nat) : dbl.order (can x) (can y) = dbl.order x y := by
  unfold Format.order
  cases hx : isNaN x
  · cases hy : isNaN y
    · rw [can_of_num hx, can_of_num hy]
    · obtain ⟨s, t, e⟩ := read_nan hy
      obtain ⟨s', t', e'⟩ := read_nan (by rw [isNaN_can]; exact hy : isNaN (can y) = true)
      rw [e, e', order_nan_r, order_nan_r]
  · obtain ⟨s, t, e⟩ := read_nan hx
    obtain ⟨s', t', e'⟩ := read_nan (by rw [isNaN_can]; exact hx : isNaN (can x) = true)
    rw [e, e', order_nan_l, order_nan_l]
theorem sqrt_can (x : Nat) : dbl.sqrt (can x) = dbl.sqrt x := by
  unfold Format.sqrt
  cases hx : isNaN x
  · rw [can_of_num hx]
  · obtain ⟨s, t, e⟩ := read_nan hx
    obtain ⟨s', t', e'⟩ := read_nan (by rw [isNaN_can]; exact hx : isNaN (can x) = true)
    rw [e, e']; rfl

/-- A word of a rung up to infinity's is no NaN. -/
theorem isNaN_word (s : Bool) {r : Nat} (h : r ≤ dbl.infRung) : isNaN (dbl.word s r) = false := by
  have hi : dbl.infRung < dbl.signWeight := by decide +kernel
  have e : dbl.word s r % dbl.signWeight = r := by
    unfold Format.word
    split
    · rw [Nat.add_mod_left]; exact Nat.mod_eq_of_lt (by omega)
    · exact Nat.mod_eq_of_lt (by omega)
  unfold isNaN Format.read
  simp only [e]
  split
  · rfl
  · split
    · rfl
    · split
      · rfl
      · omega

theorem isNaN_write {d : Datum} (h : d.isNaN = false) : isNaN (dbl.write d) = false := by
  cases d with
  | nan s t => simp [Datum.isNaN] at h
  | infinity s => exact isNaN_word s (Nat.le_refl _)
  | number s m p =>
    show isNaN (dbl.nearest s m p) = false
    unfold Format.nearest
    split
    · exact isNaN_word s (Nat.zero_le _)
    · exact isNaN_word s (Nat.min_le_right ..)

theorem sum_num {d e f : Datum} (h : d.sum e = some f) : f.isNaN = false := by
  cases d <;> cases e <;> simp only [Datum.sum] at h <;> (try cases h) <;> (try rfl)
  split at h <;> cases h; rfl
theorem product_num {d e f : Datum} (h : d.product e = some f) : f.isNaN = false := by
  cases d <;> cases e <;> simp only [Datum.product] at h <;> (try cases h) <;> (try rfl)
  all_goals (split at h <;> cases h; rfl)
theorem quotient_num {n : Nat} {d e f : Datum} (h : d.quotient n e = some f) : f.isNaN = false := by
  cases d <;> cases e <;> simp only [Datum.quotient] at h <;> (try cases h) <;> (try rfl)
  split at h
  · split at h <;> cases h; rfl
  · cases h; rfl
theorem root_num {n : Nat} {d f : Datum} (h : d.root n = some f) : f.isNaN = false := by
  cases d <;> simp only [Datum.root] at h
  · split at h
    · cases h; rfl
    · split at h <;> cases h; rfl
  · split at h <;> cases h; rfl
  · cases h

theorem num_of_map {o : Option Datum} {r : Nat} (hn : ∀ f, o = some f → f.isNaN = false) (h : o.map dbl.write = some r) : isNaN r = false := by
  cases o with
  | none => cases h
  | some f => cases h; exact isNaN_write (hn f rfl)

theorem add_num {x y r : Nat} (h : dbl.add x y = some r) : isNaN r = false := num_of_map (fun _ => sum_num) h
theorem sub_num {x y r : Nat} (h : dbl.sub x y = some r) : isNaN r = false := num_of_map (fun _ => sum_num) h
theorem mul_num {x y r : Nat} (h : dbl.mul x y = some r) : isNaN r = false := num_of_map (fun _ => product_num) h
theorem div_num {x y r : Nat} (h : dbl.div x y = some r) : isNaN r = false := num_of_map (fun _ => quotient_num) h
theorem sqrt_num {x r : Nat} (h : dbl.sqrt x = some r) : isNaN r = false := num_of_map (fun _ => root_num) h

/-- What the tape gives for a NaN is one. -/
theorem isNaN_drawn (t : Nat) : isNaN ((t % 2) * 2 ^ 63 + 9218868437227405312 + 1 + (t / 2) % (2 ^ 52 - 1)) = true := by
  have hb : dbl.signWeight = 9223372036854775808 := by decide +kernel
  have hi : dbl.infRung = 9218868437227405312 := by decide +kernel
  have hbin : dbl.binade = 4503599627370496 := by decide +kernel
  have e : ((t % 2) * 2 ^ 63 + 9218868437227405312 + 1 + (t / 2) % (2 ^ 52 - 1)) % dbl.signWeight = 9218868437227405312 + 1 + (t / 2) % (2 ^ 52 - 1) := by
    rw [hb]
    omega
  unfold isNaN Format.read
  simp only [e, hi, hbin]
  have : (t / 2) % (2 ^ 52 - 1) < 2 ^ 52 - 1 := Nat.mod_lt _ (by decide)
  rw [if_neg (by omega), if_neg (by omega), if_neg (by omega)]
  rfl

def fadd (x y : Nat) : Nat := orN (dbl.add x y)
def fsub (x y : Nat) : Nat := orN (dbl.sub x y)
def fmul (x y : Nat) : Nat := orN (dbl.mul x y)
def fdiv (x y : Nat) : Nat := orN (dbl.div x y)
def fsqrt (x : Nat) : Nat := orN (dbl.sqrt x)
def fneg (x : Nat) : Nat := bif isNaN x then qnan else x ^^^ 2 ^ 63
def feq (x y : Nat) : Bool := dbl.order x y == some .eq
def flt (x y : Nat) : Bool := dbl.order x y == some .lt
def fle (x y : Nat) : Bool := dbl.order x y == some .lt || dbl.order x y == some .eq

end Go.Lk
