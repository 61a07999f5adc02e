/- The program's head: what is asked of it by each row. -/
import Derived.Test.YtmomainjlncogaaProg
import Derived.JoinedOf
import Derived.KernelRfl
namespace Go.Lk
open Go.Proofs
set_option maxRecDepth 100000
theorem toList_lit (l : List Char) : (String.ofList l).toList = l := String.toList_ofList
theorem words_cons : ∀ (w r : List Char), (w.all fun c => c != Char.ofNat 32) = true → wordsSigns (w ++ Char.ofNat 32 :: r) = w :: wordsSigns r
  | [], r, _ => rfl
  | c :: w, r, h => by
    rw [List.all_cons, Bool.and_eq_true] at h
    have hc : c = Char.ofNat 32 → False := by simpa using h.1
    rw [List.cons_append, wordsSigns.eq_3 c _ hc, words_cons w r h.2]
def hw0 : List Char := [Char.ofNat 104, Char.ofNat 97, Char.ofNat 114, Char.ofNat 110, Char.ofNat 101, Char.ofNat 115, Char.ofNat 115]
def hw1 : List Char := [Char.ofNat 99, Char.ofNat 100, Char.ofNat 100, Char.ofNat 97, Char.ofNat 51, Char.ofNat 100, Char.ofNat 55, Char.ofNat 99, Char.ofNat 99, Char.ofNat 53, Char.ofNat 57, Char.ofNat 51, Char.ofNat 50, Char.ofNat 55, Char.ofNat 48, Char.ofNat 52, Char.ofNat 48, Char.ofNat 49, Char.ofNat 101, Char.ofNat 53, Char.ofNat 99, Char.ofNat 51, Char.ofNat 97, Char.ofNat 55, Char.ofNat 101, Char.ofNat 97, Char.ofNat 97, Char.ofNat 48, Char.ofNat 100, Char.ofNat 54, Char.ofNat 56, Char.ofNat 101, Char.ofNat 55, Char.ofNat 97, Char.ofNat 51, Char.ofNat 101, Char.ofNat 53, Char.ofNat 97, Char.ofNat 49, Char.ofNat 49, Char.ofNat 48, Char.ofNat 53, Char.ofNat 55, Char.ofNat 52, Char.ofNat 99, Char.ofNat 52, Char.ofNat 53, Char.ofNat 53, Char.ofNat 56, Char.ofNat 53, Char.ofNat 48, Char.ofNat 49, Char.ofNat 52, Char.ofNat 48, Char.ofNat 100, Char.ofNat 56, Char.ofNat 99, Char.ofNat 50, Char.ofNat 100, Char.ofNat 56, Char.ofNat 50, Char.ofNat 52, Char.ofNat 102, Char.ofNat 99]
def hw2 : List Char := [Char.ofNat 99, Char.ofNat 117, Char.ofNat 116]
def hwRest : List Char := [Char.ofNat 97, Char.ofNat 116, Char.ofNat 32, Char.ofNat 108, Char.ofNat 111, Char.ofNat 111, Char.ofNat 107, Char.ofNat 111, Char.ofNat 117, Char.ofNat 116, Char.ofNat 47, Char.ofNat 108, Char.ofNat 111, Char.ofNat 111, Char.ofNat 107, Char.ofNat 111, Char.ofNat 117, Char.ofNat 116, Char.ofNat 108, Char.ofNat 97, Char.ofNat 119, Char.ofNat 48, Char.ofNat 50, Char.ofNat 46, Char.ofNat 84, Char.ofNat 117, Char.ofNat 114, Char.ofNat 110, Char.ofNat 75, Char.ofNat 110, Char.ofNat 111, Char.ofNat 119, Char.ofNat 110, Char.ofNat 32, Char.ofNat 108, Char.ofNat 111, Char.ofNat 111, Char.ofNat 107, Char.ofNat 111, Char.ofNat 117, Char.ofNat 116, Char.ofNat 47, Char.ofNat 108, Char.ofNat 111, Char.ofNat 111, Char.ofNat 107, Char.ofNat 111, Char.ofNat 117, Char.ofNat 116, Char.ofNat 108, Char.ofNat 97, Char.ofNat 119, Char.ofNat 48, Char.ofNat 50, Char.ofNat 46, Char.ofNat 84, Char.ofNat 117, Char.ofNat 114, Char.ofNat 110, Char.ofNat 87, Char.ofNat 114, Char.ofNat 97, Char.ofNat 112, Char.ofNat 115, Char.ofNat 32, Char.ofNat 108, Char.ofNat 111, Char.ofNat 111, Char.ofNat 107, Char.ofNat 111, Char.ofNat 117, Char.ofNat 116, Char.ofNat 47, Char.ofNat 108, Char.ofNat 111, Char.ofNat 111, Char.ofNat 107, Char.ofNat 111, Char.ofNat 117, Char.ofNat 116, Char.ofNat 108, Char.ofNat 97, Char.ofNat 119, Char.ofNat 48, Char.ofNat 50, Char.ofNat 46, Char.ofNat 84, Char.ofNat 117, Char.ofNat 114, Char.ofNat 110, Char.ofNat 85, Char.ofNat 110, Char.ofNat 105, Char.ofNat 116, Char.ofNat 115, Char.ofNat 32, Char.ofNat 108, Char.ofNat 111, Char.ofNat 111, Char.ofNat 107, Char.ofNat 111, Char.ofNat 117, Char.ofNat 116, Char.ofNat 47, Char.ofNat 108, Char.ofNat 111, Char.ofNat 111, Char.ofNat 107, Char.ofNat 111, Char.ofNat 117, Char.ofNat 116, Char.ofNat 108, Char.ofNat 97, Char.ofNat 119, Char.ofNat 50, Char.ofNat 51, Char.ofNat 46, Char.ofNat 80, Char.ofNat 108, Char.ofNat 97, Char.ofNat 99, Char.ofNat 101, Char.ofNat 87, Char.ofNat 105, Char.ofNat 116, Char.ofNat 104, Char.ofNat 105, Char.ofNat 110, Char.ofNat 32, Char.ofNat 108, Char.ofNat 111, Char.ofNat 111, Char.ofNat 107, Char.ofNat 111, Char.ofNat 117, Char.ofNat 116, Char.ofNat 47, Char.ofNat 108, Char.ofNat 111, Char.ofNat 111, Char.ofNat 107, Char.ofNat 111, Char.ofNat 117, Char.ofNat 116, Char.ofNat 108, Char.ofNat 97, Char.ofNat 119, Char.ofNat 50, Char.ofNat 51, Char.ofNat 46, Char.ofNat 80, Char.ofNat 108, Char.ofNat 97, Char.ofNat 99, Char.ofNat 101, Char.ofNat 67, Char.ofNat 111, Char.ofNat 114, Char.ofNat 110, Char.ofNat 101, Char.ofNat 114, Char.ofNat 115, Char.ofNat 32, Char.ofNat 108, Char.ofNat 111, Char.ofNat 111, Char.ofNat 107, Char.ofNat 111, Char.ofNat 117, Char.ofNat 116, Char.ofNat 47, Char.ofNat 108, Char.ofNat 111, Char.ofNat 111, Char.ofNat 107, Char.ofNat 111, Char.ofNat 117, Char.ofNat 116, Char.ofNat 108, Char.ofNat 97, Char.ofNat 119, Char.ofNat 50, Char.ofNat 51, Char.ofNat 46, Char.ofNat 80, Char.ofNat 108, Char.ofNat 97, Char.ofNat 99, Char.ofNat 101, Char.ofNat 83, Char.ofNat 113, Char.ofNat 117, Char.ofNat 97, Char.ofNat 114, Char.ofNat 101, Char.ofNat 115, Char.ofNat 32, Char.ofNat 108, Char.ofNat 111, Char.ofNat 111, Char.ofNat 107, Char.ofNat 111, Char.ofNat 117, Char.ofNat 116, Char.ofNat 47, Char.ofNat 108, Char.ofNat 111, Char.ofNat 111, Char.ofNat 107, Char.ofNat 111, Char.ofNat 117, Char.ofNat 116, Char.ofNat 108, Char.ofNat 97, Char.ofNat 119, Char.ofNat 50, Char.ofNat 51, Char.ofNat 46, Char.ofNat 80, Char.ofNat 108, Char.ofNat 97, Char.ofNat 99, Char.ofNat 101, Char.ofNat 75, Char.ofNat 110, Char.ofNat 111, Char.ofNat 119, Char.ofNat 110, Char.ofNat 32, Char.ofNat 108, Char.ofNat 111, Char.ofNat 111, Char.ofNat 107, Char.ofNat 111, Char.ofNat 117, Char.ofNat 116, Char.ofNat 47, Char.ofNat 108, Char.ofNat 111, Char.ofNat 111, Char.ofNat 107, Char.ofNat 111, Char.ofNat 117, Char.ofNat 116, Char.ofNat 108, Char.ofNat 97, Char.ofNat 119, Char.ofNat 50, Char.ofNat 51, Char.ofNat 46, Char.ofNat 80, Char.ofNat 108, Char.ofNat 97, Char.ofNat 99, Char.ofNat 101, Char.ofNat 84, Char.ofNat 117, Char.ofNat 114, Char.ofNat 110, Char.ofNat 115, Char.ofNat 32, Char.ofNat 108, Char.ofNat 111, Char.ofNat 111, Char.ofNat 107, Char.ofNat 111, Char.ofNat 117, Char.ofNat 116, Char.ofNat 47, Char.ofNat 108, Char.ofNat 111, Char.ofNat 111, Char.ofNat 107, Char.ofNat 111, Char.ofNat 117, Char.ofNat 116, Char.ofNat 108, Char.ofNat 97, Char.ofNat 119, Char.ofNat 50, Char.ofNat 51, Char.ofNat 46, Char.ofNat 80, Char.ofNat 108, Char.ofNat 97, Char.ofNat 99, Char.ofNat 101, Char.ofNat 66, Char.ofNat 97, Char.ofNat 99, Char.ofNat 107, Char.ofNat 32, Char.ofNat 108, Char.ofNat 111, Char.ofNat 111, Char.ofNat 107, Char.ofNat 111, Char.ofNat 117, Char.ofNat 116, Char.ofNat 47, Char.ofNat 108, Char.ofNat 111, Char.ofNat 111, Char.ofNat 107, Char.ofNat 111, Char.ofNat 117, Char.ofNat 116, Char.ofNat 108, Char.ofNat 97, Char.ofNat 119, Char.ofNat 48, Char.ofNat 52, Char.ofNat 46, Char.ofNat 80, Char.ofNat 117, Char.ofNat 108, Char.ofNat 115, Char.ofNat 101, Char.ofNat 78, Char.ofNat 97, Char.ofNat 109, Char.ofNat 101, Char.ofNat 115, Char.ofNat 32, Char.ofNat 108, Char.ofNat 111, Char.ofNat 111, Char.ofNat 107, Char.ofNat 111, Char.ofNat 117, Char.ofNat 116, Char.ofNat 47, Char.ofNat 108, Char.ofNat 111, Char.ofNat 111, Char.ofNat 107, Char.ofNat 111, Char.ofNat 117, Char.ofNat 116, Char.ofNat 108, Char.ofNat 97, Char.ofNat 119, Char.ofNat 48, Char.ofNat 52, Char.ofNat 46, Char.ofNat 80, Char.ofNat 117, Char.ofNat 108, Char.ofNat 115, Char.ofNat 101, Char.ofNat 67, Char.ofNat 104, Char.ofNat 105, Char.ofNat 114, Char.ofNat 112, Char.ofNat 115, Char.ofNat 32, Char.ofNat 108, Char.ofNat 111, Char.ofNat 111, Char.ofNat 107, Char.ofNat 111, Char.ofNat 117, Char.ofNat 116, Char.ofNat 47, Char.ofNat 108, Char.ofNat 111, Char.ofNat 111, Char.ofNat 107, Char.ofNat 111, Char.ofNat 117, Char.ofNat 116, Char.ofNat 108, Char.ofNat 97, Char.ofNat 119, Char.ofNat 48, Char.ofNat 52, Char.ofNat 46, Char.ofNat 80, Char.ofNat 117, Char.ofNat 108, Char.ofNat 115, Char.ofNat 101, Char.ofNat 83, Char.ofNat 105, Char.ofNat 103, Char.ofNat 110, Char.ofNat 115, Char.ofNat 32, Char.ofNat 108, Char.ofNat 111, Char.ofNat 111, Char.ofNat 107, Char.ofNat 111, Char.ofNat 117, Char.ofNat 116, Char.ofNat 47, Char.ofNat 108, Char.ofNat 111, Char.ofNat 111, Char.ofNat 107, Char.ofNat 111, Char.ofNat 117, Char.ofNat 116, Char.ofNat 108, Char.ofNat 97, Char.ofNat 119, Char.ofNat 48, Char.ofNat 52, Char.ofNat 46, Char.ofNat 80, Char.ofNat 117, Char.ofNat 108, Char.ofNat 115, Char.ofNat 101, Char.ofNat 83, Char.ofNat 116, Char.ofNat 101, Char.ofNat 112, Char.ofNat 115, Char.ofNat 32, Char.ofNat 108, Char.ofNat 111, Char.ofNat 111, Char.ofNat 107, Char.ofNat 111, Char.ofNat 117, Char.ofNat 116, Char.ofNat 47, Char.ofNat 108, Char.ofNat 111, Char.ofNat 111, Char.ofNat 107, Char.ofNat 111, Char.ofNat 117, Char.ofNat 116, Char.ofNat 108, Char.ofNat 97, Char.ofNat 119, Char.ofNat 48, Char.ofNat 52, Char.ofNat 46, Char.ofNat 80, Char.ofNat 117, Char.ofNat 108, Char.ofNat 115, Char.ofNat 101, Char.ofNat 67, Char.ofNat 111, Char.ofNat 100, Char.ofNat 101, Char.ofNat 115, Char.ofNat 32, Char.ofNat 108, Char.ofNat 111, Char.ofNat 111, Char.ofNat 107, Char.ofNat 111, Char.ofNat 117, Char.ofNat 116, Char.ofNat 47, Char.ofNat 108, Char.ofNat 111, Char.ofNat 111, Char.ofNat 107, Char.ofNat 111, Char.ofNat 117, Char.ofNat 116, Char.ofNat 108, Char.ofNat 97, Char.ofNat 119, Char.ofNat 48, Char.ofNat 52, Char.ofNat 46, Char.ofNat 80, Char.ofNat 117, Char.ofNat 108, Char.ofNat 115, Char.ofNat 101, Char.ofNat 80, Char.ofNat 101, Char.ofNat 97, Char.ofNat 107, Char.ofNat 32, Char.ofNat 108, Char.ofNat 111, Char.ofNat 111, Char.ofNat 107, Char.ofNat 111, Char.ofNat 117, Char.ofNat 116, Char.ofNat 47, Char.ofNat 108, Char.ofNat 111, Char.ofNat 111, Char.ofNat 107, Char.ofNat 111, Char.ofNat 117, Char.ofNat 116, Char.ofNat 108, Char.ofNat 97, Char.ofNat 119, Char.ofNat 48, Char.ofNat 52, Char.ofNat 46, Char.ofNat 80, Char.ofNat 117, Char.ofNat 108, Char.ofNat 115, Char.ofNat 101, Char.ofNat 69, Char.ofNat 118, Char.ofNat 101, Char.ofNat 110, Char.ofNat 32, Char.ofNat 108, Char.ofNat 111, Char.ofNat 111, Char.ofNat 107, Char.ofNat 111, Char.ofNat 117, Char.ofNat 116, Char.ofNat 47, Char.ofNat 108, Char.ofNat 111, Char.ofNat 111, Char.ofNat 107, Char.ofNat 111, Char.ofNat 117, Char.ofNat 116, Char.ofNat 108, Char.ofNat 97, Char.ofNat 119, Char.ofNat 48, Char.ofNat 53, Char.ofNat 46, Char.ofNat 68, Char.ofNat 102, Char.ofNat 116, Char.ofNat 75, Char.ofNat 110, Char.ofNat 111, Char.ofNat 119, Char.ofNat 110, Char.ofNat 32, Char.ofNat 108, Char.ofNat 111, Char.ofNat 111, Char.ofNat 107, Char.ofNat 111, Char.ofNat 117, Char.ofNat 116, Char.ofNat 47, Char.ofNat 108, Char.ofNat 111, Char.ofNat 111, Char.ofNat 107, Char.ofNat 111, Char.ofNat 117, Char.ofNat 116, Char.ofNat 108, Char.ofNat 97, Char.ofNat 119, Char.ofNat 48, Char.ofNat 54, Char.ofNat 46, Char.ofNat 77, Char.ofNat 97, Char.ofNat 116, Char.ofNat 99, Char.ofNat 104, Char.ofNat 80, Char.ofNat 101, Char.ofNat 97, Char.ofNat 107, Char.ofNat 32, Char.ofNat 108, Char.ofNat 111, Char.ofNat 111, Char.ofNat 107, Char.ofNat 111, Char.ofNat 117, Char.ofNat 116, Char.ofNat 47, Char.ofNat 108, Char.ofNat 111, Char.ofNat 111, Char.ofNat 107, Char.ofNat 111, Char.ofNat 117, Char.ofNat 116, Char.ofNat 108, Char.ofNat 97, Char.ofNat 119, Char.ofNat 48, Char.ofNat 54, Char.ofNat 46, Char.ofNat 77, Char.ofNat 97, Char.ofNat 116, Char.ofNat 99, Char.ofNat 104, Char.ofNat 75, Char.ofNat 110, Char.ofNat 111, Char.ofNat 119, Char.ofNat 110, Char.ofNat 32, Char.ofNat 108, Char.ofNat 111, Char.ofNat 111, Char.ofNat 107, Char.ofNat 111, Char.ofNat 117, Char.ofNat 116, Char.ofNat 47, Char.ofNat 108, Char.ofNat 111, Char.ofNat 111, Char.ofNat 107, Char.ofNat 111, Char.ofNat 117, Char.ofNat 116, Char.ofNat 108, Char.ofNat 97, Char.ofNat 119, Char.ofNat 50, Char.ofNat 49, Char.ofNat 46, Char.ofNat 83, Char.ofNat 111, Char.ofNat 108, Char.ofNat 118, Char.ofNat 101, Char.ofNat 75, Char.ofNat 110, Char.ofNat 111, Char.ofNat 119, Char.ofNat 110, Char.ofNat 32, Char.ofNat 108, Char.ofNat 111, Char.ofNat 111, Char.ofNat 107, Char.ofNat 111, Char.ofNat 117, Char.ofNat 116, Char.ofNat 47, Char.ofNat 108, Char.ofNat 111, Char.ofNat 111, Char.ofNat 107, Char.ofNat 111, Char.ofNat 117, Char.ofNat 116, Char.ofNat 108, Char.ofNat 97, Char.ofNat 119, Char.ofNat 49, Char.ofNat 50, Char.ofNat 46, Char.ofNat 83, Char.ofNat 99, Char.ofNat 101, Char.ofNat 110, Char.ofNat 101, Char.ofNat 75, Char.ofNat 110, Char.ofNat 111, Char.ofNat 119, Char.ofNat 110, Char.ofNat 32, Char.ofNat 108, Char.ofNat 111, Char.ofNat 111, Char.ofNat 107, Char.ofNat 111, Char.ofNat 117, Char.ofNat 116, Char.ofNat 47, Char.ofNat 108, Char.ofNat 111, Char.ofNat 111, Char.ofNat 107, Char.ofNat 111, Char.ofNat 117, Char.ofNat 116, Char.ofNat 108, Char.ofNat 97, Char.ofNat 119, Char.ofNat 49, Char.ofNat 50, Char.ofNat 46, Char.ofNat 83, Char.ofNat 99, Char.ofNat 101, Char.ofNat 110, Char.ofNat 101, Char.ofNat 80, Char.ofNat 101, Char.ofNat 97, Char.ofNat 107, Char.ofNat 32, Char.ofNat 108, Char.ofNat 111, Char.ofNat 111, Char.ofNat 107, Char.ofNat 111, Char.ofNat 117, Char.ofNat 116, Char.ofNat 47, Char.ofNat 108, Char.ofNat 111, Char.ofNat 111, Char.ofNat 107, Char.ofNat 111, Char.ofNat 117, Char.ofNat 116, Char.ofNat 108, Char.ofNat 97, Char.ofNat 119, Char.ofNat 50, Char.ofNat 50, Char.ofNat 46, Char.ofNat 66, Char.ofNat 101, Char.ofNat 97, Char.ofNat 109, Char.ofNat 72, Char.ofNat 101, Char.ofNat 97, Char.ofNat 114, Char.ofNat 115, Char.ofNat 32, Char.ofNat 108, Char.ofNat 111, Char.ofNat 111, Char.ofNat 107, Char.ofNat 111, Char.ofNat 117, Char.ofNat 116, Char.ofNat 47, Char.ofNat 108, Char.ofNat 111, Char.ofNat 111, Char.ofNat 107, Char.ofNat 111, Char.ofNat 117, Char.ofNat 116, Char.ofNat 108, Char.ofNat 97, Char.ofNat 119, Char.ofNat 50, Char.ofNat 50, Char.ofNat 46, Char.ofNat 66, Char.ofNat 101, Char.ofNat 97, Char.ofNat 109, Char.ofNat 65, Char.ofNat 100, Char.ofNat 100, Char.ofNat 115, Char.ofNat 32, Char.ofNat 108, Char.ofNat 111, Char.ofNat 111, Char.ofNat 107, Char.ofNat 111, Char.ofNat 117, Char.ofNat 116, Char.ofNat 47, Char.ofNat 108, Char.ofNat 111, Char.ofNat 111, Char.ofNat 107, Char.ofNat 111, Char.ofNat 117, Char.ofNat 116, Char.ofNat 108, Char.ofNat 97, Char.ofNat 119, Char.ofNat 50, Char.ofNat 50, Char.ofNat 46, Char.ofNat 66, Char.ofNat 101, Char.ofNat 97, Char.ofNat 109, Char.ofNat 66, Char.ofNat 97, Char.ofNat 99, Char.ofNat 107, Char.ofNat 32, Char.ofNat 108, Char.ofNat 111, Char.ofNat 111, Char.ofNat 107, Char.ofNat 111, Char.ofNat 117, Char.ofNat 116, Char.ofNat 47, Char.ofNat 108, Char.ofNat 111, Char.ofNat 111, Char.ofNat 107, Char.ofNat 111, Char.ofNat 117, Char.ofNat 116, Char.ofNat 108, Char.ofNat 97, Char.ofNat 119, Char.ofNat 50, Char.ofNat 50, Char.ofNat 46, Char.ofNat 66, Char.ofNat 101, Char.ofNat 97, Char.ofNat 109, Char.ofNat 83, Char.ofNat 116, Char.ofNat 101, Char.ofNat 101, Char.ofNat 114, Char.ofNat 115, Char.ofNat 32, Char.ofNat 108, Char.ofNat 111, Char.ofNat 111, Char.ofNat 107, Char.ofNat 111, Char.ofNat 117, Char.ofNat 116, Char.ofNat 47, Char.ofNat 108, Char.ofNat 111, Char.ofNat 111, Char.ofNat 107, Char.ofNat 111, Char.ofNat 117, Char.ofNat 116, Char.ofNat 108, Char.ofNat 97, Char.ofNat 119, Char.ofNat 50, Char.ofNat 50, Char.ofNat 46, Char.ofNat 66, Char.ofNat 101, Char.ofNat 97, Char.ofNat 109, Char.ofNat 78, Char.ofNat 117, Char.ofNat 108, Char.ofNat 108, Char.ofNat 115, Char.ofNat 32, Char.ofNat 108, Char.ofNat 111, Char.ofNat 111, Char.ofNat 107, Char.ofNat 111, Char.ofNat 117, Char.ofNat 116, Char.ofNat 47, Char.ofNat 108, Char.ofNat 111, Char.ofNat 111, Char.ofNat 107, Char.ofNat 111, Char.ofNat 117, Char.ofNat 116, Char.ofNat 108, Char.ofNat 97, Char.ofNat 119, Char.ofNat 50, Char.ofNat 50, Char.ofNat 46, Char.ofNat 66, Char.ofNat 101, Char.ofNat 97, Char.ofNat 109, Char.ofNat 68, Char.ofNat 101, Char.ofNat 97, Char.ofNat 102, Char.ofNat 32, Char.ofNat 108, Char.ofNat 111, Char.ofNat 111, Char.ofNat 107, Char.ofNat 111, Char.ofNat 117, Char.ofNat 116, Char.ofNat 47, Char.ofNat 108, Char.ofNat 111, Char.ofNat 111, Char.ofNat 107, Char.ofNat 111, Char.ofNat 117, Char.ofNat 116, Char.ofNat 108, Char.ofNat 97, Char.ofNat 119, Char.ofNat 50, Char.ofNat 50, Char.ofNat 46, Char.ofNat 66, Char.ofNat 101, Char.ofNat 97, Char.ofNat 109, Char.ofNat 69, Char.ofNat 118, Char.ofNat 101, Char.ofNat 110]
theorem head_eq : Try.prog.initOrder.toList = hw0 ++ Char.ofNat 32 :: (hw1 ++ Char.ofNat 32 :: (hw2 ++ Char.ofNat 32 :: hwRest)) :=
  (show (String.ofList (hw0 ++ Char.ofNat 32 :: (hw1 ++ Char.ofNat 32 :: (hw2 ++ Char.ofNat 32 :: hwRest)))).toList = _ from String.toList_ofList)
theorem head_words : wordsSigns Try.prog.initOrder.toList = hw0 :: hw1 :: hw2 :: wordsSigns hwRest := by
  rw [head_eq, words_cons _ _ (by kernel_rfl), words_cons _ _ (by kernel_rfl), words_cons _ _ (by kernel_rfl)]
theorem harness_eq : "harness".toList = hw0 := toList_lit hw0
theorem head_main : behindMainWord (wordsSigns Try.prog.initOrder.toList) = hw2 :: wordsSigns hwRest := by
  rw [head_words]
  rw [behindMainWord, harness_eq, if_pos (by kernel_rfl)]
theorem strip_ne {o : String} {os : List String} {w : List Char} {ws : List (List Char)} {l : List Char} (h : o.toList = l) (h2 : (w == l) = false) : stripLifts (o :: os) (w :: ws) = stripLifts os (w :: ws) := by
  rw [stripLifts, h, h2]; rfl
theorem strip_cut : stripLifts liftWords (hw2 :: wordsSigns hwRest) = ([], hw2 :: wordsSigns hwRest) := by
  unfold liftWords
  rw [strip_ne (l := [Char.ofNat 102, Char.ofNat 105, Char.ofNat 110, Char.ofNat 97, Char.ofNat 108, Char.ofNat 115]) (toList_lit _) (by kernel_rfl)]
  rw [strip_ne (l := [Char.ofNat 114, Char.ofNat 101, Char.ofNat 102, Char.ofNat 108, Char.ofNat 101, Char.ofNat 99, Char.ofNat 116, Char.ofNat 114, Char.ofNat 111, Char.ofNat 119, Char.ofNat 115]) (toList_lit _) (by kernel_rfl)]
  rw [strip_ne (l := [Char.ofNat 108, Char.ofNat 101, Char.ofNat 97, Char.ofNat 110, Char.ofNat 114, Char.ofNat 111, Char.ofNat 119, Char.ofNat 115]) (toList_lit _) (by kernel_rfl)]
  rw [strip_ne (l := [Char.ofNat 111, Char.ofNat 110, Char.ofNat 101, Char.ofNat 98, Char.ofNat 117, Char.ofNat 105, Char.ofNat 108, Char.ofNat 100]) (toList_lit _) (by kernel_rfl)]
  rw [strip_ne (l := [Char.ofNat 112, Char.ofNat 117, Char.ofNat 98, Char.ofNat 108, Char.ofNat 105, Char.ofNat 99, Char.ofNat 115, Char.ofNat 117, Char.ofNat 109, Char.ofNat 115]) (toList_lit _) (by kernel_rfl)]
  rw [strip_ne (l := [Char.ofNat 101, Char.ofNat 113, Char.ofNat 103, Char.ofNat 117, Char.ofNat 97, Char.ofNat 114, Char.ofNat 100]) (toList_lit _) (by kernel_rfl)]
  rw [strip_ne (l := [Char.ofNat 111, Char.ofNat 119, Char.ofNat 110, Char.ofNat 117, Char.ofNat 110, Char.ofNat 115, Char.ofNat 97, Char.ofNat 102, Char.ofNat 101]) (toList_lit _) (by kernel_rfl)]
  rw [strip_ne (l := [Char.ofNat 108, Char.ofNat 105, Char.ofNat 98, Char.ofNat 98, Char.ofNat 101, Char.ofNat 115, Char.ofNat 105, Char.ofNat 100, Char.ofNat 101]) (toList_lit _) (by kernel_rfl)]
  rw [strip_ne (l := [Char.ofNat 111, Char.ofNat 119, Char.ofNat 110, Char.ofNat 98, Char.ofNat 101, Char.ofNat 115, Char.ofNat 105, Char.ofNat 100, Char.ofNat 101]) (toList_lit _) (by kernel_rfl)]
  rw [strip_ne (l := [Char.ofNat 114, Char.ofNat 101, Char.ofNat 102, Char.ofNat 108, Char.ofNat 98, Char.ofNat 101, Char.ofNat 115, Char.ofNat 105, Char.ofNat 100, Char.ofNat 101]) (toList_lit _) (by kernel_rfl)]
  rw [strip_ne (l := [Char.ofNat 97, Char.ofNat 108, Char.ofNat 105, Char.ofNat 97, Char.ofNat 115, Char.ofNat 101, Char.ofNat 115]) (toList_lit _) (by kernel_rfl)]
  rw [strip_ne (l := [Char.ofNat 97, Char.ofNat 102, Char.ofNat 116, Char.ofNat 101, Char.ofNat 114, Char.ofNat 105, Char.ofNat 110, Char.ofNat 105, Char.ofNat 116]) (toList_lit _) (by kernel_rfl)]
  rw [strip_ne (l := [Char.ofNat 99, Char.ofNat 114, Char.ofNat 99, Char.ofNat 112, Char.ofNat 108, Char.ofNat 97, Char.ofNat 105, Char.ofNat 110]) (toList_lit _) (by kernel_rfl)]
  rw [strip_ne (l := [Char.ofNat 114, Char.ofNat 111, Char.ofNat 97, Char.ofNat 100, Char.ofNat 117, Char.ofNat 110, Char.ofNat 115, Char.ofNat 97, Char.ofNat 102, Char.ofNat 101]) (toList_lit _) (by kernel_rfl)]
  rw [strip_ne (l := [Char.ofNat 102, Char.ofNat 109, Char.ofNat 116, Char.ofNat 104, Char.ofNat 97, Char.ofNat 110, Char.ofNat 100, Char.ofNat 111, Char.ofNat 110]) (toList_lit _) (by kernel_rfl)]
  rfl
theorem cut_eq : "cut".toList = hw2 := toList_lit hw2
def w_gc : List Char := [Char.ofNat 103, Char.ofNat 99]
theorem gc_eq : "gc".toList = w_gc := toList_lit w_gc
def w_spec : List Char := [Char.ofNat 115, Char.ofNat 112, Char.ofNat 101, Char.ofNat 99]
theorem spec_eq : "spec".toList = w_spec := toList_lit w_spec
def w_carried : List Char := [Char.ofNat 99, Char.ofNat 97, Char.ofNat 114, Char.ofNat 114, Char.ofNat 105, Char.ofNat 101, Char.ofNat 100]
theorem carried_eq : "carried".toList = w_carried := toList_lit w_carried
def w_finals : List Char := [Char.ofNat 102, Char.ofNat 105, Char.ofNat 110, Char.ofNat 97, Char.ofNat 108, Char.ofNat 115]
theorem finals_eq : "finals".toList = w_finals := toList_lit w_finals
theorem headLifts_ok : Try.prog.headLifts = [] := by
  unfold Program.headLifts
  rw [head_main, strip_cut, cut_eq]
  rfl
theorem laysLater_ok : Try.prog.laysLater = false := by kernel_rfl
theorem bearsReflect_ok : Try.prog.bearsReflect = false := by kernel_rfl
theorem doors_none : (Try.prog.funcs.toList.filter fun fn => fn.body.isNone && opensWith (nameBytes "var's door: ") (nameBytes fn.name)) = [] := by kernel_rfl
theorem doorRows_ok : Try.prog.doorRows = [] := by
  unfold Program.doorRows
  rw [doors_none]
  rfl
theorem doorFits_ok : Try.prog.doorFits [] = true := by
  unfold Program.doorFits
  rw [doorRows_ok]
  rfl
theorem hw2_gc : (hw2 == w_gc) = false := by kernel_rfl
theorem hw2_spec : (hw2 == w_spec) = false := by kernel_rfl
theorem hw2_carried : (hw2 == w_carried) = false := by kernel_rfl
theorem mayEnter_of {P : Program} {c : List Char} {rest : List (List Char)} (h : behindMainWord (wordsSigns P.initOrder.toList) = c :: rest) (h2 : stripLifts liftWords (c :: rest) = ([], c :: rest))
    (h3 : P.laysLater = false) (h4 : P.bearsReflect = false) (h5 : P.doorFits [] = true) (h6 : "cut".toList = c) : P.mayEnter = true := by
  unfold Program.mayEnter
  rw [h]
  simp only [h2, h3, h4, h5, h6]
  simp
theorem mayEnter_ok : Try.prog.mayEnter = true := mayEnter_of head_main strip_cut laysLater_ok bearsReflect_ok doorFits_ok cut_eq
theorem make_of {P : Program} {c g s : List Char} {rest : List (List Char)} (h : behindMainWord (wordsSigns P.initOrder.toList) = c :: rest) 
    (h6 : "cut".toList = c) (h7 : "gc".toList = g) (h8 : "spec".toList = s) (h9 : (c == g) = false) (h10 : (c == s) = false) : P.make = some .cut := by
  unfold Program.make
  rw [h]
  simp only [h6, h7, h8, h9, h10]
  simp
theorem make_ok : Try.prog.make = some .cut := make_of head_main cut_eq gc_eq spec_eq hw2_gc hw2_spec
theorem liftsFinal_ok : Try.prog.liftsFinal = false := by
  unfold Program.liftsFinal
  rw [head_main, headLifts_ok]
  simp only [gc_eq, carried_eq, cut_eq]
  kernel_rfl
theorem and2 {a b : Bool} (h : a = true) (k : b = true) : (a && b) = true := by rw [h, k]; rfl
theorem joinedFacts_of {P : Program} {f : FuncId} {fn : Func} {s : ChangeSpec} {c : OpenClaim}
    (h0 : (c.wf (OpenSpec.ofChange s)) = true)
    (h1 : (laidOutB P) = true)
    (h2 : (mapsRowed P) = true)
    (h3 : (fn.params.all (P.readableRec ·)) = true)
    (h4 : (namedTie P c.named s.vars) = true)
    (h5 : ((c.stops == [])) = true)
    (h6 : ((P.stops == [])) = true)
    (h7 : ((c.knobs == [])) = true)
    (h8 : ((P.stopKnobs == [])) = true)
    (h9 : ((c.inPlace == P.inPlace f)) = true)
    (h10 : ((c.unfollowed == P.unfollowed f)) = true)
    (h11 : ((c.recurses == P.recurses f)) = true)
    (h12 : ((c.named == P.varsNamed f)) = true)
    (h13 : ((c.maps == (fn.params.toList ++ s.plain.varTypes P).any (P.mapsRec ·))) = true)
    (h14 : ((c.ifaces == (fn.params.toList ++ s.plain.varTypes P).any (P.ifacesRec ·))) = true)
    (h15 : ((c.mapsOut == P.mapsAmong fn.resultTypes.toList)) = true)
    (h16 : ((c.loops == (fn.params.toList ++ s.plain.varTypes P).any (P.loopsFrom ·))) = true)
    (h17 : ((c.wideKeys == (fn.params.toList ++ s.plain.varTypes P ++ fn.resultTypes.toList).any (P.wideKeysFrom ·))) = true)
    (h18 : (s.vars.all (P.varReadable ·)) = true)
    (h19 : (fn.resultTypes.all (fun t => P.readableRec t && decide (t < P.types.size))) = true)
    (h20 : ((c.ifacesOut == fn.resultTypes.toList.any (P.ifacesRec ·))) = true)
    (h21 : ((c.loopsOut == fn.resultTypes.toList.any (P.loopsFrom ·))) = true)
    (h22 : ((c.plainKeys == P.plainKeys)) = true)
    (h23 : (c.shortTexts.isNone) = true)
    (h24 : (P.stopsHeard) = true)
    (h25 : (P.mayEnter) = true)
    (h26 : ((c.lifted == P.liftsFinal)) = true)
    (h27 : ((P.make == some c.make)) = true)
    (h28 : ((c.kinds == (if c.domain.isEmpty then [] else fn.params.toList.map fun t => match P.underlying t with | some (.int k) => some k | _ => none))) = true)
    (h29 : ((c.pinned == c.pinnedBy)) = true)
    (h30 : ((c.veiled == (fn.params.toList ++ s.plain.varTypes P ++ fn.resultTypes.toList).any (P.veiledRec ·))) = true)
    (h31 : (c.veiledFits P fn.params.toList (fn.params.toList ++ s.plain.varTypes P ++ fn.resultTypes.toList)) = true) : joinedFacts P f fn s c = true := by
  exact and2 (and2 (and2 (and2 (and2 (and2 (and2 (and2 (and2 (and2 (and2 (and2 (and2 (and2 (and2 (and2 (and2 (and2 (and2 (and2 (and2 (and2 (and2 (and2 (and2 (and2 (and2 (and2 (and2 (and2 (and2 (h0) h1) h2) h3) h4) h5) h6) h7) h8) h9) h10) h11) h12) h13) h14) h15) h16) h17) h18) h19) h20) h21) h22) h23) h24) h25) h26) h27) h28) h29) h30) h31
theorem laidOut_ok : laidOutB Try.prog = true := by kernel_rfl
theorem mapsRowed_ok : mapsRowed Try.prog = true := by kernel_rfl
theorem plainKeys_ok : Try.prog.plainKeys = true := by kernel_rfl
theorem stopsHeard_ok : Try.prog.stopsHeard = true := by kernel_rfl
end Go.Lk
