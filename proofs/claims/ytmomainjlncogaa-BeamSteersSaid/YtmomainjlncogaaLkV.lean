/- Operations on memory: what they say of the abstract heap. -/
import Derived.Test.YtmomainjlncogaaLkU
namespace Go.Lk
set_option linter.unusedSimpArgs false
set_option linter.unusedVariables false

section defs
variable (P : Program)

def tZero (t : TypeId) : Option Value :=
  match (P.info? t).bind (·.zero) with
  | some z => bif cOk z then some z else none
  | none => none

def aLoad (σ : AHeap) (t : TypeId) (a : Value) : Option Value :=
  match a with
  | .pointer (some ⟨b, o, none⟩) =>
    match σ[b]? with
    | some (.row vs _ _) =>
      match P.underlying t with
      | some d =>
        bif isAggD d then
          match tSize P t with
          | some n => if o + n ≤ vs.length then some (.agg ((vs.drop o).take n).toArray) else none
          | none => none
        else vs[o]?
      | none => none
    | _ => none
  | _ => none

def aStore (σ : AHeap) (t : TypeId) (a x : Value) : Option AHeap :=
  match a with
  | .pointer (some ⟨b, o, none⟩) =>
    match σ[b]? with
    | some (.row vs true opn) =>
      match tSize P t with
      | some n => if x.cells.toList.length = n ∧ o + x.cells.toList.length ≤ vs.length ∧ x.cells.toList.all one = true then some (σ.set b (.row (splice vs o x.cells.toList) true opn)) else none
      | none => none
    | _ => none
  | _ => none

def newP (σ : AHeap) (cs : List Value) : Value × AHeap := (.pointer (some ⟨σ.length, 0, none⟩), σ ++ [.row cs true none])

def zrow (z : List Value) (n : Nat) : List Value := (List.range n).map fun i => z.getD (i % z.length) undef

def fillA (place : Nat → Option (Nat × Nat)) (cells : List Value) : List (Nat × Value) → Option (List Value)
  | [] => some cells
  | (i, v) :: rest =>
    match place i with
    | none => none
    | some (off, size) =>
      if v.cells.toList.length = size ∧ off + v.cells.toList.length ≤ cells.length then fillA place (splice cells off v.cells.toList) rest else none

/-- The elements' cells of a slice, the first n. -/
def aCells (σ : AHeap) (sz n : Nat) (x : Value) : Option (List Value) :=
  match x with
  | .slice (some ⟨b, o, some _⟩) len _ =>
    if n * sz = 0 then some [] else
    match σ[b]? with
    | some (.row vs _ _) => if n ≤ len ∧ o + n * sz ≤ vs.length then some ((vs.drop o).take (n * sz)) else none
    | _ => none
  | .slice none _ _ => if n * sz = 0 then some [] else none
  | _ => none

def sLen : Value → Option Nat
  | .slice _ n _ => some n
  | _ => none

/-- Cells are laid into a slice from an element on. -/
def aPut (σ : AHeap) (b o : Nat) (cs : List Value) : Option AHeap :=
  if cs = [] then some σ else
  match σ[b]? with
  | some (.row vs true opn) => if o + cs.length ≤ vs.length ∧ cs.all one = true then some (σ.set b (.row (splice vs o cs) true opn)) else none
  | _ => none

def kill (σ : AHeap) (b : Nat) : AHeap :=
  match σ[b]? with
  | some (.row _ _ (some _)) => σ.set b .dead
  | _ => σ

def isIntD : TypeDesc → Bool
  | .int _ => true
  | _ => false

def aAppend (σ : AHeap) (argTypes : List TypeId) (args : List Value) : Option (Value × AHeap) :=
  match argTypes, args with
  | t :: t2 :: _, s :: x :: _ =>
    match P.underlying t, P.underlying t2, s, sLen x with
    | some (.slice e), some d2, .slice base len cap, some n =>
      match P.info? e with
      | some inf =>
        bif isIntD d2 then none else
        match aCells σ inf.size n x with
        | some new =>
          if len + n ≤ cap then
            match base with
            | some ⟨b, o, some z⟩ =>
              match aPut σ b (o + len * inf.size) new with
              | some σ' => some (.slice (some ⟨b, o, some z⟩) (len + n) cap, σ')
              | none => none
            | some _ => none
            | none => if new = [] then some (.slice none (len + n) cap, σ) else none
          else
            match aCells σ inf.size len s with
            | some old =>
              if (len + n) * inf.bytes ≤ 70368744177664 ∧ inf.bytes ≤ 1048576 ∧ len + n ≤ 70368744177664 ∧ new.all one = true then
                match tZero P e with
                | some zz =>
                  if zz.cells.size ≠ inf.size then none else
                  match base with
                  | none => some (.slice (some ⟨σ.length, 0, some inf.size⟩) (len + n) (len + n), σ ++ [.row (old ++ new) true (some inf.size)])
                  | some ⟨b, _, some z⟩ =>
                    if z = inf.size ∧ len ≤ cap then
                      match σ[b]? with
                      | some (.row _ rw opn) =>
                        if rw = true ∨ opn = none then
                          some (.slice (some ⟨σ.length, 0, some inf.size⟩) (len + n) (len + n), kill σ b ++ [.row (old ++ new) true (some inf.size)])
                        else none
                      | _ => none
                    else none
                  | some _ => none
                | none => none
              else none
            | none => none
        | none => none
      | none => none
    | _, _, _, _ => none
  | _, _ => none

def aCopy (σ : AHeap) (argTypes : List TypeId) (args : List Value) : Option (Value × AHeap) :=
  match argTypes, args with
  | t :: _, s :: x :: _ =>
    match P.underlying t, s, sLen x with
    | some (.slice e), .slice base len _, some n =>
      match tSize P e with
      | some sz =>
        match aCells σ sz (min n len) x with
        | some cs =>
          match base with
          | some ⟨b, o, some _⟩ =>
            match aPut σ b o cs with
            | some σ' => some (.int .i64 (min n len : Nat), σ')
            | none => none
          | some _ => none
          | none => if cs = [] then some (.int .i64 (min n len : Nat), σ) else none
        | none => none
      | none => none
    | _, _, _ => none
  | _, _ => none

def aMake (σ : AHeap) (t : TypeId) (l c : Value) : Option (Value × AHeap) :=
  match P.underlying t, l, c with
  | some (.slice e), .int _ len, .int _ cap =>
    match P.info? e with
    | some inf =>
      if 0 ≤ len ∧ len ≤ cap ∧ cap * inf.bytes ≤ 281474976710656 ∧ cap ≤ 281474976710656 then
        match tZero P e with
        | some z =>
          if z.cells.size = inf.size ∧ inf.size ≠ 0 ∧ z.cells.toList.all one = true then
            some (.slice (some ⟨σ.length, 0, some inf.size⟩) len.toNat cap.toNat, σ ++ [.row (zrow z.cells.toList (cap.toNat * inf.size)) true none])
          else none
        | none => none
      else none
    | none => none
  | _, _, _ => none

def mapP (f : Operand → Option Value) : List (Nat × Operand) → Option (List (Nat × Value))
  | [] => some []
  | (i, x) :: xs => match f x, mapP f xs with
    | some v, some vs => some ((i, v) :: vs)
    | _, _ => none

def aBuildSlice (σ : AHeap) (t : TypeId) (len : Nat) (parts : List (Nat × Value)) : Option (Value × AHeap) :=
  match P.underlying t with
  | some (.slice e) =>
    match tSize P e, tZero P e with
    | some size, some z =>
      if len * size ≤ 16777216 ∧ z.cells.size = size ∧ size ≠ 0 then
        match fillA (fun i => some (i * size, size)) (zrow z.cells.toList (len * size)) parts with
        | some cells => some (.slice (some ⟨σ.length, 0, some size⟩) len len, σ ++ [.row cells true none])
        | none => none
      else none
    | _, _ => none
  | _ => none

def aBuild (t : TypeId) (parts : List (Nat × Value)) : Option Value :=
  match tZero P t, P.underlying t with
  | some z, some (.struct fields) =>
    match fillA (fun i => match fields[i]? with | some f => (match tSize P f.type with | some n => some (f.offset, n) | none => none) | none => none) z.cells.toList parts with
    | some cells => bif fields.all (fun f => (tSize P f.type).isSome) then some (.agg cells.toArray) else none
    | none => none
  | some z, some (.array _ e) =>
    match tSize P e with
    | some size =>
      match fillA (fun i => some (i * size, size)) z.cells.toList parts with
      | some cells => some (.agg cells.toArray)
      | none => none
    | none => none
  | _, _ => none

def aRange (σ : AHeap) (t : TypeId) (x : Value) : Option (Value × AHeap) :=
  match P.underlying t, x with
  | some .string, .string s => some (.pointer (some ⟨σ.length, 0, none⟩), σ ++ [.iter s 0])
  | _, _ => none

def aNext (σ : AHeap) (it : Value) : Option (Value × AHeap) :=
  match it with
  | .pointer (some ⟨b, 0, none⟩) =>
    match σ[b]? with
    | some (.iter s pos) =>
      if pos < s.size then
        some (.tuple #[.bool true, .int .i64 pos, .int .i32 (Utf8.decode s pos).1], σ.set b (.iter s (pos + (Utf8.decode s pos).2)))
      else some (.tuple #[.bool false], σ)
    | _ => none
  | _ => none

/-- THE OPERATIONS ON MEMORY. -/
def aMem (fr : List Value) (σ : AHeap) (o : Op) : Option (Value × AHeap) :=
  match o with
  | .load t x => match aev fr x with | some a => (match aLoad P σ t a with | some v => some (v, σ) | none => none) | none => none
  | .store t x y => match aev fr x, aev fr y with | some a, some v => (match aStore P σ t a v with | some σ' => some (undef, σ') | none => none) | _, _ => none
  | .alloc t => match tZero P t with | some z => some (newP σ z.cells.toList) | none => none
  | .box _ x => match aev fr x with | some v => some (newP σ v.cells.toList) | none => none
  | .build t ps => match mapP (aev fr) ps.toList with | some vs => (match aBuild P t vs with | some v => some (v, σ) | none => none) | none => none
  | .buildSlice t n ps => match mapP (aev fr) ps.toList with | some vs => aBuildSlice P σ t n vs | none => none
  | .makeSlice t l c => match aev fr l, aev fr c with | some a, some b => aMake P σ t a b | _, _ => none
  | .range t x => match aev fr x with | some v => aRange P σ t v | none => none
  | .next x true => match aev fr x with | some v => aNext σ v | none => none
  | .call { callee := .builtin .append, args, argTypes } => match mapO (aev fr) args.toList with | some vs => aAppend P σ argTypes.toList vs | none => none
  | .call { callee := .builtin .copy, args, argTypes } => match mapO (aev fr) args.toList with | some vs => aCopy P σ argTypes.toList vs | none => none
  | _ => none
end defs

end Go.Lk
