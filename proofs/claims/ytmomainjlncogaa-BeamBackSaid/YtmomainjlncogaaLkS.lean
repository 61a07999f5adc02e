/- Operations that yield a value of their operands alone: all of them. -/
import Derived.Test.YtmomainjlncogaaLkQ
namespace Go.Lk
set_option linter.unusedSimpArgs false
set_option linter.unusedVariables false

section defs
variable (P : Program)

def isAggD : TypeDesc → Bool
  | .struct _ | .array _ _ => true
  | _ => false

def tSize (t : TypeId) : Option Nat := (P.info? t).map (·.size)

def aPart (t : TypeId) (cs : List Value) (off : Nat) : Option Value :=
  match P.underlying t with
  | some d =>
    bif isAggD d then
      match tSize P t with
      | some n => some (.agg ((cs.drop off).take n).toArray)
      | none => none
    else cs[off]?
  | none => none

def aIndexAddr (t : TypeId) (x i : Value) : Option Value :=
  match P.underlying t, x, i with
  | some (.slice e), .slice (some ⟨b, o, _⟩) len _, .int _ n =>
    match tSize P e with
    | some s => if 0 ≤ n ∧ n < (len : Int) then some (.pointer (some ⟨b, o + n.toNat * s, none⟩)) else none
    | none => none
  | some (.array len e), .pointer (some ⟨b, o, none⟩), .int _ n =>
    match tSize P e with
    | some s => if 0 ≤ n ∧ n < (len : Int) then some (.pointer (some ⟨b, o + n.toNat * s, none⟩)) else none
    | none => none
  | _, _, _ => none

def aFieldAddr (s : TypeId) (x : Value) (f : Nat) : Option Value :=
  match P.underlying s, x with
  | some (.struct fields), .pointer (some ⟨b, o, none⟩) =>
    match fields[f]? with
    | some fl =>
      match tSize P fl.type with
      | some n => if n = 0 then none else some (.pointer (some ⟨b, o + fl.offset, none⟩))
      | none => none
    | none => none
  | _, _ => none

def aField (t : TypeId) (x : Value) (f : Nat) : Option Value :=
  match P.underlying t, x with
  | some (.struct fields), .agg cs =>
    match fields[f]? with
    | some fl => aPart P fl.type cs.toList fl.offset
    | none => none
  | _, _ => none

def aIndex (t : TypeId) (x i : Value) : Option Value :=
  match P.underlying t, x, i with
  | some (.array len e), .agg cs, .int _ n =>
    match tSize P e with
    | some s => if 0 ≤ n ∧ n < (len : Int) then aPart P e cs.toList (n.toNat * s) else none
    | none => none
  | some .string, .string s, .int _ n =>
    if 0 ≤ n then
      match s[n.toNat]? with
      | some b => some (.int .u8 b.toNat)
      | none => none
    else none
  | _, _, _ => none

def bnd (v : Option Value) (dflt y : Nat) : Option Nat :=
  match v with
  | none => some dflt
  | some (.int _ i) => if 0 ≤ i ∧ i ≤ (y : Int) then some i.toNat else none
  | some _ => none

/-- Low, high, and the most. -/
def bnds (len cap : Nat) (low high max : Option Value) : Option (Nat × Nat × Nat) :=
  match bnd max cap cap with
  | none => none
  | some m =>
    if max.isSome && high.isNone then none else
    match bnd high len (if max.isSome then m else cap) with
    | none => none
    | some h =>
      match bnd low 0 h with
      | none => none
      | some l => some (l, h, m)

def aSlice (t : TypeId) (x : Value) (low high max : Option Value) : Option Value :=
  match P.underlying t, x with
  | some (.array n e), .pointer (some ⟨b, o, none⟩) =>
    match tSize P e, bnds n n low high max with
    | some s, some (l, h, m) => some (.slice (some ⟨b, o + l * s, some s⟩) (h - l) (m - l))
    | _, _ => none
  | some (.slice e), .slice none len cap =>
    match tSize P e, bnds len cap low high max with
    | some _, some (l, h, m) => some (.slice none (h - l) (m - l))
    | _, _ => none
  | some (.slice e), .slice (some ⟨b, o, some z⟩) len cap =>
    match tSize P e, bnds len cap low high max with
    | some s, some (l, h, m) => if s = z ∧ h ≤ m then some (.slice (some ⟨b, o + l * s, some s⟩) (h - l) (m - l)) else none
    | _, _ => none
  | some .string, .string s =>
    bif max.isSome then none else
    match bnds s.size s.size low high none with
    | some (l, h, _) => some (.string (s.extract l h))
    | none => none
  | _, _ => none

def aConv (src dst : TypeId) (x : Value) : Option Value :=
  match P.underlying src, P.underlying dst, x with
  | some _, some (.int k), .int _ n => some (.int k (k.wrap n))
  | some _, some (.float .f64), .int _ n => some (.float .f64 (FloatKind.f64.nearest n))
  | some _, some (.int k), .float .f64 b =>
    match (dbl.read b).toInt .zero with
    | some n => if k.min ≤ n ∧ n ≤ k.max then some (.int k n) else none
    | none => none
  | some _, some (.float .f64), .float .f64 b => some (.float .f64 b)
  | some (.complex .f64), some (.complex .f64), .complex .f64 a b => some (.complex .f64 a b)
  | some .string, some .string, .string s => some (.string s)
  | _, _, _ => none

def aLen (t : TypeId) (x : Value) : Option Value :=
  match P.underlying t, x with
  | some .string, .string s => some (.int .i64 s.size)
  | some (.array n _), _ => some (.int .i64 n)
  | some (.slice _), .slice _ n _ => some (.int .i64 n)
  | _, _ => none

def fmax (x y : Nat) : Nat :=
  match dbl.order x y with
  | none => qnan
  | some .lt => y
  | some .gt => x
  | some .eq => if (dbl.read x).neg then y else x
def fmin (x y : Nat) : Nat :=
  match dbl.order x y with
  | none => qnan
  | some .lt => x
  | some .gt => y
  | some .eq => if (dbl.read x).neg then x else y

def aMax2 (ex : Bool) : Value → Value → Option Value
  | .int k x, .int _ y => some (.int k (if y > x then y else x))
  | .float .f64 x, .float .f64 y => bif ex then none else some (.float .f64 (fmax x y))
  | _, _ => none
def aMin2 (ex : Bool) : Value → Value → Option Value
  | .int k x, .int _ y => some (.int k (if y < x then y else x))
  | .float .f64 x, .float .f64 y => bif ex then none else some (.float .f64 (fmin x y))
  | _, _ => none
def fold2 (f : Value → Value → Option Value) : Value → List Value → Option Value
  | x, [] => some x
  | x, y :: ys => match f x y with | some z => fold2 f z ys | none => none

def aBuiltin (ex : Bool) (b : Builtin) (argTypes : List TypeId) (args : List Value) : Option Value :=
  match b, argTypes, args with
  | .len, t :: _, x :: _ => aLen P t x
  | .real, _, [.complex k re _] => some (.float k re)
  | .imag, _, [.complex k _ im] => some (.float k im)
  | .complex, _, [.float .f64 re, .float .f64 im] => some (.complex .f64 re im)
  | .max, _, x :: xs => fold2 (aMax2 ex) x xs
  | .min, _, x :: xs => fold2 (aMin2 ex) x xs
  | _, _, _ => none

def aNil : Value → Option Value
  | .pointer (some a) => some (.pointer (some a))
  | .func (.func f) a b => some (.func (.func f) a b)
  | _ => none

def mapO (f : Operand → Option Value) : List Operand → Option (List Value)
  | [] => some []
  | x :: xs => match f x, mapO f xs with
    | some v, some vs => some (v :: vs)
    | _, _ => none
def optO (f : Operand → Option Value) : Option Operand → Option (Option Value)
  | none => some none
  | some x => match f x with | some v => some (some v) | none => none

/-- THE PURE OPERATIONS. -/
def aPure (ex : Bool) (fr : List Value) (o : Op) : Option Value :=
  match o with
  | .move x | .assign x => aev fr x
  | .pick c a b =>
    match aev fr c with
    | some (.bool t) => bif t then aev fr a else aev fr b
    | _ => none
  | .nilCheck x => match aev fr x with | some v => aNil v | none => none
  | .binOp op t x y _ => match aev fr x, aev fr y with | some v, some u => aBin P ex op t v u | _, _ => none
  | .unOp op _ x => match aev fr x with | some v => aUn ex op v | none => none
  | .convert s d x => match aev fr x with | some v => aConv P s d v | none => none
  | .makeInterface t x => match aev fr x, P.underlying t with
    | some v, some d => match d with | .interface _ => none | _ => some (.iface t v)
    | _, _ => none
  | .makeFunc f xs ys => match mapO (aev fr) xs.toList, mapO (aev fr) ys.toList with | some vs, some us => some (.func f vs.toArray us.toArray) | _, _ => none
  | .slice t x lo hi mx =>
    match aev fr x, optO (aev fr) lo, optO (aev fr) hi, optO (aev fr) mx with
    | some v, some l, some h, some m => aSlice P t v l h m
    | _, _, _, _ => none
  | .fieldAddr s x f => match aev fr x with | some v => aFieldAddr P s v f | none => none
  | .field t x f => match aev fr x with | some v => aField P t v f | none => none
  | .indexAddr t x i => match aev fr x, aev fr i with | some v, some u => aIndexAddr P t v u | _, _ => none
  | .index t x i => match aev fr x, aev fr i with | some v, some u => aIndex P t v u | _, _ => none
  | .extract x i => match aev fr x with | some (.tuple vs) => vs[i]? | _ => none
  | .call { callee := .builtin b, args, argTypes } => match mapO (aev fr) args.toList with | some vs => aBuiltin P ex b argTypes.toList vs | none => none
  | _ => none
end defs

end Go.Lk
