/- More operations that yield a value of their operands alone: two operands; conversions. -/
import Derived.Test.YtmomainjlncogaaLkJK
import Derived.Laws.StructEq
namespace Go.Lk
set_option linter.unusedSimpArgs false

def ibin (op : BinOp) (k : IntKind) (a b : Int) : Option Value :=
  match op with
  | .add => some (.int k (k.wrap (a + b)))
  | .sub => some (.int k (k.wrap (a - b)))
  | .mul => some (.int k (k.wrap (a * b)))
  | .quo => if b = 0 then none else some (.int k (k.wrap (a.tdiv b)))
  | .rem => if b = 0 then none else some (.int k (a.tmod b))
  | .and => some (.int k (k.wrap (BitVec.ofInt k.bits a &&& BitVec.ofInt k.bits b).toNat))
  | .or => some (.int k (k.wrap (BitVec.ofInt k.bits a ||| BitVec.ofInt k.bits b).toNat))
  | .xor => some (.int k (k.wrap (BitVec.ofInt k.bits a ^^^ BitVec.ofInt k.bits b).toNat))
  | .andNot => some (.int k (k.wrap (BitVec.ofInt k.bits a &&& ~~~BitVec.ofInt k.bits b).toNat))
  | .eql => some (.bool (a == b))
  | .neq => some (.bool (a != b))
  | .lss => some (.bool (decide (a < b)))
  | .leq => some (.bool (decide (a ≤ b)))
  | .gtr => some (.bool (decide (a > b)))
  | .geq => some (.bool (decide (a ≥ b)))
  | _ => none

def shbin (op : BinOp) (k : IntKind) (a b : Int) : Option Value :=
  if b < 0 then none else
  match op with
  | .shl => some (.int k (k.wrap (a * 2 ^ (min b.toNat k.bits))))
  | .shr => some (.int k (a.fdiv (2 ^ (min b.toNat k.bits))))
  | _ => none

/-- One cell held against another one. -/
def eq1 (P : Program) (t : TypeId) (x y : Value) : Option Bool :=
  match P.underlying t, x, y with
  | some (.int _), .int k a, .int k' b => if k = k' then some (a == b) else none
  | some .bool, .bool a, .bool b => some (a == b)
  | some (.float _), .float .f64 a, .float .f64 b => some (feq a b)
  | some .string, .string a, .string b => some (a.toList == b.toList)
  | some (.pointer _), .pointer none, .pointer b => some b.isNone
  | some (.pointer _), .pointer (some _), .pointer none => some false
  | some (.slice _), .slice none _ _, .slice b _ _ => some b.isNone
  | some (.slice _), .slice (some _) _ _, .slice none _ _ => some false
  | _, _, _ => none

def cell1 (P : Program) (t : TypeId) : Bool :=
  match P.underlying t with
  | some (.int _) | some .bool | some (.float _) | some .string => true
  | _ => false

def eqFieldsA (P : Program) (xs ys : List Value) : List Field → Option Bool
  | [] => some true
  | f :: fs =>
    if f.name ≠ "_" then
      bif cell1 P f.type then
        match xs[f.offset]?, ys[f.offset]? with
        | some a, some b =>
          match eq1 P f.type a b with
          | some r => match eqFieldsA P xs ys fs with
            | some r' => some (r && r')
            | none => none
          | none => none
        | _, _ => none
      else none
    else none

def eqElemsA (P : Program) (e : TypeId) (xs ys : List Value) : List Nat → Option Bool
  | [] => some true
  | i :: is =>
    match xs[i]?, ys[i]? with
    | some a, some b =>
      match eq1 P e a b with
      | some r => match eqElemsA P e xs ys is with
        | some r' => some (r && r')
        | none => none
      | none => none
    | _, _ => none

def aEq (P : Program) (t : TypeId) (x y : Value) : Option Bool :=
  match x, y with
  | .agg xs, .agg ys =>
    bif P.eqGuardType P.depth t then none else
    match P.underlying t with
    | some (.struct _) => bif P.stoodInHeld t then none else eqFieldsA P xs.toList ys.toList (P.fieldsOf t).toList
    | some (.array len e) => bif cell1 P e && ((P.info? e).map (·.size) == some 1) then eqElemsA P e xs.toList ys.toList (List.range' 0 len) else none
    | _ => none
  | .nilIface, _ => none
  | _, .nilIface => none
  | x, y => eq1 P t x y

def eqOp (op : BinOp) (r : Option Bool) : Option Value :=
  match op, r with
  | .eql, some r => some (.bool r)
  | .neq, some r => some (.bool !r)
  | _, _ => none

def aBin (C : Program) (ex : Bool) (op : BinOp) (t : TypeId) (x y : Value) : Option Value :=
  match x, y with
  | .int k a, .int k' b =>
    match op with
    | .shl | .shr => shbin op k a b
    | _ => if k = k' then ibin op k a b else none
  | .float .f64 a, .float .f64 b => fbin ex op a b
  | .complex .f64 a b, .complex .f64 c d =>
    match op with
    | .add => bif ex then none else some (.complex .f64 (fadd a c) (fadd b d))
    | .sub => bif ex then none else some (.complex .f64 (fsub a c) (fsub b d))
    | .eql => some (.bool (feq a c && feq b d))
    | .neq => some (.bool !(feq a c && feq b d))
    | _ => none
  | .string a, .string b =>
    match op with
    | .eql => some (.bool (a.toList == b.toList))
    | .neq => some (.bool !(a.toList == b.toList))
    | _ => none
  | .bool a, y => eqOp op (aEq C t (.bool a) y)
  | .pointer a, y => eqOp op (aEq C t (.pointer a) y)
  | .slice a n c, y => eqOp op (aEq C t (.slice a n c) y)
  | .agg a, y => eqOp op (aEq C t (.agg a) y)
  | _, _ => none

section
variable {ex : Bool} {μ : List (Option Ent)} {P : Program}

theorem feq_cn (x y : Nat) : feq (cn ex x) (cn ex y) = feq x y := by unfold feq; rw [order_cn]

theorem ibin_sound {op : BinOp} {k : IntKind} {a b : Int} {v : Value} (h : ibin op k a b = some v) (hs : op ≠ .shl) (hs' : op ≠ .shr) (t : TypeId) :
    okv P ex μ (binOp op t (.int k a) (.int k b)) v := by
  cases op <;> simp only [ibin] at h <;> (try (cases h; done)) <;> (try contradiction)
  case quo =>
    split at h
    · cases h
    · rename_i hb; cases h
      refine .of (fun w => ?_) (.int _ _)
      simp [binOp, Op.intDiv, hb]
  case rem =>
    split at h
    · cases h
    · rename_i hb; cases h
      refine .of (fun w => ?_) (.int _ _)
      simp [binOp, Op.intDiv, hb]
  all_goals
    cases h
    refine .of (fun w => ?_) (by constructor)
    simp [binOp, Op.intArith, Op.intBits, Op.intCmp]

theorem shbin_sound {op : BinOp} {k k' : IntKind} {a b : Int} {v : Value} (h : shbin op k a b = some v) (t : TypeId) :
    okv P ex μ (binOp op t (.int k a) (.int k' b)) v := by
  unfold shbin at h
  split at h
  · cases h
  · rename_i hb
    cases op <;> simp only at h <;> (try (cases h; done))
    all_goals
      cases h
      refine .of (fun w => ?_) (.int _ _)
      simp [binOp, Op.shift, hb]

theorem eq1_sound {t : TypeId} {x y x' y' : Value} {r : Bool} (h : eq1 P t x y = some r) (hx : VR ex μ x x') (hy : VR ex μ y y') (d : Nat) (w : World) :
    (Op.equalIn (d + 1) t x' y').run P w = .ok r w := by
  unfold eq1 at h
  split at h
  case h_1 hu =>
    split at h
    · cases h
      rw [hx.int_of, hy.int_of]
      subst_vars
      simp [Op.equalIn, run_underlying hu]
    · cases h
  case h_2 hu => cases h; rw [hx.bool_of, hy.bool_of]; simp [Op.equalIn, run_underlying hu]
  case h_3 hu =>
    cases h
    obtain ⟨a, rfl, rfl⟩ := hx.float_of
    obtain ⟨b, rfl, rfl⟩ := hy.float_of
    rw [feq_cn]
    simp [Op.equalIn, run_underlying hu, Op.floatEq]
    rfl
  case h_4 hu => cases h; rw [hx.string_of, hy.string_of]; simp [Op.equalIn, run_underlying hu, beq_toListBytes]
  case h_5 hu => cases h; cases hx; cases hy <;> simp [Op.equalIn, run_underlying hu]
  case h_6 hu => cases h; cases hx; cases hy; simp [Op.equalIn, run_underlying hu]
  case h_7 hu => cases h; cases hx; cases hy <;> simp [Op.equalIn, run_underlying hu]
  case h_8 hu => cases h; cases hx <;> cases hy <;> simp [Op.equalIn, run_underlying hu]
  case h_9 => cases h

theorem run_part1 {t : TypeId} (h : cell1 P t = true) {cs : Array Value} {o : Nat} {v : Value} (hv : cs[o]? = some v) (w : World) :
    (part t cs o).run P w = .ok v w := by
  unfold cell1 at h
  split at h <;> first | (cases h; done) | (rename_i hu; simp [part, isAgg, run_underlying hu, hv])

theorem eqFieldsA_sound {xs ys xs' ys' : Array Value} (hx : VRs ex μ xs.toList xs'.toList) (hy : VRs ex μ ys.toList ys'.toList) (d : Nat) (w : World) :
    ∀ (fs : List Field) (r : Bool), eqFieldsA P xs.toList ys.toList fs = some r → (Op.eqFields (d + 1) xs' ys' fs).run P w = .ok r w := by
  intro fs
  induction fs with
  | nil => intro r h; cases h; rfl
  | cons f fs ih =>
    intro r h
    unfold eqFieldsA at h
    split at h
    · rename_i hn
      cases hc : cell1 P f.type with
      | false => rw [hc] at h; cases h
      | true =>
        rw [hc] at h
        simp only [cond_true] at h
        split at h
        · rename_i a b ha hb
          obtain ⟨a', ha', va⟩ := hx.2 _ _ ha
          obtain ⟨b', hb', vb⟩ := hy.2 _ _ hb
          split at h
          · rename_i r1 he
            split at h
            · rename_i r2 h2
              cases h
              have h3 := ih _ h2
              have h4 := eq1_sound he va vb d w
              rw [Array.getElem?_toList] at ha' hb'
              simp only [Op.eqFields, if_pos hn, Sem.run_bind, run_part1 hc ha', run_part1 hc hb', Result.andThen_ok, h4, Sem.run_ite]
              cases r1 <;> simp [h3]
            · cases h
          · cases h
        · cases h
    · cases h

def eqElems (d : Nat) (e : TypeId) (n : Nat) (xs ys : Array Value) : List Nat → Sem Bool
  | [] => pure true
  | i :: is => do
    let a ← part e xs (i * n)
    let b ← part e ys (i * n)
    let r ← Op.equalIn d e a b
    if (!r) = true then pure false else eqElems d e n xs ys is

theorem run_equalIn_array (w : World) (d : Nat) (t e : TypeId) (len n : Nat) (xs ys : Array Value) (ht : P.underlying t = some (.array len e))
    (hn : (P.info? e).map (·.size) = some n) :
    (Op.equalIn (d + 1) t (.agg xs) (.agg ys)).run P w = (eqElems d e n xs ys (List.range' 0 len)).run P w := by
  have hsz : ∀ w, (sizeOf e).run P w = .ok n w := by
    intro w
    cases hi : P.info? e with
    | none => rw [hi] at hn; cases hn
    | some i => rw [hi] at hn; cases hn; simp [sizeOf, typeInfo, hi]
  simp only [Op.equalIn, Sem.run_bind, run_underlying ht, Result.andThen_ok, hsz]
  rw [Std.Legacy.Range.forIn_eq_forIn_range']
  simp only [Std.Legacy.Range.size, Nat.sub_zero, Nat.add_sub_cancel, Nat.div_one]
  generalize List.range' 0 len = is
  clear ht
  induction is generalizing w with
  | nil => simp [eqElems]
  | cons i is ih =>
    simp only [List.forIn_cons, eqElems, Sem.run_bind, Sem.run_ite]
    generalize (part e xs (i * n)).run P w = r1
    cases r1 with
    | ok a w1 =>
      simp only [Result.andThen_ok]
      generalize (part e ys (i * n)).run P w1 = r2
      cases r2 with
      | ok b w2 =>
        simp only [Result.andThen_ok]
        generalize (Op.equalIn d e a b).run P w2 = r3
        cases r3 with
        | ok r w3 =>
          cases r
          · simp only [Result.andThen_ok, Bool.not_false, if_true, Sem.run_pure]
          · simp only [Result.andThen_ok, Bool.not_true, Bool.false_eq_true, if_false, Sem.run_pure]
            exact ih w3
        | halt x w3 => simp [Result.andThen]
      | halt x w2 => simp [Result.andThen]
    | halt x w1 => simp [Result.andThen]

theorem eqElemsA_sound {e : TypeId} {xs ys xs' ys' : Array Value} (hx : VRs ex μ xs.toList xs'.toList) (hy : VRs ex μ ys.toList ys'.toList)
    (hc : cell1 P e = true) (d : Nat) (w : World) :
    ∀ (is : List Nat) (r : Bool), eqElemsA P e xs.toList ys.toList is = some r → (eqElems (d + 1) e 1 xs' ys' is).run P w = .ok r w := by
  intro is
  induction is with
  | nil => intro r h; cases h; rfl
  | cons i is ih =>
    intro r h
    unfold eqElemsA at h
    split at h
    · rename_i a b ha hb
      obtain ⟨a', ha', va⟩ := hx.2 _ _ ha
      obtain ⟨b', hb', vb⟩ := hy.2 _ _ hb
      split at h
      · rename_i r1 he
        split at h
        · rename_i r2 h2
          cases h
          have h3 := ih _ h2
          have h4 := eq1_sound he va vb d w
          rw [Array.getElem?_toList] at ha' hb'
          simp only [eqElems, Nat.mul_one, Sem.run_bind, run_part1 hc ha', run_part1 hc hb', Result.andThen_ok, h4, Sem.run_ite]
          cases r1 <;> simp [h3]
        · cases h
      · cases h
    · cases h

theorem aEq_sound {t : TypeId} {x y x' y' : Value} {r : Bool} (h : aEq P t x y = some r) (hx : VR ex μ x x') (hy : VR ex μ y y') (w : World) :
    (Op.equal t x' y').run P w = .ok r w := by
  unfold Op.equal
  show (Op.equalIn (9998 + 1 + 1) t x' y').run P w = _
  unfold aEq at h
  split at h
  · rename_i xs ys
    obtain ⟨xs', rfl, vx⟩ := hx.agg_iff
    obtain ⟨ys', rfl, vy⟩ := hy.agg_iff
    cases hg : P.eqGuardType P.depth t <;> rw [hg] at h <;> simp only [cond_true, cond_false] at h
    · split at h
      · rename_i fs hu
        cases hst : P.stoodInHeld t <;> rw [hst] at h <;> simp only [cond_true, cond_false] at h
        · have hf : P.underlying t = some (.struct (P.fieldsOf t)) := by rw [hu]; simp [Program.fieldsOf, hu]
          rw [run_equalIn_struct w _ t xs' ys' hf hst]
          exact eqFieldsA_sound vx vy _ w _ r h
        · cases h
      · rename_i len e hu
        cases hc : (cell1 P e && ((P.info? e).map (·.size) == some 1)) <;> rw [hc] at h <;> simp only [cond_true, cond_false] at h
        · cases h
        · rw [Bool.and_eq_true] at hc
          rw [run_equalIn_array w _ t e len 1 xs' ys' hu (by simpa using hc.2)]
          exact eqElemsA_sound vx vy hc.1 _ w _ r h
      · cases h
    · cases h
  · cases h
  · cases h
  · exact eq1_sound h hx hy _ w


/-- The guard ahead of '==' lets by what is served here. -/
theorem eqGuard_ok {op : BinOp} {t : TypeId} {x y x' y' : Value} (a b : Operand) (h : op = .eql ∨ op = .neq → (∃ xs ys, x = .agg xs ∧ y = .agg ys) ∨ x = .nilIface → (aEq P t x y).isSome = true)
    (hx : VR ex μ x x') (hy : VR ex μ y y') (w : World) : (eqGuard op t a b x' y').run P w = .ok () w := by
  have main : (op = .eql ∨ op = .neq) → (eqGuard op t a b x' y').run P w = .ok () w := by
    intro hop
    have hs := h hop
    unfold eqGuard
    clear h
    rw [if_neg (by rcases hop with rfl | rfl <;> decide)]
    cases hx <;> (try rfl)
    · have := hs (.inr rfl); cases y <;> simp [aEq] at this
    · cases hy <;> (try rfl)
      have := hs (.inl ⟨_, _, rfl, rfl⟩)
      simp only [aEq] at this
      rename_i xs _ _ _ _ _ _ _
      cases hg : P.eqGuardType P.depth t
      · simp [hg]
      · rw [hg] at this; simp at this
  cases op
  case eql => exact main (.inl rfl)
  case neq => exact main (.inr rfl)
  all_goals rfl

end
end Go.Lk
