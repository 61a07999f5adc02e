import Derived.Test.YtmomainjlncogaaBa0
section
/- Operations on memory: what they say of the abstract heap. -/
namespace Go.Lk
set_option linter.unusedSimpArgs false
set_option linter.unusedVariables false

section defs
variable (P : Program)

def tZero (t : TypeId) : Option Value :=
  match (P.info? t).bind (·.zero) with
  | some z => bif cOk z then some z else none
  | none => none

def aLoad (σ : AHeap) (t : TypeId) (a : Value) : Option Value :=
  match a with
  | .pointer (some ⟨b, o, none⟩) =>
    match σ[b]? with
    | some (.row vs _ _) =>
      match P.underlying t with
      | some d =>
        bif isAggD d then
          match tSize P t with
          | some n => if o + n ≤ vs.length then some (.agg ((vs.drop o).take n).toArray) else none
          | none => none
        else vs[o]?
      | none => none
    | _ => none
  | _ => none

def aStore (σ : AHeap) (t : TypeId) (a x : Value) : Option AHeap :=
  match a with
  | .pointer (some ⟨b, o, none⟩) =>
    match σ[b]? with
    | some (.row vs true opn) =>
      match tSize P t with
      | some n => if x.cells.toList.length = n ∧ o + x.cells.toList.length ≤ vs.length ∧ x.cells.toList.all one = true then some (σ.set b (.row (splice vs o x.cells.toList) true opn)) else none
      | none => none
    | _ => none
  | _ => none

def newP (σ : AHeap) (cs : List Value) : Value × AHeap := (.pointer (some ⟨σ.length, 0, none⟩), σ ++ [.row cs true none])

def zrow (z : List Value) (n : Nat) : List Value := (List.range n).map fun i => z.getD (i % z.length) undef

def fillA (place : Nat → Option (Nat × Nat)) (cells : List Value) : List (Nat × Value) → Option (List Value)
  | [] => some cells
  | (i, v) :: rest =>
    match place i with
    | none => none
    | some (off, size) =>
      if v.cells.toList.length = size ∧ off + v.cells.toList.length ≤ cells.length then fillA place (splice cells off v.cells.toList) rest else none

/-- The elements' cells of a slice, the first n. -/
def aCells (σ : AHeap) (sz n : Nat) (x : Value) : Option (List Value) :=
  match x with
  | .slice (some ⟨b, o, some _⟩) len _ =>
    if n * sz = 0 then some [] else
    match σ[b]? with
    | some (.row vs _ _) => if n ≤ len ∧ o + n * sz ≤ vs.length then some ((vs.drop o).take (n * sz)) else none
    | _ => none
  | .slice none _ _ => if n * sz = 0 then some [] else none
  | _ => none

def sLen : Value → Option Nat
  | .slice _ n _ => some n
  | _ => none

/-- Cells are laid into a slice from an element on. -/
def aPut (σ : AHeap) (b o : Nat) (cs : List Value) : Option AHeap :=
  if cs = [] then some σ else
  match σ[b]? with
  | some (.row vs true opn) => if o + cs.length ≤ vs.length ∧ cs.all one = true then some (σ.set b (.row (splice vs o cs) true opn)) else none
  | _ => none

def kill (σ : AHeap) (b : Nat) : AHeap :=
  match σ[b]? with
  | some (.row _ _ (some _)) => σ.set b .dead
  | _ => σ

def isIntD : TypeDesc → Bool
  | .int _ => true
  | _ => false

def aAppend (σ : AHeap) (argTypes : List TypeId) (args : List Value) : Option (Value × AHeap) :=
  match argTypes, args with
  | t :: t2 :: _, s :: x :: _ =>
    match P.underlying t, P.underlying t2, s, sLen x with
    | some (.slice e), some d2, .slice base len cap, some n =>
      match P.info? e with
      | some inf =>
        bif isIntD d2 then none else
        match aCells σ inf.size n x with
        | some new =>
          if len + n ≤ cap then
            match base with
            | some ⟨b, o, some z⟩ =>
              match aPut σ b (o + len * inf.size) new with
              | some σ' => some (.slice (some ⟨b, o, some z⟩) (len + n) cap, σ')
              | none => none
            | some _ => none
            | none => if new = [] then some (.slice none (len + n) cap, σ) else none
          else
            match aCells σ inf.size len s with
            | some old =>
              if (len + n) * inf.bytes ≤ 70368744177664 ∧ inf.bytes ≤ 1048576 ∧ len + n ≤ 70368744177664 ∧ new.all one = true then
                match tZero P e with
                | some zz =>
                  if zz.cells.size ≠ inf.size then none else
                  match base with
                  | none => some (.slice (some ⟨σ.length, 0, some inf.size⟩) (len + n) (len + n), σ ++ [.row (old ++ new) true (some inf.size)])
                  | some ⟨b, _, some z⟩ =>
                    if z = inf.size ∧ len ≤ cap then
                      match σ[b]? with
                      | some (.row _ rw opn) =>
                        if rw = true ∨ opn = none then
                          some (.slice (some ⟨σ.length, 0, some inf.size⟩) (len + n) (len + n), kill σ b ++ [.row (old ++ new) true (some inf.size)])
                        else none
                      | _ => none
                    else none
                  | some _ => none
                | none => none
              else none
            | none => none
        | none => none
      | none => none
    | _, _, _, _ => none
  | _, _ => none

def aCopy (σ : AHeap) (argTypes : List TypeId) (args : List Value) : Option (Value × AHeap) :=
  match argTypes, args with
  | t :: _, s :: x :: _ =>
    match P.underlying t, s, sLen x with
    | some (.slice e), .slice base len _, some n =>
      match tSize P e with
      | some sz =>
        match aCells σ sz (min n len) x with
        | some cs =>
          match base with
          | some ⟨b, o, some _⟩ =>
            match aPut σ b o cs with
            | some σ' => some (.int .i64 (min n len : Nat), σ')
            | none => none
          | some _ => none
          | none => if cs = [] then some (.int .i64 (min n len : Nat), σ) else none
        | none => none
      | none => none
    | _, _, _ => none
  | _, _ => none

def aMake (σ : AHeap) (t : TypeId) (l c : Value) : Option (Value × AHeap) :=
  match P.underlying t, l, c with
  | some (.slice e), .int _ len, .int _ cap =>
    match P.info? e with
    | some inf =>
      if 0 ≤ len ∧ len ≤ cap ∧ cap * inf.bytes ≤ 281474976710656 ∧ cap ≤ 281474976710656 then
        match tZero P e with
        | some z =>
          if z.cells.size = inf.size ∧ inf.size ≠ 0 ∧ z.cells.toList.all one = true then
            some (.slice (some ⟨σ.length, 0, some inf.size⟩) len.toNat cap.toNat, σ ++ [.row (zrow z.cells.toList (cap.toNat * inf.size)) true none])
          else none
        | none => none
      else none
    | none => none
  | _, _, _ => none

def mapP (f : Operand → Option Value) : List (Nat × Operand) → Option (List (Nat × Value))
  | [] => some []
  | (i, x) :: xs => match f x, mapP f xs with
    | some v, some vs => some ((i, v) :: vs)
    | _, _ => none

def aBuildSlice (σ : AHeap) (t : TypeId) (len : Nat) (parts : List (Nat × Value)) : Option (Value × AHeap) :=
  match P.underlying t with
  | some (.slice e) =>
    match tSize P e, tZero P e with
    | some size, some z =>
      if len * size ≤ 16777216 ∧ z.cells.size = size ∧ size ≠ 0 then
        match fillA (fun i => some (i * size, size)) (zrow z.cells.toList (len * size)) parts with
        | some cells => some (.slice (some ⟨σ.length, 0, some size⟩) len len, σ ++ [.row cells true none])
        | none => none
      else none
    | _, _ => none
  | _ => none

def aBuild (t : TypeId) (parts : List (Nat × Value)) : Option Value :=
  match tZero P t, P.underlying t with
  | some z, some (.struct fields) =>
    match fillA (fun i => match fields[i]? with | some f => (match tSize P f.type with | some n => some (f.offset, n) | none => none) | none => none) z.cells.toList parts with
    | some cells => bif fields.all (fun f => (tSize P f.type).isSome) then some (.agg cells.toArray) else none
    | none => none
  | some z, some (.array _ e) =>
    match tSize P e with
    | some size =>
      match fillA (fun i => some (i * size, size)) z.cells.toList parts with
      | some cells => some (.agg cells.toArray)
      | none => none
    | none => none
  | _, _ => none

def aRange (σ : AHeap) (t : TypeId) (x : Value) : Option (Value × AHeap) :=
  match P.underlying t, x with
  | some .string, .string s => some (.pointer (some ⟨σ.length, 0, none⟩), σ ++ [.iter s 0])
  | _, _ => none

def aNext (σ : AHeap) (it : Value) : Option (Value × AHeap) :=
  match it with
  | .pointer (some ⟨b, 0, none⟩) =>
    match σ[b]? with
    | some (.iter s pos) =>
      if pos < s.size then
        some (.tuple #[.bool true, .int .i64 pos, .int .i32 (Utf8.decode s pos).1], σ.set b (.iter s (pos + (Utf8.decode s pos).2)))
      else some (.tuple #[.bool false], σ)
    | _ => none
  | _ => none

/-- THE OPERATIONS ON MEMORY. -/
def aMem (fr : List Value) (σ : AHeap) (o : Op) : Option (Value × AHeap) :=
  match o with
  | .load t x => match aev fr x with | some a => (match aLoad P σ t a with | some v => some (v, σ) | none => none) | none => none
  | .store t x y => match aev fr x, aev fr y with | some a, some v => (match aStore P σ t a v with | some σ' => some (undef, σ') | none => none) | _, _ => none
  | .alloc t => match tZero P t with | some z => some (newP σ z.cells.toList) | none => none
  | .box _ x => match aev fr x with | some v => some (newP σ v.cells.toList) | none => none
  | .build t ps => match mapP (aev fr) ps.toList with | some vs => (match aBuild P t vs with | some v => some (v, σ) | none => none) | none => none
  | .buildSlice t n ps => match mapP (aev fr) ps.toList with | some vs => aBuildSlice P σ t n vs | none => none
  | .makeSlice t l c => match aev fr l, aev fr c with | some a, some b => aMake P σ t a b | _, _ => none
  | .range t x => match aev fr x with | some v => aRange P σ t v | none => none
  | .next x true => match aev fr x with | some v => aNext σ v | none => none
  | .call { callee := .builtin .append, args, argTypes } => match mapO (aev fr) args.toList with | some vs => aAppend P σ argTypes.toList vs | none => none
  | .call { callee := .builtin .copy, args, argTypes } => match mapO (aev fr) args.toList with | some vs => aCopy P σ argTypes.toList vs | none => none
  | _ => none
end defs

end Go.Lk
end

section
/- Operations on memory: they do what the abstract ones say (loads, stores, new blocks). -/
namespace Go.Lk
set_option linter.unusedSimpArgs false
set_option linter.unusedVariables false

variable {ex : Bool} {μ μ' : List (Option Ent)} {P : Program} {B : Nat → Prop} {σ σ' : AHeap} {w w' : World}

/-- What an operation yields, held against the abstract value. -/
def NextR (ex : Bool) (μ : List (Option Ent)) (v : Value) : Next → Prop
  | .value v' => VR ex μ v v'
  | .skip => v = undef
  | _ => False

/-- The operation's end: a value, a heap that goes on from the one before. -/
def okh (P : Program) (ex : Bool) (B : Nat → Prop) (μ : List (Option Ent)) (σ' : AHeap) (s : Sem Next) (v : Value) (w : World) : Prop :=
  ∃ (nx : Next) (w' : World) (μ' : List (Option Ent)), s.run P w = .ok nx w' ∧ NextR ex μ' v nx ∧ HR ex B μ' σ' w' ∧ Ext μ μ' ∧ Blw B w w'

theorem Blw.drawn {B : Nat → Prop} (w : World) (n : Nat) : Blw B w { w with drawn := w.drawn + n } := ⟨rfl, rfl, rfl, Nat.le_refl _, fun _ _ => rfl⟩

theorem okn.mem {s : Sem Next} {v : Value} (h : okn P ex μ s v) (hr : HR ex B μ σ w) : okh P ex B μ σ s v w := by
  obtain ⟨n, v', h1, h2⟩ := h w
  exact ⟨_, _, μ, h1, h2, hr.of_heap rfl, Ext.refl _, Blw.drawn _ _⟩

theorem load_sound {t : TypeId} {a a' v : Value} (h : aLoad P σ t a = some v) (ha : VR ex μ a a') (hr : HR ex B μ σ w) :
    ∃ v', (Instr.loadAt t a').run P w = .ok v' w ∧ VR ex μ v v' := by
  unfold aLoad at h
  split at h
  · split at h
    · rename_i b o _ vs rw opn hb
      cases ha with
      | ptr hm =>
        rename_i e
        obtain ⟨h0, _, c, el, lo, hi, h2, h3, h4, _⟩ := hr.obj _ _ _ hb hm
        split at h
        · rename_i d hd
          cases hag : isAggD d <;> rw [hag] at h <;> simp only [cond_true, cond_false] at h
          · obtain ⟨y, hy, hv⟩ := h4.2 _ _ h
            rw [List.getElem?_take] at hy
            split at hy
            · rw [List.getElem?_drop, Array.getElem?_toList] at hy
              refine ⟨y, ?_, hv⟩
              have hc : w.cell? ⟨e.cb, e.base + o, none⟩ = some y := by simp [World.cell?, h2, hy]
              simp [Instr.loadAt, Instr.sureAddr, loadVar, run_isAgg' hd, hag, hc]
            · cases hy
          · split at h
            · rename_i n hn
              split at h
              · rename_i hle
                cases h
                refine ⟨.agg ((c.toList.drop (e.base + o)).take n).toArray, ?_, ?_⟩
                · have := run_loadCells (P := P) (off := e.base + o) (n := n) h2 (by omega)
                  simp [Instr.loadAt, Instr.sureAddr, loadVar, run_isAgg' hd, hag, run_sizeOf' hn, this]
                · apply VRs.toAgg'
                  have := (h4.drop o).take n
                  rw [List.drop_take, List.drop_drop, List.take_take] at this
                  rwa [Nat.min_eq_left (by omega)] at this
              · cases h
            · cases h
        · cases h
    · cases h
  · cases h

/-- The cells of a row, behind a store. -/
theorem splice_row {c : Array Value} {base n o : Nat} {cs : List Value} (hc : base + n ≤ c.size) (ho : o + cs.length ≤ n) {c' : Array Value}
    (h : c'.toList = splice c.toList (base + o) cs) : (c'.toList.drop base).take n = splice ((c.toList.drop base).take n) o cs := by
  rw [h]
  unfold splice
  apply List.ext_getElem?
  intro i
  simp only [List.getElem?_take, List.getElem?_drop, List.getElem?_append, List.length_append, List.length_take, Array.length_toList, List.length_drop]
  by_cases hi : i < n
  · rw [if_pos hi]
    by_cases h1 : i < o
    · rw [if_pos (by omega), if_pos (by omega), if_pos (by omega), if_pos (by omega), if_pos (by omega), if_pos (by omega), if_pos hi]
    · by_cases h2 : i < o + cs.length
      · rw [if_pos (by omega), if_neg (by omega), if_pos (by omega), if_neg (by omega)]
        congr 1
        omega
      · rw [if_neg (by omega), if_neg (by omega), if_pos (by omega)]
        congr 1
        omega
  · rw [if_neg hi]
    by_cases h2 : i < o + cs.length
    · omega
    · rw [if_neg (by omega), if_neg (by omega)]

theorem put_sound {b o : Nat} {cs cs' : List Value} {e : Ent} (h : aPut σ b o cs = some σ') (hm : μ[b]? = some (some e)) (hv : VRs ex μ cs cs') (hr : HR ex B μ σ w) (i : Nat) :
    ∃ w', (storeCells ⟨e.cb, e.base + o, none⟩ cs' 0).run P w = .ok () w' ∧ HR ex B μ σ' w' ∧ Blw B w w' ∧ w'.drawn = w.drawn := by
  unfold aPut at h
  split at h
  · rename_i he
    cases h
    subst he
    have : cs' = [] := by have := hv.1; simpa using this.symm
    subst this
    exact ⟨w, by simp [storeCells], hr, Blw.refl _ _, rfl⟩
  · split at h
    · rename_i vs opn hb
      split at h
      · rename_i hc
        obtain ⟨hle, hone⟩ := hc
        cases h
        obtain ⟨h0, h1, c, el, lo, hi, h2, h3, h4, h5⟩ := hr.obj _ _ _ hb hm
        obtain ⟨hB, hfz⟩ := h5 rfl
        have hone' : cs'.all one = true := by
          rw [List.all_eq_true] at hone ⊢
          intro x hx
          obtain ⟨i, hi⟩ := List.getElem?_of_mem hx
          have hlt : i < cs.length := by rw [hv.1]; exact lt_of_some hi
          obtain ⟨y, hy, hvy⟩ := hv.2 i cs[i] (List.getElem?_eq_getElem hlt)
          rw [hi] at hy; cases hy
          rw [hvy.one]
          exact hone _ (List.getElem_mem hlt)
        obtain ⟨c', hrun, hc'⟩ := run_storeCells (P := P) (cb := e.cb) (off := e.base + o) hfz cs' 0 w c h2 (by rw [← hv.1]; omega) hone'
        refine ⟨_, hrun, ?_, Blw.setBlock' w _ hB, rfl⟩
        have hsz : c'.size = c.size := by
          have := congrArg List.length hc'
          rw [splice_length (by rw [← hv.1]; simp; omega)] at this
          simpa using this
        refine hr.setAt hb hm rfl (fun _ => rfl) ?_
        refine ⟨by rw [h0, splice_length hle], h1, c', el, lo, hi, ?_, ?_, ?_, fun _ => ⟨hB, hfz⟩⟩
        · rw [setBlock_heap, if_pos ⟨rfl, (Array.getElem?_eq_some_iff.1 h2).1⟩]
        · rw [splice_length hle, hsz]; exact h3
        · rw [splice_length hle, splice_row (c := c) (n := vs.length) (by omega) (by rw [← hv.1]; exact hle) (by simpa [Nat.add_assoc] using hc')]
          unfold splice
          rw [← hv.1]
          exact ((h4.take o).append hv).append (h4.drop _)
      · cases h
    · cases h

theorem store_sound {t : TypeId} {a a' x x' : Value} (h : aStore P σ t a x = some σ') (ha : VR ex μ a a') (hx : VR ex μ x x') (hr : HR ex B μ σ w) :
    ∃ w', (Instr.storeAt t a' x').run P w = .ok () w' ∧ HR ex B μ σ' w' ∧ Blw B w w' := by
  unfold aStore at h
  split at h
  · split at h
    · rename_i b o _ vs opn hb
      split at h
      · rename_i n hn
        split at h
        · rename_i hc
          obtain ⟨hlen, hle, hone⟩ := hc
          cases h
          cases ha with
          | ptr hm =>
            rename_i e
            have hput : aPut σ b o x.cells.toList = some (σ.set b (.row (splice vs o x.cells.toList) true opn)) ∨ x.cells.toList = [] := by
              by_cases hn : x.cells.toList = []
              · exact .inr hn
              · left
                unfold aPut
                rw [if_neg hn, hb]
                simp only
                rw [if_pos ⟨hle, hone⟩]
            have hcs : x'.cells.size = n := by have := hx.cells.1; simp only [Array.length_toList] at this hlen; omega
            rcases hput with hput | hemp
            · obtain ⟨w', h1, h2, h3, _⟩ := put_sound (P := P) hput hm hx.cells hr 0
              refine ⟨w', ?_, h2, h3⟩
              simp [Instr.storeAt, Instr.sureAddr, storeVar, run_sizeOf' hn, hcs, h1]
            · have : x'.cells.toList = [] := by have := hx.cells.1; rw [hemp] at this; simpa using this.symm
              refine ⟨w, ?_, ?_, Blw.refl _ _⟩
              · simp [Instr.storeAt, Instr.sureAddr, storeVar, run_sizeOf' hn, hcs, this, storeCells]
              · rw [hemp]
                have : splice vs o [] = vs := by simp [splice]
                rw [this]
                have : σ.set b (.row vs true opn) = σ := by
                  apply List.ext_getElem?
                  intro k
                  rw [List.getElem?_set]
                  by_cases hk : b = k
                  · subst hk; rw [if_pos rfl, if_pos (lt_of_some hb), hb]
                  · rw [if_neg hk]
                rw [this]; exact hr
        · cases h
      · cases h
    · cases h
  · cases h

theorem zero_sound {t : TypeId} {z : Value} (h : tZero P t = some z) : (∀ w, (zeroValue t).run P w = .ok z w) ∧ VR ex μ z z := by
  unfold tZero at h
  split at h
  · rename_i z' hz
    cases hc : cOk z' <;> rw [hc] at h <;> cases h
    refine ⟨fun w => ?_, VR.cOk hc⟩
    cases hi : P.info? t with
    | none => rw [hi] at hz; cases hz
    | some i => rw [hi] at hz; simp at hz; simp [zeroValue, typeInfo, hi, hz]
  · cases h

/-- A row of cells, all new. -/
theorem newRow_sound {cs cs' : List Value} {elem : TypeId} (hv : VRs ex μ cs cs') (hr : HR ex B μ σ w) {opn : Option Nat} {rest : List Value} {e : Ent} (hcb : e.cb = w.heap.size) (hbase : e.base = 0)
    (hsz : e.size = cs.length) (hopn : match opn with | some z => e.esz = z | none => e.xtra = 0) (hx : e.xtra * e.esz ≤ rest.length) :
    ∃ w', (newRow elem (cs' ++ rest).toArray).run P w = .ok ⟨e.cb, 0, none⟩ w' ∧ HR ex B (μ ++ [some e]) (σ ++ [.row cs true opn]) w' ∧ Ext μ (μ ++ [some e]) ∧ (μ ++ [some e])[σ.length]? = some e ∧ Blw B w w' := by
  refine ⟨{ w with heap := w.heap.push (.cells (cs' ++ rest).toArray elem (0, 0)) }, by simp [newRow, hcb], ?_, Ext.snoc _ _, ?_, Blw.push' rfl hr.hB⟩
  · refine hr.push (.cells (cs' ++ rest).toArray elem (0, 0)) _ _ hcb rfl ?_
    refine ⟨hsz, hopn, (cs' ++ rest).toArray, elem, 0, 0, ?_, ?_, ?_, fun _ => ⟨by rw [hcb]; exact hr.new, Nat.le_refl _⟩⟩
    · rw [hcb]; simp
    · simp [hbase, ← hv.1]; omega
    · simp only [hbase, List.drop_zero]
      have : (cs' ++ rest).take cs.length = cs' := by rw [hv.1]; simp
      rw [this]
      exact hv.mono (Sub.snoc _ _)
  · rw [← hr.len]; simp

theorem newP_sound {cs cs' : List Value} {elem : TypeId} (hv : VRs ex μ cs cs') (hr : HR ex B μ σ w) :
    ∃ w' μ' e, (newRow elem cs'.toArray).run P w = .ok ⟨e.cb, 0, none⟩ w' ∧ HR ex B μ' (newP σ cs).2 w' ∧ Ext μ μ' ∧ VR ex μ' (newP σ cs).1 (.pointer (some ⟨e.cb, 0, none⟩)) ∧ Blw B w w' ∧ e.base = 0 ∧
      μ'[σ.length]? = some (some e) := by
  obtain ⟨w', h1, h2, h3, h4, h5⟩ := newRow_sound (P := P) (elem := elem) (opn := none) (rest := []) (e := ⟨w.heap.size, 0, cs.length, 0, 0⟩) hv hr rfl rfl rfl rfl (by simp)
  refine ⟨w', _, ⟨w.heap.size, 0, cs.length, 0, 0⟩, by simpa using h1, h2, h3, ?_, h5, rfl, h4⟩
  have := VR.ptr (ex := ex) (o := 0) h4
  simpa [newP] using this

theorem alloc_sound {t : TypeId} {z : Value} (h : tZero P t = some z) (hr : HR ex B μ σ w) :
    okh P ex B μ (newP σ z.cells.toList).2 (do pure (.value (← Instr.alloc t true (.tuple #[])))) (newP σ z.cells.toList).1 w := by
  obtain ⟨hz, hv⟩ := zero_sound (ex := ex) (μ := μ) h
  obtain ⟨w', μ', e, h1, h2, h3, h4, h5, _⟩ := newP_sound (P := P) (elem := t) hv.cells hr
  refine ⟨.value (.pointer (some ⟨e.cb, 0, none⟩)), w', μ', ?_, h4, h2, h3, h5⟩
  simp only [Array.toArray_toList] at h1
  simp [Instr.alloc, hz, newVar, h1]

theorem box_sound {t : TypeId} {v v' : Value} (hv : VR ex μ v v') (hr : HR ex B μ σ w) :
    okh P ex B μ (newP σ v.cells.toList).2 (do pure (.value (← Instr.box t v'))) (newP σ v.cells.toList).1 w := by
  obtain ⟨w', μ', e, h1, h2, h3, h4, h5, _⟩ := newP_sound (P := P) (elem := t) hv.cells hr
  refine ⟨.value (.pointer (some ⟨e.cb, 0, none⟩)), w', μ', ?_, h4, h2, h3, h5⟩
  simp only [Array.toArray_toList] at h1
  simp [Instr.box, newVar, h1]

end Go.Lk
end

section
/- Operations on memory: composites, make, append, copy, ranging over a string. -/
namespace Go.Lk
set_option linter.unusedSimpArgs false
set_option linter.unusedVariables false

variable {ex : Bool} {μ μ' : List (Option Ent)} {P : Program} {B : Nat → Prop} {σ σ' : AHeap} {w w' : World}

def PartsR (ex : Bool) (μ : List (Option Ent)) : List (Nat × Value) → List (Nat × Value) → Prop
  | [], [] => True
  | (i, v) :: xs, (j, u) :: ys => i = j ∧ VR ex μ v u ∧ PartsR ex μ xs ys
  | _, _ => False

theorem foldl_set (vs : List Value) : ∀ (k off : Nat) (cs : Array Value), off + k + vs.length ≤ cs.size →
    (((vs.zipIdx k).foldl (fun cs (x : Value × Nat) => cs.setIfInBounds (off + x.2) x.1) cs)).toList = splice cs.toList (off + k) vs := by
  induction vs with
  | nil => intro k off cs _; simp [splice]
  | cons v vs ih =>
    intro k off cs h
    simp only [List.zipIdx_cons, List.foldl_cons]
    rw [ih (k + 1) off _ (by simp at h ⊢; omega), splice_cons (by simpa using h)]
    simp [Nat.add_assoc]

theorem fill_sound {place place' : Nat → Option (Nat × Nat)} : ∀ (ps ps' : List (Nat × Value)) (cs : List Value) (cs' : Array Value) (r : List Value),
    (∀ i x, place i = some x → place' i = some x) → fillA place cs ps = some r → VRs ex μ cs cs'.toList → PartsR ex μ ps ps' →
    ∃ r', Instr.fill place' cs' ps' = some r' ∧ VRs ex μ r r'.toList
  | [], [], cs, cs', r, hp, h, hv, _ => by cases h; exact ⟨cs', rfl, hv⟩
  | (i, v) :: ps, (j, u) :: ps', cs, cs', r, hp, h, hv, hps => by
    obtain ⟨rfl, hvu, hrest⟩ := hps
    unfold fillA at h
    split at h
    · cases h
    · rename_i off size hpl
      split at h
      · rename_i hc
        have hcells := hvu.cells
        have hl : u.cells.size = size := by have := hcells.1; simp only [Array.length_toList] at this hc; omega
        have hl2 : v.cells.toList.length = u.cells.size := by have := hcells.1; simpa using this
        have hcs : cs.length = cs'.size := by have := hv.1; simpa using this
        have hnot : (u.cells.size ≠ size || off + u.cells.size > cs'.size) = false := by
          have : ¬ off + u.cells.size > cs'.size := by omega
          simp [hl]; omega
        have hfold := foldl_set u.cells.toList 0 off cs' (by simp; omega)
        obtain ⟨r', h1, h2⟩ := fill_sound ps ps' _ ((u.cells.zipIdx.foldl (fun cs (x : Value × Nat) => cs.setIfInBounds (off + x.2) x.1) cs')) r hp h (by
          rw [← Array.foldl_toList, Array.toList_zipIdx, hfold]
          unfold splice
          rw [hl2, show u.cells.size = u.cells.toList.length by simp]
          exact ((hv.take off).append hcells).append (hv.drop _)) hrest
        refine ⟨r', ?_, h2⟩
        unfold Instr.fill
        simp only [hp i _ hpl, hnot, Bool.false_eq_true, if_false]
        exact h1
      · cases h
  | [], _ :: _, _, _, _, _, _, _, h => h.elim
  | (_, _) :: _, [], _, _, _, _, _, _, h => h.elim

theorem mapP_sound {fr : List Value} {a : Act} (hf : FrR ex μ fr a.tmps) : ∀ {xs : List (Nat × Operand)} {vs : List (Nat × Value)}, mapP (aev fr) xs = some vs →
    PartsR ex μ vs (xs.map fun (i, x) => (i, a.eval x))
  | [], vs, h => by cases h; trivial
  | (i, x) :: xs, vs, h => by
    unfold mapP at h
    split at h
    · rename_i v vs' h1 h2
      cases h
      exact ⟨rfl, aev_sound hf h1, mapP_sound hf h2⟩
    · cases h

theorem run_mapM_places : ∀ (fs : List Field), (fs.all fun f => (tSize P f.type).isSome) = true → ∀ (acc : Array (Nat × Nat)) (w : World),
    (fs.foldlM (fun (bs : Array (Nat × Nat)) (a : Field) => bs.push <$> (do pure (a.offset, ← sizeOf a.type) : Sem (Nat × Nat))) acc : Sem _).run P w =
      .ok (acc ++ (fs.map fun f => (f.offset, (tSize P f.type).getD 0)).toArray) w
  | [], _, acc, w => by simp
  | f :: fs, h, acc, w => by
    simp only [List.all_cons, Bool.and_eq_true] at h
    obtain ⟨n, hn⟩ := Option.isSome_iff_exists.1 h.1
    simp only [List.foldlM_cons, Sem.run_bind, Sem.run_map, run_sizeOf' hn, Result.andThen_ok, Sem.run_pure]
    rw [run_mapM_places fs h.2]
    simp [hn]

theorem build_sound {t : TypeId} {ps ps' : List (Nat × Value)} {v : Value} (h : aBuild P t ps = some v) (hp : PartsR ex μ ps ps') :
    ∃ v', (∀ w, (Instr.build t ps'.toArray).run P w = .ok v' w) ∧ VR ex μ v v' := by
  unfold aBuild at h
  split at h
  · rename_i z fields hz hu
    obtain ⟨hzr, hzv⟩ := zero_sound (ex := ex) (μ := μ) hz
    split at h
    · rename_i cells hfill
      cases hall : fields.all (fun f => (tSize P f.type).isSome) <;> rw [hall] at h <;> cases h
      have hmap : ∀ w, (fields.mapM fun f => (do pure (f.offset, ← sizeOf f.type) : Sem (Nat × Nat))).run P w = .ok (fields.map fun f => (f.offset, (tSize P f.type).getD 0)) w := by
        intro w
        rw [Array.mapM_eq_foldlM, ← Array.foldlM_toList, run_mapM_places fields.toList (by rw [← Array.all_toList] at hall; exact hall)]
        congr 1
        apply Array.ext'
        simp
      obtain ⟨r', h1, h2⟩ := fill_sound (place' := ((fields.map fun f => (f.offset, (tSize P f.type).getD 0))[·]?)) _ _ _ z.cells _ (by
        intro i x hx
        split at hx
        · rename_i f hf
          split at hx
          · rename_i n hn
            cases hx
            simp [hf, hn]
          · cases hx
        · cases hx) hfill hzv.cells hp
      refine ⟨.agg r', fun w => ?_, VRs.toAgg (by simpa using h2)⟩
      simp only [Instr.build, Sem.run_bind, hzr, run_underlying hu, Result.andThen_ok, hmap, h1, Sem.run_pure]
    · cases h
  · rename_i z len e hz hu
    obtain ⟨hzr, hzv⟩ := zero_sound (ex := ex) (μ := μ) hz
    split at h
    · rename_i size hs
      split at h
      · rename_i cells hfill
        cases h
        obtain ⟨r', h1, h2⟩ := fill_sound (place' := fun i => some (i * size, size)) _ _ _ z.cells _ (fun _ _ h => h) hfill hzv.cells hp
        refine ⟨.agg r', fun w => ?_, VRs.toAgg (by simpa using h2)⟩
        simp [Instr.build, hzr, run_underlying hu, run_sizeOf' hs, h1]
      · cases h
    · cases h
  · cases h

theorem zrow_eq {z : Array Value} {n : Nat} (hz : z.size ≠ 0) : ((Array.range n).map (z[· % z.size]!)).toList = zrow z.toList n := by
  unfold zrow
  simp only [Array.toList_map, Array.toList_range]
  apply List.map_congr_left
  intro i _
  have : i % z.size < z.size := Nat.mod_lt _ (by omega)
  rw [getElem!_pos z _ this, List.getD_eq_getElem?_getD]
  simp [this]

theorem VRs.zrow {z : List Value} (h : VRs ex μ z z) (n : Nat) : VRs ex μ (Lk.zrow z n) (Lk.zrow z n) := by
  refine ⟨rfl, fun i a ha => ⟨a, ha, ?_⟩⟩
  unfold Lk.zrow at ha
  rw [List.getElem?_map] at ha
  cases hr : (List.range n)[i]? with
  | none => rw [hr] at ha; cases ha
  | some k =>
    rw [hr] at ha
    cases ha
    show VR ex μ (z.getD (k % z.length) undef) (z.getD (k % z.length) undef)
    rw [List.getD_eq_getElem?_getD]
    cases hk : z[k % z.length]? with
    | none => exact VR.undef
    | some v => obtain ⟨c, hc, hv⟩ := h.2 _ _ hk; rw [hk] at hc; cases hc; exact hv

theorem buildSlice_sound {t : TypeId} {len : Nat} {ps ps' : List (Nat × Value)} {v : Value} (h : aBuildSlice P σ t len ps = some (v, σ')) (hp : PartsR ex μ ps ps') (hr : HR ex B μ σ w) :
    okh P ex B μ σ' (do pure (.value (← Instr.buildSlice t len ps'.toArray))) v w := by
  unfold aBuildSlice at h
  split at h
  · rename_i e hu
    split at h
    · rename_i size z hs hz
      split at h
      · rename_i hc
        obtain ⟨hle, hzs, hs0⟩ := hc
        split at h
        · rename_i cells hfill
          cases h
          obtain ⟨hzr, hzv⟩ := zero_sound (ex := ex) (μ := μ) hz
          have hz0 : z.cells.size ≠ 0 := by rw [hzs]; exact hs0
          by_cases hl : len * size = 0
          · obtain ⟨r', h1, h2⟩ := fill_sound (place' := fun i => some (i * size, size)) ps ps' _ #[] _ (fun _ _ h => h) hfill (by rw [hl]; exact VRs.nil) hp
            obtain ⟨w', μ', en, q1, q2, q3, q4, q5, q6, q7⟩ := newP_sound (P := P) (elem := e) h2 hr
            refine ⟨.value (.slice (some ⟨en.cb, 0, none⟩) len len), w', μ', ?_, ?_, q2, q3, q5⟩
            · simp only [Array.toArray_toList] at q1
              have : ¬ (len * size > 2 ^ 24) := by omega
              have hA : (Array.range (len * size)).map (fun x => (#[] : Array Value)[x % (#[] : Array Value).size]!) = #[] := Array.eq_empty_of_size_eq_zero (by simp; omega)
              simp only [Instr.buildSlice, Sem.run_bind, run_underlying hu, Result.andThen_ok, run_sizeOf' hs, if_neg this, if_pos hl, Sem.run_pure, hA, h1, q1]
            · have := VR.slice (ex := ex) (len := len) (cap := len) (sz := size) (o := 0) q7 (.inl rfl)
              rw [q6] at this
              exact this
          · obtain ⟨r', h1, h2⟩ := fill_sound (place' := fun i => some (i * size, size)) ps ps' _ ((Array.range (len * size)).map (z.cells[· % z.cells.size]!)) _ (fun _ _ h => h) hfill (by rw [zrow_eq hz0]; exact VRs.zrow hzv.cells _) hp
            obtain ⟨w', μ', en, q1, q2, q3, q4, q5, q6, q7⟩ := newP_sound (P := P) (elem := e) h2 hr
            refine ⟨.value (.slice (some ⟨en.cb, 0, none⟩) len len), w', μ', ?_, ?_, q2, q3, q5⟩
            · simp only [Array.toArray_toList] at q1
              have : ¬ (len * size > 2 ^ 24) := by omega
              have hl' : ¬ (len = 0 ∨ size = 0) := by intro h; rcases h with h | h <;> simp [h] at hl
              simp only [Instr.buildSlice, Sem.run_bind, run_underlying hu, Result.andThen_ok, run_sizeOf' hs, if_neg this, if_neg hl, Sem.run_pure, hzr, h1, q1]
            · have := VR.slice (ex := ex) (len := len) (cap := len) (sz := size) (o := 0) q7 (.inl rfl)
              rw [q6] at this
              exact this
        · cases h
      · cases h
    · cases h
  · cases h

end Go.Lk
end

section
/- Operations on memory: make, append, copy, ranging over a string; all of them. -/
namespace Go.Lk
set_option linter.unusedSimpArgs false
set_option linter.unusedVariables false

variable {ex : Bool} {μ μ' : List (Option Ent)} {P : Program} {B : Nat → Prop} {σ σ' : AHeap} {w w' : World}

theorem info_runs {t : TypeId} {i : TypeInfo} (h : P.info? t = some i) (w : World) : (typeInfo t).run P w = .ok i w ∧ (sizeOf t).run P w = .ok i.size w := by
  simp [typeInfo, sizeOf, h]

theorem wrap_small {n : Int} (h0 : 0 ≤ n) (h : n ≤ 281474976710656) : IntKind.i64.wrap n = n := by
  have h1 : n % 18446744073709551616 = n := Int.emod_eq_of_lt h0 (by omega)
  simp only [IntKind.wrap, IntKind.signed, IntKind.bits, Int.reducePow, h1]
  rw [if_neg]
  simp
  omega

theorem make_sound {t : TypeId} {l l' c c' v : Value} (h : aMake P σ t l c = some (v, σ')) (hl : VR ex μ l l') (hc : VR ex μ c c') (hr : HR ex B μ σ w) :
    okh P ex B μ σ' (do pure (.value (← Instr.makeSlice t l' c'))) v w := by
  unfold aMake at h
  split at h
  · rename_i e k len k' cap hu
    rw [hl.int_of, hc.int_of]
    split at h
    · rename_i inf hi
      split at h
      · rename_i hb
        obtain ⟨h0, h1, h2, h3⟩ := hb
        split at h
        · rename_i z hz
          split at h
          · rename_i hzz
            obtain ⟨hzs, hs0, hzo⟩ := hzz
            cases h
            obtain ⟨hzr, hzv⟩ := zero_sound (ex := ex) (μ := μ) hz
            have hz0 : z.cells.size ≠ 0 := by rw [hzs]; exact hs0
            obtain ⟨w', μ', en, q1, q2, q3, q4, q5, q6, q7⟩ := newP_sound (P := P) (elem := e) (VRs.zrow hzv.cells (cap.toNat * inf.size)) hr
            refine ⟨.value (.slice (some ⟨en.cb, 0, none⟩) len.toNat cap.toNat), w', μ', ?_, ?_, q2, q3, q5⟩
            · have hwl := wrap_small h0 (by omega)
              have hwc := wrap_small (n := cap) (by omega) (by omega)
              have hlt : ∀ n : Int, n ≤ cap → 0 ≤ n → (decide (n < 0) || decide ((inf.bytes : Int) * n > 2 ^ 48)) = false := by
                intro n hn hn0
                have : (inf.bytes : Int) * n ≤ cap * inf.bytes := by
                  rw [Int.mul_comm]
                  exact Int.mul_le_mul_of_nonneg_right hn (by omega)
                simp
                omega
              have hbad : ((decide (cap < 0) || decide ((inf.bytes : Int) * cap > 2 ^ 48)) || decide (len < 0) || decide (len > cap)) = false := by
                rw [hlt cap (by omega) (by omega)]
                simp
                omega
              obtain ⟨i1, i2⟩ := info_runs (P := P) hi w
              have hA : ((Array.range (cap.toNat * inf.size)).map (z.cells[· % z.cells.size]!)) = (zrow z.cells.toList (cap.toNat * inf.size)).toArray := by
                rw [← zrow_eq hz0]
              by_cases hn : cap.toNat * inf.size = 0
              · have hA0 : ((Array.range (cap.toNat * inf.size)).map (fun x => (#[] : Array Value)[x % (#[] : Array Value).size]!)) = (zrow z.cells.toList (cap.toNat * inf.size)).toArray := by
                  rw [hn]
                  rw [show zrow z.cells.toList 0 = [] from rfl]
                  exact Array.eq_empty_of_size_eq_zero (by simp)
                simp only [Instr.makeSlice, Sem.run_bind, run_underlying hu, Result.andThen_ok, asInt, asIntOf, Sem.run_pure, i1, hwl, hwc, hbad, Bool.false_eq_true, if_false, run_askRoom, i2, if_pos hn, hA0, q1]
              · simp only [Instr.makeSlice, Sem.run_bind, run_underlying hu, Result.andThen_ok, asInt, asIntOf, Sem.run_pure, i1, hwl, hwc, hbad, Bool.false_eq_true, if_false, run_askRoom, i2, if_neg hn, hzr, hA, q1]
            · have := VR.slice (ex := ex) (len := len.toNat) (cap := cap.toNat) (sz := inf.size) (o := 0) q7 (.inl rfl)
              rw [q6] at this
              exact this
          · cases h
        · cases h
      · cases h
    · cases h
  · cases h

theorem cells_sound {sz n : Nat} {x x' : Value} {cs : List Value} (h : aCells σ sz n x = some cs) (hx : VR ex μ x x') (hr : HR ex B μ σ w) :
    ∃ cs', (∀ w' : World, w'.heap = w.heap → (Builtin.firstCells sz n x').run P w' = .ok cs'.toArray w') ∧ VRs ex μ cs cs' ∧ cs.length = n * sz := by
  unfold aCells at h
  split at h
  · split at h
    · rename_i b o z len cap hn
      cases h
      cases hx
      · exact ⟨[], fun w' _ => by simp [Builtin.firstCells, loadCells, hn, loadCellsFrom], .nil, hn.symm⟩
      · exact ⟨[], fun w' _ => by simp [Builtin.firstCells, loadCells, hn, loadCellsFrom], .nil, hn.symm⟩
    · rename_i hn
      split at h
      · rename_i b o z len cap _ vs rw opn hb
        split at h
        · rename_i hle
          obtain ⟨hnl, hle⟩ := hle
          cases h
          cases hx with
          | slice hm hc =>
            rename_i e
            obtain ⟨h0, _, c, el, lo, hi, h2, h3, h4, _⟩ := hr.obj _ _ _ hb hm
            refine ⟨(c.toList.drop (e.base + o)).take (n * sz), fun w' hw' => run_loadCells (by rw [hw']; exact h2) (by omega), ?_, by simp; omega⟩
            have := (h4.drop o).take (n * sz)
            rw [List.drop_take, List.drop_drop, List.take_take] at this
            rwa [Nat.min_eq_left (by omega)] at this
          | sempty hm a =>
            have : n = 0 := by omega
            subst this
            simp at hn
        · cases h
      · cases h
  · split at h
    · rename_i hn; cases h
      cases hx
      exact ⟨[], fun _ _ => rfl, .nil, hn.symm⟩
    · cases h
  · cases h

end Go.Lk
end

section
/- Operations on memory: append, copy, ranging over a string; all of them. -/
namespace Go.Lk
set_option linter.unusedSimpArgs false
set_option linter.unusedVariables false

variable {ex : Bool} {μ μ' : List (Option Ent)} {P : Program} {B : Nat → Prop} {σ σ' : AHeap} {w w' : World}

theorem lenOf_sound {x x' : Value} {n : Nat} (h : sLen x = some n) (hx : VR ex μ x x') (w : World) : (Builtin.lenOf x').run P w = .ok n w := by
  unfold sLen at h
  split at h
  · cases h; cases hx <;> rfl
  · cases h

theorem growBy_le (need : Nat) : ∀ (r c : Nat), c ≤ need + need / 4 + 192 → Builtin.growBy need r c ≤ need + need / 4 + 192
  | 0, c, h => h
  | r + 1, c, h => by
    unfold Builtin.growBy
    split
    · exact h
    · exact growBy_le need r _ (by omega)

theorem nextcap_le {need cap : Nat} (h : cap < need) : Builtin.nextslicecap need cap ≤ 2 * need + 192 := by
  unfold Builtin.nextslicecap
  split
  · omega
  · split
    · omega
    · have := growBy_le need 4 cap (by omega)
      omega

/-- A block is entered anew where no live one lies. -/
theorem HR.pushAt (h : HR ex B μ σ w) {o : AObj} {e : Ent} (ho : ObjR ex (μ ++ [some e]) B w e o)
    (hfree : ∀ (b : Nat) (o' : AObj) (e' : Ent), σ[b]? = some o' → μ[b]? = some (some e') → o'.live = true → e'.cb ≠ e.cb) : HR ex B (μ ++ [some e]) (σ ++ [o]) w := by
  have key : ∀ (b : Nat) (o1 : AObj) (e1 : Ent), (σ ++ [o])[b]? = some o1 → (μ ++ [some e])[b]? = some e1 →
      (b < σ.length ∧ σ[b]? = some o1 ∧ μ[b]? = some (some e1)) ∨ (b = σ.length ∧ o1 = o ∧ e1 = e) := fun b o1 e1 h1 h2 => by
    rcases Nat.lt_or_ge b σ.length with hb | hb
    · rw [List.getElem?_append_left hb] at h1
      rw [List.getElem?_append_left (by rw [h.len]; exact hb)] at h2
      exact .inl ⟨hb, h1, h2⟩
    · rw [List.getElem?_append_right hb] at h1
      rw [List.getElem?_append_right (by rw [h.len]; exact hb), h.len] at h2
      have hb0 : b - σ.length = 0 := by have := lt_of_some h1; simp at this; omega
      rw [hb0] at h1 h2
      simp at h1 h2
      exact .inr ⟨by omega, h1.symm, h2.symm⟩
  refine ⟨by simp [h.len], h.hB, ?_, ?_, ?_⟩
  · intro b o' h1 hl
    rcases Nat.lt_or_ge b σ.length with hb | hb
    · rw [List.getElem?_append_left hb] at h1
      obtain ⟨e', he'⟩ := h.has b o' h1 hl
      exact ⟨e', Sub.snoc _ _ _ _ he'⟩
    · have := lt_of_some h1
      have hb0 : b = μ.length := by rw [h.len]; simp at this; omega
      subst hb0
      exact ⟨e, by simp⟩
  · intro b o' e' h1 h2
    rcases key b o' e' h1 h2 with ⟨k1, k2, k3⟩ | ⟨_, rfl, rfl⟩
    · exact (h.obj b o' e' k2 k3).mono (Sub.snoc _ _) (fun _ => rfl)
    · exact ho
  · intro b b' o1 o2 e1 e2 h1 h2 h3 h4 hown hlive hcb
    rcases key b o1 e1 h1 h3 with ⟨k1, k2, k3⟩ | ⟨k1, k2, k3⟩
    · rcases key b' o2 e2 h2 h4 with ⟨l1, l2, l3⟩ | ⟨l1, l2, l3⟩
      · exact h.inj b b' o1 o2 e1 e2 k2 l2 k3 l3 hown hlive hcb
      · subst l3
        have hl : o1.live = true := by cases o1 <;> first | rfl | cases hown
        exact absurd hcb (hfree b o1 e1 k2 k3 hl)
    · rcases key b' o2 e2 h2 h4 with ⟨l1, l2, l3⟩ | ⟨l1, l2, l3⟩
      · subst k3
        exact absurd hcb.symm (hfree b' o2 e2 l2 l3 hlive)
      · omega

theorem kill_length (σ : AHeap) (b : Nat) : (kill σ b).length = σ.length := by
  unfold kill; split <;> simp
theorem HR.killed (h : HR ex B μ σ w) (b : Nat) : HR ex B μ (Lk.kill σ b) w := by
  unfold Lk.kill
  split
  · exact h.kill b
  · exact h

/-- append of a slice, behind its look at the types. -/
def appendPlain (e : TypeId) (size len cap : Nat) (base : Option Addr) (x : Value) : Sem Value := do
  let n ← Builtin.lenOf x
  let need := len + n
  if need ≤ cap then
    let new ← Builtin.firstCells size n x
    if let some a := base then storeCells (a.add (len * size)) new.toList
    pure (.slice base need cap)
  else
    if (need : Int) > IntKind.i64.max ∧ (← typeInfo e).bytes = 0 then runtimePanic (.error "growslice: len out of range")
    if Builtin.nextslicecap need cap * (← typeInfo e).bytes > 2 ^ 48 then (do
      if !(← Builtin.mayShare size len n base x) then mark .noRoom
      unsupported (.resourceLimit "append: a slice or a string whose bytes no memory bears"))
    let newCap ← choose (.appendCap need cap e)
    askRoom (newCap * (← typeInfo e).bytes)
    let old ← Builtin.firstCells size len (.slice base len cap)
    let new ← Builtin.firstCells size n x
    let rest := Builtin.zeroCells (← zeroValue e).cells (newCap - need)
    pure (.slice (some (← newRow e (old ++ new ++ rest))) need newCap)

theorem run_append_plain {tys : Array TypeId} {ys : Array Value} {ty t t2 e : TypeId} {d2 : TypeDesc} {inf : TypeInfo} {base : Option Addr} {len cap : Nat} {x : Value} {w : World}
    (ht0 : tys[0]? = some t) (ht1 : tys[1]? = some t2) (hy0 : ys[0]? = some (.slice base len cap)) (hy1 : ys[1]? = some x) (hu : P.underlying t = some (.slice e)) (hu2 : P.underlying t2 = some d2)
    (hd2 : isIntD d2 = false) (hi : P.info? e = some inf) :
    (Builtin.append_ tys ty ys).run P w = (appendPlain e inf.size len cap base x).run P w := by
  obtain ⟨i1, i2⟩ := info_runs (P := P) hi w
  unfold Builtin.append_ appendPlain
  simp only [ht0, ht1, hy0, hy1]
  rw [Sem.run_bind, run_underlying hu, Result.andThen_ok]
  simp only
  rw [Sem.run_bind, i2, Result.andThen_ok]
  cases d2 <;> first | (cases hd2; done) | skip
  all_goals
    simp only [Sem.run_bind, run_underlying hu2, Result.andThen_ok, Sem.run_pure, Bool.false_eq_true, if_false, false_or, Bool.not_false, if_true]
    rfl

theorem run_plain_fit {e : TypeId} {size : Nat} {base : Option Addr} {len cap n : Nat} {x : Value} {cs : List Value} {w w2 : World}
    (hn : (Builtin.lenOf x).run P w = .ok n w) (hfit : len + n ≤ cap) (hc : (Builtin.firstCells size n x).run P w = .ok cs.toArray w)
    (hs : match base with | some a => (storeCells (a.add (len * size)) cs 0).run P w = .ok () w2 | none => w2 = w) :
    (appendPlain e size len cap base x).run P w = .ok (.slice base (len + n) cap) w2 := by
  unfold appendPlain
  rw [Sem.run_bind, hn, Result.andThen_ok]
  simp only [if_pos hfit]
  rw [Sem.run_bind, hc, Result.andThen_ok]
  cases base with
  | none => simp only at hs; subst hs; rfl
  | some a => simp only at hs ⊢; rw [Sem.run_bind, hs]; rfl

theorem run_plain_grow {e : TypeId} {inf : TypeInfo} {base : Option Addr} {len cap n : Nat} {x zz : Value} {old new : List Value} {w : World} (hi : P.info? e = some inf)
    (hn : (Builtin.lenOf x).run P w = .ok n w) (hno : ¬ len + n ≤ cap) (hbig : (len + n) * inf.bytes ≤ 70368744177664) (hb1 : inf.bytes ≤ 1048576) (hbig2 : len + n ≤ 70368744177664)
    (ho : ∀ w' : World, w'.heap = w.heap → (Builtin.firstCells inf.size len (.slice base len cap)).run P w' = .ok old.toArray w') (hc : ∀ w' : World, w'.heap = w.heap → (Builtin.firstCells inf.size n x).run P w' = .ok new.toArray w')
    (hz : ∀ w, (zeroValue e).run P w = .ok zz w) :
    ∃ k, (appendPlain e inf.size len cap base x).run P w = .ok (.slice (some ⟨w.heap.size, 0, none⟩) (len + n) (len + n + k))
      { w with drawn := w.drawn + 1, heap := w.heap.push (.cells (old.toArray ++ new.toArray ++ Builtin.zeroCells zz.cells k) e (0, 0)) } := by
  have hmax : IntKind.i64.max = 9223372036854775807 := by decide
  have hne1 : ¬ ((((len + n : Nat) : Int) > IntKind.i64.max) ∧ inf.bytes = 0) := by rw [hmax]; omega
  have hne2 : ¬ (Builtin.nextslicecap (len + n) cap * inf.bytes > 2 ^ 48) := by
    have h1 := nextcap_le (need := len + n) (cap := cap) (by omega)
    have h2 : Builtin.nextslicecap (len + n) cap * inf.bytes ≤ (2 * (len + n) + 192) * inf.bytes := Nat.mul_le_mul_right _ h1
    have h3 : (2 * (len + n) + 192) * inf.bytes = 2 * ((len + n) * inf.bytes) + 192 * inf.bytes := by rw [Nat.add_mul, Nat.mul_assoc]
    omega
  refine ⟨w.tape w.drawn (.appendCap (len + n) cap e) % (2 ^ 63 - (len + n)), ?_⟩
  have hch : (choose (.appendCap (len + n) cap e)).run P w = .ok (len + n + w.tape w.drawn (.appendCap (len + n) cap e) % (2 ^ 63 - (len + n))) { w with drawn := w.drawn + 1 } := rfl
  generalize w.tape w.drawn (.appendCap (len + n) cap e) % (2 ^ 63 - (len + n)) = k at hch ⊢
  have j1 := ho { w with drawn := w.drawn + 1 } rfl
  have j2 := hc { w with drawn := w.drawn + 1 } rfl
  have i1 := (info_runs (P := P) hi w).1
  have i2 := (info_runs (P := P) hi { w with drawn := w.drawn + 1 }).1
  have hr : ∀ (a : Nat), (askRoom a).run P { w with drawn := w.drawn + 1 } = .ok () { w with drawn := w.drawn + 1 } := fun a => run_askRoom P _ a
  have hk : len + n + k - (len + n) = k := by omega
  unfold appendPlain
  rw [Sem.run_bind, hn, Result.andThen_ok]
  simp only [if_neg hno]
  rw [Sem.run_bind, i1, Result.andThen_ok]
  simp only [if_neg hne1]
  rw [Sem.run_bind, i1, Result.andThen_ok]
  simp only [if_neg hne2]
  rw [Sem.run_bind, hch, Result.andThen_ok, Sem.run_bind, i2, Result.andThen_ok, Sem.run_bind, hr, Result.andThen_ok, Sem.run_bind, j1, Result.andThen_ok, Sem.run_bind, j2, Result.andThen_ok,
    Sem.run_bind, hz, Result.andThen_ok, hk]
  rfl

/-- The slot of a slice, found. -/
theorem slice_shape {base : Option Addr} {len cap : Nat} {v : Value} (h : VR ex μ (.slice base len cap) v) : ∃ base' cap', v = .slice base' len cap' ∧ cap ≤ cap' := by
  cases h
  · exact ⟨_, _, rfl, Nat.le_refl _⟩
  · rename_i hc; exact ⟨_, _, rfl, by rcases hc with h | ⟨_, _, h⟩ <;> omega⟩
  · exact ⟨_, _, rfl, Nat.le_refl _⟩

theorem zeroCells_size (z : Array Value) (n : Nat) : (Builtin.zeroCells z n).size = n * z.size := by simp [Builtin.zeroCells]

theorem append_sound {tys : Array TypeId} {xs : List Value} {ys : Array Value} {ty : TypeId} {v : Value} (h : aAppend P σ tys.toList xs = some (v, σ')) (hx : VRs ex μ xs ys.toList) (hr : HR ex B μ σ w) :
    okh P ex B μ σ' (do pure (.value (← Builtin.append_ tys ty ys))) v w := by
  unfold aAppend at h
  split at h
  · rename_i t t2 ts s x xr hts
    obtain ⟨s', hys0, vs⟩ := hx.2 0 s rfl
    obtain ⟨x', hys1, vx⟩ := hx.2 1 x rfl
    rw [Array.getElem?_toList] at hys0 hys1
    have ht0 : tys[0]? = some t := by rw [← Array.getElem?_toList, hts]; rfl
    have ht1 : tys[1]? = some t2 := by rw [← Array.getElem?_toList, hts]; rfl
    split at h
    · rename_i e d2 base len cap n hu hu2 hsl
      split at h
      · rename_i inf hinf
        cases hd2 : isIntD d2 <;> rw [hd2] at h <;> simp only [cond_true, cond_false] at h
        case true => cases h
        case false =>
        split at h
        · rename_i new hnew
          obtain ⟨base', cap', rfl, hcapc⟩ := slice_shape vs
          have hplain := run_append_plain (P := P) (ty := ty) (w := w) ht0 ht1 hys0 hys1 hu hu2 hd2 hinf
          obtain ⟨new', hrn', vn, hnl⟩ := cells_sound (P := P) hnew vx hr
          have hrn := hrn' w rfl
          have hln := lenOf_sound (P := P) hsl vx w
          have fin : ∀ {v' : Value} {w' : World} {μ' : List (Option Ent)} {v : Value} {σ' : AHeap}, (appendPlain e inf.size len cap' base' x').run P w = .ok v' w' → VR ex μ' v v' → HR ex B μ' σ' w' → Ext μ μ' → Blw B w w' →
              okh P ex B μ σ' (do pure (.value (← Builtin.append_ tys ty ys))) v w := fun h1 h2 h3 h4 h5 =>
            ⟨.value _, _, _, by rw [Sem.run_bind, hplain, h1]; rfl, h2, h3, h4, h5⟩
          split at h
          · rename_i hfit
            have hfit' : len + n ≤ cap' := by omega
            split at h
            · rename_i b o z
              split at h
              · rename_i σ1 hput
                cases h
                have hslot : ∃ en, μ[b]? = some (some en) ∧ VR ex μ (.slice (some ⟨b, o, some z⟩) (len + n) cap) (.slice base' (len + n) cap') ∧
                    (new ≠ [] → base' = some ⟨en.cb, en.base + o, none⟩) ∧ base' ≠ none := by
                  cases vs with
                  | slice hm hc => exact ⟨_, hm, .slice hm hc, fun _ => rfl, by simp⟩
                  | sempty hm a =>
                    have : n = 0 := by omega
                    subst this
                    refine ⟨_, hm, .sempty hm a, fun hne => ?_, by simp⟩
                    have : new = [] := List.length_eq_zero_iff.1 (by rw [hnl]; simp)
                    exact absurd this hne
                obtain ⟨en, hm, hv2, hb', hnn⟩ := hslot
                by_cases hne : new = []
                · subst hne
                  have : new' = [] := by have := vn.1; simpa using this.symm
                  subst this
                  simp only [aPut, if_true] at hput
                  cases hput
                  refine fin (run_plain_fit hln hfit' hrn (w2 := w) ?_) hv2 hr (Ext.refl _) (Blw.refl _ _)
                  cases base' with
                  | none => rfl
                  | some ad => rfl
                · obtain ⟨w2, q1, q2, q3, q4⟩ := put_sound (P := P) hput hm vn hr 0
                  refine fin (run_plain_fit hln hfit' hrn (w2 := w2) ?_) hv2 q2 (Ext.refl _) q3
                  rw [hb' hne]
                  simp only [add_off, Nat.add_assoc]
                  exact q1
              · cases h
            · cases h
            · split at h
              · rename_i hne
                cases h
                subst hne
                have : new' = [] := by have := vn.1; simpa using this.symm
                subst this
                cases vs
                exact fin (run_plain_fit hln hfit hrn (w2 := w) rfl) (.snil _ _) hr (Ext.refl _) (Blw.refl _ _)
              · cases h
          · rename_i hfit
            split at h
            · rename_i old hold
              obtain ⟨old', hro, vo, hol⟩ := cells_sound (P := P) hold vs hr
              split at h
              · rename_i hbig
                obtain ⟨hb1, hb1', hb2, hone⟩ := hbig
                split at h
                · rename_i zz hzz
                  obtain ⟨hzr, hzv⟩ := zero_sound (ex := ex) (μ := μ) hzz
                  split at h
                  · cases h
                  · rename_i hzs
                    have hzs : zz.cells.size = inf.size := Decidable.not_not.1 hzs
                    have grow : ¬ (len + n ≤ cap') → ∀ (σ0 : AHeap), HR ex B μ σ0 w → σ0.length = σ.length →
                        okh P ex B μ (σ0 ++ [.row (old ++ new) true (some inf.size)]) (do pure (.value (← Builtin.append_ tys ty ys))) (.slice (some ⟨σ.length, 0, some inf.size⟩) (len + n) (len + n)) w := by
                      intro hno σ0 hr0 hl0
                      obtain ⟨k, hg⟩ := run_plain_grow (P := P) (base := base') (cap := cap') (old := old') (new := new') hinf hln hno hb1 hb1' hb2 hro hrn' hzr
                      have hlo : (old' ++ new').length = (len + n) * inf.size := by
                        rw [List.length_append, ← vo.1, ← vn.1, hol, hnl, ← Nat.add_mul]
                      have hla : (old ++ new).length = (len + n) * inf.size := by rw [List.length_append, hol, hnl, ← Nat.add_mul]
                      have hμ : (μ ++ [some (⟨w.heap.size, 0, (len + n) * inf.size, k, inf.size⟩ : Ent)])[σ.length]? = some (some ⟨w.heap.size, 0, (len + n) * inf.size, k, inf.size⟩) := by
                        rw [← hl0, ← hr0.len]; simp
                      refine fin hg (v := .slice (some ⟨σ.length, 0, some inf.size⟩) (len + n) (len + n)) (μ' := μ ++ [some ⟨w.heap.size, 0, (len + n) * inf.size, k, inf.size⟩]) ?_ ?_ (Ext.snoc _ _) ?_
                      · have := VR.slice (ex := ex) (o := 0) (sz := inf.size) (len := len + n) (cap := len + n) (cap' := len + n + k) hμ (.inr ⟨rfl, by simp, rfl⟩)
                        exact this
                      · refine hr0.push (w' := { w with drawn := w.drawn + 1, heap := w.heap.push (.cells (old'.toArray ++ new'.toArray ++ Builtin.zeroCells zz.cells k) e (0, 0)) }) (.cells (old'.toArray ++ new'.toArray ++ Builtin.zeroCells zz.cells k) e (0, 0)) _ _ rfl rfl ?_
                        refine ⟨hla.symm, rfl, old'.toArray ++ new'.toArray ++ Builtin.zeroCells zz.cells k, e, 0, 0, by rw [Array.getElem?_push, if_pos rfl], ?_, ?_, fun _ => ⟨hr.new, Nat.le_refl _⟩⟩
                        · have h1 : old'.length + new'.length = (len + n) * inf.size := by rw [← List.length_append]; exact hlo
                          simp only [Array.size_append, List.size_toArray, zeroCells_size, hzs, Nat.zero_add, hla]
                          omega
                        · have h1 : ((old'.toArray ++ new'.toArray ++ Builtin.zeroCells zz.cells k).toList.drop 0).take (old ++ new).length = old' ++ new' := by
                            rw [hla, ← hlo]
                            simp only [Array.toList_append, List.drop_zero]
                            exact List.take_left' rfl
                          rw [h1]
                          exact (vo.append vn).mono (Sub.snoc _ _)
                      · refine ⟨rfl, rfl, rfl, by simp, fun q hq => ?_⟩
                        show (w.heap.push _)[q]? = w.heap[q]?
                        have := hr.hB q hq
                        rw [Array.getElem?_push, if_neg (by omega)]
                    split at h
                    · cases h
                      cases vs
                      exact grow hfit σ hr rfl
                    · rename_i b o z
                      split at h
                      · rename_i hzc
                        obtain ⟨rfl, hlc⟩ := hzc
                        split at h
                        · rename_i rvs rw opn hrow
                          split at h
                          · rename_i hrw
                            cases h
                            by_cases hno : len + n ≤ cap'
                            · -- there is room
                              cases vs with
                              | sempty hm a => omega
                              | slice hm hc =>
                                rename_i en
                                have hc' : inf.size = en.esz ∧ o + cap * inf.size = en.size ∧ cap' = cap + en.xtra := by
                                  rcases hc with h | h
                                  · omega
                                  · exact h
                                obtain ⟨hesz, hend, hcap'⟩ := hc'
                                obtain ⟨h0, h1, c, el, lo, hi, g2, g3, g4, g5⟩ := hr.obj _ _ _ hrow hm
                                have hopn : ∃ z, opn = some z := by
                                  cases opn with
                                  | none => simp only at h1; omega
                                  | some z => exact ⟨z, rfl⟩
                                obtain ⟨z, rfl⟩ := hopn
                                have hrw' : rw = true := by rcases hrw with h | h; exact h; cases h
                                subst hrw'
                                obtain ⟨hBc, hfz⟩ := g5 rfl
                                have hroom : o + (len + n) * inf.size ≤ en.size + en.xtra * en.esz := by
                                  rw [← hend, ← hesz, Nat.add_assoc, ← Nat.add_mul]
                                  exact Nat.add_le_add_left (Nat.mul_le_mul_right _ (by omega)) _
                                have hnone : new'.all one = true := by
                                  rw [List.all_eq_true] at hone ⊢
                                  intro q hq
                                  obtain ⟨i, hi⟩ := List.getElem?_of_mem hq
                                  have hlt : i < new.length := by rw [vn.1]; exact lt_of_some hi
                                  obtain ⟨y, hy, hvy⟩ := vn.2 i new[i] (List.getElem?_eq_getElem hlt)
                                  rw [hi] at hy; cases hy
                                  rw [hvy.one]
                                  exact hone _ (List.getElem_mem hlt)
                                have hln' : new'.length = n * inf.size := by rw [← vn.1, hnl]
                                have hmul : (len + n) * inf.size = len * inf.size + n * inf.size := Nat.add_mul _ _ _
                                obtain ⟨c', hrun, hc'⟩ := run_storeCells (P := P) (cb := en.cb) (off := en.base + (o + len * inf.size)) hfz new' 0 w c g2 (by rw [hln']; omega) hnone
                                have hcsz : c'.size = c.size := by
                                  have := congrArg List.length hc'
                                  rw [splice_length (by rw [hln']; simp; omega)] at this
                                  simpa using this
                                have hkill : kill σ b = σ.set b .dead := by unfold kill; rw [hrow]
                                refine fin (run_plain_fit hln hno hrn (w2 := setBlock w en.cb (.cells c' el (lo, hi))) ?_) (v := .slice (some ⟨σ.length, 0, some inf.size⟩) (len + n) (len + n))
                                  (μ' := μ ++ [some ⟨en.cb, en.base + o, (len + n) * inf.size, cap' - (len + n), inf.size⟩]) ?_ ?_ (Ext.snoc _ _) (Blw.setBlock' w _ hBc)
                                · simp only [add_off, Nat.add_assoc]
                                  exact hrun
                                · have hμ : (μ ++ [some (⟨en.cb, en.base + o, (len + n) * inf.size, cap' - (len + n), inf.size⟩ : Ent)])[σ.length]? = some (some ⟨en.cb, en.base + o, (len + n) * inf.size, cap' - (len + n), inf.size⟩) := by
                                    rw [← hr.len]; simp
                                  exact VR.slice (ex := ex) (o := 0) (sz := inf.size) (len := len + n) (cap := len + n) (cap' := cap') hμ (.inr ⟨rfl, by simp, by simp only; omega⟩)
                                · rw [hkill]
                                  have hk := hr.setAt (ob := .cells c' el (lo, hi)) (o' := .dead) hrow hm rfl (fun h => by cases h) trivial
                                  refine hk.pushAt ?_ ?_
                                  · have hla : (old ++ new).length = (len + n) * inf.size := by rw [List.length_append, hol, hnl, ← Nat.add_mul]
                                    refine ⟨hla.symm, rfl, c', el, lo, hi, ?_, ?_, ?_, fun _ => ⟨hBc, hfz⟩⟩
                                    · rw [setBlock_heap, if_pos ⟨rfl, (Array.getElem?_eq_some_iff.1 g2).1⟩]
                                    · have : (len + n) * inf.size + (cap' - (len + n)) * inf.size = cap' * inf.size := by rw [← Nat.add_mul]; congr 1; omega
                                      have h6 : cap' * inf.size = cap * inf.size + en.xtra * inf.size := by rw [hcap', Nat.add_mul]
                                      simp only [hla, hcsz]
                                      rw [← hesz] at g3
                                      omega
                                    · have h7 : (c'.toList.drop (en.base + o)).take (old ++ new).length = old' ++ new' := by
                                        have hold' : old' = (c.toList.drop (en.base + o)).take (len * inf.size) := by
                                          have e1 := hro w rfl
                                          have e2 := run_loadCells (P := P) (off := en.base + o) (n := len * inf.size) g2 (by omega)
                                          have e3 : (Builtin.firstCells inf.size len (.slice (some ⟨en.cb, en.base + o, none⟩) len cap')).run P w = .ok ((c.toList.drop (en.base + o)).take (len * inf.size)).toArray w := e2
                                          rw [e3] at e1
                                          have e4 : ((c.toList.drop (en.base + o)).take (len * inf.size)).toArray = old'.toArray := by injection e1
                                          have e5 := congrArg Array.toList e4
                                          simpa using e5.symm
                                        have e8 := splice_row (c := c) (base := en.base + o) (n := (len + n) * inf.size) (o := len * inf.size) (cs := new') (c' := c') (by omega) (by rw [hln']; omega) (by simpa [Nat.add_assoc] using hc')
                                        rw [hla, e8, hold']
                                        unfold splice
                                        rw [List.take_take, Nat.min_eq_left (by omega), hln']
                                        rw [List.drop_take]
                                        have : (len + n) * inf.size - (len * inf.size + n * inf.size) = 0 := by omega
                                        rw [this]
                                        simp
                                      rw [h7]
                                      exact (vo.append vn).mono (Sub.snoc _ _)
                                  · intro b' o' e' hb1 hb2 hlive hcb
                                    rw [List.getElem?_set] at hb1
                                    by_cases hbb : b = b'
                                    · subst hbb
                                      rw [if_pos rfl, if_pos (lt_of_some hrow)] at hb1
                                      cases hb1; cases hlive
                                    · rw [if_neg hbb] at hb1
                                      exact hbb (hr.inj b b' _ _ en e' hrow hb1 hm hb2 rfl hlive hcb.symm)
                            · exact grow hno _ (hr.killed b) (kill_length σ b)
                          · cases h
                        · cases h
                      · cases h
                    · cases h
                · cases h
              · cases h
            · cases h
        · cases h
      · cases h
    · cases h
  · cases h

end Go.Lk
end

section
/- All operations on memory. -/
namespace Go.Lk
set_option linter.unusedSimpArgs false
set_option linter.unusedVariables false

variable {ex : Bool} {μ μ' : List (Option Ent)} {P : Program} {B : Nat → Prop} {σ σ' : AHeap} {w w' : World}

theorem copy_sound {tys : Array TypeId} {xs : List Value} {ys : Array Value} {ty : TypeId} {v : Value} (h : aCopy P σ tys.toList xs = some (v, σ')) (hx : VRs ex μ xs ys.toList) (hr : HR ex B μ σ w) :
    okh P ex B μ σ' (do pure (.value (← Builtin.copy_ tys ty ys))) v w := by
  unfold aCopy at h
  split at h
  · rename_i t ts s x xr hts
    obtain ⟨s', hys0, vs⟩ := hx.2 0 s rfl
    obtain ⟨x', hys1, vx⟩ := hx.2 1 x rfl
    rw [Array.getElem?_toList] at hys0 hys1
    have ht0 : tys[0]? = some t := by rw [← Array.getElem?_toList, hts]; rfl
    split at h
    · rename_i e base len cap n hu hsl
      split at h
      · rename_i sz hsz
        split at h
        · rename_i cs hcs
          obtain ⟨base', cap', rfl, _⟩ := slice_shape vs
          obtain ⟨cs', hrc, vc, hl⟩ := cells_sound (P := P) hcs vx hr
          have hln := lenOf_sound (P := P) hsl vx w
          have hrc' := hrc w rfl
          have hmin : n.min len = min n len := rfl
          split at h
          · rename_i b o z
            split at h
            · rename_i σ1 hput
              cases h
              by_cases hne : cs = []
              · subst hne
                have : cs' = [] := by have := vc.1; simpa using this.symm
                subst this
                simp only [aPut, if_true] at hput
                cases hput
                refine ⟨.value (.int .i64 (min n len : Nat)), w, μ, ?_, .int _ _, hr, Ext.refl _, Blw.refl _ _⟩
                cases base' <;> simp [Builtin.copy_, ht0, hys0, hys1, run_underlying hu, hln, run_sizeOf' hsz, hmin, hrc', goInt, storeCells]
              · cases vs with
                | slice hm hc =>
                  obtain ⟨w2, q1, q2, q3, q4⟩ := put_sound (P := P) hput hm vc hr 0
                  refine ⟨.value (.int .i64 (min n len : Nat)), w2, μ, ?_, .int _ _, q2, Ext.refl _, q3⟩
                  simp [Builtin.copy_, ht0, hys0, hys1, run_underlying hu, hln, run_sizeOf' hsz, hmin, hrc', goInt, q1]
                | sempty hm a =>
                  have : cs = [] := List.length_eq_zero_iff.1 (by rw [hl]; simp)
                  exact absurd this hne
            · cases h
          · cases h
          · split at h
            · rename_i hne
              cases h
              subst hne
              have : cs' = [] := by have := vc.1; simpa using this.symm
              subst this
              refine ⟨.value (.int .i64 (min n len : Nat)), w, μ, ?_, .int _ _, hr, Ext.refl _, Blw.refl _ _⟩
              cases base' <;> simp [Builtin.copy_, ht0, hys0, hys1, run_underlying hu, hln, run_sizeOf' hsz, hmin, hrc', goInt, storeCells]
            · cases h
        · cases h
      · cases h
    · cases h
  · cases h

theorem range_sound {t : TypeId} {x x' v : Value} (h : aRange P σ t x = some (v, σ')) (hx : VR ex μ x x') (hr : HR ex B μ σ w) :
    okh P ex B μ σ' (do pure (.value (← Instr.range t x'))) v w := by
  unfold aRange at h
  split at h
  · rename_i s hu
    cases h
    rw [hx.string_of]
    have hμ : (μ ++ [some (⟨w.heap.size, 0, 0, 0, 0⟩ : Ent)])[σ.length]? = some (some ⟨w.heap.size, 0, 0, 0, 0⟩) := by rw [← hr.len]; simp
    refine ⟨.value (.pointer (some ⟨w.heap.size, 0, none⟩)), { w with heap := w.heap.push (.stringIter s 0) }, μ ++ [some ⟨w.heap.size, 0, 0, 0, 0⟩], ?_, ?_, ?_, Ext.snoc _ _, Blw.push' rfl hr.hB⟩
    · simp [Instr.range, run_underlying hu]
    · have := VR.ptr (ex := ex) (o := 0) hμ
      exact this
    · exact hr.push (.stringIter s 0) _ _ rfl rfl ⟨rfl, by simp, hr.new⟩
  · cases h

theorem next_sound {it it' v : Value} {ty : TypeId} (h : aNext σ it = some (v, σ')) (hi : VR ex μ it it') (hr : HR ex B μ σ w) :
    okh P ex B μ σ' (do pure (.value (← Instr.next it' true ty))) v w := by
  unfold aNext at h
  split at h
  · split at h
    · rename_i b _ s pos hb
      cases hi with
      | ptr hm =>
        rename_i en
        obtain ⟨h1, h2, h3⟩ := hr.obj _ _ _ hb hm
        have hget : (getObj en.cb).run P w = .ok (.stringIter s pos) w := by simp [getObj, Sem.run, h2]
        split at h
        · rename_i hlt
          cases h
          refine ⟨.value (.tuple #[.bool true, .int .i64 pos, .int .i32 (Utf8.decode s pos).1]), setBlock w en.cb (.stringIter s (pos + (Utf8.decode s pos).2)), μ, ?_, ?_, ?_, Ext.refl _, Blw.setBlock' w _ h3⟩
          · have hset : (setObj en.cb (.stringIter s (pos + (Utf8.decode s pos).2))).run P w = .ok () (setBlock w en.cb (.stringIter s (pos + (Utf8.decode s pos).2))) := by
              simp [setObj, Sem.run, h2, setBlock]
            simp [Instr.next, h1, hget, hlt, hset, goInt]
          · exact VRs.toTuple' (c := [_, _, _]) (c' := [_, _, _]) (.cons (.bool _) (.cons (.int _ _) (.cons (.int _ _) .nil)))
          · refine hr.setAt hb hm rfl (fun _ => rfl) ⟨h1, ?_, h3⟩
            rw [setBlock_heap, if_pos ⟨rfl, (Array.getElem?_eq_some_iff.1 h2).1⟩]
        · rename_i hlt
          cases h
          refine ⟨.value (.tuple #[.bool false]), w, μ, ?_, VRs.toTuple' (c := [_]) (c' := [_]) (.cons (.bool _) .nil), hr, Ext.refl _, Blw.refl _ _⟩
          simp [Instr.next, h1, hget, hlt]
    · cases h
  · cases h

theorem aMem_sound {fr : List Value} {a : Act} {o : Oper} {v : Value} (h : aMem P fr σ o.op = some (v, σ')) (hf : FrR ex μ fr a.tmps) (hr : HR ex B μ σ w) :
    okh P ex B μ σ' (execOp a.eval o) v w := by
  obtain ⟨dst, op, ty, pos, after, guard⟩ := o
  unfold aMem at h
  simp only at h
  split at h
  · split at h
    · rename_i h1
      split at h
      · rename_i v' h2
        cases h
        obtain ⟨u, r1, r2⟩ := load_sound (P := P) h2 (aev_sound hf h1) hr
        exact ⟨.value u, w, μ, by simp [execOp, r1], r2, hr, Ext.refl _, Blw.refl _ _⟩
      · cases h
    · cases h
  · split at h
    · rename_i h1 h2
      split at h
      · rename_i h3
        cases h
        obtain ⟨w2, r1, r2, r3⟩ := store_sound (P := P) h3 (aev_sound hf h1) (aev_sound hf h2) hr
        exact ⟨.skip, w2, μ, by simp [execOp, r1], rfl, r2, Ext.refl _, r3⟩
      · cases h
    · cases h
  · split at h
    · rename_i z hz; cases h; exact alloc_sound hz hr
    · cases h
  · split at h
    · rename_i h1; cases h; exact box_sound (aev_sound hf h1) hr
    · cases h
  · split at h
    · rename_i t ps _ vs h1
      split at h
      · rename_i v' h2
        cases h
        obtain ⟨u, r1, r2⟩ := build_sound h2 (mapP_sound hf h1)
        refine ⟨.value u, w, μ, ?_, r2, hr, Ext.refl _, Blw.refl _ _⟩
        have := r1 w
        simp only [execOp, Sem.run_bind]
        rw [show Array.map (fun (x : Nat × Operand) => (x.1, a.eval x.2)) ps = (List.map (fun (x : Nat × Operand) => (x.1, a.eval x.2)) ps.toList).toArray by rw [← Array.toList_map, Array.toArray_toList]] 
        rw [this]
        rfl
      · cases h
    · cases h
  · split at h
    · rename_i t n ps _ vs h1
      obtain ⟨nx, w2, μ2, r1, r2⟩ := buildSlice_sound h (mapP_sound hf h1) hr
      refine ⟨nx, w2, μ2, ?_, r2⟩
      rw [← r1]
      simp only [execOp]
      rw [show Array.map (fun (x : Nat × Operand) => (x.1, a.eval x.2)) ps = (List.map (fun (x : Nat × Operand) => (x.1, a.eval x.2)) ps.toList).toArray by rw [← Array.toList_map, Array.toArray_toList]]
    · cases h
  · split at h
    · rename_i h1 h2; exact make_sound h (aev_sound hf h1) (aev_sound hf h2) hr
    · cases h
  · split at h
    · rename_i h1; exact range_sound h (aev_sound hf h1) hr
    · cases h
  · split at h
    · rename_i h1; exact next_sound h (aev_sound hf h1) hr
    · cases h
  · split at h
    · rename_i args tys _ vs h1
      have := mapO_sound hf h1
      exact append_sound (ty := ty) h (ys := Array.map a.eval args) (by simpa using this) hr
    · cases h
  · split at h
    · rename_i args tys _ vs h1
      have := mapO_sound hf h1
      exact copy_sound (ty := ty) h (ys := Array.map a.eval args) (by simpa using this) hr
    · cases h
  · cases h

end Go.Lk
end

section
/- Operations with calls, regions in the text's order, code. -/
namespace Go.Lk
set_option linter.unusedSimpArgs false
set_option linter.unusedVariables false

/-- What is known of the functions: which are pure (of their arguments alone), which leave the heap as it was. -/
structure Cfg where
  P : Program
  ex : Bool
  p : FuncId → Bool
  Gp : FuncId → List Value → Option Value
  q : FuncId → Bool
  G : FuncId → List Value → AHeap → Option (Value × AHeap)

/-- A call of a function by its number: an extern's value, or a body's ending. -/
def CallsTo (P : Program) (f : FuncId) (args : Array Value) (w : World) (R : Value → World → Prop) : Prop :=
  match (callFunc f args).run P w with
  | .ok (.value v) w' => R v w'
  | .ok (.enter g as) w' => Calls P g as w' fun e w'' => ∃ v, e = .returned v ∧ R v w''
  | _ => False

attribute [irreducible] CallsTo

def CallR (P : Program) (ex : Bool) (f : FuncId) (args : List Value) (σ : AHeap) (v : Value) (σ' : AHeap) : Prop :=
  ∀ (B : Nat → Prop) (μ : List (Option Ent)) (w : World) (cargs : Array Value), HR ex B μ σ w → VRs ex μ args cargs.toList →
    CallsTo P f cargs w fun cv w' => ∃ μ', VR ex μ' v cv ∧ HR ex B μ' σ' w' ∧ Ext μ μ' ∧ Blw B w w'

structure Cfg.Ok (C : Cfg) : Prop where
  gp : ∀ f args v, C.p f = true → C.Gp f args = some v → ∀ σ, CallR C.P C.ex f args σ v σ
  g : ∀ f args σ v σ', C.G f args σ = some (v, σ') → CallR C.P C.ex f args σ v σ'
  q : ∀ f args σ v σ', C.q f = true → C.G f args σ = some (v, σ') → σ' = σ
  mono : ∀ f args σ v σ', C.G f args σ = some (v, σ') → σ.length ≤ σ'.length
  mix : C.P.follows .mixedOrders = true

def isMem : Op → Bool
  | .load .. | .store .. | .alloc _ | .box .. | .build .. | .buildSlice .. | .makeSlice .. | .range .. | .next .. => true
  | .call { callee := .builtin .append, .. } | .call { callee := .builtin .copy, .. } => true
  | _ => false

def aCall (C : Cfg) (fr : List Value) (σ : AHeap) (f : Operand) (args : Array Operand) : Option (Value × AHeap) :=
  match aev fr f, mapO (aev fr) args.toList with
  | some (.func (.func g) first captured), some vs =>
    bif C.p g then
      match C.Gp g (first.toList ++ vs ++ captured.toList) with
      | some v => some (v, σ)
      | none => none
    else C.G g (first.toList ++ vs ++ captured.toList) σ
  | _, _ => none

def aOp (C : Cfg) (fr : List Value) (σ : AHeap) (o : Op) : Option (Value × AHeap) :=
  match o with
  | .call { callee := .value f, args, .. } => aCall C fr σ f args
  | o =>
    bif isMem o then aMem C.P fr σ o else
    match aPure C.P C.ex fr o with
    | some v => some (v, σ)
    | none => none

def putA (fr : List Value) (dst : Option Tmp) (v : Value) : List Value :=
  match dst with
  | some d => fr.set d v
  | none => fr

/-- Is an operation wanted? (none: that is not known.) -/
def wantedA (ops : Array Oper) (fr : List Value) (o : Oper) : Option Bool :=
  match o.guard with
  | none => some true
  | some (j, want) =>
    match (ops[j]?).bind (·.dst) with
    | none => some false
    | some d =>
      match fr[d]? with
      | none => some false
      | some (.bool b) => some (b == want)
      | some v => bif isU v then none else some false

def runOps (C : Cfg) (ops : Array Oper) : List Oper → List Value → AHeap → Option (List Value × AHeap)
  | [], fr, σ => some (fr, σ)
  | o :: rest, fr, σ =>
    match wantedA ops fr o with
    | some true =>
      match aOp C fr σ o.op with
      | some (v, σ') => runOps C ops rest (putA fr o.dst v) σ'
      | none => none
    | some false => runOps C ops rest (putA fr o.dst undef) σ
    | none => none

section
variable {C : Cfg} {μ μ' : List (Option Ent)} {B : Nat → Prop} {σ σ' : AHeap} {w w' : World}

theorem FrR.put {ex : Bool} {fr : List Value} {a : Act} {v v' : Value} (h : FrR ex μ fr a.tmps) (hv : VR ex μ v v') (dst : Option Tmp) :
    FrR ex μ (putA fr dst v) (a.put dst v').tmps := by
  cases dst with
  | none => exact h
  | some d =>
    refine ⟨by simp [putA, Act.put, h.1], fun i x hx => ?_⟩
    simp only [putA, Act.put] at hx ⊢
    rw [List.getElem?_set] at hx
    rw [Array.getElem?_setIfInBounds]
    split at hx
    · rename_i e
      rw [if_pos e]
      split at hx
      · rename_i hn; cases hx; exact ⟨v', by rw [if_pos (by rw [← h.1]; exact hn)], .inr hv⟩
      · cases hx
    · rename_i e
      rw [if_neg e]
      exact h.2 i x hx
theorem FrR.mono {ex : Bool} {fr : List Value} {tmps : Array Value} (hs : Sub μ μ') (h : FrR ex μ fr tmps) : FrR ex μ' fr tmps :=
  ⟨h.1, fun i x hx => let ⟨c, hc, hv⟩ := h.2 i x hx; ⟨c, hc, hv.imp id (VR.mono hs)⟩⟩

theorem aCall_sound (hC : C.Ok) {fr : List Value} {a : Act} {o : Oper} {f : Operand} {args : Array Operand} {tys : Array TypeId} {v : Value}
    (ho : o.op = .call { callee := .value f, args, argTypes := tys }) (h : aCall C fr σ f args = some (v, σ'))
    (hf : FrR C.ex μ fr a.tmps) (hr : HR C.ex B μ σ w) {K : Act → World → Prop} {Q : Exit → Act → World → Prop}
    (hK : ∀ v' w' μ', VR C.ex μ' v v' → HR C.ex B μ' σ' w' → Ext μ μ' → Blw B w w' → K (a.put o.dst v') w') : o.wp C.P a w K Q := by
  unfold aCall at h
  split at h
  · rename_i g first captured vs h1 h2
    obtain ⟨first', captured', hfv, v1, v2⟩ := (aev_sound hf h1).func_iff
    have hargs := mapO_sound hf h2
    have hR : CallR C.P C.ex g (first.toList ++ vs ++ captured.toList) σ v σ' := by
      cases hp : C.p g <;> rw [hp] at h <;> simp only [cond_true, cond_false] at h
      · exact hC.g _ _ _ _ _ h
      · split at h
        · rename_i v' hg; cases h; exact hC.gp _ _ _ hp hg σ
        · cases h
    have hcalls := hR B μ w (first' ++ args.map a.eval ++ captured') hr (by
      simp only [Array.toList_append, Array.toList_map]
      exact (v1.append hargs).append v2)
    unfold CallsTo at hcalls
    have hexec : execOp a.eval o = callFunc g (first' ++ args.map a.eval ++ captured') := by
      obtain ⟨dst, op, ty, pos, after, guard⟩ := o
      simp only at ho
      subst ho
      simp only [execOp, resolve, hfv, Deferred.ofValue]
      rfl
    unfold Oper.wp
    rw [hexec]
    split at hcalls
    · rename_i cv w1 hrun
      rw [hrun]
      obtain ⟨μ', q1, q2, q3, q4⟩ := hcalls
      exact hK _ _ _ q1 q2 q3 q4
    · rename_i g' as w1 hrun
      rw [hrun]
      refine Calls.mono hcalls ?_
      rintro e w2 ⟨cv, rfl, μ', q1, q2, q3, q4⟩
      exact hK _ _ _ q1 q2 q3 q4
    · exact hcalls.elim
  · cases h

theorem aOp_sound (hC : C.Ok) {fr : List Value} {a : Act} {o : Oper} {v : Value} (h : aOp C fr σ o.op = some (v, σ'))
    (hf : FrR C.ex μ fr a.tmps) (hr : HR C.ex B μ σ w) {K : Act → World → Prop} {Q : Exit → Act → World → Prop}
    (hK : ∀ v' w' μ', VR C.ex μ' v v' → HR C.ex B μ' σ' w' → Ext μ μ' → Blw B w w' → K (a.put o.dst v') w') : o.wp C.P a w K Q := by
  have fin : okh C.P C.ex B μ σ' (execOp a.eval o) v w → o.wp C.P a w K Q := by
    rintro ⟨nx, w', μ', h1, h2, h3, h4, h5⟩
    unfold Oper.wp
    rw [h1]
    cases nx with
    | value v' => exact hK _ _ _ h2 h3 h4 h5
    | skip => cases h2; exact hK _ _ _ VR.undef h3 h4 h5
    | _ => exact h2.elim
  unfold aOp at h
  split at h
  · rename_i ho; exact aCall_sound hC ho h hf hr hK
  · rename_i hno
    cases hm : isMem o.op <;> rw [hm] at h <;> simp only [cond_true, cond_false] at h
    · split at h
      · rename_i v' hp
        cases h
        exact fin ((aPure_sound hp hf).mem hr)
      · cases h
    · exact fin (aMem_sound h hf hr)

theorem wanted_eq {ex : Bool} {ops : Array Oper} {fr : List Value} {tmps : Array Value} (hf : FrR ex μ fr tmps) {o : Oper} {b : Bool} (h : wantedA ops fr o = some b) : Region.wanted o (yielded ops tmps) = b := by
  unfold wantedA at h
  unfold Region.wanted
  split at h
  · rename_i hg; rw [hg]; cases h; rfl
  · rename_i j want hg
    rw [hg]
    simp only
    unfold yielded
    cases hd : (ops[j]?).bind (·.dst) with
    | none => rw [hd] at h; cases h; rfl
    | some d =>
      rw [hd] at h
      simp only [Option.bind_some] at h ⊢
      split at h
      · rename_i hv
        cases h
        have : tmps[d]? = none := by
          rw [Array.getElem?_eq_none_iff]
          have := List.getElem?_eq_none_iff.1 hv
          rw [hf.1] at this
          exact this
        rw [this]; rfl
      · rename_i b' hv
        cases h
        obtain ⟨y, hy, hvy⟩ := hf.2 d _ hv
        rcases hvy with hu | hvy
        · cases hu
        · rw [hvy.bool_of] at hy
          rw [hy]; rfl
      · rename_i v hnb hv
        cases hu : isU v <;> rw [hu] at h <;> cases h
        obtain ⟨y, hy, hvy⟩ := hf.2 d _ hv
        rcases hvy with hu' | hvy
        · rw [hu] at hu'; cases hu'
        · rw [hy]
          cases hvy <;> first | rfl | (exact absurd rfl (hnb _))

/-- Operations in the text's order. -/
theorem runOps_sound (hC : C.Ok) {ops : Array Oper} {Q : Exit → Act → World → Prop} : ∀ (l : List Oper) (k : Nat) (fr fr' : List Value) (σ σ' : AHeap) (μ : List (Option Ent)) (a : Act) (w : World), (∀ j, l[j]? = ops[k + j]?) →
    runOps C ops l fr σ = some (fr', σ') → FrR C.ex μ fr a.tmps → HR C.ex B μ σ w →
    (∀ μ' tmps' w', FrR C.ex μ' fr' tmps' → HR C.ex B μ' σ' w' → Ext μ μ' → Blw B w w' → Q .normal ⟨tmps', a.defers⟩ w') →
    wpOps C.P ops Q (List.range' k l.length) a w := by
  intro l
  induction l with
  | nil =>
    intro k fr fr' σ σ' μ a w _ h hf hr hQ
    cases h
    exact hQ μ a.tmps w hf hr (Ext.refl _) (Blw.refl _ _)
  | cons o l ih =>
    intro k fr fr' σ σ' μ a w hl h hf hr hQ
    have h0 : ops[k]? = some o := by simpa using (hl 0).symm
    have hl' : ∀ j, l[j]? = ops[k + 1 + j]? := fun j => by have := hl (j + 1); simpa [Nat.add_assoc, Nat.add_comm 1 j] using this
    simp only [List.length_cons, List.range'_succ, wpOps, h0]
    unfold runOps at h
    have hput : ∀ (a : Act) (d : Option Tmp) (v : Value), (a.put d v).defers = a.defers := by intro a d v; cases d <;> rfl
    split at h
    · rename_i hw
      rw [wanted_eq hf hw]
      simp only [if_true]
      left
      split at h
      · rename_i v σ1 hop
        refine aOp_sound hC hop hf hr ?_
        intro v' w1 μ1 r1 r2 r3 r4
        refine ih (k + 1) _ fr' σ1 σ' μ1 (a.put o.dst v') w1 hl' h ((hf.mono r3.sub).put r1 _) r2 ?_
        intro μ' tmps' w' q1 q2 q3 q4
        rw [hput]
        exact hQ μ' tmps' w' q1 q2 (r3.trans q3) (r4.trans q4)
      · cases h
    · rename_i hw
      rw [wanted_eq hf hw]
      simp only [Bool.false_eq_true, if_false]
      refine ih (k + 1) _ fr' σ σ' μ (a.put o.dst undef) w hl' h (hf.put VR.undef _) hr ?_
      intro μ' tmps' w' q1 q2 q3 q4
      rw [hput]
      exact hQ μ' tmps' w' q1 q2 q3 q4
    · cases h

end
end Go.Lk
end

section
/- A region whose order is open: whatever order is taken, it ends as the text's order does. -/
namespace Go.Lk
set_option linter.unusedSimpArgs false
set_option linter.unusedVariables false

/-- What an operation is to the heap: 0 nothing; 1 it loads; 2 it changes it; 3 it makes one new block; 4 a call that reads it. -/
def cls (C : Cfg) (o : Op) : Nat :=
  match o with
  | .load .. => 1
  | .alloc _ | .box .. | .buildSlice .. | .makeSlice .. => 3
  | .store .. | .range .. | .next .. => 2
  | .call { callee := .builtin .append, .. } | .call { callee := .builtin .copy, .. } => 2
  | .call { callee := .value (.func f), .. } => bif C.p f then 0 else bif C.q f then 4 else 2
  | .call { callee := .value _, .. } => 2
  | _ => 0

/-- The slots that an operation looks at. -/
def looks (ops : Array Oper) (o : Oper) : List Tmp :=
  (o.op.operands.toList.filterMap fun | .tmp t => some t | _ => none) ++
  (match o.guard with
   | some (g, _) => ((ops[g]?).bind (·.dst)).toList
   | none => [])

theorem aev_congr {fr fr' : List Value} {x : Operand} (h : ∀ t, x = .tmp t → fr.getD t undef = fr'.getD t undef) : aev fr x = aev fr' x := by
  cases x with
  | tmp t => simp only [aev]; rw [h t rfl]
  | _ => rfl
theorem mapO_congr {f g : Operand → Option Value} : ∀ {l : List Operand}, (∀ x ∈ l, f x = g x) → mapO f l = mapO g l
  | [], _ => rfl
  | x :: l, h => by
    unfold mapO
    rw [h x (by simp), mapO_congr (fun y hy => h y (by simp [hy]))]
theorem mapP_congr {f g : Operand → Option Value} : ∀ {l : List (Nat × Operand)}, (∀ x ∈ l.map (·.2), f x = g x) → mapP f l = mapP g l
  | [], _ => rfl
  | (i, x) :: l, h => by
    unfold mapP
    rw [h x (by simp), mapP_congr (fun y hy => h y (by simp at hy ⊢; exact .inr hy))]
theorem optO_congr {f g : Operand → Option Value} {x : Option Operand} (h : ∀ y ∈ x.toList, f y = g y) : optO f x = optO g x := by
  cases x with
  | none => rfl
  | some y => unfold optO; simp only; rw [h y (by simp)]

theorem aOp_congr {C : Cfg} {fr fr' : List Value} {σ : AHeap} {o : Op} (h : ∀ t, Operand.tmp t ∈ o.operands.toList → fr.getD t undef = fr'.getD t undef) : aOp C fr σ o = aOp C fr' σ o := by
  have hx : ∀ x ∈ o.operands.toList, aev fr x = aev fr' x := fun x hx => aev_congr fun t e => h t (e ▸ hx)
  clear h
  cases o with
  | call c =>
    obtain ⟨callee, args, tys⟩ := c
    cases callee with
    | value f =>
      simp only [aOp, aCall]
      rw [hx f (by simp [Op.operands, Call.operands]), mapO_congr (fun x h => hx x (by simp [Op.operands, Call.operands]; exact .inr (by simpa using h)))]
    | invoke r m => rfl
    | builtin b =>
      have := mapO_congr (f := aev fr) (g := aev fr') (l := args.toList) (fun x h => hx x (by simp [Op.operands, Call.operands]; simpa using h))
      cases b <;> simp only [aOp, isMem, aMem, aPure, cond_true, cond_false, this]
  | makeFunc fn xs ys =>
    simp only [aOp, isMem, aPure, cond_false]
    rw [mapO_congr (l := xs.toList) (fun x h => hx x (by simp [Op.operands]; exact .inl (by simpa using h))), mapO_congr (l := ys.toList) (fun x h => hx x (by simp [Op.operands]; exact .inr (by simpa using h)))]
  | slice t x lo hi mx =>
    simp only [aOp, isMem, aPure, cond_false]
    rw [hx x (by simp [Op.operands]), optO_congr (x := lo) (fun y h => hx y (by simp [Op.operands]; exact .inr (.inl (by simpa using h)))), optO_congr (x := hi) (fun y h => hx y (by simp [Op.operands]; exact .inr (.inr (.inl (by simpa using h))))),
      optO_congr (x := mx) (fun y h => hx y (by simp [Op.operands]; exact .inr (.inr (.inr (by simpa using h)))))]
  | build t ps =>
    simp only [aOp, isMem, aMem, cond_true]
    rw [mapP_congr (l := ps.toList) (fun x h => hx x (by simpa [Op.operands] using h))]
  | buildSlice t n ps =>
    simp only [aOp, isMem, aMem, cond_true]
    rw [mapP_congr (l := ps.toList) (fun x h => hx x (by simpa [Op.operands] using h))]
  | pick c a b =>
    simp only [aOp, isMem, aPure, cond_false]
    rw [hx c (by simp [Op.operands]), hx a (by simp [Op.operands]), hx b (by simp [Op.operands])]
  | store t x y => simp only [aOp, isMem, aMem, cond_true]; rw [hx x (by simp [Op.operands]), hx y (by simp [Op.operands])]
  | makeSlice t x y => simp only [aOp, isMem, aMem, cond_true]; rw [hx x (by simp [Op.operands]), hx y (by simp [Op.operands])]
  | binOp op t x y t' => simp only [aOp, isMem, aPure, cond_false]; rw [hx x (by simp [Op.operands]), hx y (by simp [Op.operands])]
  | indexAddr t x y => simp only [aOp, isMem, aPure, cond_false]; rw [hx x (by simp [Op.operands]), hx y (by simp [Op.operands])]
  | index t x y => simp only [aOp, isMem, aPure, cond_false]; rw [hx x (by simp [Op.operands]), hx y (by simp [Op.operands])]
  | load t x => simp only [aOp, isMem, aMem, cond_true]; rw [hx x (by simp [Op.operands])]
  | box t x => simp only [aOp, isMem, aMem, cond_true]; rw [hx x (by simp [Op.operands])]
  | range t x => simp only [aOp, isMem, aMem, cond_true]; rw [hx x (by simp [Op.operands])]
  | next x b => cases b <;> simp only [aOp, isMem, aMem, cond_true]; rw [hx x (by simp [Op.operands])]
  | move x => simp only [aOp, isMem, aPure, cond_false]; rw [hx x (by simp [Op.operands])]
  | assign x => simp only [aOp, isMem, aPure, cond_false]; rw [hx x (by simp [Op.operands])]
  | nilCheck x => simp only [aOp, isMem, aPure, cond_false]; rw [hx x (by simp [Op.operands])]
  | unOp op t x => simp only [aOp, isMem, aPure, cond_false]; rw [hx x (by simp [Op.operands])]
  | convert s d x => simp only [aOp, isMem, aPure, cond_false]; rw [hx x (by simp [Op.operands])]
  | makeInterface t x => simp only [aOp, isMem, aPure, cond_false]; rw [hx x (by simp [Op.operands])]
  | fieldAddr t x f => simp only [aOp, isMem, aPure, cond_false]; rw [hx x (by simp [Op.operands])]
  | field t x f => simp only [aOp, isMem, aPure, cond_false]; rw [hx x (by simp [Op.operands])]
  | extract x i => simp only [aOp, isMem, aPure, cond_false]; rw [hx x (by simp [Op.operands])]
  | _ => rfl

/-! ### The classes -/
theorem cls0 {C : Cfg} {fr : List Value} {σ σ' : AHeap} {o : Op} {v : Value} (hc : cls C o = 0) (h : aOp C fr σ o = some (v, σ')) : σ' = σ ∧ ∀ τ, aOp C fr τ o = some (v, τ) := by
  cases o with
  | call c =>
    obtain ⟨callee, args, tys⟩ := c
    cases callee with
    | value f =>
      cases f with
      | func f =>
        simp only [cls] at hc
        cases hp : C.p f <;> rw [hp] at hc <;> simp only [cond_true, cond_false] at hc
        · cases hq : C.q f <;> rw [hq] at hc <;> simp at hc
        · simp only [aOp, aCall, aev] at h ⊢
          split at h
          · rename_i g first captured vs h1 h2
            cases h1
            rw [hp] at h
            simp only [cond_true] at h
            split at h
            · rename_i v' hg
              cases h
              refine ⟨rfl, fun τ => ?_⟩
              have hg' : C.Gp f ((#[] : Array Value).toList ++ vs ++ (#[] : Array Value).toList) = some v := hg
              first
                | (rw [h2]; simp only [hp, cond_true, hg']; done)
                | (simp only [hp, cond_true, hg']; done)
            · cases h
          · cases h
      | _ => simp [cls] at hc
    | invoke r m => simp [aOp, isMem, aPure] at h
    | builtin b =>
      cases b <;> simp only [cls] at hc <;> (try (cases hc; done)) <;>
      · simp only [aOp, isMem, cond_false] at h ⊢
        split at h
        · rename_i v' hv; cases h; exact ⟨rfl, fun τ => by first | rfl | rw [hv]⟩
        · cases h
  | build t ps =>
    simp only [aOp, isMem, aMem, cond_true] at h ⊢
    split at h
    · rename_i vs h1
      split at h
      · rename_i v' h2; cases h; exact ⟨rfl, fun τ => by first | (rw [h1]; simp only [h2]; done) | (simp only [h2]; done) | rfl⟩
      · cases h
    · cases h
  | next x b => cases b <;> simp [aOp, isMem, aMem, cls] at h hc
  | load => simp [cls] at hc
  | store => simp [cls] at hc
  | alloc => simp [cls] at hc
  | box => simp [cls] at hc
  | buildSlice => simp [cls] at hc
  | makeSlice => simp [cls] at hc
  | range => simp [cls] at hc
  | _ =>
    simp only [aOp, isMem, cond_false] at h ⊢
    split at h
    · rename_i v' hv; cases h; exact ⟨rfl, fun τ => by first | rfl | rw [hv]⟩
    · cases h

theorem cls4 {C : Cfg} (hC : C.Ok) {fr : List Value} {σ σ' : AHeap} {o : Op} {v : Value} (hc : cls C o = 4) (h : aOp C fr σ o = some (v, σ')) : σ' = σ := by
  cases o with
  | call c =>
    obtain ⟨callee, args, tys⟩ := c
    cases callee with
    | value f =>
      cases f with
      | func f =>
        simp only [cls] at hc
        cases hp : C.p f <;> rw [hp] at hc <;> simp only [cond_true, cond_false] at hc
        · cases hq : C.q f <;> rw [hq] at hc <;> simp at hc
          simp only [aOp, aCall, aev] at h
          split at h
          · rename_i g first captured vs h1 h2
            cases h1
            rw [hp] at h
            exact hC.q _ _ _ _ _ hq h
          · cases h
        · cases hc
      | _ => simp [cls] at hc
    | invoke r m => simp [cls] at hc
    | builtin b => cases b <;> simp [cls] at hc
  | _ => simp [cls] at hc

/-- What a new block's name looks like. -/
inductive Mk where
  | p
  | s (sz len cap : Nat)
def Mk.at : Mk → Nat → Value
  | .p, n => .pointer (some ⟨n, 0, none⟩)
  | .s sz len cap, n => .slice (some ⟨n, 0, some sz⟩) len cap

theorem cls3 {C : Cfg} {fr : List Value} {σ σ' : AHeap} {o : Op} {v : Value} (hc : cls C o = 3) (h : aOp C fr σ o = some (v, σ')) :
    ∃ (m : Mk) (row : AObj), v = m.at σ.length ∧ σ' = σ ++ [row] ∧ ∀ τ, aOp C fr τ o = some (m.at τ.length, τ ++ [row]) := by
  cases o with
  | alloc t =>
    simp only [aOp, isMem, aMem, cond_true] at h ⊢
    split at h
    · rename_i z hz; cases h; exact ⟨.p, _, rfl, rfl, fun τ => by first | rfl | (rw [hz]; rfl)⟩
    · cases h
  | box t x =>
    simp only [aOp, isMem, aMem, cond_true] at h ⊢
    split at h
    · rename_i v' hv; cases h; exact ⟨.p, _, rfl, rfl, fun τ => by first | rfl | (rw [hv]; rfl)⟩
    · cases h
  | buildSlice t n ps =>
    simp only [aOp, isMem, aMem, cond_true] at h ⊢
    split at h
    · rename_i vs h1
      unfold aBuildSlice at h
      split at h
      · rename_i e hu
        split at h
        · rename_i size z hs hz
          split at h
          · rename_i hcnd
            split at h
            · rename_i cells hfill
              cases h
              refine ⟨.s size n n, _, rfl, rfl, fun τ => ?_⟩
              try rw [h1]
              simp only [aBuildSlice, hu, hs, hz, hfill]
              rw [if_pos hcnd]
              rfl
            · cases h
          · cases h
        · cases h
      · cases h
    · cases h
  | makeSlice t x y =>
    simp only [aOp, isMem, aMem, cond_true] at h ⊢
    split at h
    · rename_i a b h1 h2
      unfold aMake at h
      split at h
      · rename_i e k len k' cap hu
        split at h
        · rename_i inf hi
          split at h
          · rename_i hcnd
            split at h
            · rename_i z hz
              split at h
              · rename_i hcnd2
                cases h
                refine ⟨.s inf.size len.toNat cap.toNat, _, rfl, rfl, fun τ => ?_⟩
                try rw [h1, h2]
                simp only [aMake, hu, hi, hz]
                rw [if_pos hcnd, if_pos hcnd2]
                rfl
              · cases h
            · cases h
          · cases h
        · cases h
      · cases h
    · cases h
  | call c =>
    obtain ⟨callee, args, tys⟩ := c
    cases callee with
    | value f =>
      cases f with
      | func f =>
        simp only [cls] at hc
        cases hp : C.p f <;> rw [hp] at hc <;> simp only [cond_true, cond_false] at hc
        · cases hq : C.q f <;> rw [hq] at hc <;> simp at hc
        · cases hc
      | _ => simp [cls] at hc
    | invoke r m => simp [cls] at hc
    | builtin b => cases b <;> simp [cls] at hc
  | _ => simp [cls] at hc

theorem cls1 {C : Cfg} {fr : List Value} {σ σ' : AHeap} {o : Op} {v : Value} (hc : cls C o = 1) (h : aOp C fr σ o = some (v, σ')) :
    σ' = σ ∧ ∃ t x a, o = .load t x ∧ aev fr x = some a ∧ aLoad C.P σ t a = some v := by
  cases o with
  | load t x =>
    simp only [aOp, isMem, aMem, cond_true] at h
    split at h
    · rename_i a h1
      split at h
      · rename_i v' h2; cases h; exact ⟨rfl, t, x, a, rfl, h1, h2⟩
      · cases h
    · cases h
  | call c =>
    obtain ⟨callee, args, tys⟩ := c
    cases callee with
    | value f =>
      cases f with
      | func f =>
        simp only [cls] at hc
        cases hp : C.p f <;> rw [hp] at hc <;> simp only [cond_true, cond_false] at hc
        · cases hq : C.q f <;> rw [hq] at hc <;> simp at hc
        · cases hc
      | _ => simp [cls] at hc
    | invoke r m => simp [cls] at hc
    | builtin b => cases b <;> simp [cls] at hc
  | _ => simp [cls] at hc

end Go.Lk
end

section
/- New blocks, as the world makes them; holes in the renaming. -/
namespace Go.Lk
set_option linter.unusedSimpArgs false
set_option linter.unusedVariables false

variable {ex : Bool} {μ μ' : List (Option Ent)} {P : Program} {B : Nat → Prop} {σ σ' : AHeap} {w w' : World}

def Mk.conc : Mk → Nat → Value
  | .p, n => .pointer (some ⟨n, 0, none⟩)
  | .s _ len cap, n => .slice (some ⟨n, 0, none⟩) len cap

/-- An operation that makes one new row. -/
def okA (P : Program) (ex : Bool) (μ : List (Option Ent)) (s : Sem Next) (m : Mk) (row : AObj) (w : World) : Prop :=
  ∃ (cs cs' : List Value) (elem : TypeId), row = .row cs true none ∧ VRs ex μ cs cs' ∧
    s.run P w = .ok (.value (m.conc w.heap.size)) { w with heap := w.heap.push (.cells cs'.toArray elem (0, 0)) }

theorem run_newRow (elem : TypeId) (cs : Array Value) (w : World) : (newRow elem cs).run P w = .ok ⟨w.heap.size, 0, none⟩ { w with heap := w.heap.push (.cells cs elem (0, 0)) } := by
  simp [newRow]

theorem okA_alloc {t : TypeId} {z : Value} (h : tZero P t = some z) (w : World) :
    okA P ex μ (do pure (.value (← Instr.alloc t true (.tuple #[])))) .p (.row z.cells.toList true none) w := by
  obtain ⟨hz, hv⟩ := zero_sound (ex := ex) (μ := μ) h
  exact ⟨_, _, t, rfl, hv.cells, by simp [Instr.alloc, hz, newVar, run_newRow, Mk.conc]⟩

theorem okA_box {t : TypeId} {v v' : Value} (hv : VR ex μ v v') (w : World) :
    okA P ex μ (do pure (.value (← Instr.box t v'))) .p (.row v.cells.toList true none) w :=
  ⟨_, _, t, rfl, hv.cells, by simp [Instr.box, newVar, run_newRow, Mk.conc]⟩

theorem okA_buildSlice {t : TypeId} {len : Nat} {ps ps' : List (Nat × Value)} {v : Value} (h : aBuildSlice P σ t len ps = some (v, σ')) (hp : PartsR ex μ ps ps') (w : World) :
    ∃ m row, v = Mk.at m σ.length ∧ σ' = σ ++ [row] ∧ okA P ex μ (do pure (.value (← Instr.buildSlice t len ps'.toArray))) m row w := by
  unfold aBuildSlice at h
  split at h
  · rename_i e hu
    split at h
    · rename_i size z hs hz
      split at h
      · rename_i hc
        obtain ⟨hle, hzs, hs0⟩ := hc
        split at h
        · rename_i cells hfill
          cases h
          obtain ⟨hzr, hzv⟩ := zero_sound (ex := ex) (μ := μ) hz
          have hz0 : z.cells.size ≠ 0 := by rw [hzs]; exact hs0
          have this : ¬ (len * size > 2 ^ 24) := by omega
          refine ⟨.s size len len, _, rfl, rfl, ?_⟩
          by_cases hl : len * size = 0
          · obtain ⟨r', h1, h2⟩ := fill_sound (place' := fun i => some (i * size, size)) ps ps' _ #[] _ (fun _ _ h => h) hfill (by rw [hl]; exact VRs.nil) hp
            refine ⟨cells, r'.toList, e, rfl, h2, ?_⟩
            have hA : (Array.range (len * size)).map (fun x => (#[] : Array Value)[x % (#[] : Array Value).size]!) = #[] := Array.eq_empty_of_size_eq_zero (by simp; omega)
            simp only [Instr.buildSlice, Sem.run_bind, run_underlying hu, Result.andThen_ok, run_sizeOf' hs, if_neg this, if_pos hl, Sem.run_pure, hA, h1, run_newRow, Array.toArray_toList]
            rfl
          · obtain ⟨r', h1, h2⟩ := fill_sound (place' := fun i => some (i * size, size)) ps ps' _ ((Array.range (len * size)).map (z.cells[· % z.cells.size]!)) _ (fun _ _ h => h) hfill (by rw [zrow_eq hz0]; exact VRs.zrow hzv.cells _) hp
            refine ⟨cells, r'.toList, e, rfl, h2, ?_⟩
            simp only [Instr.buildSlice, Sem.run_bind, run_underlying hu, Result.andThen_ok, run_sizeOf' hs, if_neg this, if_neg hl, Sem.run_pure, hzr, h1, run_newRow, Array.toArray_toList]
            rfl
        · cases h
      · cases h
    · cases h
  · cases h

theorem okA_make {t : TypeId} {l l' c c' v : Value} (h : aMake P σ t l c = some (v, σ')) (hl : VR ex μ l l') (hc : VR ex μ c c') (w : World) :
    ∃ m row, v = Mk.at m σ.length ∧ σ' = σ ++ [row] ∧ okA P ex μ (do pure (.value (← Instr.makeSlice t l' c'))) m row w := by
  unfold aMake at h
  split at h
  · rename_i e k len k' cap hu
    rw [hl.int_of, hc.int_of]
    split at h
    · rename_i inf hi
      split at h
      · rename_i hb
        obtain ⟨h0, h1, h2, h3⟩ := hb
        split at h
        · rename_i z hz
          split at h
          · rename_i hzz
            obtain ⟨hzs, hs0, hzo⟩ := hzz
            cases h
            obtain ⟨hzr, hzv⟩ := zero_sound (ex := ex) (μ := μ) hz
            have hz0 : z.cells.size ≠ 0 := by rw [hzs]; exact hs0
            refine ⟨.s inf.size len.toNat cap.toNat, _, rfl, rfl, _, _, e, rfl, VRs.zrow hzv.cells (cap.toNat * inf.size), ?_⟩
            have hwl := wrap_small h0 (by omega)
            have hwc := wrap_small (n := cap) (by omega) (by omega)
            have hlt : ∀ n : Int, n ≤ cap → 0 ≤ n → (decide (n < 0) || decide ((inf.bytes : Int) * n > 2 ^ 48)) = false := by
              intro n hn hn0
              have : (inf.bytes : Int) * n ≤ cap * inf.bytes := by
                rw [Int.mul_comm]
                exact Int.mul_le_mul_of_nonneg_right hn (by omega)
              simp
              omega
            have hbad : ((decide (cap < 0) || decide ((inf.bytes : Int) * cap > 2 ^ 48)) || decide (len < 0) || decide (len > cap)) = false := by
              rw [hlt cap (by omega) (by omega)]
              simp
              omega
            obtain ⟨i1, i2⟩ := info_runs (P := P) hi w
            have hA : ((Array.range (cap.toNat * inf.size)).map (z.cells[· % z.cells.size]!)) = (zrow z.cells.toList (cap.toNat * inf.size)).toArray := by
              rw [← zrow_eq hz0]
            by_cases hn : cap.toNat * inf.size = 0
            · have hA0 : ((Array.range (cap.toNat * inf.size)).map (fun x => (#[] : Array Value)[x % (#[] : Array Value).size]!)) = (zrow z.cells.toList (cap.toNat * inf.size)).toArray := by
                rw [hn]
                rw [show zrow z.cells.toList 0 = [] from rfl]
                exact Array.eq_empty_of_size_eq_zero (by simp)
              simp only [Instr.makeSlice, Sem.run_bind, run_underlying hu, Result.andThen_ok, asInt, asIntOf, Sem.run_pure, i1, hwl, hwc, hbad, Bool.false_eq_true, if_false, run_askRoom, i2, if_pos hn, hA0, run_newRow]
              rfl
            · simp only [Instr.makeSlice, Sem.run_bind, run_underlying hu, Result.andThen_ok, asInt, asIntOf, Sem.run_pure, i1, hwl, hwc, hbad, Bool.false_eq_true, if_false, run_askRoom, i2, if_neg hn, hzr, hA, run_newRow]
              rfl
          · cases h
        · cases h
      · cases h
    · cases h
  · cases h

theorem Mk.inj {m m' : Mk} {n : Nat} (h : m.at n = m'.at n) : m = m' := by
  cases m <;> cases m' <;> simp [Mk.at] at h ⊢
  exact h

theorem cls3_okA {C : Cfg} {fr : List Value} {a : Act} {o : Oper} {v : Value} (hc : cls C o.op = 3) (h : aOp C fr σ o.op = some (v, σ')) (hf : FrR C.ex μ fr a.tmps) (w : World) :
    ∃ m row, v = Mk.at m σ.length ∧ σ' = σ ++ [row] ∧ okA C.P C.ex μ (execOp a.eval o) m row w := by
  obtain ⟨dst, op, ty, pos, after, guard⟩ := o
  simp only at hc h
  cases op with
  | alloc t =>
    simp only [aOp, isMem, aMem, cond_true] at h
    split at h
    · rename_i z hz; cases h; exact ⟨.p, _, rfl, rfl, okA_alloc hz w⟩
    · cases h
  | box t x =>
    simp only [aOp, isMem, aMem, cond_true] at h
    split at h
    · rename_i v' hv; cases h; exact ⟨.p, _, rfl, rfl, okA_box (aev_sound hf hv) w⟩
    · cases h
  | buildSlice t n ps =>
    simp only [aOp, isMem, aMem, cond_true] at h
    split at h
    · rename_i vs h1
      obtain ⟨m, row, e1, e2, e3⟩ := okA_buildSlice (P := C.P) h (mapP_sound hf h1) w
      refine ⟨m, row, e1, e2, ?_⟩
      simp only [execOp]
      rw [show Array.map (fun (x : Nat × Operand) => (x.1, a.eval x.2)) ps = (List.map (fun (x : Nat × Operand) => (x.1, a.eval x.2)) ps.toList).toArray by rw [← Array.toList_map, Array.toArray_toList]]
      exact e3
    · cases h
  | makeSlice t x y =>
    simp only [aOp, isMem, aMem, cond_true] at h
    split at h
    · rename_i u1 u2 h1 h2
      exact okA_make (P := C.P) h (aev_sound hf h1) (aev_sound hf h2) w
    · cases h
  | call c =>
    obtain ⟨callee, args, tys⟩ := c
    cases callee with
    | value f =>
      cases f with
      | func f =>
        simp only [cls] at hc
        cases hp : C.p f <;> rw [hp] at hc <;> simp only [cond_true, cond_false] at hc
        · cases hq : C.q f <;> rw [hq] at hc <;> simp at hc
        · cases hc
      | _ => simp [cls] at hc
    | invoke r m => simp [cls] at hc
    | builtin b => cases b <;> simp [cls] at hc
  | _ => simp [cls] at hc

/-- A hole is filled with a new block. -/
theorem Sub.fill {c : Nat} {e : Ent} (hc : ∀ e', μ[c]? ≠ some (some e')) : Sub μ (μ.set c (some e)) := by
  intro b e' h
  rw [List.getElem?_set]
  by_cases hb : c = b
  · subst hb; exact absurd h (hc e')
  · rw [if_neg hb]; exact h

theorem HR.fill (h : HR ex B μ σ w) {c : Nat} (hd : σ[c]? = some .dead) (hc : ∀ e', μ[c]? ≠ some (some e')) {cs cs' : List Value} {elem : TypeId} (hv : VRs ex μ cs cs') :
    HR ex B (μ.set c (some ⟨w.heap.size, 0, cs.length, 0, 0⟩)) (σ.set c (.row cs true none)) { w with heap := w.heap.push (.cells cs'.toArray elem (0, 0)) } := by
  have hcl := lt_of_some hd
  have hs := Sub.fill (e := ⟨w.heap.size, 0, cs.length, 0, 0⟩) hc
  have hold : ∀ k, k < w.heap.size → (w.heap.push (.cells cs'.toArray elem (0, 0)))[k]? = w.heap[k]? := fun k hk => by rw [Array.getElem?_push, if_neg (by omega)]
  have key : ∀ (b : Nat) (o1 : AObj), (σ.set c (.row cs true none))[b]? = some o1 → (b = c ∧ o1 = .row cs true none) ∨ (b ≠ c ∧ σ[b]? = some o1) := fun b o1 h1 => by
    rw [List.getElem?_set] at h1
    by_cases hb : c = b
    · subst hb; rw [if_pos rfl, if_pos hcl] at h1; cases h1; exact .inl ⟨rfl, rfl⟩
    · rw [if_neg hb] at h1; exact .inr ⟨fun e => hb e.symm, h1⟩
  have keyμ : ∀ (b : Nat) (e1 : Ent), b ≠ c → (μ.set c (some ⟨w.heap.size, 0, cs.length, 0, 0⟩))[b]? = some (some e1) → μ[b]? = some (some e1) := fun b e1 hb h1 => by
    rw [List.getElem?_set, if_neg (fun e => hb e.symm)] at h1; exact h1
  have keyc : (μ.set c (some ⟨w.heap.size, 0, cs.length, 0, 0⟩))[c]? = some (some ⟨w.heap.size, 0, cs.length, 0, 0⟩) := by
    rw [List.getElem?_set, if_pos rfl, if_pos (by rw [h.len]; exact hcl)]
  refine ⟨by simp [h.len], fun k hk => by have := h.hB k hk; simp; omega, ?_, ?_, ?_⟩
  · intro b o1 h1 hl
    rcases key b o1 h1 with ⟨rfl, rfl⟩ | ⟨hb, h1⟩
    · exact ⟨_, keyc⟩
    · obtain ⟨e1, he1⟩ := h.has b o1 h1 hl
      exact ⟨e1, hs _ _ he1⟩
  · intro b o1 e1 h1 h2
    rcases key b o1 h1 with ⟨rfl, rfl⟩ | ⟨hb, h1⟩
    · rw [keyc] at h2; cases h2
      refine ⟨rfl, rfl, cs'.toArray, elem, 0, 0, by simp, by simp [← hv.1], ?_, fun _ => ⟨h.new, Nat.le_refl _⟩⟩
      simp only [List.drop_zero]
      rw [show cs'.take cs.length = cs' by rw [hv.1, List.take_length]]
      exact hv.mono hs
    · have h2' := keyμ b e1 hb h2
      have k := h.obj b o1 e1 h1 h2'
      exact k.mono hs (fun hl => hold _ (k.lt hl))
  · intro b b' o1 o2 e1 e2 h1 h2 h3 h4 hown hlive hcb
    rcases key b o1 h1 with ⟨rfl, rfl⟩ | ⟨hb, h1⟩
    · rw [keyc] at h3; cases h3
      rcases key b' o2 h2 with ⟨rfl, rfl⟩ | ⟨hb', h2⟩
      · rfl
      · have := (h.obj b' o2 e2 h2 (keyμ b' e2 hb' h4)).lt hlive
        simp only at hcb
        omega
    · have hl1 : o1.live = true := by cases o1 <;> first | rfl | cases hown
      have hlt := (h.obj b o1 e1 h1 (keyμ b e1 hb h3)).lt hl1
      rcases key b' o2 h2 with ⟨rfl, rfl⟩ | ⟨hb', h2⟩
      · rw [keyc] at h4; cases h4
        simp only at hcb
        omega
      · exact h.inj b b' o1 o2 e1 e2 h1 h2 (keyμ b e1 hb h3) (keyμ b' e2 hb' h4) hown hlive hcb

/-- Dead blocks are added. -/
theorem HR.dead (h : HR ex B μ σ w) (n : Nat) : HR ex B (μ ++ List.replicate n none) (σ ++ List.replicate n .dead) w := by
  have keyσ : ∀ (b : Nat) (o1 : AObj), (σ ++ List.replicate n .dead)[b]? = some o1 → σ[b]? = some o1 ∨ o1 = .dead := fun b o1 h1 => by
    rcases Nat.lt_or_ge b σ.length with hb | hb
    · rw [List.getElem?_append_left hb] at h1; exact .inl h1
    · rw [List.getElem?_append_right hb, List.getElem?_replicate] at h1
      split at h1
      · cases h1; exact .inr rfl
      · cases h1
  have keyμ : ∀ (b : Nat) (e1 : Ent), (μ ++ List.replicate n none)[b]? = some (some e1) → μ[b]? = some (some e1) := fun b e1 h1 => by
    rcases Nat.lt_or_ge b μ.length with hb | hb
    · rw [List.getElem?_append_left hb] at h1; exact h1
    · rw [List.getElem?_append_right hb, List.getElem?_replicate] at h1
      split at h1 <;> cases h1
  have hs : Sub μ (μ ++ List.replicate n none) := fun b e h => by
    have hb := lt_of_some h
    rw [List.getElem?_append_left hb]; exact h
  refine ⟨by simp [h.len], h.hB, ?_, ?_, ?_⟩
  · intro b o1 h1 hl
    rcases keyσ b o1 h1 with h1 | rfl
    · obtain ⟨e, he⟩ := h.has b o1 h1 hl; exact ⟨e, hs _ _ he⟩
    · cases hl
  · intro b o1 e1 h1 h2
    rcases keyσ b o1 h1 with h1 | rfl
    · exact (h.obj b o1 e1 h1 (keyμ b e1 h2)).mono hs (fun _ => rfl)
    · trivial
  · intro b b' o1 o2 e1 e2 h1 h2 h3 h4 hown hlive hcb
    rcases keyσ b o1 h1 with h1 | rfl
    · rcases keyσ b' o2 h2 with h2 | rfl
      · exact h.inj b b' o1 o2 e1 e2 h1 h2 (keyμ b e1 h3) (keyμ b' e2 h4) hown hlive hcb
      · cases hlive
    · cases hown
theorem Sub.holes (μ : List (Option Ent)) (n : Nat) : Sub μ (μ ++ List.replicate n none) := fun b e h => by
  have hb := lt_of_some h
  rw [List.getElem?_append_left hb]; exact h

end Go.Lk
end
