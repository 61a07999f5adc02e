import Derived.Test.YtmomainjlncogaaLkU
section
/- Operations on memory: what they say of the abstract heap. -/
namespace Go.Lk
set_option linter.unusedSimpArgs false
set_option linter.unusedVariables false

section defs
variable (P : Program)

def tZero (t : TypeId) : Option Value :=
  match (P.info? t).bind (·.zero) with
  | some z => bif cOk z then some z else none
  | none => none

def aLoad (σ : AHeap) (t : TypeId) (a : Value) : Option Value :=
  match a with
  | .pointer (some ⟨b, o, none⟩) =>
    match σ[b]? with
    | some (.row vs _ _) =>
      match P.underlying t with
      | some d =>
        bif isAggD d then
          match tSize P t with
          | some n => if o + n ≤ vs.length then some (.agg ((vs.drop o).take n).toArray) else none
          | none => none
        else vs[o]?
      | none => none
    | _ => none
  | _ => none

def aStore (σ : AHeap) (t : TypeId) (a x : Value) : Option AHeap :=
  match a with
  | .pointer (some ⟨b, o, none⟩) =>
    match σ[b]? with
    | some (.row vs true opn) =>
      match tSize P t with
      | some n => if x.cells.toList.length = n ∧ o + x.cells.toList.length ≤ vs.length ∧ x.cells.toList.all one = true then some (σ.set b (.row (splice vs o x.cells.toList) true opn)) else none
      | none => none
    | _ => none
  | _ => none

def newP (σ : AHeap) (cs : List Value) : Value × AHeap := (.pointer (some ⟨σ.length, 0, none⟩), σ ++ [.row cs true none])

def zrow (z : List Value) (n : Nat) : List Value := (List.range n).map fun i => z.getD (i % z.length) undef

def fillA (place : Nat → Option (Nat × Nat)) (cells : List Value) : List (Nat × Value) → Option (List Value)
  | [] => some cells
  | (i, v) :: rest =>
    match place i with
    | none => none
    | some (off, size) =>
      if v.cells.toList.length = size ∧ off + v.cells.toList.length ≤ cells.length then fillA place (splice cells off v.cells.toList) rest else none

/-- The elements' cells of a slice, the first n. -/
def aCells (σ : AHeap) (sz n : Nat) (x : Value) : Option (List Value) :=
  match x with
  | .slice (some ⟨b, o, some _⟩) len _ =>
    if n * sz = 0 then some [] else
    match σ[b]? with
    | some (.row vs _ _) => if n ≤ len ∧ o + n * sz ≤ vs.length then some ((vs.drop o).take (n * sz)) else none
    | _ => none
  | .slice none _ _ => if n * sz = 0 then some [] else none
  | _ => none

def sLen : Value → Option Nat
  | .slice _ n _ => some n
  | _ => none

/-- Cells are laid into a slice from an element on. -/
def aPut (σ : AHeap) (b o : Nat) (cs : List Value) : Option AHeap :=
  if cs = [] then some σ else
  match σ[b]? with
  | some (.row vs true opn) => if o + cs.length ≤ vs.length ∧ cs.all one = true then some (σ.set b (.row (splice vs o cs) true opn)) else none
  | _ => none

def kill (σ : AHeap) (b : Nat) : AHeap :=
  match σ[b]? with
  | some (.row _ _ (some _)) => σ.set b .dead
  | _ => σ

def isIntD : TypeDesc → Bool
  | .int _ => true
  | _ => false

def aAppend (σ : AHeap) (argTypes : List TypeId) (args : List Value) : Option (Value × AHeap) :=
  match argTypes, args with
  | t :: t2 :: _, s :: x :: _ =>
    match P.underlying t, P.underlying t2, s, sLen x with
    | some (.slice e), some d2, .slice base len cap, some n =>
      match P.info? e with
      | some inf =>
        bif isIntD d2 then none else
        match aCells σ inf.size n x with
        | some new =>
          if len + n ≤ cap then
            match base with
            | some ⟨b, o, some z⟩ =>
              match aPut σ b (o + len * inf.size) new with
              | some σ' => some (.slice (some ⟨b, o, some z⟩) (len + n) cap, σ')
              | none => none
            | some _ => none
            | none => if new = [] then some (.slice none (len + n) cap, σ) else none
          else
            match aCells σ inf.size len s with
            | some old =>
              if (len + n) * inf.bytes ≤ 70368744177664 ∧ inf.bytes ≤ 1048576 ∧ len + n ≤ 70368744177664 ∧ new.all one = true then
                match tZero P e with
                | some zz =>
                  if zz.cells.size ≠ inf.size then none else
                  match base with
                  | none => some (.slice (some ⟨σ.length, 0, some inf.size⟩) (len + n) (len + n), σ ++ [.row (old ++ new) true (some inf.size)])
                  | some ⟨b, _, some z⟩ =>
                    if z = inf.size ∧ len ≤ cap then
                      match σ[b]? with
                      | some (.row _ rw opn) =>
                        if rw = true ∨ opn = none then
                          some (.slice (some ⟨σ.length, 0, some inf.size⟩) (len + n) (len + n), kill σ b ++ [.row (old ++ new) true (some inf.size)])
                        else none
                      | _ => none
                    else none
                  | some _ => none
                | none => none
              else none
            | none => none
        | none => none
      | none => none
    | _, _, _, _ => none
  | _, _ => none

def aCopy (σ : AHeap) (argTypes : List TypeId) (args : List Value) : Option (Value × AHeap) :=
  match argTypes, args with
  | t :: _, s :: x :: _ =>
    match P.underlying t, s, sLen x with
    | some (.slice e), .slice base len _, some n =>
      match tSize P e with
      | some sz =>
        match aCells σ sz (min n len) x with
        | some cs =>
          match base with
          | some ⟨b, o, some _⟩ =>
            match aPut σ b o cs with
            | some σ' => some (.int .i64 (min n len : Nat), σ')
            | none => none
          | some _ => none
          | none => if cs = [] then some (.int .i64 (min n len : Nat), σ) else none
        | none => none
      | none => none
    | _, _, _ => none
  | _, _ => none

def aMake (σ : AHeap) (t : TypeId) (l c : Value) : Option (Value × AHeap) :=
  match P.underlying t, l, c with
  | some (.slice e), .int _ len, .int _ cap =>
    match P.info? e with
    | some inf =>
      if 0 ≤ len ∧ len ≤ cap ∧ cap * inf.bytes ≤ 281474976710656 ∧ cap ≤ 281474976710656 then
        match tZero P e with
        | some z =>
          if z.cells.size = inf.size ∧ inf.size ≠ 0 ∧ z.cells.toList.all one = true then
            some (.slice (some ⟨σ.length, 0, some inf.size⟩) len.toNat cap.toNat, σ ++ [.row (zrow z.cells.toList (cap.toNat * inf.size)) true none])
          else none
        | none => none
      else none
    | none => none
  | _, _, _ => none

def mapP (f : Operand → Option Value) : List (Nat × Operand) → Option (List (Nat × Value))
  | [] => some []
  | (i, x) :: xs => match f x, mapP f xs with
    | some v, some vs => some ((i, v) :: vs)
    | _, _ => none

def aBuildSlice (σ : AHeap) (t : TypeId) (len : Nat) (parts : List (Nat × Value)) : Option (Value × AHeap) :=
  match P.underlying t with
  | some (.slice e) =>
    match tSize P e, tZero P e with
    | some size, some z =>
      if len * size ≤ 16777216 ∧ z.cells.size = size ∧ size ≠ 0 then
        match fillA (fun i => some (i * size, size)) (zrow z.cells.toList (len * size)) parts with
        | some cells => some (.slice (some ⟨σ.length, 0, some size⟩) len len, σ ++ [.row cells true none])
        | none => none
      else none
    | _, _ => none
  | _ => none

def aBuild (t : TypeId) (parts : List (Nat × Value)) : Option Value :=
  match tZero P t, P.underlying t with
  | some z, some (.struct fields) =>
    match fillA (fun i => match fields[i]? with | some f => (match tSize P f.type with | some n => some (f.offset, n) | none => none) | none => none) z.cells.toList parts with
    | some cells => bif fields.all (fun f => (tSize P f.type).isSome) then some (.agg cells.toArray) else none
    | none => none
  | some z, some (.array _ e) =>
    match tSize P e with
    | some size =>
      match fillA (fun i => some (i * size, size)) z.cells.toList parts with
      | some cells => some (.agg cells.toArray)
      | none => none
    | none => none
  | _, _ => none

def aRange (σ : AHeap) (t : TypeId) (x : Value) : Option (Value × AHeap) :=
  match P.underlying t, x with
  | some .string, .string s => some (.pointer (some ⟨σ.length, 0, none⟩), σ ++ [.iter s 0])
  | _, _ => none

def aNext (σ : AHeap) (it : Value) : Option (Value × AHeap) :=
  match it with
  | .pointer (some ⟨b, 0, none⟩) =>
    match σ[b]? with
    | some (.iter s pos) =>
      if pos < s.size then
        some (.tuple #[.bool true, .int .i64 pos, .int .i32 (Utf8.decode s pos).1], σ.set b (.iter s (pos + (Utf8.decode s pos).2)))
      else some (.tuple #[.bool false], σ)
    | _ => none
  | _ => none

/-- THE OPERATIONS ON MEMORY. -/
def aMem (fr : List Value) (σ : AHeap) (o : Op) : Option (Value × AHeap) :=
  match o with
  | .load t x => match aev fr x with | some a => (match aLoad P σ t a with | some v => some (v, σ) | none => none) | none => none
  | .store t x y => match aev fr x, aev fr y with | some a, some v => (match aStore P σ t a v with | some σ' => some (undef, σ') | none => none) | _, _ => none
  | .alloc t => match tZero P t with | some z => some (newP σ z.cells.toList) | none => none
  | .box _ x => match aev fr x with | some v => some (newP σ v.cells.toList) | none => none
  | .build t ps => match mapP (aev fr) ps.toList with | some vs => (match aBuild P t vs with | some v => some (v, σ) | none => none) | none => none
  | .buildSlice t n ps => match mapP (aev fr) ps.toList with | some vs => aBuildSlice P σ t n vs | none => none
  | .makeSlice t l c => match aev fr l, aev fr c with | some a, some b => aMake P σ t a b | _, _ => none
  | .range t x => match aev fr x with | some v => aRange P σ t v | none => none
  | .next x true => match aev fr x with | some v => aNext σ v | none => none
  | .call { callee := .builtin .append, args, argTypes } => match mapO (aev fr) args.toList with | some vs => aAppend P σ argTypes.toList vs | none => none
  | .call { callee := .builtin .copy, args, argTypes } => match mapO (aev fr) args.toList with | some vs => aCopy P σ argTypes.toList vs | none => none
  | _ => none
end defs

end Go.Lk
end

section
/- Operations on memory: they do what the abstract ones say (loads, stores, new blocks). -/
namespace Go.Lk
set_option linter.unusedSimpArgs false
set_option linter.unusedVariables false

variable {ex : Bool} {μ μ' : List (Option Ent)} {P : Program} {B : Nat → Prop} {σ σ' : AHeap} {w w' : World}

/-- What an operation yields, held against the abstract value. -/
def NextR (ex : Bool) (μ : List (Option Ent)) (v : Value) : Next → Prop
  | .value v' => VR ex μ v v'
  | .skip => v = undef
  | _ => False

/-- The operation's end: a value, a heap that goes on from the one before. -/
def okh (P : Program) (ex : Bool) (B : Nat → Prop) (μ : List (Option Ent)) (σ' : AHeap) (s : Sem Next) (v : Value) (w : World) : Prop :=
  ∃ (nx : Next) (w' : World) (μ' : List (Option Ent)), s.run P w = .ok nx w' ∧ NextR ex μ' v nx ∧ HR ex B μ' σ' w' ∧ Ext μ μ' ∧ Blw B w w'

theorem Blw.drawn {B : Nat → Prop} (w : World) (n : Nat) : Blw B w { w with drawn := w.drawn + n } := ⟨rfl, rfl, rfl, Nat.le_refl _, fun _ _ => rfl⟩

theorem okn.mem {s : Sem Next} {v : Value} (h : okn P ex μ s v) (hr : HR ex B μ σ w) : okh P ex B μ σ s v w := by
  obtain ⟨n, v', h1, h2⟩ := h w
  exact ⟨_, _, μ, h1, h2, hr.of_heap rfl, Ext.refl _, Blw.drawn _ _⟩

theorem load_sound {t : TypeId} {a a' v : Value} (h : aLoad P σ t a = some v) (ha : VR ex μ a a') (hr : HR ex B μ σ w) :
    ∃ v', (Instr.loadAt t a').run P w = .ok v' w ∧ VR ex μ v v' := by
  unfold aLoad at h
  split at h
  · split at h
    · rename_i b o _ vs rw opn hb
      cases ha with
      | ptr hm =>
        rename_i e
        obtain ⟨h0, _, c, el, lo, hi, h2, h3, h4, _⟩ := hr.obj _ _ _ hb hm
        split at h
        · rename_i d hd
          cases hag : isAggD d <;> rw [hag] at h <;> simp only [cond_true, cond_false] at h
          · obtain ⟨y, hy, hv⟩ := h4.2 _ _ h
            rw [List.getElem?_take] at hy
            split at hy
            · rw [List.getElem?_drop, Array.getElem?_toList] at hy
              refine ⟨y, ?_, hv⟩
              have hc : w.cell? ⟨e.cb, e.base + o, none⟩ = some y := by simp [World.cell?, h2, hy]
              simp [Instr.loadAt, Instr.sureAddr, loadVar, run_isAgg' hd, hag, hc]
            · cases hy
          · split at h
            · rename_i n hn
              split at h
              · rename_i hle
                cases h
                refine ⟨.agg ((c.toList.drop (e.base + o)).take n).toArray, ?_, ?_⟩
                · have := run_loadCells (P := P) (off := e.base + o) (n := n) h2 (by omega)
                  simp [Instr.loadAt, Instr.sureAddr, loadVar, run_isAgg' hd, hag, run_sizeOf' hn, this]
                · apply VRs.toAgg'
                  have := (h4.drop o).take n
                  rw [List.drop_take, List.drop_drop, List.take_take] at this
                  rwa [Nat.min_eq_left (by omega)] at this
              · cases h
            · cases h
        · cases h
    · cases h
  · cases h

/-- The cells of a row, behind a store. -/
theorem splice_row {c : Array Value} {base n o : Nat} {cs : List Value} (hc : base + n ≤ c.size) (ho : o + cs.length ≤ n) {c' : Array Value}
    (h : c'.toList = splice c.toList (base + o) cs) : (c'.toList.drop base).take n = splice ((c.toList.drop base).take n) o cs := by
  rw [h]
  unfold splice
  apply List.ext_getElem?
  intro i
  simp only [List.getElem?_take, List.getElem?_drop, List.getElem?_append, List.length_append, List.length_take, Array.length_toList, List.length_drop]
  by_cases hi : i < n
  · rw [if_pos hi]
    by_cases h1 : i < o
    · rw [if_pos (by omega), if_pos (by omega), if_pos (by omega), if_pos (by omega), if_pos (by omega), if_pos (by omega), if_pos hi]
    · by_cases h2 : i < o + cs.length
      · rw [if_pos (by omega), if_neg (by omega), if_pos (by omega), if_neg (by omega)]
        congr 1
        omega
      · rw [if_neg (by omega), if_neg (by omega), if_pos (by omega)]
        congr 1
        omega
  · rw [if_neg hi]
    by_cases h2 : i < o + cs.length
    · omega
    · rw [if_neg (by omega), if_neg (by omega)]

theorem put_sound {b o : Nat} {cs cs' : List Value} {e : Ent} (h : aPut σ b o cs = some σ') (hm : μ[b]? = some (some e)) (hv : VRs ex μ cs cs') (hr : HR ex B μ σ w) (i : Nat) :
    ∃ w', (storeCells ⟨e.cb, e.base + o, none⟩ cs' 0).run P w = .ok () w' ∧ HR ex B μ σ' w' ∧ Blw B w w' ∧ w'.drawn = w.drawn := by
  unfold aPut at h
  split at h
  · rename_i he
    cases h
    subst he
    have : cs' = [] := by have := hv.1; simpa using this.symm
    subst this
    exact ⟨w, by simp [storeCells], hr, Blw.refl _ _, rfl⟩
  · split at h
    · rename_i vs opn hb
      split at h
      · rename_i hc
        obtain ⟨hle, hone⟩ := hc
        cases h
        obtain ⟨h0, h1, c, el, lo, hi, h2, h3, h4, h5⟩ := hr.obj _ _ _ hb hm
        obtain ⟨hB, hfz⟩ := h5 rfl
        have hone' : cs'.all one = true := by
          rw [List.all_eq_true] at hone ⊢
          intro x hx
          obtain ⟨i, hi⟩ := List.getElem?_of_mem hx
          have hlt : i < cs.length := by rw [hv.1]; exact lt_of_some hi
          obtain ⟨y, hy, hvy⟩ := hv.2 i cs[i] (List.getElem?_eq_getElem hlt)
          rw [hi] at hy; cases hy
          rw [hvy.one]
          exact hone _ (List.getElem_mem hlt)
        obtain ⟨c', hrun, hc'⟩ := run_storeCells (P := P) (cb := e.cb) (off := e.base + o) hfz cs' 0 w c h2 (by rw [← hv.1]; omega) hone'
        refine ⟨_, hrun, ?_, Blw.setBlock' w _ hB, rfl⟩
        have hsz : c'.size = c.size := by
          have := congrArg List.length hc'
          rw [splice_length (by rw [← hv.1]; simp; omega)] at this
          simpa using this
        refine hr.setAt hb hm rfl (fun _ => rfl) ?_
        refine ⟨by rw [h0, splice_length hle], h1, c', el, lo, hi, ?_, ?_, ?_, fun _ => ⟨hB, hfz⟩⟩
        · rw [setBlock_heap, if_pos ⟨rfl, (Array.getElem?_eq_some_iff.1 h2).1⟩]
        · rw [splice_length hle, hsz]; exact h3
        · rw [splice_length hle, splice_row (c := c) (n := vs.length) (by omega) (by rw [← hv.1]; exact hle) (by simpa [Nat.add_assoc] using hc')]
          unfold splice
          rw [← hv.1]
          exact ((h4.take o).append hv).append (h4.drop _)
      · cases h
    · cases h

theorem store_sound {t : TypeId} {a a' x x' : Value} (h : aStore P σ t a x = some σ') (ha : VR ex μ a a') (hx : VR ex μ x x') (hr : HR ex B μ σ w) :
    ∃ w', (Instr.storeAt t a' x').run P w = .ok () w' ∧ HR ex B μ σ' w' ∧ Blw B w w' := by
  unfold aStore at h
  split at h
  · split at h
    · rename_i b o _ vs opn hb
      split at h
      · rename_i n hn
        split at h
        · rename_i hc
          obtain ⟨hlen, hle, hone⟩ := hc
          cases h
          cases ha with
          | ptr hm =>
            rename_i e
            have hput : aPut σ b o x.cells.toList = some (σ.set b (.row (splice vs o x.cells.toList) true opn)) ∨ x.cells.toList = [] := by
              by_cases hn : x.cells.toList = []
              · exact .inr hn
              · left
                unfold aPut
                rw [if_neg hn, hb]
                simp only
                rw [if_pos ⟨hle, hone⟩]
            have hcs : x'.cells.size = n := by have := hx.cells.1; simp only [Array.length_toList] at this hlen; omega
            rcases hput with hput | hemp
            · obtain ⟨w', h1, h2, h3, _⟩ := put_sound (P := P) hput hm hx.cells hr 0
              refine ⟨w', ?_, h2, h3⟩
              simp [Instr.storeAt, Instr.sureAddr, storeVar, run_sizeOf' hn, hcs, h1]
            · have : x'.cells.toList = [] := by have := hx.cells.1; rw [hemp] at this; simpa using this.symm
              refine ⟨w, ?_, ?_, Blw.refl _ _⟩
              · simp [Instr.storeAt, Instr.sureAddr, storeVar, run_sizeOf' hn, hcs, this, storeCells]
              · rw [hemp]
                have : splice vs o [] = vs := by simp [splice]
                rw [this]
                have : σ.set b (.row vs true opn) = σ := by
                  apply List.ext_getElem?
                  intro k
                  rw [List.getElem?_set]
                  by_cases hk : b = k
                  · subst hk; rw [if_pos rfl, if_pos (lt_of_some hb), hb]
                  · rw [if_neg hk]
                rw [this]; exact hr
        · cases h
      · cases h
    · cases h
  · cases h

theorem zero_sound {t : TypeId} {z : Value} (h : tZero P t = some z) : (∀ w, (zeroValue t).run P w = .ok z w) ∧ VR ex μ z z := by
  unfold tZero at h
  split at h
  · rename_i z' hz
    cases hc : cOk z' <;> rw [hc] at h <;> cases h
    refine ⟨fun w => ?_, VR.cOk hc⟩
    cases hi : P.info? t with
    | none => rw [hi] at hz; cases hz
    | some i => rw [hi] at hz; simp at hz; simp [zeroValue, typeInfo, hi, hz]
  · cases h

/-- A row of cells, all new. -/
theorem newRow_sound {cs cs' : List Value} {elem : TypeId} (hv : VRs ex μ cs cs') (hr : HR ex B μ σ w) {opn : Option Nat} {rest : List Value} {e : Ent} (hcb : e.cb = w.heap.size) (hbase : e.base = 0)
    (hsz : e.size = cs.length) (hopn : match opn with | some z => e.esz = z | none => e.xtra = 0) (hx : e.xtra * e.esz ≤ rest.length) :
    ∃ w', (newRow elem (cs' ++ rest).toArray).run P w = .ok ⟨e.cb, 0, none⟩ w' ∧ HR ex B (μ ++ [some e]) (σ ++ [.row cs true opn]) w' ∧ Ext μ (μ ++ [some e]) ∧ (μ ++ [some e])[σ.length]? = some e ∧ Blw B w w' := by
  refine ⟨{ w with heap := w.heap.push (.cells (cs' ++ rest).toArray elem (0, 0)) }, by simp [newRow, hcb], ?_, Ext.snoc _ _, ?_, Blw.push' rfl hr.hB⟩
  · refine hr.push (.cells (cs' ++ rest).toArray elem (0, 0)) _ _ hcb rfl ?_
    refine ⟨hsz, hopn, (cs' ++ rest).toArray, elem, 0, 0, ?_, ?_, ?_, fun _ => ⟨by rw [hcb]; exact hr.new, Nat.le_refl _⟩⟩
    · rw [hcb]; simp
    · simp [hbase, ← hv.1]; omega
    · simp only [hbase, List.drop_zero]
      have : (cs' ++ rest).take cs.length = cs' := by rw [hv.1]; simp
      rw [this]
      exact hv.mono (Sub.snoc _ _)
  · rw [← hr.len]; simp

theorem newP_sound {cs cs' : List Value} {elem : TypeId} (hv : VRs ex μ cs cs') (hr : HR ex B μ σ w) :
    ∃ w' μ' e, (newRow elem cs'.toArray).run P w = .ok ⟨e.cb, 0, none⟩ w' ∧ HR ex B μ' (newP σ cs).2 w' ∧ Ext μ μ' ∧ VR ex μ' (newP σ cs).1 (.pointer (some ⟨e.cb, 0, none⟩)) ∧ Blw B w w' ∧ e.base = 0 ∧
      μ'[σ.length]? = some (some e) := by
  obtain ⟨w', h1, h2, h3, h4, h5⟩ := newRow_sound (P := P) (elem := elem) (opn := none) (rest := []) (e := ⟨w.heap.size, 0, cs.length, 0, 0⟩) hv hr rfl rfl rfl rfl (by simp)
  refine ⟨w', _, ⟨w.heap.size, 0, cs.length, 0, 0⟩, by simpa using h1, h2, h3, ?_, h5, rfl, h4⟩
  have := VR.ptr (ex := ex) (o := 0) h4
  simpa [newP] using this

theorem alloc_sound {t : TypeId} {z : Value} (h : tZero P t = some z) (hr : HR ex B μ σ w) :
    okh P ex B μ (newP σ z.cells.toList).2 (do pure (.value (← Instr.alloc t true (.tuple #[])))) (newP σ z.cells.toList).1 w := by
  obtain ⟨hz, hv⟩ := zero_sound (ex := ex) (μ := μ) h
  obtain ⟨w', μ', e, h1, h2, h3, h4, h5, _⟩ := newP_sound (P := P) (elem := t) hv.cells hr
  refine ⟨.value (.pointer (some ⟨e.cb, 0, none⟩)), w', μ', ?_, h4, h2, h3, h5⟩
  simp only [Array.toArray_toList] at h1
  simp [Instr.alloc, hz, newVar, h1]

theorem box_sound {t : TypeId} {v v' : Value} (hv : VR ex μ v v') (hr : HR ex B μ σ w) :
    okh P ex B μ (newP σ v.cells.toList).2 (do pure (.value (← Instr.box t v'))) (newP σ v.cells.toList).1 w := by
  obtain ⟨w', μ', e, h1, h2, h3, h4, h5, _⟩ := newP_sound (P := P) (elem := t) hv.cells hr
  refine ⟨.value (.pointer (some ⟨e.cb, 0, none⟩)), w', μ', ?_, h4, h2, h3, h5⟩
  simp only [Array.toArray_toList] at h1
  simp [Instr.box, newVar, h1]

end Go.Lk
end

section
/- Operations on memory: composites, make, append, copy, ranging over a string. -/
namespace Go.Lk
set_option linter.unusedSimpArgs false
set_option linter.unusedVariables false

variable {ex : Bool} {μ μ' : List (Option Ent)} {P : Program} {B : Nat → Prop} {σ σ' : AHeap} {w w' : World}

def PartsR (ex : Bool) (μ : List (Option Ent)) : List (Nat × Value) → List (Nat × Value) → Prop
  | [], [] => True
  | (i, v) :: xs, (j, u) :: ys => i = j ∧ VR ex μ v u ∧ PartsR ex μ xs ys
  | _, _ => False

theorem foldl_set (vs : List Value) : ∀ (k off : Nat) (cs : Array Value), off + k + vs.length ≤ cs.size →
    (((vs.zipIdx k).foldl (fun cs (x : Value × Nat) => cs.setIfInBounds (off + x.2) x.1) cs)).toList = splice cs.toList (off + k) vs := by
  induction vs with
  | nil => intro k off cs _; simp [splice]
  | cons v vs ih =>
    intro k off cs h
    simp only [List.zipIdx_cons, List.foldl_cons]
    rw [ih (k + 1) off _ (by simp at h ⊢; omega), splice_cons (by simpa using h)]
    simp [Nat.add_assoc]

theorem fill_sound {place place' : Nat → Option (Nat × Nat)} : ∀ (ps ps' : List (Nat × Value)) (cs : List Value) (cs' : Array Value) (r : List Value),
    (∀ i x, place i = some x → place' i = some x) → fillA place cs ps = some r → VRs ex μ cs cs'.toList → PartsR ex μ ps ps' →
    ∃ r', Instr.fill place' cs' ps' = some r' ∧ VRs ex μ r r'.toList
  | [], [], cs, cs', r, hp, h, hv, _ => by cases h; exact ⟨cs', rfl, hv⟩
  | (i, v) :: ps, (j, u) :: ps', cs, cs', r, hp, h, hv, hps => by
    obtain ⟨rfl, hvu, hrest⟩ := hps
    unfold fillA at h
    split at h
    · cases h
    · rename_i off size hpl
      split at h
      · rename_i hc
        have hcells := hvu.cells
        have hl : u.cells.size = size := by have := hcells.1; simp only [Array.length_toList] at this hc; omega
        have hl2 : v.cells.toList.length = u.cells.size := by have := hcells.1; simpa using this
        have hcs : cs.length = cs'.size := by have := hv.1; simpa using this
        have hnot : (u.cells.size ≠ size || off + u.cells.size > cs'.size) = false := by
          have : ¬ off + u.cells.size > cs'.size := by omega
          simp [hl]; omega
        have hfold := foldl_set u.cells.toList 0 off cs' (by simp; omega)
        obtain ⟨r', h1, h2⟩ := fill_sound ps ps' _ ((u.cells.zipIdx.foldl (fun cs (x : Value × Nat) => cs.setIfInBounds (off + x.2) x.1) cs')) r hp h (by
          rw [← Array.foldl_toList, Array.toList_zipIdx, hfold]
          unfold splice
          rw [hl2, show u.cells.size = u.cells.toList.length by simp]
          exact ((hv.take off).append hcells).append (hv.drop _)) hrest
        refine ⟨r', ?_, h2⟩
        unfold Instr.fill
        simp only [hp i _ hpl, hnot, Bool.false_eq_true, if_false]
        exact h1
      · cases h
  | [], _ :: _, _, _, _, _, _, _, h => h.elim
  | (_, _) :: _, [], _, _, _, _, _, _, h => h.elim

theorem mapP_sound {fr : List Value} {a : Act} (hf : FrR ex μ fr a.tmps) : ∀ {xs : List (Nat × Operand)} {vs : List (Nat × Value)}, mapP (aev fr) xs = some vs →
    PartsR ex μ vs (xs.map fun (i, x) => (i, a.eval x))
  | [], vs, h => by cases h; trivial
  | (i, x) :: xs, vs, h => by
    unfold mapP at h
    split at h
    · rename_i v vs' h1 h2
      cases h
      exact ⟨rfl, aev_sound hf h1, mapP_sound hf h2⟩
    · cases h

theorem run_mapM_places : ∀ (fs : List Field), (fs.all fun f => (tSize P f.type).isSome) = true → ∀ (acc : Array (Nat × Nat)) (w : World),
    (fs.foldlM (fun (bs : Array (Nat × Nat)) (a : Field) => bs.push <$> (do pure (a.offset, ← sizeOf a.type) : Sem (Nat × Nat))) acc : Sem _).run P w =
      .ok (acc ++ (fs.map fun f => (f.offset, (tSize P f.type).getD 0)).toArray) w
  | [], _, acc, w => by simp
  | f :: fs, h, acc, w => by
    simp only [List.all_cons, Bool.and_eq_true] at h
    obtain ⟨n, hn⟩ := Option.isSome_iff_exists.1 h.1
    simp only [List.foldlM_cons, Sem.run_bind, Sem.run_map, run_sizeOf' hn, Result.andThen_ok, Sem.run_pure]
    rw [run_mapM_places fs h.2]
    simp [hn]

theorem build_sound {t : TypeId} {ps ps' : List (Nat × Value)} {v : Value} (h : aBuild P t ps = some v) (hp : PartsR ex μ ps ps') :
    ∃ v', (∀ w, (Instr.build t ps'.toArray).run P w = .ok v' w) ∧ VR ex μ v v' := by
  unfold aBuild at h
  split at h
  · rename_i z fields hz hu
    obtain ⟨hzr, hzv⟩ := zero_sound (ex := ex) (μ := μ) hz
    split at h
    · rename_i cells hfill
      cases hall : fields.all (fun f => (tSize P f.type).isSome) <;> rw [hall] at h <;> cases h
      have hmap : ∀ w, (fields.mapM fun f => (do pure (f.offset, ← sizeOf f.type) : Sem (Nat × Nat))).run P w = .ok (fields.map fun f => (f.offset, (tSize P f.type).getD 0)) w := by
        intro w
        rw [Array.mapM_eq_foldlM, ← Array.foldlM_toList, run_mapM_places fields.toList (by rw [← Array.all_toList] at hall; exact hall)]
        congr 1
        apply Array.ext'
        simp
      obtain ⟨r', h1, h2⟩ := fill_sound (place' := ((fields.map fun f => (f.offset, (tSize P f.type).getD 0))[·]?)) _ _ _ z.cells _ (by
        intro i x hx
        split at hx
        · rename_i f hf
          split at hx
          · rename_i n hn
            cases hx
            simp [hf, hn]
          · cases hx
        · cases hx) hfill hzv.cells hp
      refine ⟨.agg r', fun w => ?_, VRs.toAgg (by simpa using h2)⟩
      simp only [Instr.build, Sem.run_bind, hzr, run_underlying hu, Result.andThen_ok, hmap, h1, Sem.run_pure]
    · cases h
  · rename_i z len e hz hu
    obtain ⟨hzr, hzv⟩ := zero_sound (ex := ex) (μ := μ) hz
    split at h
    · rename_i size hs
      split at h
      · rename_i cells hfill
        cases h
        obtain ⟨r', h1, h2⟩ := fill_sound (place' := fun i => some (i * size, size)) _ _ _ z.cells _ (fun _ _ h => h) hfill hzv.cells hp
        refine ⟨.agg r', fun w => ?_, VRs.toAgg (by simpa using h2)⟩
        simp [Instr.build, hzr, run_underlying hu, run_sizeOf' hs, h1]
      · cases h
    · cases h
  · cases h

theorem zrow_eq {z : Array Value} {n : Nat} (hz : z.size ≠ 0) : ((Array.range n).map (z[· % z.size]!)).toList = zrow z.toList n := by
  unfold zrow
  simp only [Array.toList_map, Array.toList_range]
  apply List.map_congr_left
  intro i _
  have : i % z.size < z.size := Nat.mod_lt _ (by omega)
  rw [getElem!_pos z _ this, List.getD_eq_getElem?_getD]
  simp [this]

theorem zrow_length (z : List Value) (n : Nat) : (zrow z n).length = n := by simp [zrow]
theorem VRs.zrow {z : List Value} (h : VRs ex μ z z) (n : Nat) : VRs ex μ (Lk.zrow z n) (Lk.zrow z n) := by
  refine ⟨rfl, fun i a ha => ⟨a, ha, ?_⟩⟩
  unfold Lk.zrow at ha
  rw [List.getElem?_map] at ha
  cases hr : (List.range n)[i]? with
  | none => rw [hr] at ha; cases ha
  | some k =>
    rw [hr] at ha
    cases ha
    show VR ex μ (z.getD (k % z.length) undef) (z.getD (k % z.length) undef)
    rw [List.getD_eq_getElem?_getD]
    cases hk : z[k % z.length]? with
    | none => exact VR.undef
    | some v => obtain ⟨c, hc, hv⟩ := h.2 _ _ hk; rw [hk] at hc; cases hc; exact hv

theorem buildSlice_sound {t : TypeId} {len : Nat} {ps ps' : List (Nat × Value)} {v : Value} (h : aBuildSlice P σ t len ps = some (v, σ')) (hp : PartsR ex μ ps ps') (hr : HR ex B μ σ w) :
    okh P ex B μ σ' (do pure (.value (← Instr.buildSlice t len ps'.toArray))) v w := by
  unfold aBuildSlice at h
  split at h
  · rename_i e hu
    split at h
    · rename_i size z hs hz
      split at h
      · rename_i hc
        obtain ⟨hle, hzs, hs0⟩ := hc
        split at h
        · rename_i cells hfill
          cases h
          obtain ⟨hzr, hzv⟩ := zero_sound (ex := ex) (μ := μ) hz
          have hz0 : z.cells.size ≠ 0 := by rw [hzs]; exact hs0
          by_cases hl : len * size = 0
          · obtain ⟨r', h1, h2⟩ := fill_sound (place' := fun i => some (i * size, size)) ps ps' _ #[] _ (fun _ _ h => h) hfill (by rw [hl]; exact VRs.nil) hp
            obtain ⟨w', μ', en, q1, q2, q3, q4, q5, q6, q7⟩ := newP_sound (P := P) (elem := e) h2 hr
            refine ⟨.value (.slice (some ⟨en.cb, 0, none⟩) len len), w', μ', ?_, ?_, q2, q3, q5⟩
            · simp only [Array.toArray_toList] at q1
              have : ¬ (len * size > 2 ^ 24) := by omega
              have hA : (Array.range (len * size)).map (fun x => (#[] : Array Value)[x % (#[] : Array Value).size]!) = #[] := Array.eq_empty_of_size_eq_zero (by simp; omega)
              simp only [Instr.buildSlice, Sem.run_bind, run_underlying hu, Result.andThen_ok, run_sizeOf' hs, if_neg this, if_pos hl, Sem.run_pure, hA, h1, q1]
            · have := VR.slice (ex := ex) (len := len) (cap := len) (sz := size) (o := 0) q7 (.inl rfl)
              rw [q6] at this
              exact this
          · obtain ⟨r', h1, h2⟩ := fill_sound (place' := fun i => some (i * size, size)) ps ps' _ ((Array.range (len * size)).map (z.cells[· % z.cells.size]!)) _ (fun _ _ h => h) hfill (by rw [zrow_eq hz0]; exact VRs.zrow hzv.cells _) hp
            obtain ⟨w', μ', en, q1, q2, q3, q4, q5, q6, q7⟩ := newP_sound (P := P) (elem := e) h2 hr
            refine ⟨.value (.slice (some ⟨en.cb, 0, none⟩) len len), w', μ', ?_, ?_, q2, q3, q5⟩
            · simp only [Array.toArray_toList] at q1
              have : ¬ (len * size > 2 ^ 24) := by omega
              have hl' : ¬ (len = 0 ∨ size = 0) := by intro h; rcases h with h | h <;> simp [h] at hl
              simp only [Instr.buildSlice, Sem.run_bind, run_underlying hu, Result.andThen_ok, run_sizeOf' hs, if_neg this, if_neg hl, Sem.run_pure, hzr, h1, q1]
            · have := VR.slice (ex := ex) (len := len) (cap := len) (sz := size) (o := 0) q7 (.inl rfl)
              rw [q6] at this
              exact this
        · cases h
      · cases h
    · cases h
  · cases h

end Go.Lk
end

section
/- Operations on memory: make, append, copy, ranging over a string; all of them. -/
namespace Go.Lk
set_option linter.unusedSimpArgs false
set_option linter.unusedVariables false

variable {ex : Bool} {μ μ' : List (Option Ent)} {P : Program} {B : Nat → Prop} {σ σ' : AHeap} {w w' : World}

theorem info_runs {t : TypeId} {i : TypeInfo} (h : P.info? t = some i) (w : World) : (typeInfo t).run P w = .ok i w ∧ (sizeOf t).run P w = .ok i.size w := by
  simp [typeInfo, sizeOf, h]

theorem wrap_small {n : Int} (h0 : 0 ≤ n) (h : n ≤ 281474976710656) : IntKind.i64.wrap n = n := by
  have h1 : n % 18446744073709551616 = n := Int.emod_eq_of_lt h0 (by omega)
  simp only [IntKind.wrap, IntKind.signed, IntKind.bits, Int.reducePow, h1]
  rw [if_neg]
  simp
  omega

theorem make_sound {t : TypeId} {l l' c c' v : Value} (h : aMake P σ t l c = some (v, σ')) (hl : VR ex μ l l') (hc : VR ex μ c c') (hr : HR ex B μ σ w) :
    okh P ex B μ σ' (do pure (.value (← Instr.makeSlice t l' c'))) v w := by
  unfold aMake at h
  split at h
  · rename_i e k len k' cap hu
    rw [hl.int_of, hc.int_of]
    split at h
    · rename_i inf hi
      split at h
      · rename_i hb
        obtain ⟨h0, h1, h2, h3⟩ := hb
        split at h
        · rename_i z hz
          split at h
          · rename_i hzz
            obtain ⟨hzs, hs0, hzo⟩ := hzz
            cases h
            obtain ⟨hzr, hzv⟩ := zero_sound (ex := ex) (μ := μ) hz
            have hz0 : z.cells.size ≠ 0 := by rw [hzs]; exact hs0
            obtain ⟨w', μ', en, q1, q2, q3, q4, q5, q6, q7⟩ := newP_sound (P := P) (elem := e) (VRs.zrow hzv.cells (cap.toNat * inf.size)) hr
            refine ⟨.value (.slice (some ⟨en.cb, 0, none⟩) len.toNat cap.toNat), w', μ', ?_, ?_, q2, q3, q5⟩
            · have hwl := wrap_small h0 (by omega)
              have hwc := wrap_small (n := cap) (by omega) (by omega)
              have hlt : ∀ n : Int, n ≤ cap → 0 ≤ n → (decide (n < 0) || decide ((inf.bytes : Int) * n > 2 ^ 48)) = false := by
                intro n hn hn0
                have : (inf.bytes : Int) * n ≤ cap * inf.bytes := by
                  rw [Int.mul_comm]
                  exact Int.mul_le_mul_of_nonneg_right hn (by omega)
                simp
                omega
              have hbad : ((decide (cap < 0) || decide ((inf.bytes : Int) * cap > 2 ^ 48)) || decide (len < 0) || decide (len > cap)) = false := by
                rw [hlt cap (by omega) (by omega)]
                simp
                omega
              obtain ⟨i1, i2⟩ := info_runs (P := P) hi w
              have hA : ((Array.range (cap.toNat * inf.size)).map (z.cells[· % z.cells.size]!)) = (zrow z.cells.toList (cap.toNat * inf.size)).toArray := by
                rw [← zrow_eq hz0]
              by_cases hn : cap.toNat * inf.size = 0
              · have hA0 : ((Array.range (cap.toNat * inf.size)).map (fun x => (#[] : Array Value)[x % (#[] : Array Value).size]!)) = (zrow z.cells.toList (cap.toNat * inf.size)).toArray := by
                  rw [hn]
                  rw [show zrow z.cells.toList 0 = [] from rfl]
                  exact Array.eq_empty_of_size_eq_zero (by simp)
                simp only [Instr.makeSlice, Sem.run_bind, run_underlying hu, Result.andThen_ok, asInt, asIntOf, Sem.run_pure, i1, hwl, hwc, hbad, Bool.false_eq_true, if_false, run_askRoom, i2, if_pos hn, hA0, q1]
              · simp only [Instr.makeSlice, Sem.run_bind, run_underlying hu, Result.andThen_ok, asInt, asIntOf, Sem.run_pure, i1, hwl, hwc, hbad, Bool.false_eq_true, if_false, run_askRoom, i2, if_neg hn, hzr, hA, q1]
            · have := VR.slice (ex := ex) (len := len.toNat) (cap := cap.toNat) (sz := inf.size) (o := 0) q7 (.inl rfl)
              rw [q6] at this
              exact this
          · cases h
        · cases h
      · cases h
    · cases h
  · cases h

theorem cells_sound {sz n : Nat} {x x' : Value} {cs : List Value} (h : aCells σ sz n x = some cs) (hx : VR ex μ x x') (hr : HR ex B μ σ w) :
    ∃ cs', (∀ w' : World, w'.heap = w.heap → (Builtin.firstCells sz n x').run P w' = .ok cs'.toArray w') ∧ VRs ex μ cs cs' ∧ cs.length = n * sz := by
  unfold aCells at h
  split at h
  · split at h
    · rename_i b o z len cap hn
      cases h
      cases hx
      · exact ⟨[], fun w' _ => by simp [Builtin.firstCells, loadCells, hn, loadCellsFrom], .nil, hn.symm⟩
      · exact ⟨[], fun w' _ => by simp [Builtin.firstCells, loadCells, hn, loadCellsFrom], .nil, hn.symm⟩
    · rename_i hn
      split at h
      · rename_i b o z len cap _ vs rw opn hb
        split at h
        · rename_i hle
          obtain ⟨hnl, hle⟩ := hle
          cases h
          cases hx with
          | slice hm hc =>
            rename_i e
            obtain ⟨h0, _, c, el, lo, hi, h2, h3, h4, _⟩ := hr.obj _ _ _ hb hm
            refine ⟨(c.toList.drop (e.base + o)).take (n * sz), fun w' hw' => run_loadCells (by rw [hw']; exact h2) (by omega), ?_, by simp; omega⟩
            have := (h4.drop o).take (n * sz)
            rw [List.drop_take, List.drop_drop, List.take_take] at this
            rwa [Nat.min_eq_left (by omega)] at this
          | sempty hm a =>
            have : n = 0 := by omega
            subst this
            simp at hn
        · cases h
      · cases h
  · split at h
    · rename_i hn; cases h
      cases hx
      exact ⟨[], fun _ _ => rfl, .nil, hn.symm⟩
    · cases h
  · cases h

end Go.Lk
end
