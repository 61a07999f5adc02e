/- Operations on memory: they do what the abstract ones say (loads, stores, new blocks). -/
import Derived.Test.YtmomainjlncogaaLkV
namespace Go.Lk
open Go.RowKit (Below)
set_option linter.unusedSimpArgs false
set_option linter.unusedVariables false

variable {ex : Bool} {μ μ' : List (Option Ent)} {P : Program} {B : Nat} {σ σ' : AHeap} {w w' : World}

/-- What an operation yields, held against the abstract value. -/
def NextR (ex : Bool) (μ : List (Option Ent)) (v : Value) : Next → Prop
  | .value v' => VR ex μ v v'
  | .skip => v = undef
  | _ => False

/-- The operation's end: a value, a heap that goes on from the one before. -/
def okh (P : Program) (ex : Bool) (B : Nat) (μ : List (Option Ent)) (σ' : AHeap) (s : Sem Next) (v : Value) (w : World) : Prop :=
  ∃ (nx : Next) (w' : World) (μ' : List (Option Ent)), s.run P w = .ok nx w' ∧ NextR ex μ' v nx ∧ HR ex B μ' σ' w' ∧ Ext μ μ' ∧ Below B w w'

theorem Below.drawn {B : Nat} (w : World) (n : Nat) : Below B w { w with drawn := w.drawn + n } := ⟨rfl, rfl, rfl, Nat.le_refl _, fun _ _ => rfl⟩

theorem okn.mem {s : Sem Next} {v : Value} (h : okn P ex μ s v) (hr : HR ex B μ σ w) : okh P ex B μ σ s v w := by
  obtain ⟨n, v', h1, h2⟩ := h w
  exact ⟨_, _, μ, h1, h2, hr.of_heap rfl, Ext.refl _, Below.drawn _ _⟩

theorem load_sound {t : TypeId} {a a' v : Value} (h : aLoad P σ t a = some v) (ha : VR ex μ a a') (hr : HR ex B μ σ w) :
    ∃ v', (Instr.loadAt t a').run P w = .ok v' w ∧ VR ex μ v v' := by
  unfold aLoad at h
  split at h
  · split at h
    · rename_i b o _ vs rw opn hb
      cases ha with
      | ptr hm =>
        rename_i e
        obtain ⟨h0, _, c, el, lo, hi, h2, h3, h4, _⟩ := hr.obj _ _ _ hb hm
        split at h
        · rename_i d hd
          cases hag : isAggD d <;> rw [hag] at h <;> simp only [cond_true, cond_false] at h
          · obtain ⟨y, hy, hv⟩ := h4.2 _ _ h
            rw [List.getElem?_take] at hy
            split at hy
            · rw [List.getElem?_drop, Array.getElem?_toList] at hy
              refine ⟨y, ?_, hv⟩
              have hc : w.cell? ⟨e.cb, e.base + o, none⟩ = some y := by simp [World.cell?, h2, hy]
              simp [Instr.loadAt, Instr.sureAddr, loadVar, run_isAgg' hd, hag, hc]
            · cases hy
          · split at h
            · rename_i n hn
              split at h
              · rename_i hle
                cases h
                refine ⟨.agg ((c.toList.drop (e.base + o)).take n).toArray, ?_, ?_⟩
                · have := run_loadCells (P := P) (off := e.base + o) (n := n) h2 (by omega)
                  simp [Instr.loadAt, Instr.sureAddr, loadVar, run_isAgg' hd, hag, run_sizeOf' hn, this]
                · apply VRs.toAgg'
                  have := (h4.drop o).take n
                  rw [List.drop_take, List.drop_drop, List.take_take] at this
                  rwa [Nat.min_eq_left (by omega)] at this
              · cases h
            · cases h
        · cases h
    · cases h
  · cases h

/-- The cells of a row, behind a store. -/
theorem splice_row {c : Array Value} {base n o : Nat} {cs : List Value} (hc : base + n ≤ c.size) (ho : o + cs.length ≤ n) {c' : Array Value}
    (h : c'.toList = splice c.toList (base + o) cs) : (c'.toList.drop base).take n = splice ((c.toList.drop base).take n) o cs := by
  rw [h]
  unfold splice
  apply List.ext_getElem?
  intro i
  simp only [List.getElem?_take, List.getElem?_drop, List.getElem?_append, List.length_append, List.length_take, Array.length_toList, List.length_drop]
  by_cases hi : i < n
  · rw [if_pos hi]
    by_cases h1 : i < o
    · rw [if_pos (by omega), if_pos (by omega), if_pos (by omega), if_pos (by omega), if_pos (by omega), if_pos (by omega), if_pos hi]
    · by_cases h2 : i < o + cs.length
      · rw [if_pos (by omega), if_neg (by omega), if_pos (by omega), if_neg (by omega)]
        congr 1
        omega
      · rw [if_neg (by omega), if_neg (by omega), if_pos (by omega)]
        congr 1
        omega
  · rw [if_neg hi]
    by_cases h2 : i < o + cs.length
    · omega
    · rw [if_neg (by omega), if_neg (by omega)]

theorem put_sound {b o : Nat} {cs cs' : List Value} {e : Ent} (h : aPut σ b o cs = some σ') (hm : μ[b]? = some (some e)) (hv : VRs ex μ cs cs') (hr : HR ex B μ σ w) (i : Nat) :
    ∃ w', (storeCells ⟨e.cb, e.base + o, none⟩ cs' 0).run P w = .ok () w' ∧ HR ex B μ σ' w' ∧ Below B w w' ∧ w'.drawn = w.drawn := by
  unfold aPut at h
  split at h
  · rename_i he
    cases h
    subst he
    have : cs' = [] := by have := hv.1; simpa using this.symm
    subst this
    exact ⟨w, by simp [storeCells], hr, Below.refl _ _, rfl⟩
  · split at h
    · rename_i vs opn hb
      split at h
      · rename_i hc
        obtain ⟨hle, hone⟩ := hc
        cases h
        obtain ⟨h0, h1, c, el, lo, hi, h2, h3, h4, h5⟩ := hr.obj _ _ _ hb hm
        obtain ⟨hB, hfz⟩ := h5 rfl
        have hone' : cs'.all one = true := by
          rw [List.all_eq_true] at hone ⊢
          intro x hx
          obtain ⟨i, hi⟩ := List.getElem?_of_mem hx
          have hlt : i < cs.length := by rw [hv.1]; exact lt_of_some hi
          obtain ⟨y, hy, hvy⟩ := hv.2 i cs[i] (List.getElem?_eq_getElem hlt)
          rw [hi] at hy; cases hy
          rw [hvy.one]
          exact hone _ (List.getElem_mem hlt)
        obtain ⟨c', hrun, hc'⟩ := run_storeCells (P := P) (cb := e.cb) (off := e.base + o) hfz cs' 0 w c h2 (by rw [← hv.1]; omega) hone'
        refine ⟨_, hrun, ?_, Below.setBlock' w _ hB, rfl⟩
        have hsz : c'.size = c.size := by
          have := congrArg List.length hc'
          rw [splice_length (by rw [← hv.1]; simp; omega)] at this
          simpa using this
        refine hr.setAt hb hm rfl (fun _ => rfl) ?_
        refine ⟨by rw [h0, splice_length hle], h1, c', el, lo, hi, ?_, ?_, ?_, fun _ => ⟨hB, hfz⟩⟩
        · rw [setBlock_heap, if_pos ⟨rfl, (Array.getElem?_eq_some_iff.1 h2).1⟩]
        · rw [splice_length hle, hsz]; exact h3
        · rw [splice_length hle, splice_row (c := c) (n := vs.length) (by omega) (by rw [← hv.1]; exact hle) (by simpa [Nat.add_assoc] using hc')]
          unfold splice
          rw [← hv.1]
          exact ((h4.take o).append hv).append (h4.drop _)
      · cases h
    · cases h

theorem store_sound {t : TypeId} {a a' x x' : Value} (h : aStore P σ t a x = some σ') (ha : VR ex μ a a') (hx : VR ex μ x x') (hr : HR ex B μ σ w) :
    ∃ w', (Instr.storeAt t a' x').run P w = .ok () w' ∧ HR ex B μ σ' w' ∧ Below B w w' := by
  unfold aStore at h
  split at h
  · split at h
    · rename_i b o _ vs opn hb
      split at h
      · rename_i n hn
        split at h
        · rename_i hc
          obtain ⟨hlen, hle, hone⟩ := hc
          cases h
          cases ha with
          | ptr hm =>
            rename_i e
            have hput : aPut σ b o x.cells.toList = some (σ.set b (.row (splice vs o x.cells.toList) true opn)) ∨ x.cells.toList = [] := by
              by_cases hn : x.cells.toList = []
              · exact .inr hn
              · left
                unfold aPut
                rw [if_neg hn, hb]
                simp only
                rw [if_pos ⟨hle, hone⟩]
            have hcs : x'.cells.size = n := by have := hx.cells.1; simp only [Array.length_toList] at this hlen; omega
            rcases hput with hput | hemp
            · obtain ⟨w', h1, h2, h3, _⟩ := put_sound (P := P) hput hm hx.cells hr 0
              refine ⟨w', ?_, h2, h3⟩
              simp [Instr.storeAt, Instr.sureAddr, storeVar, run_sizeOf' hn, hcs, h1]
            · have : x'.cells.toList = [] := by have := hx.cells.1; rw [hemp] at this; simpa using this.symm
              refine ⟨w, ?_, ?_, Below.refl _ _⟩
              · simp [Instr.storeAt, Instr.sureAddr, storeVar, run_sizeOf' hn, hcs, this, storeCells]
              · rw [hemp]
                have : splice vs o [] = vs := by simp [splice]
                rw [this]
                have : σ.set b (.row vs true opn) = σ := by
                  apply List.ext_getElem?
                  intro k
                  rw [List.getElem?_set]
                  by_cases hk : b = k
                  · subst hk; rw [if_pos rfl, if_pos (lt_of_some hb), hb]
                  · rw [if_neg hk]
                rw [this]; exact hr
        · cases h
      · cases h
    · cases h
  · cases h

theorem zero_sound {t : TypeId} {z : Value} (h : tZero P t = some z) : (∀ w, (zeroValue t).run P w = .ok z w) ∧ VR ex μ z z := by
  unfold tZero at h
  split at h
  · rename_i z' hz
    cases hc : cOk z' <;> rw [hc] at h <;> cases h
    refine ⟨fun w => ?_, VR.cOk hc⟩
    cases hi : P.info? t with
    | none => rw [hi] at hz; cases hz
    | some i => rw [hi] at hz; simp at hz; simp [zeroValue, typeInfo, hi, hz]
  · cases h

/-- A row of cells, all new. -/
theorem newRow_sound {cs cs' : List Value} {elem : TypeId} (hv : VRs ex μ cs cs') (hr : HR ex B μ σ w) {opn : Option Nat} {rest : List Value} {e : Ent} (hcb : e.cb = w.heap.size) (hbase : e.base = 0)
    (hsz : e.size = cs.length) (hopn : match opn with | some z => e.esz = z | none => e.xtra = 0) (hx : e.xtra * e.esz ≤ rest.length) :
    ∃ w', (newRow elem (cs' ++ rest).toArray).run P w = .ok ⟨e.cb, 0, none⟩ w' ∧ HR ex B (μ ++ [some e]) (σ ++ [.row cs true opn]) w' ∧ Ext μ (μ ++ [some e]) ∧ (μ ++ [some e])[σ.length]? = some e ∧ Below B w w' := by
  refine ⟨{ w with heap := w.heap.push (.cells (cs' ++ rest).toArray elem (0, 0)) }, by simp [newRow, hcb], ?_, Ext.snoc _ _, ?_, Below.push' rfl hr.hB⟩
  · refine hr.push (.cells (cs' ++ rest).toArray elem (0, 0)) _ _ hcb rfl ?_
    refine ⟨hsz, hopn, (cs' ++ rest).toArray, elem, 0, 0, ?_, ?_, ?_, fun _ => ⟨by rw [hcb]; exact hr.hB, Nat.le_refl _⟩⟩
    · rw [hcb]; simp
    · simp [hbase, ← hv.1]; omega
    · simp only [hbase, List.drop_zero]
      have : (cs' ++ rest).take cs.length = cs' := by rw [hv.1]; simp
      rw [this]
      exact hv.mono (Sub.snoc _ _)
  · rw [← hr.len]; simp

theorem newP_sound {cs cs' : List Value} {elem : TypeId} (hv : VRs ex μ cs cs') (hr : HR ex B μ σ w) :
    ∃ w' μ' e, (newRow elem cs'.toArray).run P w = .ok ⟨e.cb, 0, none⟩ w' ∧ HR ex B μ' (newP σ cs).2 w' ∧ Ext μ μ' ∧ VR ex μ' (newP σ cs).1 (.pointer (some ⟨e.cb, 0, none⟩)) ∧ Below B w w' ∧ e.base = 0 ∧
      μ'[σ.length]? = some (some e) := by
  obtain ⟨w', h1, h2, h3, h4, h5⟩ := newRow_sound (P := P) (elem := elem) (opn := none) (rest := []) (e := ⟨w.heap.size, 0, cs.length, 0, 0⟩) hv hr rfl rfl rfl rfl (by simp)
  refine ⟨w', _, ⟨w.heap.size, 0, cs.length, 0, 0⟩, by simpa using h1, h2, h3, ?_, h5, rfl, h4⟩
  have := VR.ptr (ex := ex) (o := 0) h4
  simpa [newP] using this

theorem alloc_sound {t : TypeId} {z : Value} (h : tZero P t = some z) (hr : HR ex B μ σ w) :
    okh P ex B μ (newP σ z.cells.toList).2 (do pure (.value (← Instr.alloc t true (.tuple #[])))) (newP σ z.cells.toList).1 w := by
  obtain ⟨hz, hv⟩ := zero_sound (ex := ex) (μ := μ) h
  obtain ⟨w', μ', e, h1, h2, h3, h4, h5, _⟩ := newP_sound (P := P) (elem := t) hv.cells hr
  refine ⟨.value (.pointer (some ⟨e.cb, 0, none⟩)), w', μ', ?_, h4, h2, h3, h5⟩
  simp only [Array.toArray_toList] at h1
  simp [Instr.alloc, hz, newVar, h1]

theorem box_sound {t : TypeId} {v v' : Value} (hv : VR ex μ v v') (hr : HR ex B μ σ w) :
    okh P ex B μ (newP σ v.cells.toList).2 (do pure (.value (← Instr.box t v'))) (newP σ v.cells.toList).1 w := by
  obtain ⟨w', μ', e, h1, h2, h3, h4, h5, _⟩ := newP_sound (P := P) (elem := t) hv.cells hr
  refine ⟨.value (.pointer (some ⟨e.cb, 0, none⟩)), w', μ', ?_, h4, h2, h3, h5⟩
  simp only [Array.toArray_toList] at h1
  simp [Instr.box, newVar, h1]

end Go.Lk
